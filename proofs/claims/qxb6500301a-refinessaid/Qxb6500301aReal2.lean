import Derived.Test.Qxb6500301aReal1
namespace Go.Proofs.Qxb6500301a
open Go.RowKit
set_option linter.unusedSimpArgs false
set_option linter.unusedVariables false
attribute [local go_sem ↓] Go.wp_at_zero Go.wp_at_succ
attribute [-go_sem] Go.run_string_add_if Go.run_index_string Go.run_slice_string_if

section
variable {w : World} {p : Nat} {B : Blks} {ns : List Nd} {ws : List Int} {tr tms : List Nat} {saved : List (List Nd)}

def KidsPost (B : Blks) (ks : List Nat) (w : World) (e : Ending) (w' : World) : Prop :=
  ∃ bs cap, e = .returned (.slice bs ks.length cap) ∧ w' = w ∧ ks.length ≤ cap ∧ ∀ j k, ks[j]? = some k → ∃ o, bs = some ⟨B.a, o, none⟩ ∧ w.cell? ⟨B.a, o + j, none⟩ = some (n32 k)

set_option maxRecDepth 20000 in
theorem kids_any (h : RAt w p B ns ws tr tms saved) (hw : WfN ns) (hs : ns.length ≤ 64) {a : Nat} (ha : a < ns.length) : Calls Try.prog 39 #[.pointer (some ⟨p, 0, none⟩), .int .i32 (a : Int)] w (KidsPost B (kidsOf ns a) w) := by
  have c0 := h.p0
  have c1 := h.p1
  have c2 := h.p2
  have c3 := h.p3
  cases hx : ns[a]? with
  | none => exact absurd (List.getElem?_eq_none_iff.1 hx) (by omega)
  | some x =>
    have ct := h.tag hx
    cases x with
    | v q =>
      have HK : Hid (kidsOf ns a = []) := by show _ = _; unfold kidsOf; rw [hx]
      have hfin : ∀ w : World, KidsPost B (kidsOf ns a) w (.returned (.slice none 0 0)) w := fun w => by
        rw [HK.out]
        exact ⟨none, 0, rfl, rfl, by simp, fun j k hk => by simp at hk⟩
      cases q with
      | none =>
        simp only [tagV] at ct
        clear hx
        go_enter Try.func39, Try.ntmps39
        go_wp2_with fail
        go_ret
        exact hfin _
      | some r =>
        simp only [tagV] at ct
        clear hx
        go_enter Try.func39, Try.ntmps39
        go_wp2_with fail
        go_ret
        exact hfin _
    | s c d es =>
      have HK : Hid (kidsOf ns a = es) := by show _ = _; unfold kidsOf; rw [hx]
      have cw : w.cell? ⟨B.w, a, none⟩ = some (.int .i32 (aLen (ns.take a) : Int)) := h.word (h.words.2 a _ hx)
      have ch := h.head1 hx
      obtain ⟨g1, g2, g3, g4⟩ := hw.arg a c d es hx
      have hA : Hid (∀ j k, es[j]? = some k → w.cell? ⟨B.a, aLen (ns.take a) + j, none⟩ = some (n32 k)) := fun j k hk => h.arg hx hk
      obtain ⟨r, hr⟩ := args_at hx
      have hl : aLen ns = aLen (ns.take a) + es.length + r.length := by unfold aLen; rw [hr]; simp; omega
      have hle := aLen_le hw
      have hn : (d.toNat : Int) - 48 = (es.length : Int) := by omega
      have e21 : ((2 : Int) * (a : Int) + 1).toNat = 2 * a + 1 := by omega
      have i1 : (2 : Int) * (a : Int) + 1 < ((2 * ns.length : Nat) : Int) := by omega
      simp only [tagV] at ct
      generalize aLen (ns.take a) = off at *
      generalize aLen ns = al at *
      clear hx hr
      go_enter Try.func39, Try.ntmps39
      go_wp2_with fail
      · go_ret
        rw [HK.out]
        have h0 : es.length = 0 := by omega
        refine ⟨_, _, by rw [g3]; rfl, rfl, by omega, fun j k hk => ?_⟩
        have := (List.getElem?_eq_some_iff.1 hk).1
        omega
      · go_ret
        rw [HK.out]
        exact ⟨some ⟨B.a, off, none⟩, 256 - off, by rw [g3]; rfl, rfl, by omega, fun j k hk => ⟨off, rfl, hA.out j k hk⟩⟩

/-- 'Deref', 'Head', 'Arg', plainly. -/
def derefAns (ns : List Nd) (a : Int) : Int := if a < 0 ∨ (ns.length : Int) ≤ a then -1 else (deref ns a.toNat : Int)
def headAns (ns : List Nd) (a : Int) : List UInt8 := if a < 0 ∨ (ns.length : Int) ≤ a then [] else match ns[deref ns a.toNat]? with
  | some (.s c d _) => [c, d]
  | _ => []
def argAns (ns : List Nd) (a i : Int) : Int := if a < 0 ∨ (ns.length : Int) ≤ a then -1 else if i < 0 then -1 else match (kidsOf ns (deref ns a.toNat))[i.toNat]? with
  | some k => (k : Int)
  | none => -1

theorem HeapAt.wf (h : HeapAt w p B ns saved) : WfN ns ∧ ns.length ≤ 64 := by
  obtain ⟨ws, tr, tms, h1, h2, -⟩ := h.main
  exact ⟨h2.wft.wf, h2.wft.small⟩

set_option maxRecDepth 20000 in
theorem Deref_any (h : HeapAt w p B ns saved) (a : Int) : Calls Try.prog 12 #[.pointer (some ⟨p, 0, none⟩), .int .i64 a] w fun e w' => e = .returned (.int .i64 (derefAns ns a)) ∧ w' = w := by
  obtain ⟨hw, hs⟩ := h.wf
  obtain ⟨ws, tr, tms, h1, -⟩ := h.main
  have c0 := h1.p0
  by_cases h0 : a < 0
  · have d0 : decide (a < 0) = true := decide_eq_true h0
    have HA : Hid (derefAns ns a = -1) := by show _ = _; unfold derefAns; rw [if_pos (.inl h0)]
    go_enter Try.func12, Try.ntmps12
    go_wp2_with fail
    go_ret
    rw [HA.out]
    exact ⟨rfl, rfl⟩
  · have d0 : decide (a < 0) = false := decide_eq_false h0
    obtain ⟨i, rfl⟩ : ∃ i : Nat, a = (i : Int) := ⟨a.toNat, by omega⟩
    by_cases hl : i < ns.length
    · have d1 : decide ((ns.length : Int) ≤ (i : Int)) = false := decide_eq_false (by omega)
      have d1' : decide (ns.length ≤ i) = false := decide_eq_false (by omega)
      have HA : Hid (derefAns ns (i : Int) = (deref ns i : Int)) := by show _ = _; unfold derefAns; rw [if_neg (by omega), Int.toNat_natCast]
      have HD : Hid (Calls Try.prog 24 #[.pointer (some ⟨p, 0, none⟩), .int .i32 (i : Int)] w fun e w' => e = .returned (.int .i32 (deref ns i : Int)) ∧ w' = w) := deref_any h1 hw hs hl
      have hde := (deref_end hw i hl).1
      go_enter Try.func12, Try.ntmps12
      go_wp2_with fail
      refine HD.out.mono ?_
      rintro e w1 ⟨rfl, rfl⟩
      go_wp2_with fail
      go_ret
      rw [HA.out]
      exact ⟨rfl, rfl⟩
    · have d1 : decide ((ns.length : Int) ≤ (i : Int)) = true := decide_eq_true (by omega)
      have d1' : decide (ns.length ≤ i) = true := decide_eq_true (by omega)
      have HA : Hid (derefAns ns (i : Int) = -1) := by show _ = _; unfold derefAns; rw [if_pos (.inr (by omega))]
      go_enter Try.func12, Try.ntmps12
      go_wp2_with fail
      go_ret
      rw [HA.out]
      exact ⟨rfl, rfl⟩
end
end Go.Proofs.Qxb6500301a
