import Derived.Test.Qxb6500301aReal2
namespace Go.Proofs.Qxb6500301a
open Go.RowKit
set_option linter.unusedSimpArgs false
set_option linter.unusedVariables false
attribute [local go_sem ↓] Go.wp_at_zero Go.wp_at_succ
attribute [-go_sem] Go.run_string_add_if Go.run_index_string Go.run_slice_string_if

section
variable {w : World} {p : Nat} {B : Blks} {ns : List Nd} {ws : List Int} {tr tms : List Nat} {saved : List (List Nd)}

theorem str2 {g o : Nat} {c d : UInt8} (h0 : w.cell? ⟨g, o, none⟩ = some (.int .u8 (c.toNat : Int))) (h1 : w.cell? ⟨g, o + 1, none⟩ = some (.int .u8 (d.toNat : Int))) (cap : Nat) :
    (convert 53 9 (.slice (some ⟨g, o, none⟩) 2 cap)).run Try.prog w = .ok (.string (S [c, d])) w := by
  refine run_convert_bytes_back (P := Try.prog) w 53 9 5 ⟨g, o, none⟩ cap [c, d] Try.underlying53 Try.underlying5 Try.underlying9 (fun j hj => ?_)
  match j, hj with
  | 0, _ => exact h0
  | 1, _ => exact h1

set_option maxRecDepth 20000 in
theorem Head_any (h : HeapAt w p B ns saved) (a : Int) : Calls Try.prog 13 #[.pointer (some ⟨p, 0, none⟩), .int .i64 a] w fun e w' => e = .returned (.string (S (headAns ns a))) ∧ w' = w := by
  obtain ⟨hw, hs⟩ := h.wf
  have HD : Hid (Calls Try.prog 12 #[.pointer (some ⟨p, 0, none⟩), .int .i64 a] w fun e w' => e = .returned (.int .i64 (derefAns ns a)) ∧ w' = w) := Deref_any h a
  obtain ⟨ws, tr, tms, h1, -⟩ := h.main
  have c0 := h1.p0
  have c2 := h1.p2
  by_cases h0 : a < 0 ∨ (ns.length : Int) ≤ a
  · have ha : derefAns ns a = -1 := by unfold derefAns; rw [if_pos h0]
    have HA : Hid (headAns ns a = []) := by show _ = _; unfold headAns; rw [if_pos h0]
    rw [ha] at HD
    clear ha h0
    go_enter Try.func13, Try.ntmps13
    go_wp2_with fail
    refine HD.out.mono ?_
    rintro e w1 ⟨rfl, rfl⟩
    go_wp2_with fail
    go_ret
    rw [HA.out]
    exact ⟨rfl, rfl⟩
  · obtain ⟨i, rfl⟩ : ∃ i : Nat, a = (i : Int) := ⟨a.toNat, by omega⟩
    have ha : derefAns ns (i : Int) = (deref ns i : Int) := by unfold derefAns; rw [if_neg h0, Int.toNat_natCast]
    have hA : headAns ns (i : Int) = match ns[deref ns i]? with
      | some (.s c d _) => [c, d]
      | _ => [] := by unfold headAns; rw [if_neg h0, Int.toNat_natCast]; rfl
    rw [ha] at HD
    obtain ⟨hl, hx⟩ := deref_end hw i (by omega)
    generalize deref ns i = t at *
    have d0 : decide ((t : Int) < 0) = false := decide_eq_false (by omega)
    rcases hx with hx | ⟨c, d, es, hx⟩
    · have ct := h1.tag hx
      have HA : Hid (headAns ns (i : Int) = []) := by show _ = _; rw [hA, hx]
      simp only [tagV] at ct
      clear ha hA hx h0
      go_enter Try.func13, Try.ntmps13
      go_wp2_with fail
      refine HD.out.mono ?_
      rintro e w1 ⟨rfl, rfl⟩
      go_wp2_with fail
      go_ret
      rw [HA.out]
      exact ⟨rfl, rfl⟩
    · have ct := h1.tag hx
      have HA : Hid (headAns ns (i : Int) = [c, d]) := by show _ = _; rw [hA, hx]
      have hst := fun cap => str2 (h1.head0 hx) (h1.head1 hx) cap
      have e2 : ((2 : Int) * (t : Int)).toNat = 2 * t := by omega
      have e3 : ((2 : Int) * (t : Int) + 2).toNat = 2 * t + 2 := by omega
      have e4 : 2 * t + 2 - 2 * t = 2 := by omega
      have e5 : ¬ 128 = 2 * t := by omega
      simp only [tagV] at ct
      clear ha hA hx h0
      go_enter Try.func13, Try.ntmps13
      go_wp2_with fail
      refine HD.out.mono ?_
      rintro e w1 ⟨rfl, rfl⟩
      go_wp2_with fail
      go_ret
      rw [HA.out]
      exact ⟨rfl, rfl⟩

set_option maxRecDepth 20000 in
theorem Arg_any (h : HeapAt w p B ns saved) (a k : Int) : Calls Try.prog 32 #[.pointer (some ⟨p, 0, none⟩), .int .i64 a, .int .i64 k] w fun e w' => e = .returned (.int .i64 (argAns ns a k)) ∧ w' = w := by
  obtain ⟨hw, hs⟩ := h.wf
  have HD : Hid (Calls Try.prog 12 #[.pointer (some ⟨p, 0, none⟩), .int .i64 a] w fun e w' => e = .returned (.int .i64 (derefAns ns a)) ∧ w' = w) := Deref_any h a
  obtain ⟨ws, tr, tms, h1, -⟩ := h.main
  by_cases h0 : a < 0 ∨ (ns.length : Int) ≤ a
  · have ha : derefAns ns a = -1 := by unfold derefAns; rw [if_pos h0]
    have HA : Hid (argAns ns a k = -1) := by show _ = _; unfold argAns; rw [if_pos h0]
    rw [ha] at HD
    clear ha h0
    go_enter Try.func32, Try.ntmps32
    go_wp2_with fail
    refine HD.out.mono ?_
    rintro e w1 ⟨rfl, rfl⟩
    go_wp2_with fail
    go_ret
    rw [HA.out]
    exact ⟨rfl, rfl⟩
  · obtain ⟨i, rfl⟩ : ∃ i : Nat, a = (i : Int) := ⟨a.toNat, by omega⟩
    have ha : derefAns ns (i : Int) = (deref ns i : Int) := by unfold derefAns; rw [if_neg h0, Int.toNat_natCast]
    have hA : argAns ns (i : Int) k = if k < 0 then -1 else match (kidsOf ns (deref ns i))[k.toNat]? with
      | some k => (k : Int)
      | none => -1 := by unfold argAns; rw [if_neg h0, Int.toNat_natCast]; rfl
    rw [ha] at HD
    obtain ⟨hl, hx⟩ := deref_end hw i (by omega)
    generalize deref ns i = t at *
    have HK : Hid (Calls Try.prog 39 #[.pointer (some ⟨p, 0, none⟩), .int .i32 (t : Int)] w (KidsPost B (kidsOf ns t) w)) := kids_any h1 hw hs hl
    have hkl := kids_lt hw t
    have hk4 := kids_len hw t
    have d0 : decide ((t : Int) < 0) = false := decide_eq_false (by omega)
    generalize kidsOf ns t = ks at *
    clear ha hx h0
    go_enter Try.func32, Try.ntmps32
    go_wp2_with fail
    refine HD.out.mono ?_
    rintro e w1 ⟨rfl, rfl⟩
    go_wp2_with fail
    refine HK.out.mono ?_
    rintro e w2 ⟨bs, cap, rfl, rfl, hcap, hks⟩
    by_cases hk0 : k < 0
    · have e0 : decide (k < 0) = true := decide_eq_true hk0
      have HA : Hid (argAns ns (i : Int) k = -1) := by show _ = _; rw [hA, if_pos hk0]
      clear hA
      go_wp2_with fail
      go_ret
      rw [HA.out]
      exact ⟨rfl, rfl⟩
    · have e0 : decide (k < 0) = false := decide_eq_false hk0
      obtain ⟨j, rfl⟩ : ∃ j : Nat, k = (j : Int) := ⟨k.toNat, by omega⟩
      rw [if_neg hk0, Int.toNat_natCast] at hA
      by_cases hj : j < ks.length
      · have e1 : decide ((ks.length : Int) ≤ (j : Int)) = false := decide_eq_false (by omega)
        have e1' : decide (ks.length ≤ j) = false := decide_eq_false (by omega)
        obtain ⟨x, hx⟩ : ∃ x, ks[j]? = some x := ⟨_, List.getElem?_eq_getElem hj⟩
        obtain ⟨o, rfl, hc⟩ := hks j x hx
        have hxl := hkl x (List.mem_of_getElem? hx)
        have HA : Hid (argAns ns (i : Int) (j : Int) = (x : Int)) := by show _ = _; rw [hA, hx]
        simp only [n32] at hc
        clear hA hx
        go_wp2_with fail
        go_ret
        rw [HA.out]
        exact ⟨rfl, rfl⟩
      · have e1 : decide ((ks.length : Int) ≤ (j : Int)) = true := decide_eq_true (by omega)
        have e1' : decide (ks.length ≤ j) = true := decide_eq_true (by omega)
        have HA : Hid (argAns ns (i : Int) (j : Int) = -1) := by show _ = _; rw [hA, List.getElem?_eq_none (by omega)]
        clear hA
        go_wp2_with fail
        go_ret
        rw [HA.out]
        exact ⟨rfl, rfl⟩
end
end Go.Proofs.Qxb6500301a
