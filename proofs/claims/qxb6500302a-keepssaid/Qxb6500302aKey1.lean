import Derived.Test.Qxb6500302aParse2
namespace Go.Proofs.Qxb6500302a
open Go.RowKit
set_option linter.unusedSimpArgs false
set_option linter.unusedVariables false
attribute [local go_sem] ta106_106 ta106_112 ta106_80 ta112_106 ta112_112 ta112_80 ta80_106 ta80_112 ta80_80 ta80_80'

/-- A [2]byte. -/
def kv (a b : UInt8) : Value := .agg #[.int .u8 (a.toNat : Int), .int .u8 (b.toNat : Int)]
def digit (n : Nat) : UInt8 := 48 + n.toUInt8
theorem digit_toNat {n : Nat} (h : n ≤ 50) : ((digit n).toNat : Int) = 48 + (n : Int) := by
  have : (digit n).toNat = 48 + n := by
    unfold digit
    rw [UInt8.toNat_add]
    simp
    omega
  omega

/-- A call's block, laid open. -/
theorem TermN.call {w : World} {D : Nat → Prop} {m : Nat} {v : Value} {t : Tm} (h : TermN w D m (.iface 80 v) t) :
    ∃ b sl xs m', v = .pointer (some ⟨b, 0, none⟩) ∧ m = m' + 1 ∧ t.kind = 2 ∧ D b ∧ w.heap[b]? = some (.cells #[.int .u8 (t.letter.toNat : Int), sl] 90) ∧ RowIn w D 95 sl xs ∧ xs.length = t.kids.length ∧ t.kids.length ≤ 50 ∧
      (∀ (i : Nat) x u, xs[i]? = some x → t.kids[i]? = some u → TermN w D m' x u) := by
  cases m with
  | zero => exact h.elim
  | succ m =>
    rcases h with h | h | ⟨h1, b', sl, xs, hv, hDb, hb, hr, hl, hl2, hx⟩
    · have := h.2.2.2; simp at this
    · have := h.2.2; simp at this
    · simp at hv
      exact ⟨b', sl, xs, m, hv, rfl, h1, hDb, hb, hr, hl, hl2, hx⟩

set_option maxRecDepth 20000 in
theorem functor_any {w : World} {D : Nat → Prop} {m : Nat} {v : Value} {t : Tm} (h : TermN w D m (.iface 80 v) t) :
    Calls Try.prog 40 #[v] w fun e w' => e = .returned (kv t.letter (digit t.kids.length)) ∧ Fr No w w' := by
  obtain ⟨b, sl, xs, m', rfl, hm, hk, hD, hb, hrow, hl1, hl2, hx⟩ := h.call
  clear h
  have c0 : w.cell? ⟨b, 0, none⟩ = some (.int .u8 (t.letter.toNat : Int)) := cell_of 0 hb rfl
  have c1 : w.cell? ⟨b, 1, none⟩ = some sl := cell_of 1 hb rfl
  have hbs := lt_of_heap hb
  obtain ⟨a, cap, rfl, _, _⟩ := hrow.win (by omega)
  rw [hl1] at c1
  have hd := digit_toNat hl2
  unfold kv
  rw [hd]
  clear hd
  go_enter Try.func40, Try.ntmps40
  go_wp2
  go_region
  go_wp2
  exact bodyPost_ret (v := .agg #[.int .u8 (t.letter.toNat : Int), .int .u8 (48 + (t.kids.length : Int))]) (by simp [results, Try.results40, go_sem]) rfl ⟨rfl, ((Fr.refl _ _).alloc _).drew⟩

set_option maxRecDepth 20000 in
theorem head_any {w : World} {D : Nat → Prop} {m : Nat} {v : Value} {h : Tm} {ts : List Tm} {F : UInt8} (hc : ClauseN w D m v (tCall F (h :: ts))) (hk : h.kind = 2) :
    Calls Try.prog 39 #[v] w fun e w' => ∃ v' m', e = .returned v' ∧ TermN w D m' (.iface 80 v') h ∧ w' = w := by
  obtain ⟨b, rb, sl, xs, m', rfl, hDb, hDr, hb, hr, hrow, hl1, hl2, hm', hx, hT⟩ := hc.root
  obtain ⟨x, xs', rfl⟩ : ∃ x xs', xs = x :: xs' := by
    cases xs with
    | nil => simp at hl1
    | cons x xs' => exact ⟨x, xs', rfl⟩
  have hh := hx 0 x h rfl rfl
  obtain ⟨vb, rfl⟩ : ∃ vb, x = .iface 80 (.pointer (some ⟨vb, 0, none⟩)) := by
    cases m' with
    | zero => exact hh.elim
    | succ m' =>
      rcases hh with hh | hh | ⟨_, b', _, _, hv, _⟩
      · omega
      · omega
      · exact ⟨b', hv⟩
  have c0 : w.cell? ⟨b, 0, none⟩ = some (.pointer (some ⟨rb, 0, none⟩)) := cell_of 0 hb rfl
  have c1 : w.cell? ⟨rb, 1, none⟩ = some sl := cell_of 1 hr rfl
  rcases hrow.cases with ⟨rfl, h0⟩ | ⟨g, cap, rfl, hDg, hlc, hcm, cur, hg, hcur⟩
  · cases h0
  have c2 : w.cell? ⟨g, 0, none⟩ = some (.iface 80 (.pointer (some ⟨vb, 0, none⟩))) := cell_of 0 hg (hcur 0 _ rfl)
  rw [List.length_cons] at c1
  clear hx hcur hrow hc hT
  go_enter Try.func39, Try.ntmps39
  go_wp2
  go_ret
  exact ⟨_, _, rfl, hh, rfl⟩

/-- A clause's own key: the functor of its head's first argument, where that is a call. -/
def ownKeyOf (t : Tm) : Option (UInt8 × UInt8) :=
  match t.kids with
  | [] => none
  | u :: _ => if u.kind = 2 then some (u.letter, digit u.kids.length) else none

def keyPair : Option (UInt8 × UInt8) → Value
  | none => .tuple #[kv 0 0, .bool false]
  | some (a, b) => .tuple #[kv a b, .bool true]

set_option maxRecDepth 20000 in
theorem ownKey_any {w : World} {D : Nat → Prop} {m : Nat} {v : Value} {t : Tm} (h : TermN w D m (.iface 80 v) t) :
    Calls Try.prog 41 #[v] w fun e w' => e = .returned (keyPair (ownKeyOf t)) ∧ Fr No w w' := by
  obtain ⟨b, sl, xs, m', rfl, hm, hk, hD, hb, hrow, hl1, hl2, hx⟩ := h.call
  clear h
  have c1 : w.cell? ⟨b, 1, none⟩ = some sl := cell_of 1 hb rfl
  have hbs := lt_of_heap hb
  cases hks : t.kids with
  | nil =>
    have e0 : ownKeyOf t = none := by simp [ownKeyOf, hks]
    rw [e0]
    have hx0 : xs = [] := List.eq_nil_of_length_eq_zero (by rw [hl1, hks]; rfl)
    subst hx0
    obtain ⟨a, cap, rfl, _, _⟩ := hrow.win (by simp)
    clear hx hrow
    go_enter Try.func41, Try.ntmps41
    go_wp2
    exact bodyPost_ret (v := .tuple #[.agg #[.int .u8 0, .int .u8 0], .bool false]) (by simp [results, Try.results41, go_sem]) rfl ⟨rfl, ((Fr.refl _ _).alloc _)⟩
  | cons u us =>
    obtain ⟨x, xs', rfl⟩ : ∃ x xs', xs = x :: xs' := by
      cases xs with
      | nil => rw [hks] at hl1; simp at hl1
      | cons x xs' => exact ⟨x, xs', rfl⟩
    rcases hrow.cases with ⟨rfl, h0⟩ | ⟨g, cap, rfl, hDg, hlc, hcm, cur, hg, hcur⟩
    · cases h0
    have hu := hx 0 x u rfl (by rw [hks]; rfl)
    have hgs := lt_of_heap hg
    have c2 : w.cell? ⟨g, 0, none⟩ = some x := cell_of 0 hg (hcur 0 _ rfl)
    rw [List.length_cons] at c1
    clear hx hcur hrow
    cases m' with
    | zero => exact hu.elim
    | succ m' =>
    have hu' := hu
    rcases hu with ⟨uk, _, _, rfl⟩ | ⟨uk, _, rfl⟩ | ⟨uk, b', sl', xs'', rfl, _⟩
    · have e0 : ownKeyOf t = none := by simp [ownKeyOf, hks, uk]
      rw [e0]
      go_enter Try.func41, Try.ntmps41
      go_wp2
      exact bodyPost_ret (v := .tuple #[.agg #[.int .u8 0, .int .u8 0], .bool false]) (by simp [results, Try.results41, go_sem]) rfl ⟨rfl, ((Fr.refl _ _).alloc _)⟩
    · have e0 : ownKeyOf t = none := by simp [ownKeyOf, hks, uk]
      rw [e0]
      go_enter Try.func41, Try.ntmps41
      go_wp2
      exact bodyPost_ret (v := .tuple #[.agg #[.int .u8 0, .int .u8 0], .bool false]) (by simp [results, Try.results41, go_sem]) rfl ⟨rfl, ((Fr.refl _ _).alloc _)⟩
    · have e0 : ownKeyOf t = some (u.letter, digit u.kids.length) := by simp [ownKeyOf, hks, uk]
      rw [e0]
      have HU : Hid (TermN (w.alloc (.cells #[.int .u8 0, .int .u8 0] 59)) (fun k => D k ∧ k < w.heap.size) (m' + 1) (.iface 80 (.pointer (some ⟨b', 0, none⟩))) u) := hu'.clip.kept ((Fr.refl No w).alloc _) (fun _ _ h => h)
      have HF : Hid (Fr No w (w.alloc (.cells #[.int .u8 0, .int .u8 0] 59))) := (Fr.refl No w).alloc _
      have HN : Hid ((w.alloc (.cells #[.int .u8 0, .int .u8 0] 59)).heap[w.heap.size]? = some (.cells #[.int .u8 0, .int .u8 0] 59)) := heap_alloc_same w _
      clear hu'
      go_enter Try.func41, Try.ntmps41
      go_wp2_with fail
      refine (functor_any HU.out).mono ?_
      rintro e w1 ⟨rfl, hf1⟩
      have hb1 := hf1.keep HN.out (fun h => h)
      have hf2 := HF.out.trans hf1 (fun _ _ h => h)
      have c4 := cell_of 0 hb1 rfl
      have c5 := cell_of 1 hb1 rfl
      have f4 := frozen_of 0 hb1
      have f5 := frozen_of 1 hb1
      unfold kv
      go_wp2_with fail
      have hb2 : ((w1.setCell ⟨w.heap.size, 0, none⟩ (.int .u8 (u.letter.toNat : Int))).setCell ⟨w.heap.size, 1, none⟩ (.int .u8 ((digit u.kids.length).toNat : Int))).heap[w.heap.size]? = some (.cells #[.int .u8 (u.letter.toNat : Int), .int .u8 ((digit u.kids.length).toNat : Int)] 59) := by
        rw [heap_setCell_same _ (heap_setCell_same _ hb1)]; rfl
      have hf3 : Fr No w ((w1.setCell ⟨w.heap.size, 0, none⟩ (.int .u8 (u.letter.toNat : Int))).setCell ⟨w.heap.size, 1, none⟩ (.int .u8 ((digit u.kids.length).toNat : Int))) := Fr.setCell (Fr.setCell hf2 (fun h => absurd h (by simp)) _) (fun h => absurd h (by simp)) _
      generalize ((w1.setCell ⟨w.heap.size, 0, none⟩ (.int .u8 (u.letter.toNat : Int))).setCell ⟨w.heap.size, 1, none⟩ (.int .u8 ((digit u.kids.length).toNat : Int))) = W at *
      have c6 := cell_of 0 hb2 rfl
      have c7 := cell_of 1 hb2 rfl
      exact bodyPost_ret (v := .tuple #[.agg #[.int .u8 (u.letter.toNat : Int), .int .u8 ((digit u.kids.length).toNat : Int)], .bool true]) (by simp [results, Try.results41, go_sem, c6, c7]) rfl ⟨rfl, hf3⟩
end Go.Proofs.Qxb6500302a
