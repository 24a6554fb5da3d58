import Derived.Test.Qxb6500301aMk1
import Derived.OwnWalk
namespace Go.Proofs.Qxb6500301a
open Go.RowKit
set_option linter.unusedSimpArgs false
set_option linter.unusedVariables false
attribute [local go_sem ↓] Go.wp_at_zero Go.wp_at_succ

/-! ### New: six makes, in any order -/
theorem Try.info60 : (Try.prog.info? 60).map (fun i => (i.zero, i.size, i.bytes)) = some (some (.agg #[.int .i32 0, .int .i32 0, .int .i32 0]), 3, 12) := by kernel_rfl
theorem Try.info63' : (Try.prog.info? 63).map (fun i => (i.zero, i.size, i.bytes)) = some (some (.int .i8 0), 1, 1) := by kernel_rfl
theorem Try.info5' : (Try.prog.info? 5).map (fun i => (i.zero, i.size, i.bytes)) = some (some (.int .u8 0), 1, 1) := by kernel_rfl

def sty : Nat → TypeId
  | 0 => 51 | 2 => 53 | 5 => 54 | _ => 52
def ety : Nat → TypeId
  | 0 => 63 | 2 => 5 | 5 => 60 | _ => 21
def esz : Nat → Nat
  | 5 => 3 | _ => 1
def ecp : Nat → Nat
  | 2 => 128 | 3 => 256 | 5 => 26 | _ => 64
/-- What is made. -/
structure NInv (w0 w : World) (b : Nat → Bool) (g : Nat → Nat) : Prop where
  fr : Fr No w0 w
  row : ∀ i, i < 6 → b i = true → w.ownsRow 0 (ety i) (esz i) (sl (g i) 0 (ecp i)) 0 []
  new : ∀ i, i < 6 → b i = true → w0.heap.size ≤ g i
  ne : ∀ i j, i < 6 → j < 6 → i ≠ j → b i = true → b j = true → g i ≠ g j
def upd {α : Type} (f : Nat → α) (i : Nat) (x : α) : Nat → α := fun j => if j = i then x else f j
theorem run_makes (w : World) (i : Nat) (hi : i < 6) : ∃ w', (Instr.makeSlice (sty i) (.int .i64 0) (.int .i64 (ecp i : Int))).run Try.prog w = .ok (sl w.heap.size 0 (ecp i)) w' ∧ w'.ownsRow 0 (ety i) (esz i) (sl w.heap.size 0 (ecp i)) 0 [] ∧ w.grownBy w' none := by
  obtain ⟨i63, a1, a2, a3, a4⟩ := info_parts Try.info63'
  obtain ⟨i21, b1, b2, b3, b4⟩ := info_parts Try.info21
  obtain ⟨i5, c1, c2, c3, c4⟩ := info_parts Try.info5'
  obtain ⟨i60, d1, d2, d3, d4⟩ := info_parts Try.info60
  match i, hi with
  | 0, _ => exact run_make_own (P := Try.prog) w 0 51 63 i63 _ 1 Try.underlying51 a1 a2 a3 .i64 .i64 64 (by rw [a4]; omega) (by unfold maxLen; omega) (Nat.zero_le _)
  | 1, _ => exact run_make_own (P := Try.prog) w 0 52 21 i21 _ 1 Try.underlying52 b1 b2 b3 .i64 .i64 64 (by rw [b4]; omega) (by unfold maxLen; omega) (Nat.zero_le _)
  | 2, _ => exact run_make_own (P := Try.prog) w 0 53 5 i5 _ 1 Try.underlying53 c1 c2 c3 .i64 .i64 128 (by rw [c4]; omega) (by unfold maxLen; omega) (Nat.zero_le _)
  | 3, _ => exact run_make_own (P := Try.prog) w 0 52 21 i21 _ 1 Try.underlying52 b1 b2 b3 .i64 .i64 256 (by rw [b4]; omega) (by unfold maxLen; omega) (Nat.zero_le _)
  | 4, _ => exact run_make_own (P := Try.prog) w 0 52 21 i21 _ 1 Try.underlying52 b1 b2 b3 .i64 .i64 64 (by rw [b4]; omega) (by unfold maxLen; omega) (Nat.zero_le _)
  | 5, _ => exact run_make_own (P := Try.prog) w 0 54 60 i60 _ 3 Try.underlying54 d1 d2 d3 .i64 .i64 26 (by rw [d4]; omega) (by unfold maxLen; omega) (Nat.zero_le _)
theorem NInv.step {w0 w w' : World} {b : Nat → Bool} {g : Nat → Nat} (h : NInv w0 w b g) {i : Nat} (hi : i < 6) (hrow : w'.ownsRow 0 (ety i) (esz i) (sl w.heap.size 0 (ecp i)) 0 []) (hg : w.grownBy w' none) : NInv w0 w' (upd b i true) (upd g i w.heap.size) := by
  have F : Fr No w w' := (Fr.refl No w).grown hg (fun k e => by cases e)
  have lt : ∀ j, j < 6 → b j = true → g j < w.heap.size := fun j hj hb => ((h.row j hj hb).lt _ rfl).2
  refine ⟨h.fr.trans F (fun _ _ e => e.elim), fun j hj hb => ?_, fun j hj hb => ?_, fun j k hj hk hne hb hb' => ?_⟩
  · unfold upd at hb ⊢
    by_cases e : j = i
    · subst e; rw [if_pos rfl]; exact hrow
    · rw [if_neg e] at hb ⊢; exact F.rows (h.row j hj hb) (fun e => e)
  · unfold upd at hb ⊢
    by_cases e : j = i
    · rw [if_pos e]; exact h.fr.size
    · rw [if_neg e] at hb ⊢; exact h.new j hj hb
  · unfold upd at hb hb' ⊢
    by_cases e : j = i
    · subst e
      rw [if_pos rfl, if_neg (fun e => hne e.symm)]
      rw [if_neg (fun e => hne e.symm)] at hb'
      have := lt k hk hb'
      omega
    · rw [if_neg e] at hb ⊢
      by_cases e' : k = i
      · subst e'; rw [if_pos rfl]; have := lt j hj hb; omega
      · rw [if_neg e'] at hb' ⊢; exact h.ne j k hj hk hne hb hb'
def ntm (b : Nat → Bool) (g : Nat → Nat) (i : Nat) : Value := if b i then sl (g i) 0 (ecp i) else undef
def nact (b : Nat → Bool) (g : Nat → Nat) : Act := { tmps := #[.pointer none, ntm b g 0, ntm b g 1, ntm b g 2, ntm b g 3, ntm b g 4, ntm b g 5, undef, undef], defers := [] }
def nlist (b : Nat → Bool) : Array Bool := #[b 0, b 1, b 2, b 3, b 4, b 5, false, false, false]
theorem nlist_set (b : Nat → Bool) (i : Nat) (hi : i < 6) : (nlist b).setIfInBounds i true = nlist (upd b i true) := by
  match i, hi with
  | 0, _ => rfl
  | 1, _ => rfl
  | 2, _ => rfl
  | 3, _ => rfl
  | 4, _ => rfl
  | 5, _ => rfl
theorem nact_put (b : Nat → Bool) (g : Nat → Nat) (i : Nat) (hi : i < 6) (n : Nat) : (nact b g).put (some (i + 1)) (sl n 0 (ecp i)) = nact (upd b i true) (upd g i n) := by
  match i, hi with
  | 0, _ => rfl
  | 1, _ => rfl
  | 2, _ => rfl
  | 3, _ => rfl
  | 4, _ => rfl
  | 5, _ => rfl
def cnt (b : Nat → Bool) : Nat := ((List.range 6).filter (fun i => !b i)).length
theorem cnt_upd (b : Nat → Bool) (i : Nat) (hi : i < 6) (hb : b i = false) : cnt (upd b i true) + 1 = cnt b := by
  unfold cnt upd
  have e : List.range 6 = [0, 1, 2, 3, 4, 5] := rfl
  rw [e]
  match i, hi with
  | 0, _ => simp [List.filter_cons, hb] <;> (cases b 1 <;> cases b 2 <;> cases b 3 <;> cases b 4 <;> cases b 5 <;> rfl)
  | 1, _ => simp [List.filter_cons, hb] <;> (cases b 0 <;> cases b 2 <;> cases b 3 <;> cases b 4 <;> cases b 5 <;> rfl)
  | 2, _ => simp [List.filter_cons, hb] <;> (cases b 1 <;> cases b 0 <;> cases b 3 <;> cases b 4 <;> cases b 5 <;> rfl)
  | 3, _ => simp [List.filter_cons, hb] <;> (cases b 1 <;> cases b 2 <;> cases b 0 <;> cases b 4 <;> cases b 5 <;> rfl)
  | 4, _ => simp [List.filter_cons, hb] <;> (cases b 1 <;> cases b 2 <;> cases b 3 <;> cases b 0 <;> cases b 5 <;> rfl)
  | 5, _ => simp [List.filter_cons, hb] <;> (cases b 1 <;> cases b 2 <;> cases b 3 <;> cases b 4 <;> cases b 0 <;> rfl)
theorem makes_any {Q : Exit → Act → World → Prop} {w0 : World} (ops : Array Oper)
    (ho : ∀ i, i < 6 → ∃ o, ops[i]? = some o ∧ o.dst = some (i + 1) ∧ o.guard = none ∧ o.op = .makeSlice (sty i) (.const (.int .i64 0)) (.const (.int .i64 (ecp i : Int))))
    (hr : ∀ b0 b1 b2 b3 b4 b5 : Bool, Region.ready .any ops #[b0, b1, b2, b3, b4, b5, false, false, false] = if b0 && b1 && b2 && b3 && b4 && b5 then [6] else (List.range 6).filter (fun i => !([b0, b1, b2, b3, b4, b5].getD i true)))
    (hfin : ∀ g w, NInv w0 w (fun _ => true) g → wpAny Try.prog .any ops Q 3 #[true, true, true, true, true, true, false, false, false] (nact (fun _ => true) g) w) :
    ∀ (n : Nat) (b : Nat → Bool) (g : Nat → Nat) (w : World), cnt b = n → NInv w0 w b g → wpAny Try.prog .any ops Q (n + 3) (nlist b) (nact b g) w := by
  intro n
  induction n with
  | zero =>
    intro b g w hc h
    have hall : ∀ i, i < 6 → b i = true := by
      intro i hi
      unfold cnt at hc
      have h0 : (List.range 6).filter (fun i => !b i) = [] := List.eq_nil_of_length_eq_zero hc
      rw [List.filter_eq_nil_iff] at h0
      have := h0 i (List.mem_range.2 hi)
      simpa using this
    have e1 : nlist b = #[true, true, true, true, true, true, false, false, false] := by
      unfold nlist
      rw [hall 0 (by omega), hall 1 (by omega), hall 2 (by omega), hall 3 (by omega), hall 4 (by omega), hall 5 (by omega)]
    have e2 : nact b g = nact (fun _ => true) g := by
      unfold nact ntm
      rw [hall 0 (by omega), hall 1 (by omega), hall 2 (by omega), hall 3 (by omega), hall 4 (by omega), hall 5 (by omega)]
    rw [e1, e2]
    exact hfin g w ⟨h.fr, fun i hi _ => h.row i hi (hall i hi), fun i hi _ => h.new i hi (hall i hi), fun i j hi hj hne _ _ => h.ne i j hi hj hne (hall i hi) (hall j hj)⟩
  | succ n ih =>
    intro b g w hc h
    have hex : ∃ i, i < 6 ∧ b i = false := by
      unfold cnt at hc
      have : (List.range 6).filter (fun i => !b i) ≠ [] := by intro e; rw [e] at hc; simp at hc
      obtain ⟨i, hi⟩ := List.exists_mem_of_ne_nil _ this
      rw [List.mem_filter] at hi
      exact ⟨i, List.mem_range.1 hi.1, by simpa using hi.2⟩
    have hrd : Region.ready .any ops (nlist b) = (List.range 6).filter (fun i => !b i) := by
      unfold nlist
      rw [hr]
      rw [if_neg]
      · apply List.filter_congr
        intro i hi
        have hi := List.mem_range.1 hi
        match i, hi with
        | 0, _ => rfl
        | 1, _ => rfl
        | 2, _ => rfl
        | 3, _ => rfl
        | 4, _ => rfl
        | 5, _ => rfl
      · obtain ⟨i, hi, hb⟩ := hex
        match i, hi with
        | 0, _ => simp [hb]
        | 1, _ => simp [hb]
        | 2, _ => simp [hb]
        | 3, _ => simp [hb]
        | 4, _ => simp [hb]
        | 5, _ => simp [hb]
    show wpAny Try.prog .any ops Q ((n + 3) + 1) (nlist b) (nact b g) w
    refine wpAny_all hrd ?_ ?_
    · intro e
      obtain ⟨i, hi, hb⟩ := hex
      have : i ∈ (List.range 6).filter (fun i => !b i) := List.mem_filter.2 ⟨List.mem_range.2 hi, by simp [hb]⟩
      rw [e] at this
      cases this
    · intro i hi
      rw [List.mem_filter] at hi
      have hi6 := List.mem_range.1 hi.1
      have hb : b i = false := by simpa using hi.2
      obtain ⟨o, h1, h2, h3, h4⟩ := ho i hi6
      obtain ⟨w', hrun, hrow, hgr⟩ := run_makes w i hi6
      refine wpOp_step h1 (fun K' hK => ?_)
      have hw : Region.wanted o (yielded ops (nact b g).tmps) = true := by simp [Region.wanted, h3]
      rw [if_pos hw]
      have hcn := cnt_upd b i hi6 hb
      have hnext := hK _ _ (ih (upd b i true) (upd g i w.heap.size) w' (by omega) (h.step hi6 hrow hgr) |> fun x => by rw [← nlist_set b i hi6, ← nact_put b g i hi6] at x; exact x)
      unfold Oper.wp
      clear ih hr ho hfin
      simp [execOp, h4, Act.eval, hrun, Result.andThen, h2, Oper.upon]
      exact hnext

section
variable {w : World}
set_option maxRecDepth 20000 in
theorem New_any : Calls Try.prog 9 #[] w fun e w' => ∃ p B, e = .returned (.pointer (some ⟨p, 0, none⟩)) ∧ HeapAt w' p B [] [] ∧ Fr No w w' ∧ (∀ k, B.Has p k → w.heap.size ≤ k) := by
  go_enter Try.func9, Try.ntmps9
  go_upto_region 1 with fail
  refine wp_region_any (by rfl) ?_
  refine makes_any (w0 := w) _ ?_ ?_ ?_ 6 (fun _ => false) (fun _ => 0) _ rfl ?_
  · intro i hi
    match i, hi with
    | 0, _ => exact ⟨_, rfl, rfl, rfl, rfl⟩
    | 1, _ => exact ⟨_, rfl, rfl, rfl, rfl⟩
    | 2, _ => exact ⟨_, rfl, rfl, rfl, rfl⟩
    | 3, _ => exact ⟨_, rfl, rfl, rfl, rfl⟩
    | 4, _ => exact ⟨_, rfl, rfl, rfl, rfl⟩
    | 5, _ => exact ⟨_, rfl, rfl, rfl, rfl⟩
  · intro b0 b1 b2 b3 b4 b5
    cases b0 <;> cases b1 <;> cases b2 <;> cases b3 <;> cases b4 <;> cases b5 <;> kernel_rfl
  · intro g w1 hI
    simp only [nact, ntm, if_true, ecp]
    refine wpAny_all (rs := [6]) (by kernel_rfl) (by simp) ?_
    intro i hi
    have : i = 6 := by simpa using hi
    subst this
    refine wpOp_step rfl (fun K1 hK1 => ?_)
    go_simp
    apply hK1
    refine wpAny_all (rs := [7]) (by kernel_rfl) (by simp) ?_
    intro i hi
    have : i = 7 := by simpa using hi
    subst this
    refine wpOp_step rfl (fun K2 hK2 => ?_)
    go_simp
    apply hK2
    refine wpAny_all (rs := [8]) (by kernel_rfl) (by simp) ?_
    intro i hi
    have : i = 8 := by simpa using hi
    subst this
    refine wpOp_step rfl (fun K3 hK3 => ?_)
    go_simp
    apply hK3
    refine wpAny_done (by kernel_rfl) ?_ 0
    have F1 : Fr No w1 (w1.alloc (.cells (topV ⟨g 0, g 1, g 2, g 3, g 4, g 5⟩ 0 0 0 0) 56)) := (Fr.refl No w1).alloc _
    have lt : ∀ j, j < 6 → g j < w1.heap.size := fun j hj => ((hI.row j hj rfl).lt _ rfl).2
    have h0 := lt 0 (by omega)
    have h1 := lt 1 (by omega)
    have h2 := lt 2 (by omega)
    have h3 := lt 3 (by omega)
    have h4 := lt 4 (by omega)
    have h5 := lt 5 (by omega)
    have hn : ∀ i j, i < 6 → j < 6 → i ≠ j → g i ≠ g j := fun i j hi hj hne => hI.ne i j hi hj hne rfl rfl
    have ap : Blks.Apart ⟨g 0, g 1, g 2, g 3, g 4, g 5⟩ w1.heap.size := ⟨⟨by simp only; omega, by simp only; omega, by simp only; omega, by simp only; omega, by simp only; omega, by simp only; omega⟩, ⟨hn 0 1 (by omega) (by omega) (by omega), hn 0 2 (by omega) (by omega) (by omega), hn 0 3 (by omega) (by omega) (by omega), hn 0 4 (by omega) (by omega) (by omega), hn 0 5 (by omega) (by omega) (by omega)⟩, ⟨hn 1 2 (by omega) (by omega) (by omega), hn 1 3 (by omega) (by omega) (by omega), hn 1 4 (by omega) (by omega) (by omega), hn 1 5 (by omega) (by omega) (by omega)⟩, ⟨hn 2 3 (by omega) (by omega) (by omega), hn 2 4 (by omega) (by omega) (by omega), hn 2 5 (by omega) (by omega) (by omega)⟩, ⟨hn 3 4 (by omega) (by omega) (by omega), hn 3 5 (by omega) (by omega) (by omega)⟩, hn 4 5 (by omega) (by omega) (by omega)⟩
    have HFIN : Hid (HeapAt (w1.alloc (.cells (topV ⟨g 0, g 1, g 2, g 3, g 4, g 5⟩ 0 0 0 0) 56)) w1.heap.size ⟨g 0, g 1, g 2, g 3, g 4, g 5⟩ [] []) := by
      refine ⟨[], [], [], ⟨heap_alloc_same _ _, F1.rows (hI.row 0 (by omega) rfl) (fun e => e), F1.rows (hI.row 1 (by omega) rfl) (fun e => e), F1.rows (hI.row 2 (by omega) rfl) (fun e => e), F1.rows (hI.row 3 (by omega) rfl) (fun e => e), F1.rows (hI.row 4 (by omega) rfl) (fun e => e), F1.rows (hI.row 5 (by omega) rfl) (fun e => e), Words.nil, ap⟩, wft_nil, rfl, rfl, by simp⟩
    have HF : Hid (Fr No w (w1.alloc (.cells (topV ⟨g 0, g 1, g 2, g 3, g 4, g 5⟩ 0 0 0 0) 56))) := hI.fr.trans F1 (fun _ _ e => e)
    have HN : Hid (∀ k, Blks.Has ⟨g 0, g 1, g 2, g 3, g 4, g 5⟩ w1.heap.size k → w.heap.size ≤ k) := by
      rintro k (rfl | rfl | rfl | rfl | rfl | rfl | rfl)
      · exact hI.fr.size
      · exact hI.new 0 (by omega) rfl
      · exact hI.new 1 (by omega) rfl
      · exact hI.new 2 (by omega) rfl
      · exact hI.new 3 (by omega) rfl
      · exact hI.new 4 (by omega) rfl
      · exact hI.new 5 (by omega) rfl
    clear ap hn h0 h1 h2 h3 h4 h5 F1
    go_wp2_with fail
    go_ret
    exact ⟨_, _, rfl, HFIN.out, HF.out, HN.out⟩
  · exact ⟨(Fr.refl No w).drew, fun i _ h => by simp at h, fun i _ h => by simp at h, fun i j _ _ _ h => by simp at h⟩
end
end Go.Proofs.Qxb6500301a
