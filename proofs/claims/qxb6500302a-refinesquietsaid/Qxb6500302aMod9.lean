import Derived.Test.Qxb6500302aMod8
import Derived.Test.Qxb6500302aMat3
namespace Go.Proofs.Qxb6500302a.M
open Go.RowKit
set_option linter.unusedSimpArgs false
set_option linter.unusedVariables false
attribute [local go_sem ↓] Go.wp_at_zero Go.wp_at_succ
attribute [-go_sem] Go.run_string_add_if Go.run_index_string Go.run_slice_string_if

/-- The model in memory: the row of the texts, the row of the codes; its blocks are O's. -/
structure MAt (w : World) (O : Nat → Prop) (m : Nat) (cs : List Tm) : Prop where
  main : ∃ (vt vc : Value), w.heap[m]? = some (.cells #[vt, vc] 98) ∧ w.ownsRow 0 9 1 vt cs.length (strs (cs.map clauseText)) ∧ w.ownsRow 0 9 1 vc cs.length (strs (cs.map codeOf)) ∧
    (∀ g, vt.ownBlock = some g → O g ∧ g ≠ m) ∧ (∀ g, vc.ownBlock = some g → O g ∧ g ≠ m ∧ vt.ownBlock ≠ some g)
  om : O m
  lt : ∀ k, O k → k < w.heap.size
  len : cs.length ≤ 8
  fine : ∀ t ∈ cs, ∃ s : List UInt8, s.length ≤ 40 ∧ parseOf false s = some t

theorem MAt.keep {w w' : World} {O : Nat → Prop} {m : Nat} {cs : List Tm} (h : MAt w O m cs) {S : Nat → Prop} (hf : Fr S w w') (hS : ∀ k, O k → ¬ S k) : MAt w' O m cs := by
  obtain ⟨vt, vc, h1, h2, h3, h4, h5⟩ := h.main
  exact ⟨⟨vt, vc, hf.keep h1 (hS _ h.om), ownsRow_keep h2 hf (fun g hg => hS g (h4 g hg).1), ownsRow_keep h3 hf (fun g hg => hS g (h5 g hg).1), h4, h5⟩, h.om, fun k hk => Nat.lt_of_lt_of_le (h.lt k hk) hf.size, h.len, h.fine⟩

section
variable {w : World} {O : Nat → Prop} {m : Nat} {cs : List Tm}

/-- The two rows, for the walk. -/
theorem MAt.row (h : MAt w O m cs) : ∃ (bt bc : Option Addr) (ct cc : Nat), w.heap[m]? = some (.cells #[.slice bt cs.length ct, .slice bc cs.length cc] 98) ∧
    ∀ (i : Nat) (t : Tm), cs[i]? = some t → (∃ g, bt = some ⟨g, 0, none⟩ ∧ w.cell? ⟨g, i, none⟩ = some (.string (S (clauseText t)))) ∧ ∃ g, bc = some ⟨g, 0, none⟩ ∧ w.cell? ⟨g, i, none⟩ = some (.string (S (codeOf t))) := by
  obtain ⟨vt, vc, h1, h2, h3, h4, h5⟩ := h.main
  obtain ⟨bt, ct, rfl⟩ := owns_slice h2
  obtain ⟨bc, cc, rfl⟩ := owns_slice h3
  refine ⟨bt, bc, ct, cc, h1, fun i t ht => ?_⟩
  have hi : i < cs.length := (List.getElem?_eq_some_iff.1 ht).1
  refine ⟨?_, ?_⟩
  · obtain ⟨g, cap', hv, _, _⟩ := h2.form (by omega)
    simp only [Value.slice.injEq, true_and] at hv
    obtain ⟨rfl, rfl⟩ := hv
    have hc := owns_cell h2 i (.string (S (clauseText t))) (by simp [strs, ht])
    rw [add_zero_addr] at hc
    exact ⟨g, rfl, hc⟩
  · obtain ⟨g, cap', hv, _, _⟩ := h3.form (by omega)
    simp only [Value.slice.injEq, true_and] at hv
    obtain ⟨rfl, rfl⟩ := hv
    have hc := owns_cell h3 i (.string (S (codeOf t))) (by simp [strs, ht])
    rw [add_zero_addr] at hc
    exact ⟨g, rfl, hc⟩
theorem MAt.sizes (h : MAt w O m cs) {t : Tm} (ht : t ∈ cs) : (clauseText t).length ≤ 40 ∧ (codeOf t).length ≤ 43 := by
  obtain ⟨s, hs, hp⟩ := h.fine t ht
  have h1 := parse_back hp
  have h2 := parse_code hp
  exact ⟨by rw [h1]; exact hs, by omega⟩

theorem newM : Calls Try.prog 33 #[] w fun e w' => ∃ m, e = .returned (.pointer (some ⟨m, 0, none⟩)) ∧ MAt w' (fun k => k = m) m [] ∧ Fr No w w' ∧ w.heap.size ≤ m := by
  go_enter Try.func33, Try.ntmps33
  go_wp2_with fail
  go_ret
  refine ⟨w.heap.size, rfl, ⟨⟨.slice none 0 0, .slice none 0 0, heap_alloc_same _ _, World.ownsRow_nil _ _ _ _, World.ownsRow_nil _ _ _ _, fun g hg => by simp [Value.ownBlock] at hg, fun g hg => by simp [Value.ownBlock] at hg⟩, rfl, fun k hk => by subst hk; simp, by simp, fun t ht => by cases ht⟩, (Fr.refl No w).alloc _, Nat.le_refl _⟩

theorem lenM (h : MAt w O m cs) : Calls Try.prog 54 #[.pointer (some ⟨m, 0, none⟩)] w fun e w' => e = .returned (.int .i64 (cs.length : Int)) ∧ w' = w := by
  obtain ⟨bt, bc, ct, cc, h1, _⟩ := h.row
  have c0 : w.cell? ⟨m, 0, none⟩ = some (.slice bt cs.length ct) := cell_of 0 h1 rfl
  go_enter Try.func54, Try.ntmps54
  go_wp2_with fail
  go_ret
  exact ⟨rfl, rfl⟩

theorem clearM (h : MAt w O m cs) : Calls Try.prog 49 #[.pointer (some ⟨m, 0, none⟩)] w fun e w' => e = .returned (.tuple #[]) ∧ MAt w' O m [] ∧ Fr O w w' := by
  obtain ⟨bt, bc, ct, cc, h1, _⟩ := h.row
  have c0 : w.cell? ⟨m, 0, none⟩ = some (.slice bt cs.length ct) := cell_of 0 h1 rfl
  have c1 : w.cell? ⟨m, 1, none⟩ = some (.slice bc cs.length cc) := cell_of 1 h1 rfl
  have z0 := frozen_of 0 h1
  have z1 := frozen_of 1 h1
  go_enter Try.func49, Try.ntmps49
  go_wp2_with fail
  have F : Fr O w ((w.setCell ⟨m, 0, none⟩ (.slice none 0 0)).setCell ⟨m, 1, none⟩ (.slice none 0 0)) := ((Fr.refl O w).setCell (fun _ => h.om) _).setCell (fun _ => h.om) _
  have hm : ((w.setCell ⟨m, 0, none⟩ (.slice none 0 0)).setCell ⟨m, 1, none⟩ (.slice none 0 0)).heap[m]? = some (.cells #[.slice none 0 0, .slice none 0 0] 98) := by
    rw [heap_setCell_same _ (heap_setCell_same _ h1)]; rfl
  go_end0
  exact ⟨rfl, ⟨⟨.slice none 0 0, .slice none 0 0, hm, World.ownsRow_nil _ _ _ _, World.ownsRow_nil _ _ _ _, fun g hg => by simp [Value.ownBlock] at hg, fun g hg => by simp [Value.ownBlock] at hg⟩, h.om, fun k hk => Nat.lt_of_lt_of_le (h.lt k hk) F.size, by simp, fun t ht => by cases ht⟩, F⟩

set_option maxRecDepth 20000 in
theorem textM (h : MAt w O m cs) (id : Int) : Calls Try.prog 51 #[.pointer (some ⟨m, 0, none⟩), .int .i64 id] w fun e w' => e = .returned (.tuple #[.string (S (textAns cs id).1), .int .i64 (textAns cs id).2]) ∧ w' = w := by
  obtain ⟨bt, bc, ct, cc, h1, hrow⟩ := h.row
  have c0 : w.cell? ⟨m, 0, none⟩ = some (.slice bt cs.length ct) := cell_of 0 h1 rfl
  have hlen := h.len
  by_cases h0 : id < 0
  · have d0 : decide (id < 0) = true := decide_eq_true h0
    have ha : textAns cs id = ([], 4) := by unfold textAns; rw [if_pos h0]
    go_enter Try.func51, Try.ntmps51
    go_wp2_with fail
    go_ret2
    rw [ha]
    exact ⟨rfl, rfl⟩
  · have d0 : decide (id < 0) = false := decide_eq_false h0
    obtain ⟨i, rfl⟩ : ∃ i : Nat, id = (i : Int) := ⟨id.toNat, by omega⟩
    by_cases hlt : i < cs.length
    · have d1 : decide ((cs.length : Int) ≤ (i : Int)) = false := decide_eq_false (by omega)
      have d1' : decide (cs.length ≤ i) = false := decide_eq_false (by omega)
      obtain ⟨t, ht⟩ := kid_at hlt
      obtain ⟨⟨g, rfl, hc⟩, _⟩ := hrow i t ht
      have HA : Hid (textAns cs (i : Int) = (clauseText t, 0)) := by show _ = _; unfold textAns; rw [if_neg (by omega), Int.toNat_natCast, ht]
      clear ht
      go_enter Try.func51, Try.ntmps51
      go_wp2_with fail
      go_ret2
      rw [HA.out]
      exact ⟨rfl, rfl⟩
    · have d1 : decide ((cs.length : Int) ≤ (i : Int)) = true := decide_eq_true (by omega)
      have d1' : decide (cs.length ≤ i) = true := decide_eq_true (by omega)
      have HA : Hid (textAns cs (i : Int) = ([], 4)) := by show _ = _; unfold textAns; rw [if_neg (by omega), Int.toNat_natCast, List.getElem?_eq_none (by omega)]
      go_enter Try.func51, Try.ntmps51
      go_wp2_with fail
      go_ret2
      rw [HA.out]
      exact ⟨rfl, rfl⟩

set_option maxRecDepth 20000 in
theorem codeM (h : MAt w O m cs) (id : Int) : Calls Try.prog 52 #[.pointer (some ⟨m, 0, none⟩), .int .i64 id] w fun e w' => e = .returned (.tuple #[.string (S (codeAns cs id).1), .int .i64 (codeAns cs id).2]) ∧ w' = w := by
  obtain ⟨bt, bc, ct, cc, h1, hrow⟩ := h.row
  have c1 : w.cell? ⟨m, 1, none⟩ = some (.slice bc cs.length cc) := cell_of 1 h1 rfl
  have hlen := h.len
  by_cases h0 : id < 0
  · have d0 : decide (id < 0) = true := decide_eq_true h0
    have ha : codeAns cs id = ([], 4) := by unfold codeAns; rw [if_pos h0]
    go_enter Try.func52, Try.ntmps52
    go_wp2_with fail
    go_ret2
    rw [ha]
    exact ⟨rfl, rfl⟩
  · have d0 : decide (id < 0) = false := decide_eq_false h0
    obtain ⟨i, rfl⟩ : ∃ i : Nat, id = (i : Int) := ⟨id.toNat, by omega⟩
    by_cases hlt : i < cs.length
    · have d1 : decide ((cs.length : Int) ≤ (i : Int)) = false := decide_eq_false (by omega)
      have d1' : decide (cs.length ≤ i) = false := decide_eq_false (by omega)
      obtain ⟨t, ht⟩ := kid_at hlt
      obtain ⟨_, g, rfl, hc⟩ := hrow i t ht
      have HA : Hid (codeAns cs (i : Int) = (codeOf t, 0)) := by show _ = _; unfold codeAns; rw [if_neg (by omega), Int.toNat_natCast, ht]
      clear ht
      go_enter Try.func52, Try.ntmps52
      go_wp2_with fail
      go_ret2
      rw [HA.out]
      exact ⟨rfl, rfl⟩
    · have d1 : decide ((cs.length : Int) ≤ (i : Int)) = true := decide_eq_true (by omega)
      have d1' : decide (cs.length ≤ i) = true := decide_eq_true (by omega)
      have HA : Hid (codeAns cs (i : Int) = ([], 4)) := by show _ = _; unfold codeAns; rw [if_neg (by omega), Int.toNat_natCast, List.getElem?_eq_none (by omega)]
      go_enter Try.func52, Try.ntmps52
      go_wp2_with fail
      go_ret2
      rw [HA.out]
      exact ⟨rfl, rfl⟩

theorem queryM (s : List UInt8) (v : Value) : Calls Try.prog 50 #[v, .string (S s)] w fun e w' => e = .returned (.tuple #[.string (S (queryAns s).1), .int .i64 (queryAns s).2]) ∧ Fr No w w' := by
  have hsz := S_size s
  by_cases h40 : 40 < s.length
  · have d0 : decide ((40 : Int) < ((S s).size : Int)) = true := decide_eq_true (by omega)
    have d0' : decide ((40 : Int) < (s.length : Int)) = true := decide_eq_true (by omega)
    have d0'' : decide (40 < s.length) = true := decide_eq_true (by omega)
    have HA : Hid (queryAns s = ([], 1)) := by show _ = _; unfold queryAns; rw [if_pos h40]
    go_enter Try.func50, Try.ntmps50
    go_wp2_with fail
    go_ret2
    rw [HA.out]
    exact ⟨rfl, Fr.refl _ _⟩
  · have d0 : decide ((40 : Int) < ((S s).size : Int)) = false := decide_eq_false (by omega)
    have d0' : decide ((40 : Int) < (s.length : Int)) = false := decide_eq_false (by omega)
    have d0'' : decide (40 < s.length) = false := decide_eq_false (by omega)
    have HP : Hid (Calls Try.prog 65 #[.string (S s), .bool true] w fun e w' => e = .returned (.tuple #[.string (S (compOf true s).1), .bool (compOf true s).2]) ∧ Fr No w w') := compile_any (by omega) true
    cases hp : parseOf true s with
    | none =>
      have hc : compOf true s = ([], false) := by unfold compOf; rw [hp]
      have HA : Hid (queryAns s = ([], 5)) := by show _ = _; unfold queryAns; rw [if_neg h40, hp]
      rw [hc] at HP
      clear hp hc
      go_enter Try.func50, Try.ntmps50
      go_wp2_with fail
      refine HP.out.mono ?_
      rintro e w' ⟨rfl, hf⟩
      go_wp2_with fail
      go_ret2
      rw [HA.out]
      exact ⟨rfl, hf⟩
    | some t =>
      have hc : compOf true s = (codeOf t, true) := by unfold compOf; rw [hp]
      have HA : Hid (queryAns s = (codeOf t, 0)) := by show _ = _; unfold queryAns; rw [if_neg h40, hp]
      rw [hc] at HP
      clear hp hc
      go_enter Try.func50, Try.ntmps50
      go_wp2_with fail
      refine HP.out.mono ?_
      rintro e w' ⟨rfl, hf⟩
      go_wp2_with fail
      go_ret2
      rw [HA.out]
      exact ⟨rfl, hf⟩

set_option maxRecDepth 20000 in
theorem showM (h : MAt w O m cs) : Calls Try.prog 35 #[.pointer (some ⟨m, 0, none⟩)] w fun e w' => e = .returned (.string (S (showOf cs))) ∧ w' = w := by
  obtain ⟨bt, bc, ct, cc, h1, hrow⟩ := h.row
  have c0 : w.cell? ⟨m, 0, none⟩ = some (.slice bt cs.length ct) := cell_of 0 h1 rfl
  have hlen := h.len
  have hsz : ∀ t ∈ cs, (clauseText t).length ≤ 40 := fun t ht => (h.sizes ht).1
  go_enter Try.func35, Try.ntmps35
  go_wp2_with fail
  go_loopg [3, 4] (cs.length + 1) (fun gk v3 u wr => ∃ (i : Nat) (zs : List UInt8), v3 = .string (S zs) ∧ u = .int .i64 (i : Int) ∧ i ≤ cs.length ∧ gk = cs.length + 1 - i ∧ zs.length ≤ 1 + 41 * i ∧ Hid (zs = 80 :: ((cs.take i).map (fun t => 32 :: clauseText t)).flatten) ∧ wr = w)
  case atStart => exact ⟨0, [80], rfl, rfl, Nat.zero_le _, rfl, by simp, rfl, rfl⟩
  case round =>
    obtain ⟨i, zs, rfl, rfl, hi, hgk, hzl, HZ, rfl⟩ := hrel
    by_cases hlt : i < cs.length
    · obtain ⟨t, ht⟩ := kid_at hlt
      have hxl := hsz t (List.mem_of_getElem? ht)
      obtain ⟨⟨g, rfl, hc⟩, _⟩ := hrow i t ht
      have A1 := add_S' zs (b := { data := #[32] }) [32] rfl (by simp; omega)
      have A2 := add_S (zs ++ [32]) (clauseText t) (by simp; omega)
      have HT : Hid (cs[i]? = some t) := ht
      clear ht
      go_wp2_with fail
      go_roundg (cs.length + 1 - (i + 1))
      case measure => omega
      case rel =>
        refine ⟨i + 1, zs ++ 32 :: clauseText t, by simp, by go_num, by omega, rfl, by simp; omega, ?_, rfl⟩
        show _ = _
        rw [List.take_add_one, HT.out, HZ.out]
        simp
    · have hieq : i = cs.length := by omega
      go_wp2_with fail
      go_ret
      rw [HZ.out, hieq, List.take_length]
      exact ⟨rfl, rfl⟩
end
end Go.Proofs.Qxb6500302a.M
