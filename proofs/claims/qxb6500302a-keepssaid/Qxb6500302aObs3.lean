import Derived.Test.Qxb6500302aObs2
namespace Go.Proofs.Qxb6500302a
open Go.RowKit
set_option linter.unusedSimpArgs false
set_option linter.unusedVariables false
attribute [local go_sem ↓] Go.wp_at_zero Go.wp_at_succ

def spellOf (ids : List Nat) : List UInt8 := ids.map digit

set_option maxRecDepth 20000 in
theorem spell_any {w : World} {bs : Option Addr} {cap : Nat} {ids : List Nat} (h : w.ownsRow 0 32 1 (.slice bs ids.length cap) ids.length (i8s ids)) (hl : ids.length ≤ 100) (hm : ∀ i ∈ ids, i ≤ 50) :
    Calls Try.prog 44 #[.slice bs ids.length cap] w fun e w' => e = .returned (.string (S (spellOf ids))) ∧ Fr No w w' := by
  obtain ⟨i0, hi, hz0, hz1, hz2⟩ := info_parts Try.info5
  go_enter Try.func44, Try.ntmps44
  go_wp2_with (at_make; refine wpList_make_full _ (by rfl) _ _ 86 (by rfl) 0 5 i0 (.int .u8 0) 1 Try.underlying86 hi hz0 hz1 .i64 .i64 ids.length ids.length ids.length (by rfl) (by rfl) (by rfl) (by rfl) (by rw [hz2]; omega) (by unfold maxLen; omega) (Nat.zero_le _) ?_; intro w1 hown1 hgr1)
  have F1 : Fr No w w1 := (Fr.refl No w).grown hgr1 (fun k e => by cases e)
  obtain ⟨cur1, hg1, hcs1⟩ : ∃ cur : Array Value, w1.heap[w.heap.size]? = some (.cells cur 5) ∧ cur.size = ids.length := by
    rcases hown1.2 with ⟨e, _⟩ | ⟨g, cap', cur, hv, _, hg, _, _, hcs, _⟩
    · cases e
    · simp only [Value.slice.injEq, Option.some.injEq, Addr.mk.injEq, and_true, true_and] at hv
      rw [← hv.1] at hg
      exact ⟨cur, hg, by rw [hcs, ← hv.2]; omega⟩
  clear hown1 hgr1
  go_loopg [11] (ids.length + 1) (fun gk u wr => ∃ (i : Nat) (cur : Array Value), u = .int .i64 (i : Int) ∧ i ≤ ids.length ∧ gk = ids.length + 1 - i ∧ wr.heap[w.heap.size]? = some (.cells cur 5) ∧ cur.size = ids.length ∧ Hid (∀ j x, j < i → ids[j]? = some x → cur[j]? = some (.int .u8 ((digit x).toNat : Int))) ∧ Fr No w wr)
  case atStart => exact ⟨0, cur1, rfl, Nat.zero_le _, rfl, hg1, hcs1, fun j x hj => by omega, F1⟩
  case round =>
    clear F1 hg1 hcs1
    obtain ⟨i, cur, rfl, hi', hgk, hg, hcs, HC, hf⟩ := hrel
    by_cases hlt : i < ids.length
    · obtain ⟨x, hx⟩ : ∃ x, ids[i]? = some x := ⟨_, List.getElem?_eq_getElem hlt⟩
      have hxm := hm x (List.mem_of_getElem? hx)
      obtain ⟨g0, cap0, hv0, _, _⟩ := h.form (by omega)
      simp only [Value.slice.injEq, true_and] at hv0
      obtain ⟨rfl, rfl⟩ := hv0
      have c0 := owns_cell h i (.int .i8 (x : Int)) (by simp [i8s, hx])
      have hadd : (⟨g0, 0, none⟩ : Addr).add i = ⟨g0, i, none⟩ := by
        by_cases h0 : i = 0
        · subst h0; rfl
        · simp [Addr.add, h0]
      rw [hadd] at c0
      have c1 : wr.cell? ⟨g0, i, none⟩ = some (.int .i8 (x : Int)) := hf.cellNo c0
      have c2 : wr.cell? ⟨w.heap.size, i, none⟩ = some (cur[i]'(by omega)) := cell_of i hg (Array.getElem?_eq_getElem (by omega))
      have f2 : wr.frozen? ⟨w.heap.size, i, none⟩ = false := frozen_of i hg
      go_wp2_with fail
      have hdx := digit_toNat hxm
      go_roundg (ids.length + 1 - (i + 1))
      case measure => omega
      case rel =>
        refine ⟨i + 1, cur.setIfInBounds i (.int .u8 (48 + (x : Int))), by go_num, by omega, rfl, ?_, by simpa using hcs, ?_, Fr.setCell hf (fun h => by simp at h) _⟩
        · rw [heap_setCell_same _ hg]
        · intro j y hj hy
          by_cases hji : j = i
          · subst hji
            rw [hx] at hy
            cases hy
            rw [hdx]
            simp [hcs, hlt]
          · rw [Array.getElem?_setIfInBounds_ne (by omega)]
            exact HC.out j y (by omega) hy
    · have hieq : i = ids.length := by omega
      have hstr : (convert 86 9 (.slice (some ⟨w.heap.size, 0, none⟩) ids.length ids.length)).run Try.prog wr = .ok (.string (S (spellOf ids))) wr := by
        have := run_convert_bytes_back (P := Try.prog) wr 86 9 5 ⟨w.heap.size, 0, none⟩ ids.length (spellOf ids) Try.underlying86 Try.underlying5 Try.underlying9 (fun j hj => by
          have hj' : j < ids.length := by simpa [spellOf] using hj
          have h9 := HC.out j ids[j] (by omega) (List.getElem?_eq_getElem hj')
          have h10 := cell_of j hg h9
          have hadd : (⟨w.heap.size, 0, none⟩ : Addr).add j = ⟨w.heap.size, j, none⟩ := by
            by_cases h0 : j = 0
            · subst h0; rfl
            · simp [Addr.add, h0]
          rw [hadd, h10]
          simp [spellOf])
        have e1 : (spellOf ids).length = ids.length := by simp [spellOf]
        rw [e1] at this
        exact this
      go_wp2_with fail
      go_ret
      exact ⟨rfl, hf⟩
end Go.Proofs.Qxb6500302a
