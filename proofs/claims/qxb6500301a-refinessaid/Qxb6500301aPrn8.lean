import Derived.Test.Qxb6500301aPrn7
import Derived.Test.Qxb6500301aMk2
namespace Go.Proofs.Qxb6500301a
open Go.RowKit
set_option linter.unusedSimpArgs false
set_option linter.unusedVariables false
attribute [local go_sem ↓] Go.wp_at_zero Go.wp_at_succ
attribute [-go_sem] Go.run_string_add_if Go.run_index_string Go.run_slice_string_if

section
variable {w : World} {p : Nat} {B : Blks} {ns : List Nd} {saved : List (List Nd)}
set_option maxRecDepth 40000 in
set_option maxHeartbeats 8000000 in
theorem Write_any (h : HeapAt w p B ns saved) (a : Int) : Calls Try.prog 20 #[.pointer (some ⟨p, 0, none⟩), .int .i64 a] w fun e w' => e = .returned (.tuple #[.string (S (writeAns ns a).1), .int .i64 (writeAns ns a).2]) ∧ Fr No w w' := by
  obtain ⟨hw, hs⟩ := h.wf
  obtain ⟨ws, tr, tms, h1, -⟩ := h.main
  have c0 := h1.p0
  by_cases hout : a < 0 ∨ (ns.length : Int) ≤ a
  · have HA : Hid (writeAns ns a = ([], 4)) := by show _ = _; unfold writeAns; rw [if_pos hout]
    have hfin : ∀ w : World, (Ending.returned (.tuple #[.string { data := #[] }, .int .i64 4]) = .returned (.tuple #[.string (S (writeAns ns a).1), .int .i64 (writeAns ns a).2])) ∧ Fr No w w := fun w => by rw [HA.out]; exact ⟨rfl, Fr.refl _ _⟩
    by_cases hneg : a < 0
    · have d1 : decide (a < 0) = true := decide_eq_true hneg
      clear h1 h
      go_enter Try.func20, Try.ntmps20
      go_wp2_with fail
      go_ret2
      exact hfin _
    · have d1 : decide (a < 0) = false := decide_eq_false hneg
      have d2 : decide ((ns.length : Int) ≤ a) = true := decide_eq_true (by omega)
      clear h1 h
      go_enter Try.func20, Try.ntmps20
      go_wp2_with fail
      go_ret2
      exact hfin _
  · have HA : Hid (writeAns ns a = match putN 49 ns a.toNat ([], []) with
      | none => ([], 8)
      | some st => (st.1, 0)) := by show _ = _; unfold writeAns; rw [if_neg hout]; cases putN 49 ns a.toNat ([], []) <;> rfl
    obtain ⟨k, rfl⟩ : ∃ k : Nat, a = (k : Int) := ⟨a.toNat, by omega⟩
    have hk : k < ns.length := by omega
    have d1 : decide ((k : Int) < 0) = false := decide_eq_false (by omega)
    have d2 : decide ((ns.length : Int) ≤ (k : Int)) = false := decide_eq_false (by omega)
    have d2' : decide (ns.length ≤ k) = false := decide_eq_false (by omega)
    rw [Int.toNat_natCast] at HA
    have kw : IntKind.i32.wrap (k : Int) = (k : Int) := by rw [IntKind.wrap_i32]; omega
    obtain ⟨i5, hi5, hz5, hs5, hy5⟩ := info_parts Try.info5p
    obtain ⟨w2, hrun2, hown2, hgrow2⟩ := run_make_own (P := Try.prog) w w.heap.size 53 5 i5 _ 1 Try.underlying53 hi5 hz5 hs5 .i64 .i64 52 (by rw [hy5]; omega) (by unfold maxLen; omega) (Nat.le_refl _)
    have hrun3 : (Instr.makeSlice 53 (.int .i64 0) (.int .i64 52)).run Try.prog w = .ok (sl w.heap.size 0 52) w2 := hrun2
    clear hrun2
    have hmm := @run_makeMap Try.prog
    have F2 : Fr No w w2 := (Fr.refl No w).grown hgrow2 (fun k e => by cases e)
    have hs2 := F2.size
    have hlt2 : w.heap.size < w2.heap.size := (hown2.lt _ rfl).2
    have HF3 : Hid (Fr No w ((w2.alloc (.map #[] 0)).alloc (.cells #[sl w.heap.size 0 52, .map (some w2.heap.size)] 75))) := (F2.alloc _).alloc _
    have FW : Fr No w2 ((w2.alloc (.map #[] 0)).alloc (.cells #[sl w.heap.size 0 52, .map (some w2.heap.size)] 75)) := ((Fr.refl No w2).alloc _).alloc _
    have HPEN : Hid (PenAt w.heap.size ((w2.alloc (.map #[] 0)).alloc (.cells #[sl w.heap.size 0 52, .map (some w2.heap.size)] 75)) (w2.heap.size + 1) w2.heap.size (some ⟨w.heap.size, 0, none⟩) 52 ([], [])) := by
      refine ⟨?_, ownsRow_keep hown2 FW (fun _ _ e => e), ?_, by omega, by omega⟩
      · have := heap_alloc_same (w2.alloc (.map #[] 0)) (.cells #[sl w.heap.size 0 52, .map (some w2.heap.size)] 75)
        rw [show (w2.alloc (.map #[] 0)).heap.size = w2.heap.size + 1 by simp] at this
        exact this
      · exact heap_alloc_keep (heap_alloc_same w2 (.map #[] 0))
    have HPUT : Hid (∀ w', Fr No w w' → PenAt w.heap.size w' (w2.heap.size + 1) w2.heap.size (some ⟨w.heap.size, 0, none⟩) 52 ([], []) → Calls Try.prog 35 #[.pointer (some ⟨p, 0, none⟩), .pointer (some ⟨w2.heap.size + 1, 0, none⟩), .int .i32 (k : Int)] w' (PutPost w.heap.size w' (w2.heap.size + 1) w2.heap.size (putN 49 ns k ([], [])))) := by
      intro w' hf hp
      exact put_any h1 hw hs 49 k ([], []) w' _ _ _ _ (hf.mono (fun _ _ e => e.elim)) hp (Nat.zero_le _) (Nat.zero_le _) (Nat.le_refl _) hk
    clear hout h h1 hown2 hgrow2 F2 FW
    go_enter Try.func20, Try.ntmps20
    go_wp2_with fail
    refine (HPUT.out _ HF3.out HPEN.out).mono ?_
    rintro e w8 ⟨rfl, F8, hst⟩
    cases hr8 : putN 49 ns k ([], []) with
    | none =>
      rw [hr8] at HA
      simp only [Option.isSome_none]
      have HF8 : Hid (Fr No w w8) := (HF3.out.trans F8 (S' := fun k => w.heap.size ≤ k) (fun k hk e => by omega))
      clear hst hr8
      go_wp2_with fail
      go_ret2
      rw [HA.out]
      exact ⟨rfl, HF8.out⟩
    | some st =>
      obtain ⟨bs8, cap8, hP8⟩ := hst _ hr8
      rw [hr8] at HA
      simp only [Option.isSome_some]
      have HF8 : Hid (Fr No w w8) := (HF3.out.trans F8 (S' := fun k => w.heap.size ≤ k) (fun k hk e => by omega))
      have c8 := cell_of 0 hP8.pen rfl
      have hstr := hP8.buf.str
      clear hst hr8 hP8
      go_wp2_with fail
      go_ret2
      rw [HA.out]
      exact ⟨rfl, HF8.out⟩
end
end Go.Proofs.Qxb6500301a
