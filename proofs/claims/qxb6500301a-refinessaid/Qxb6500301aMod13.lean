import Derived.Test.Qxb6500301aMod12
namespace Go.Proofs.Qxb6500301a
open Go.RowKit
set_option linter.unusedSimpArgs false
set_option linter.unusedVariables false
attribute [local go_sem ↓] Go.wp_at_zero Go.wp_at_succ
attribute [-go_sem] Go.run_string_add_if Go.run_index_string Go.run_slice_string_if

section
variable {w : World} {b0 q : Nat} {vn vo vl : Value} {ns : List Nd} {saved : List (List Nd)}
set_option maxRecDepth 40000 in
set_option maxHeartbeats 8000000 in
theorem mWrite_any (h : MAt w b0 q vn vo vl ns saved) (ok : OkS ns saved) (a : Int) : Calls Try.prog 53 #[.pointer (some ⟨q, 0, none⟩), .int .i64 a] w fun e w' => e = .returned (.tuple #[.string (S (writeAns ns a).1), .int .i64 (writeAns ns a).2]) ∧ Fr No w w' := by
  have hw := ok.wf
  have hs := ok.small
  obtain ⟨bsn, capn, rfl⟩ := owns_slice h.rn
  have c0 := cell_of 0 h.top rfl
  by_cases hout : a < 0 ∨ (ns.length : Int) ≤ a
  · have HA : Hid (writeAns ns a = ([], 4)) := by show _ = _; unfold writeAns; rw [if_pos hout]
    have hfin : ∀ w : World, (Ending.returned (.tuple #[.string { data := #[] }, .int .i64 4]) = .returned (.tuple #[.string (S (writeAns ns a).1), .int .i64 (writeAns ns a).2])) ∧ Fr No w w := fun w => by rw [HA.out]; exact ⟨rfl, Fr.refl _ _⟩
    by_cases hneg : a < 0
    · have d1 : decide (a < 0) = true := decide_eq_true hneg
      clear h
      go_enter Try.func53, Try.ntmps53
      go_wp2_with fail
      go_ret2
      exact hfin _
    · have d1 : decide (a < 0) = false := decide_eq_false hneg
      have d2 : decide ((ns.length : Int) ≤ a) = true := decide_eq_true (by omega)
      clear h
      go_enter Try.func53, Try.ntmps53
      go_wp2_with fail
      go_ret2
      exact hfin _
  · have HA : Hid (writeAns ns a = match putN 49 ns a.toNat ([], []) with
      | none => ([], 8)
      | some st => (st.1, 0)) := by show _ = _; unfold writeAns; rw [if_neg hout]; cases putN 49 ns a.toNat ([], []) <;> rfl
    obtain ⟨k, rfl⟩ : ∃ k : Nat, a = (k : Int) := ⟨a.toNat, by omega⟩
    have hk : k < ns.length := by omega
    have d1 : decide ((k : Int) < 0) = false := decide_eq_false (by omega)
    have d2 : decide ((ns.length : Int) ≤ (k : Int)) = false := decide_eq_false (by omega)
    have d2' : decide (ns.length ≤ k) = false := decide_eq_false (by omega)
    rw [Int.toNat_natCast] at HA
    have HF3 : Hid (Fr No w (w.alloc (.cells #[.string { data := #[] }, .slice none 0 0] 107))) := (Fr.refl No w).alloc _
    have HPEN : Hid (MPen w.heap.size (w.alloc (.cells #[.string { data := #[] }, .slice none 0 0] 107)) w.heap.size (.slice none 0 0) ([], [])) := ⟨heap_alloc_same _ _, World.ownsRow_nil _ _ _ _, Nat.le_refl _⟩
    have HPUT : Hid (∀ w', Fr No w w' → MPen w.heap.size w' w.heap.size (.slice none 0 0) ([], []) → Calls Try.prog 65 #[.pointer (some ⟨q, 0, none⟩), .pointer (some ⟨w.heap.size, 0, none⟩), .int .i64 (k : Int)] w' (MPutPost w.heap.size w' w.heap.size (putN 49 ns k ([], [])))) := by
      intro w' hf hp
      exact mput_any h hw hs 49 k ([], []) w' _ _ (hf.mono (fun _ _ e => e.elim)) hp (Nat.zero_le _) (Nat.zero_le _) (Nat.le_refl _) hk
    clear hout h
    go_enter Try.func53, Try.ntmps53
    go_wp2_with fail
    refine (HPUT.out _ HF3.out HPEN.out).mono ?_
    rintro e w8 ⟨rfl, F8, hst⟩
    cases hr8 : putN 49 ns k ([], []) with
    | none =>
      rw [hr8] at HA
      simp only [Option.isSome_none]
      have HF8 : Hid (Fr No w w8) := (HF3.out.trans F8 (S' := fun k => w.heap.size ≤ k) (fun k hk e => by omega))
      clear hst hr8
      go_wp2_with fail
      go_ret2
      rw [HA.out]
      exact ⟨rfl, HF8.out⟩
    | some st =>
      obtain ⟨v8, hP8⟩ := hst _ hr8
      rw [hr8] at HA
      simp only [Option.isSome_some]
      have HF8 : Hid (Fr No w w8) := (HF3.out.trans F8 (S' := fun k => w.heap.size ≤ k) (fun k hk e => by omega))
      have c8 := cell_of 0 hP8.pen rfl
      clear hst hr8 hP8
      go_wp2_with fail
      go_ret2
      rw [HA.out]
      exact ⟨rfl, HF8.out⟩
end
end Go.Proofs.Qxb6500301a
