import Derived.Test.Qxb6500302aDo1
import Derived.Test.Qxb6500302aCan2
namespace Go.Proofs.Qxb6500302a
open Go.RowKit
set_option linter.unusedSimpArgs false
set_option linter.unusedVariables false
attribute [local go_sem ↓] Go.wp_at_zero Go.wp_at_succ
attribute [-go_sem] Go.run_string_add_if Go.run_index_string Go.run_slice_string_if

theorem idx_Int {l : List UInt8} {i : Int} {c : UInt8} (h0 : 0 ≤ i) (h : l[i.toNat]? = some c) (w : World) : (Instr.index 9 (.string (S l)) (.int .i64 i)).run Try.prog w = .ok (.int .u8 (c.toNat : Int)) w := by
  have hlt : i.toNat < l.length := (List.getElem?_eq_some_iff.1 h).1
  rw [run_index_string w 9 (S l) .i64 i Try.underlying9, dif_pos ⟨h0, by rw [S_size]; omega⟩]
  have e : (S l)[i.toNat]'(by rw [S_size]; exact hlt) = c := by
    have h2 := (List.getElem?_eq_some_iff.1 h).2
    rw [← h2]
    simp [S, ByteArray.getElem_eq_getElem_data]
  rw [e]
theorem slice_Int {l m : List UInt8} {i j : Int} (h0 : 0 ≤ i) (h1 : i ≤ j) (h2 : j ≤ (l.length : Int)) (h : (l.drop i.toNat).take (j.toNat - i.toNat) = m) (w : World) :
    (Instr.slice 9 (.string (S l)) (some (.int .i64 i)) (some (.int .i64 j)) none).run Try.prog w = .ok (.string (S m)) w := by
  rw [run_slice_string_if w 9 (S l) .i64 .i64 i j Try.underlying9, if_pos ⟨by omega, by rw [S_size]; exact h2⟩, if_pos ⟨h0, h1⟩]
  congr 2
  rw [← h]
  apply ByteArray.ext
  simp [S]

theorem slice_one {l : List UInt8} {i : Nat} {c : UInt8} (h : l[i]? = some c) (w : World) : (Instr.slice 9 (.string (S l)) (some (.int .i64 (i : Int))) (some (.int .i64 ((i : Int) + 1))) none).run Try.prog w = .ok (.string (S [c])) w := by
  have hlt : i < l.length := (List.getElem?_eq_some_iff.1 h).1
  refine slice_Int (by omega) (by omega) (by omega) ?_ w
  have e1 : ((i : Int)).toNat = i := by omega
  have e2 : ((i : Int) + 1).toNat - i = 1 := by omega
  rw [e1, e2, List.drop_eq_getElem_cons hlt]
  have h2 := (List.getElem?_eq_some_iff.1 h).2
  simp [h2]
end Go.Proofs.Qxb6500302a
