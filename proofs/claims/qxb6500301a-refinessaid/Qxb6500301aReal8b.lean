import Derived.Test.Qxb6500301aReal8
import Derived.DeepKeys
namespace Go.Proofs.Qxb6500301a
open Go.RowKit
set_option linter.unusedSimpArgs false
theorem Try.cells88 : Try.prog.cellsOf 88 = 2 := by kernel_rfl
theorem Try.cells5 : Try.prog.cellsOf 5 = 1 := by kernel_rfl
theorem formed2 (c d : UInt8) : (Value.agg #[.int .u8 (c.toNat : Int), .int .u8 (d.toNat : Int)]).formed Try.prog 88 = true := by
  unfold Value.formed
  simp only [Try.underlying88, Try.cells88]
  rfl
theorem lit_u8 (c : UInt8) (n : Nat) : Try.prog.keyLits (n + 1) 5 [.int .u8 (c.toNat : Int)] = some [.int .u8 (c.toNat : Int)] := by
  unfold Program.keyLits
  simp only [Try.underlying5]
  have hc := c.toNat_lt
  have e1 : IntKind.u8.min = 0 := rfl
  have e2 : IntKind.u8.max = 255 := rfl
  rw [if_pos ⟨by trivial, by simp [Lit.wf, e1, e2]; omega⟩]
theorem lits2 (c d : UInt8) : Try.prog.keyLits 3 88 (Value.agg #[.int .u8 (c.toNat : Int), .int .u8 (d.toNat : Int)]).cells.toList = some [.int .u8 (c.toNat : Int), .int .u8 (d.toNat : Int)] := by
  unfold Program.keyLits
  simp only [Try.underlying88, Try.cells88, Try.cells5, Value.cells]
  simp [List.range_succ, lit_u8]
theorem eq2 (c d c' d' : UInt8) (w : World) : (Op.equalIn 10000 88 (.agg #[.int .u8 (c.toNat : Int), .int .u8 (d.toNat : Int)]) (.agg #[.int .u8 (c'.toNat : Int), .int .u8 (d'.toNat : Int)])).run Try.prog w = .ok (decide (c = c' ∧ d = d')) w := by
  have hk : Try.prog.keyTypeAt 2 88 = true := by kernel_rfl
  obtain ⟨r, h1, h2⟩ := run_equalIn_deep (P := Try.prog) 9998 2 88 hk w 3 3 (.agg #[.int .u8 (c.toNat : Int), .int .u8 (d.toNat : Int)]) (.agg #[.int .u8 (c'.toNat : Int), .int .u8 (d'.toNat : Int)]) [.int .u8 (c.toNat : Int), .int .u8 (d.toNat : Int)] [.int .u8 (c'.toNat : Int), .int .u8 (d'.toNat : Int)] (formed2 _ _) (formed2 _ _) (lits2 _ _) (lits2 _ _)
  have h3 : r = true ↔ c = c' ∧ d = d' := by
    refine h2.trans ?_
    simp only [List.cons.injEq, Lit.int.injEq, true_and, and_true, Int.natCast_inj, UInt8.toNat_inj]
  have : r = decide (c = c' ∧ d = d') := by
    rw [Bool.eq_iff_iff, h3, decide_eq_true_iff]
  rw [← this]
  exact h1
end Go.Proofs.Qxb6500301a
