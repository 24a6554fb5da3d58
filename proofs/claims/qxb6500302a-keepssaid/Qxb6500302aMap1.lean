import Derived.Test.Qxb6500302aKey1
namespace Go.Proofs.Qxb6500302a
open Go.RowKit
set_option linter.unusedSimpArgs false
set_option linter.unusedVariables false

theorem u8_beq (a b : UInt8) : ((a.toNat : Int) == (b.toNat : Int)) = decide (a = b) := by
  rw [Bool.eq_iff_iff]
  simp only [beq_iff_eq, decide_eq_true_eq, Int.natCast_inj]
  exact UInt8.toNat_inj

theorem part5_0 (x y : Value) (w : World) : (part 5 #[x, y] 0).run Try.prog w = .ok x w := by kernel_rfl
theorem part5_1 (x y : Value) (w : World) : (part 5 #[x, y] 1).run Try.prog w = .ok y w := by kernel_rfl

theorem equalIn59 (d : Nat) (a b c e : UInt8) (w : World) : (Op.equalIn (d + 2) 59 (kv a b) (kv c e)).run Try.prog w = .ok (decide (a = c) && decide (b = e)) w := by
  obtain ⟨i5, hi5⟩ := info_of_underlying Try.underlying5
  unfold kv
  rw [run_equalIn_array w (d + 1) _ _ Try.underlying59 hi5]
  have h5 : Try.prog.cellsOf 5 = 1 := by kernel_rfl
  have hr : List.range 2 = [0, 1] := rfl
  rw [h5, hr]
  simp only [Op.eqItems, Sem.run_bind, Nat.zero_mul, Nat.one_mul, part5_0, Result.andThen_ok, run_equalIn_int _ d 5 .u8 .u8 _ _ Try.underlying5, u8_beq]
  by_cases h1 : a = c
  · simp only [h1, decide_true, Bool.not_true, Bool.false_eq_true, if_false, Sem.run_bind, Bool.true_and]
    simp only [part5_1, Result.andThen_ok, run_equalIn_int _ d 5 .u8 .u8 _ _ Try.underlying5, u8_beq]
    by_cases h2 : b = e
    · simp [h2]
    · simp [h2]
  · simp [h1]
theorem eq59 (a b c e : UInt8) (w : World) : (Op.equal 59 (kv a b) (kv c e)).run Try.prog w = .ok (decide (a = c) && decide (b = e)) w := equalIn59 9998 a b c e w

/-- A key of the index by keys: four bytes. -/
def kv4 (k : (UInt8 × UInt8) × (UInt8 × UInt8)) : Value := .agg #[.int .u8 (k.1.1.toNat : Int), .int .u8 (k.1.2.toNat : Int), .int .u8 (k.2.1.toNat : Int), .int .u8 (k.2.2.toNat : Int)]
def kv2 (k : UInt8 × UInt8) : Value := kv k.1 k.2

theorem part59 (a b c d : Value) (w : World) : (part 59 #[a, b, c, d] 0).run Try.prog w = .ok (.agg #[a, b]) w := by kernel_rfl
theorem part59' (a b c d : Value) (w : World) : (part 59 #[a, b, c, d] 2).run Try.prog w = .ok (.agg #[c, d]) w := by kernel_rfl

theorem fields61 : (Try.prog.fieldsOf 61).toList.map (fun f => (f.name, f.type, f.offset)) = [("pred", 59, 0), ("first", 59, 2)] := by kernel_rfl

theorem eq61 (k l : (UInt8 × UInt8) × (UInt8 × UInt8)) (w : World) : (Op.equal 61 (kv4 k) (kv4 l)).run Try.prog w = .ok (decide (k = l)) w := by
  have hu : Try.prog.underlying 61 = some (.struct (Try.prog.fieldsOf 61)) := by kernel_rfl
  obtain ⟨⟨a, b⟩, ⟨c, d⟩⟩ := k
  obtain ⟨⟨a', b'⟩, ⟨c', d'⟩⟩ := l
  have hf := fields61
  unfold Op.equal Op.maxDepth kv4
  rw [run_equalIn_struct w 9999 61 _ _ hu (by kernel_rfl)]
  generalize (Try.prog.fieldsOf 61).toList = fs at hf
  obtain ⟨f, g, rfl⟩ : ∃ f g, fs = [f, g] := by
    have hl := congrArg List.length hf
    simp at hl
    cases fs with
    | nil => simp at hl
    | cons f fs =>
      cases fs with
      | nil => simp at hl
      | cons g fs =>
        cases fs with
        | nil => exact ⟨f, g, rfl⟩
        | cons _ _ => simp at hl
  · simp only [List.map_cons, List.map_nil, List.cons.injEq, Prod.mk.injEq, and_true] at hf
    obtain ⟨⟨hf1, hf2, hf3⟩, hg1, hg2, hg3⟩ := hf
    have e1 : (Op.equalIn 9999 59 (.agg #[.int .u8 (a.toNat : Int), .int .u8 (b.toNat : Int)]) (.agg #[.int .u8 (a'.toNat : Int), .int .u8 (b'.toNat : Int)])).run Try.prog w = _ := equalIn59 9997 a b a' b' w
    have e2 : (Op.equalIn 9999 59 (.agg #[.int .u8 (c.toNat : Int), .int .u8 (d.toNat : Int)]) (.agg #[.int .u8 (c'.toNat : Int), .int .u8 (d'.toNat : Int)])).run Try.prog w = _ := equalIn59 9997 c d c' d' w
    simp only [Op.eqFields, hf1, hf2, hf3, hg1, hg2, hg3, Sem.run_bind, part59, part59', Result.andThen_ok, e1, e2, ne_eq, String.reduceEq, not_false_eq_true, if_true]
    by_cases h1 : a = a' ∧ b = b'
    · have h1' : (decide (a = a') && decide (b = b')) = true := by simp [h1]
      rw [h1']
      simp only [Bool.not_true, Bool.false_eq_true, if_false, Sem.run_bind, part59', Result.andThen_ok, e2]
      by_cases h3 : c = c' ∧ d = d'
      · simp [h1, h3]
      · have : (decide (c = c') && decide (d = d')) = false := by simpa using h3
        rw [this]
        have hne : ¬ ((a, b), c, d) = ((a', b'), c', d') := by simpa [h1] using h3
        simp [hne]
    · have h1' : (decide (a = a') && decide (b = b')) = false := by simpa using h1
      rw [h1']
      have hne : ¬ ((a, b), c, d) = ((a', b'), c', d') := by
        intro e; simp at e; exact h1 e.1
      simp [hne]

theorem check59 (e : Bool) (k : UInt8 × UInt8) (w : World) : (Instr.checkKey e 10000 59 (kv2 k)).run Try.prog w = .ok () w := by cases e <;> kernel_rfl
theorem check61 (e : Bool) (k : (UInt8 × UInt8) × (UInt8 × UInt8)) (w : World) : (Instr.checkKey e 10000 61 (kv4 k)).run Try.prog w = .ok () w := by cases e <;> kernel_rfl
end Go.Proofs.Qxb6500302a
