import Derived.Test.Qxb6500301aLift1
import Derived.Deep.Slices
namespace Go.Proofs.Qxb6500301a
open Go.ChangeShapes Go.WideShapes Go.ChangeAt Go.RowKit Go.Deep
set_option linter.unusedVariables false

theorem Try.cells29 : Try.prog.cellsOf 29 = 6 := by kernel_rfl
theorem Try.cells3 : Try.prog.cellsOf 3 = 1 := by kernel_rfl
theorem Try.cells9 : Try.prog.cellsOf 9 = 1 := by kernel_rfl

/-- A step of the script: Kind, A, B, C, S, T. -/
structure Step where
  k : Int
  a : Int
  b : Int
  c : Int
  s : ByteArray
  t : ByteArray
instance : Inhabited Step := ⟨⟨0, 0, 0, 0, ⟨#[]⟩, ⟨#[]⟩⟩⟩

/-- A step lies at this place. -/
structure StepAt (w : World) (blk off : Nat) (o : Step) : Prop where
  c0 : w.cell? ⟨blk, off, none⟩ = some (.int .i64 o.k)
  c1 : w.cell? ⟨blk, off + 1, none⟩ = some (.int .i64 o.a)
  c2 : w.cell? ⟨blk, off + 2, none⟩ = some (.int .i64 o.b)
  c3 : w.cell? ⟨blk, off + 3, none⟩ = some (.int .i64 o.c)
  c4 : w.cell? ⟨blk, off + 4, none⟩ = some (.string o.s)
  c5 : w.cell? ⟨blk, off + 5, none⟩ = some (.string o.t)

/-- The script, as it lies. -/
def ScriptAt (w : World) (a : Option Addr) (ops : List Step) : Prop := ∀ i o, ops[i]? = some o → ∃ blk off, a = some ⟨blk, off, none⟩ ∧ StepAt w blk (off + i * 6) o

section
variable {H : Type} {enc : TypeId × Value → H}

set_option maxRecDepth 100000 in
theorem open_step {W : World} {base n : Nat} {spare : Nat → Bool} {held : Bool} {cs : List Value} {x : DataW H × List MemPlace} (h : DataW.trod enc Try.prog W base spare held n 29 cs = some x) :
    ∃ o : Step, cs = [.int .i64 o.k, .int .i64 o.a, .int .i64 o.b, .int .i64 o.c, .string o.s, .string o.t] := by
  obtain ⟨xs, m, _, _, hl, hx, hf⟩ := DataW.trod_struct Try.underlying29 h
  rw [Try.cells29] at hl
  match cs, hl with
  | [v0, v1, v2, v3, v4, v5], _ =>
    have xl : xs.length = 6 := hx
    match xs, xl with
    | [x0, x1, x2, x3, x4, x5], _ =>
      have f0 : DataW.trod enc Try.prog W base spare held m 3 (([v0, v1, v2, v3, v4, v5].drop 0).take (Try.prog.cellsOf 3)) = some x0 := hf 0 _ rfl
      rw [Try.cells3] at f0
      have f1 : DataW.trod enc Try.prog W base spare held m 3 (([v0, v1, v2, v3, v4, v5].drop 1).take (Try.prog.cellsOf 3)) = some x1 := hf 1 _ rfl
      rw [Try.cells3] at f1
      have f2 : DataW.trod enc Try.prog W base spare held m 3 (([v0, v1, v2, v3, v4, v5].drop 2).take (Try.prog.cellsOf 3)) = some x2 := hf 2 _ rfl
      rw [Try.cells3] at f2
      have f3 : DataW.trod enc Try.prog W base spare held m 3 (([v0, v1, v2, v3, v4, v5].drop 3).take (Try.prog.cellsOf 3)) = some x3 := hf 3 _ rfl
      rw [Try.cells3] at f3
      have f4 : DataW.trod enc Try.prog W base spare held m 9 (([v0, v1, v2, v3, v4, v5].drop 4).take (Try.prog.cellsOf 9)) = some x4 := hf 4 _ rfl
      rw [Try.cells9] at f4
      have f5 : DataW.trod enc Try.prog W base spare held m 9 (([v0, v1, v2, v3, v4, v5].drop 5).take (Try.prog.cellsOf 9)) = some x5 := hf 5 _ rfl
      rw [Try.cells9] at f5
      simp only [List.drop_zero, List.drop_succ_cons, List.take_succ_cons, List.take_zero] at f0 f1 f2 f3 f4 f5
      obtain ⟨k, e0, _⟩ := DataW.trod_int Try.underlying3 f0
      obtain ⟨a, e1, _⟩ := DataW.trod_int Try.underlying3 f1
      obtain ⟨b, e2, _⟩ := DataW.trod_int Try.underlying3 f2
      obtain ⟨c, e3, _⟩ := DataW.trod_int Try.underlying3 f3
      obtain ⟨s, e4, _⟩ := DataW.trod_string Try.underlying9 f4
      obtain ⟨t, e5, _⟩ := DataW.trod_string Try.underlying9 f5
      simp only [List.cons.injEq, and_true] at e0 e1 e2 e3 e4 e5
      subst e0 e1 e2 e3 e4 e5
      exact ⟨⟨k, a, b, c, s, t⟩, rfl⟩

theorem open_script {W : World} {c0 : Value} {s : DataW H} {p0 : List MemPlace} {n : Nat} (h : DataW.trod enc Try.prog W 0 (fun _ => true) true n 22 [c0] = some (s, p0)) :
    ∃ (a : Option Addr) (cap : Nat) (ops : List Step), c0 = .slice a ops.length cap ∧ ops.length ≤ maxLen ∧ ScriptAt W a ops := by
  rcases open_slice Try.underlying22 h with ⟨hc, hx⟩ | ⟨a, len, cap, m, k, D, Pl, hc, _, hl, hm, hmm, hx, hall⟩
  · simp only [List.cons.injEq, and_true] at hc
    exact ⟨none, 0, [], hc, Nat.zero_le _, fun i o h => by simp at h⟩
  · simp only [List.cons.injEq, and_true] at hc
    simp only [if_true] at hmm
    subst hc hmm
    rw [Try.cells29] at hall
    have key : ∀ i, i < len → ∃ o : Step, ∃ blk off, a = ⟨blk, off, none⟩ ∧ StepAt W blk (off + i * 6) o := by
      intro i hi
      obtain ⟨cs', h1, h2⟩ := hall i (by omega)
      obtain ⟨_, hlen, hc⟩ := World.cells?_some h1
      obtain ⟨o, rfl⟩ := open_step h2
      obtain ⟨blk, off, spot⟩ := a
      have hc0 := hc 0 (by omega)
      have e0 : ((⟨blk, off, spot⟩ : Addr).add (i * 6)).add 0 = (⟨blk, off, spot⟩ : Addr).add (i * 6) := by simp [Addr.add]
      rw [e0] at hc0
      have hspot : spot = none ∨ i ≠ 0 := by
        by_cases h0 : i = 0
        · left
          subst h0
          have := World.cell?_spot hc0
          simpa [Addr.add] using this
        · exact .inr h0
      have hspot' : spot = none := by
        obtain ⟨cs0, g1, g2⟩ := hall 0 (by omega)
        obtain ⟨_, hlen0, hc0'⟩ := World.cells?_some g1
        obtain ⟨o0, rfl⟩ := open_step g2
        have := World.cell?_spot (hc0' 0 (by omega))
        simpa [Addr.add] using this
      subst hspot'
      have hadd : ∀ j, ((⟨blk, off, none⟩ : Addr).add (i * 6)).add j = ⟨blk, off + i * 6 + j, none⟩ := by
        intro j
        unfold Addr.add
        by_cases hi0 : i * 6 = 0 <;> by_cases hj : j = 0 <;> simp [hi0, hj, Nat.add_assoc]
      refine ⟨o, blk, off, rfl, ?_⟩
      have g := fun j hj => (hadd j) ▸ hc j hj
      exact ⟨g 0 (by omega), g 1 (by omega), g 2 (by omega), g 3 (by omega), g 4 (by omega), g 5 (by omega)⟩
    obtain ⟨f, hf⟩ := choose_lt key
    refine ⟨some a, m, (List.range len).map f, by simp, by simp; omega, fun i o ho => ?_⟩
    have hi : i < len := by
      have := (List.getElem?_eq_some_iff.1 ho).1
      simpa using this
    have : o = f i := by simpa [hi] using ho.symm
    subst this
    obtain ⟨blk, off, rfl, hs⟩ := hf i hi
    exact ⟨blk, off, rfl, hs⟩
end

theorem StepAt.keep {w w' : World} {blk off : Nat} {o : Step} (h : StepAt w blk off o) {S : Nat → Prop} (hf : Fr S w w') (hn : ¬ S blk) : StepAt w' blk off o :=
  ⟨hf.cellAt h.c0 hn, hf.cellAt h.c1 hn, hf.cellAt h.c2 hn, hf.cellAt h.c3 hn, hf.cellAt h.c4 hn, hf.cellAt h.c5 hn⟩
theorem StepAt.lt {w : World} {blk off : Nat} {o : Step} (h : StepAt w blk off o) : blk < w.heap.size := cell_lt h.c0
end Go.Proofs.Qxb6500301a
