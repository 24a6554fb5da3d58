/-
  Base of the walks over seat b6500301a: a frame relation on worlds, and what a block of cells gives the walk.
-/
import Derived.Test.Qxb6500301aProg
import Derived.WalkKit
import Derived.WalkSpells
import Derived.WalkLawsBesides
import Derived.Deep.QuietTactic
import Derived.Deep.LoopGhost
import Derived.BigQuiet
import Derived.BigRegion
import Derived.Laws.OwnMore
import Derived.Deep.AppendLies
import Derived.Deep.DeepAppendRoom
import Derived.Deep.Upon
import Derived.OneCell
import Derived.WalkSmall
import Derived.Laws.IdiomStrings
import Derived.Deep.RegionHeld3
import Derived.Deep.DrawnRows
import Derived.Deep.CutRange
import Derived.Maps.AppendAt
namespace Go.Proofs.Qxb6500301a
open Go.RowKit
set_option linter.unusedSimpArgs false
set_option linter.unusedVariables false

theorem cell_of {w : World} {b : Nat} {cs : Array Value} {T : TypeId} {fz : Nat × Nat} {v : Value} (i : Nat) (h : w.heap[b]? = some (.cells cs T fz)) (hv : cs[i]? = some v) :
    w.cell? ⟨b, i, none⟩ = some v := by
  simp [World.cell?, h, hv]
theorem frozen_of {w : World} {b : Nat} {cs : Array Value} {T : TypeId} (i : Nat) (h : w.heap[b]? = some (.cells cs T)) :
    w.frozen? ⟨b, i, none⟩ = false := by
  simp [World.frozen?, h]
theorem lt_of_heap {w : World} {b : Nat} {o : Obj} (h : w.heap[b]? = some o) : b < w.heap.size := by
  rcases Nat.lt_or_ge b w.heap.size with h' | h'
  · exact h'
  · simp [Array.getElem?_eq_none h'] at h

/-- The world w' is w but for the old blocks of which S holds, and for new blocks. -/
structure Fr (S : Nat → Prop) (w w' : World) : Prop where
  os : w'.os = w.os
  tape : w'.tape = w.tape
  output : w'.output = w.output
  size : w.heap.size ≤ w'.heap.size
  block : ∀ k, k < w.heap.size → ¬ S k → w'.heap[k]? = w.heap[k]?

def No (_ : Nat) : Prop := False

theorem Fr.refl (S : Nat → Prop) (w : World) : Fr S w w := ⟨rfl, rfl, rfl, Nat.le_refl _, fun _ _ _ => rfl⟩
theorem Fr.trans {S S' : Nat → Prop} {a b c : World} (h : Fr S a b) (k : Fr S' b c) (hS : ∀ k, k < a.heap.size → S' k → S k) : Fr S a c :=
  ⟨k.os.trans h.os, k.tape.trans h.tape, k.output.trans h.output, Nat.le_trans h.size k.size,
    fun i hi hn => (k.block i (Nat.lt_of_lt_of_le hi h.size) (fun hs => hn (hS i hi hs))).trans (h.block i hi hn)⟩
theorem Fr.mono {S S' : Nat → Prop} {w w' : World} (h : Fr S w w') (hS : ∀ k, k < w.heap.size → S k → S' k) : Fr S' w w' :=
  ⟨h.os, h.tape, h.output, h.size, fun k hk hn => h.block k hk (fun hs => hn (hS k hk hs))⟩
theorem Fr.drew {S : Nat → Prop} {a w : World} (h : Fr S a w) : Fr S a w.drew := ⟨h.os, h.tape, h.output, h.size, h.block⟩
theorem Fr.drewN {S : Nat → Prop} {a w : World} (h : Fr S a w) (n : Nat) : Fr S a (w.drewN n) := ⟨h.os, h.tape, h.output, h.size, h.block⟩
theorem Fr.alloc {S : Nat → Prop} {a w : World} (h : Fr S a w) (o : Obj) : Fr S a (w.alloc o) :=
  h.trans (S' := No) ⟨rfl, rfl, rfl, by simp, fun k hk _ => Below.heap_alloc _ _ _ hk⟩ (fun _ _ hs => hs.elim)
theorem Fr.setCell {S : Nat → Prop} {a w : World} (h : Fr S a w) {p : Addr} (hp : p.block < a.heap.size → S p.block) (u : Value) : Fr S a (w.setCell p u) :=
  h.trans (S' := fun k => k = p.block) ⟨rfl, rfl, rfl, by simp [World.setCell], fun k _ hn => Below.heap_setCell _ _ _ _ hn⟩ (fun k hk e => by subst e; exact hp hk)
theorem Fr.grown {S : Nat → Prop} {a w w' : World} {row : Option Nat} (h : Fr S a w) (hg : w.grownBy w' row) (hr : ∀ k, row = some k → k < a.heap.size → S k) : Fr S a w' :=
  h.trans (S' := fun k => row = some k) ⟨hg.os, hg.tape, hg.output, hg.size, fun k hk hn => hg.block k hk (fun e => hn e.symm)⟩ (fun k hk e => hr k e hk)
theorem Fr.keep {S : Nat → Prop} {w w' : World} (h : Fr S w w') {b : Nat} {o : Obj} (hb : w.heap[b]? = some o) (hn : ¬ S b) : w'.heap[b]? = some o :=
  (h.block b (lt_of_heap hb) hn).trans hb
theorem Fr.below {S : Nat → Prop} {w w' : World} (h : Fr S w w') {B : Nat} (hB : B ≤ w.heap.size) (hn : ∀ k, k < B → ¬ S k) : Below B w w' :=
  ⟨h.os, h.tape, h.output, h.size, fun k hk => h.block k (by omega) (hn k hk)⟩

theorem heap_setCell_same {w : World} {b i : Nat} {cs : Array Value} {T : TypeId} {fz : Nat × Nat} (v : Value) (h : w.heap[b]? = some (.cells cs T fz)) :
    (w.setCell ⟨b, i, none⟩ v).heap[b]? = some (.cells (cs.setIfInBounds i v) T fz) := by
  simp [World.setCell, Array.getElem?_modify, h]
theorem heap_setCell_other {w : World} {b k i : Nat} (v : Value) (h : k ≠ b) :
    (w.setCell ⟨b, i, none⟩ v).heap[k]? = w.heap[k]? := Below.heap_setCell _ _ _ _ h
theorem heap_alloc_same (w : World) (o : Obj) : (w.alloc o).heap[w.heap.size]? = some o := (MapKept.heap_alloc w _).1
theorem heap_alloc_keep {w : World} {o p : Obj} {b : Nat} (h : w.heap[b]? = some p) : (w.alloc o).heap[b]? = some p :=
  (Below.heap_alloc _ _ _ (lt_of_heap h)).trans h

/-- Block b holds the object o; all else is as it was. -/
def put (w : World) (b : Nat) (o : Obj) : World := { w with heap := w.heap.setIfInBounds b o }
theorem heap_put_same {w : World} {b : Nat} {p : Obj} (o : Obj) (h : w.heap[b]? = some p) : (put w b o).heap[b]? = some o := (MapKept.heap_set h).1
theorem heap_put_other {w : World} {b k : Nat} (o : Obj) (h : k ≠ b) : (put w b o).heap[k]? = w.heap[k]? := by
  simp [put, Ne.symm h]
theorem size_put (w : World) (b : Nat) (o : Obj) : (put w b o).heap.size = w.heap.size := by simp [put]
theorem Fr.put {S : Nat → Prop} {a w : World} (h : Fr S a w) {b : Nat} (hp : b < a.heap.size → S b) (o : Obj) : Fr S a (put w b o) :=
  h.trans (S' := fun k => k = b) ⟨rfl, rfl, rfl, by rw [size_put]; exact Nat.le_refl _, fun k _ hn => heap_put_other _ hn⟩ (fun k hk e => by subst e; exact hp hk)
theorem cell_put_other {w : World} {b : Nat} {a : Addr} (o : Obj) (h : a.block ≠ b) : (Go.Proofs.Qxb6500301a.put w b o).cell? a = w.cell? a :=
  World.cell?_of_block (heap_put_other o h)
theorem frozen_put_other {w : World} {b : Nat} {a : Addr} (o : Obj) (h : a.block ≠ b) : (Go.Proofs.Qxb6500301a.put w b o).frozen? a = w.frozen? a :=
  World.frozen?_of_block (heap_put_other o h)
theorem ownsRow_keep {S : Nat → Prop} {w w' : World} {base e size : Nat} {v : Value} {n : Nat} {xs : List Value} (h : w.ownsRow base e size v n xs) (hf : Fr S w w') (hn : ∀ k, v.ownBlock = some k → ¬ S k) : w'.ownsRow base e size v n xs := by
  obtain ⟨h1, h2⟩ := h
  refine ⟨h1, ?_⟩
  rcases h2 with h2 | ⟨g, cap, cur, hv, hg, hh, r⟩
  · exact .inl h2
  · exact .inr ⟨g, cap, cur, hv, hg, hf.keep hh (hn g (by rw [hv]; rfl)), r⟩
theorem owns_slice {w : World} {base e size n : Nat} {v : Value} {xs : List Value} (h : w.ownsRow base e size v n xs) : ∃ bs cap, v = .slice bs n cap := by
  rcases h.2 with ⟨hv, h0⟩ | ⟨g, cap, cur, hv, _⟩
  · subst h0; exact ⟨_, _, hv⟩
  · exact ⟨_, _, hv⟩
theorem heap_grown {w w' : World} {row : Option Nat} {b : Nat} {o : Obj} (hg : w.grownBy w' row) (hb : w.heap[b]? = some o) (hn : row ≠ some b) : w'.heap[b]? = some o :=
  (hg.block b (lt_of_heap hb) (fun e => hn e.symm)).trans hb
theorem add_zero_addr (g i : Nat) : (⟨g, 0, none⟩ : Addr).add i = ⟨g, i, none⟩ := by
  by_cases h0 : i = 0
  · subst h0; rfl
  · simp [Addr.add, h0]
/-- What was read behind an address is still read. -/
theorem Fr.cellNo {w w' : World} (h : Fr No w w') {a : Addr} {v : Value} (hc : w.cell? a = some v) : w'.cell? a = some v := by
  have hlt : a.block < w.heap.size := by
    rcases Nat.lt_or_ge a.block w.heap.size with h | h
    · exact h
    · unfold World.cell? at hc
      rw [Array.getElem?_eq_none h] at hc
      simp at hc
  rw [← hc]
  exact World.cell?_of_block (h.block a.block hlt (fun h => h))
theorem cell_lt {w : World} {a : Addr} {v : Value} (h : w.cell? a = some v) : a.block < w.heap.size := by
  rcases Nat.lt_or_ge a.block w.heap.size with h' | h'
  · exact h'
  · unfold World.cell? at h
    rw [Array.getElem?_eq_none h'] at h
    split at h <;> simp_all
theorem Fr.cellAt {S : Nat → Prop} {w w' : World} (h : Fr S w w') {a : Addr} {v : Value} (hc : w.cell? a = some v) (hn : ¬ S a.block) : w'.cell? a = some v :=
  (World.cell?_of_block (h.block _ (cell_lt hc) hn)).trans hc
theorem owns_cell {w : World} {base : Nat} {e : TypeId} {n cap : Nat} {ad : Addr} {xs : List Value} (h : w.ownsRow base e 1 (.slice (some ad) n cap) n xs) : ∀ j u, xs[j]? = some u → w.cell? (ad.add j) = some u := by
  intro j u hj
  rcases h.2 with ⟨e, h0⟩ | ⟨g, cap', cur, hv, _, hg, hn, _, hcs, htake⟩
  · cases e
  · cases hv
    have hlt : j < n := by
      have := (List.getElem?_eq_some_iff.1 hj).1
      have h2 := h.1
      omega
    rw [← htake, List.getElem?_take, if_pos (by omega), Array.getElem?_toList] at hj
    have := cell_of j hg hj
    by_cases h0 : j = 0
    · subst h0; simpa [Addr.add] using this
    · simpa [Addr.add, h0] using this
/-- The string of these bytes. -/
def S (l : List UInt8) : ByteArray := ⟨l.toArray⟩
theorem S_size (l : List UInt8) : (S l).size = l.length := by simp [S, ByteArray.size]
theorem S_list (l : List UInt8) : (S l).data.toList = l := by simp [S]
theorem S_of (s : ByteArray) : S s.data.toList = s := by cases s; rfl
theorem S_inj {a b : List UInt8} (h : S a = S b) : a = b := by have := congrArg (fun s => s.data.toList) h; simpa [S] using this
theorem S_nil : S [] = { data := #[] } := rfl
theorem S_append (a b : List UInt8) : S a ++ S b = S (a ++ b) := by
  apply ByteArray.ext
  simp [S]
theorem add_S (a b : List UInt8) (h : a.length + b.length ≤ 1000000) (w : World) : (Op.stringOp .add (S a) (S b)).run Try.prog w = .ok (.string (S (a ++ b))) w := by
  rw [run_string_add_sum w (S a) (S b) (by rw [S_size, S_size]; omega), S_append]
theorem add_S' (a : List UInt8) {b : ByteArray} (l : List UInt8) (hb : b = S l) (h : a.length + l.length ≤ 1000000) (w : World) : (Op.stringOp .add (S a) b).run Try.prog w = .ok (.string (S (a ++ l))) w := by
  rw [hb]; exact add_S a l h w
theorem idx_Int {l : List UInt8} {i : Int} {c : UInt8} (h0 : 0 ≤ i) (h : l[i.toNat]? = some c) (w : World) : (Instr.index 9 (.string (S l)) (.int .i64 i)).run Try.prog w = .ok (.int .u8 (c.toNat : Int)) w := by
  have hlt : i.toNat < l.length := (List.getElem?_eq_some_iff.1 h).1
  rw [run_index_string w 9 (S l) .i64 i Try.underlying9, dif_pos ⟨h0, by rw [S_size]; omega⟩]
  have e : (S l)[i.toNat]'(by rw [S_size]; exact hlt) = c := by
    have h2 := (List.getElem?_eq_some_iff.1 h).2
    rw [← h2]
    simp [S, ByteArray.getElem_eq_getElem_data]
  rw [e]
theorem slice_Int {l m : List UInt8} {i j : Int} (h0 : 0 ≤ i) (h1 : i ≤ j) (h2 : j ≤ (l.length : Int)) (h : (l.drop i.toNat).take (j.toNat - i.toNat) = m) (w : World) :
    (Instr.slice 9 (.string (S l)) (some (.int .i64 i)) (some (.int .i64 j)) none).run Try.prog w = .ok (.string (S m)) w := by
  rw [run_slice_string_if w 9 (S l) .i64 .i64 i j Try.underlying9, if_pos ⟨by omega, by rw [S_size]; exact h2⟩, if_pos ⟨h0, h1⟩]
  congr 2
  rw [← h]
  apply ByteArray.ext
  simp [S]
theorem slice_one {l : List UInt8} {i : Nat} {c : UInt8} (h : l[i]? = some c) (w : World) : (Instr.slice 9 (.string (S l)) (some (.int .i64 (i : Int))) (some (.int .i64 ((i : Int) + 1))) none).run Try.prog w = .ok (.string (S [c])) w := by
  have hlt : i < l.length := (List.getElem?_eq_some_iff.1 h).1
  refine slice_Int (by omega) (by omega) (by omega) ?_ w
  have e1 : ((i : Int)).toNat = i := by omega
  have e2 : ((i : Int) + 1).toNat - i = 1 := by omega
  rw [e1, e2, List.drop_eq_getElem_cons hlt]
  have h2 := (List.getElem?_eq_some_iff.1 h).2
  simp [h2]

/-- A slice from the head of a block. -/
abbrev sl (g n cap : Nat) : Value := .slice (some ⟨g, 0, none⟩) n cap
end Go.Proofs.Qxb6500301a
