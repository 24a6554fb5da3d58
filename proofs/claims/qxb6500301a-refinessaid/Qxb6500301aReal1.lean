import Derived.Test.Qxb6500301aBase
import Derived.Test.Qxb6500301aPlain3
namespace Go.Proofs.Qxb6500301a
open Go.RowKit
set_option linter.unusedSimpArgs false
set_option linter.unusedVariables false
attribute [local go_sem ↓] Go.wp_at_zero Go.wp_at_succ
attribute [-go_sem] Go.run_string_add_if Go.run_index_string Go.run_slice_string_if

/-! ### The real heap in memory -/
def argsOf : Nd → List Nat
  | .v _ => []
  | .s _ _ es => es
def allArgs (ns : List Nd) : List Nat := ns.flatMap argsOf
def aLen (ns : List Nd) : Nat := (allArgs ns).length
def n32 (k : Nat) : Value := .int .i32 (k : Int)
def tagV : Nd → Value
  | .v none => .int .i8 0
  | .v (some _) => .int .i8 2
  | .s _ _ _ => .int .i8 1
def headV : Nd → List Value
  | .v _ => [.int .u8 0, .int .u8 0]
  | .s c d _ => [.int .u8 (c.toNat : Int), .int .u8 (d.toNat : Int)]
def headsV (ns : List Nd) : List Value := ns.flatMap headV
def markV (x : Nat × List Nd) : List Value := [n32 x.2.length, n32 (aLen x.2), n32 x.1]
def marksV (tms : List Nat) (saved : List (List Nd)) : List Value := ((tms.zip saved).reverse).flatMap markV

/-- The six blocks. -/
structure Blks where
  t : Nat
  w : Nat
  h : Nat
  a : Nat
  r : Nat
  m : Nat
def Blks.Has (B : Blks) (p k : Nat) : Prop := k = p ∨ k = B.t ∨ k = B.w ∨ k = B.h ∨ k = B.a ∨ k = B.r ∨ k = B.m
structure Blks.Apart (B : Blks) (p : Nat) : Prop where
  p : p ≠ B.t ∧ p ≠ B.w ∧ p ≠ B.h ∧ p ≠ B.a ∧ p ≠ B.r ∧ p ≠ B.m
  t : B.t ≠ B.w ∧ B.t ≠ B.h ∧ B.t ≠ B.a ∧ B.t ≠ B.r ∧ B.t ≠ B.m
  w : B.w ≠ B.h ∧ B.w ≠ B.a ∧ B.w ≠ B.r ∧ B.w ≠ B.m
  h : B.h ≠ B.a ∧ B.h ≠ B.r ∧ B.h ≠ B.m
  a : B.a ≠ B.r ∧ B.a ≠ B.m
  r : B.r ≠ B.m

/-- The words, where they mean something. -/
def Words (ns : List Nd) (ws : List Int) : Prop := ws.length = ns.length ∧ ∀ (i : Nat) (x : Nd), ns[i]? = some x → match x with
  | .v none => True
  | .v (some r) => ws[i]? = some (r : Int)
  | .s _ _ _ => ws[i]? = some (aLen (ns.take i) : Int)

def topV (B : Blks) (n na nt nm : Nat) : Array Value := #[sl B.t n 64, sl B.w n 64, sl B.h (2 * n) 128, sl B.a na 256, sl B.r nt 64, sl B.m nm 26]

structure RAt (w : World) (p : Nat) (B : Blks) (ns : List Nd) (ws : List Int) (tr tms : List Nat) (saved : List (List Nd)) : Prop where
  top : w.heap[p]? = some (.cells (topV B ns.length (aLen ns) tr.length tms.length) 56)
  rt : w.ownsRow 0 63 1 (sl B.t ns.length 64) ns.length (ns.map tagV)
  rw : w.ownsRow 0 21 1 (sl B.w ns.length 64) ns.length (ws.map (fun x => .int .i32 x))
  rh : w.ownsRow 0 5 1 (sl B.h (2 * ns.length) 128) (2 * ns.length) (headsV ns)
  ra : w.ownsRow 0 21 1 (sl B.a (aLen ns) 256) (aLen ns) ((allArgs ns).map n32)
  rr : w.ownsRow 0 21 1 (sl B.r tr.length 64) tr.length (tr.map n32)
  rm : w.ownsRow 0 60 3 (sl B.m tms.length 26) tms.length (marksV tms saved)
  words : Words ns ws
  apart : B.Apart p

structure HeapAt (w : World) (p : Nat) (B : Blks) (ns : List Nd) (saved : List (List Nd)) : Prop where
  main : ∃ ws tr tms, RAt w p B ns ws tr tms saved ∧ Inv ns tr ((saved.map List.length).zip tms) ∧ saved = savedOf ns tr ((saved.map List.length).zip tms) ∧ tms.length = saved.length ∧ saved.length ≤ 26

theorem own_sl {g n cap k : Nat} (h : (sl g n cap).ownBlock = some k) : k = g := by
  have : g = k := by simpa [sl, Value.ownBlock] using h
  exact this.symm

theorem RAt.keep {w w' : World} {p : Nat} {B : Blks} {ns : List Nd} {ws : List Int} {tr tms : List Nat} {saved : List (List Nd)} (h : RAt w p B ns ws tr tms saved) {T : Nat → Prop} (hf : Fr T w w') (hT : ∀ k, B.Has p k → ¬ T k) : RAt w' p B ns ws tr tms saved :=
  ⟨hf.keep h.top (hT _ (.inl rfl)), ownsRow_keep h.rt hf (fun k hk => by rw [own_sl hk]; exact hT _ (by simp [Blks.Has])), ownsRow_keep h.rw hf (fun k hk => by rw [own_sl hk]; exact hT _ (by simp [Blks.Has])),
   ownsRow_keep h.rh hf (fun k hk => by rw [own_sl hk]; exact hT _ (by simp [Blks.Has])), ownsRow_keep h.ra hf (fun k hk => by rw [own_sl hk]; exact hT _ (by simp [Blks.Has])),
   ownsRow_keep h.rr hf (fun k hk => by rw [own_sl hk]; exact hT _ (by simp [Blks.Has])), ownsRow_keep h.rm hf (fun k hk => by rw [own_sl hk]; exact hT _ (by simp [Blks.Has])), h.words, h.apart⟩
theorem HeapAt.keep {w w' : World} {p : Nat} {B : Blks} {ns : List Nd} {saved : List (List Nd)} (h : HeapAt w p B ns saved) {T : Nat → Prop} (hf : Fr T w w') (hT : ∀ k, B.Has p k → ¬ T k) : HeapAt w' p B ns saved := by
  obtain ⟨ws, tr, tms, h1, h2⟩ := h.main
  exact ⟨ws, tr, tms, h1.keep hf hT, h2⟩
theorem RAt.lt {w : World} {p : Nat} {B : Blks} {ns : List Nd} {ws : List Int} {tr tms : List Nat} {saved : List (List Nd)} (h : RAt w p B ns ws tr tms saved) {k : Nat} (hk : B.Has p k) : k < w.heap.size := by
  rcases hk with rfl | rfl | rfl | rfl | rfl | rfl | rfl
  · exact lt_of_heap h.top
  · exact (h.rt.lt _ rfl).2
  · exact (h.rw.lt _ rfl).2
  · exact (h.rh.lt _ rfl).2
  · exact (h.ra.lt _ rfl).2
  · exact (h.rr.lt _ rfl).2
  · exact (h.rm.lt _ rfl).2

section
variable {w : World} {p : Nat} {B : Blks} {ns : List Nd} {ws : List Int} {tr tms : List Nat} {saved : List (List Nd)}

theorem RAt.p0 (h : RAt w p B ns ws tr tms saved) : w.cell? ⟨p, 0, none⟩ = some (.slice (some ⟨B.t, 0, none⟩) ns.length 64) := cell_of 0 h.top rfl
theorem RAt.p1 (h : RAt w p B ns ws tr tms saved) : w.cell? ⟨p, 1, none⟩ = some (.slice (some ⟨B.w, 0, none⟩) ns.length 64) := cell_of 1 h.top rfl
theorem RAt.p2 (h : RAt w p B ns ws tr tms saved) : w.cell? ⟨p, 2, none⟩ = some (.slice (some ⟨B.h, 0, none⟩) (2 * ns.length) 128) := cell_of 2 h.top rfl
theorem RAt.p3 (h : RAt w p B ns ws tr tms saved) : w.cell? ⟨p, 3, none⟩ = some (.slice (some ⟨B.a, 0, none⟩) (aLen ns) 256) := cell_of 3 h.top rfl
theorem RAt.p4 (h : RAt w p B ns ws tr tms saved) : w.cell? ⟨p, 4, none⟩ = some (.slice (some ⟨B.r, 0, none⟩) tr.length 64) := cell_of 4 h.top rfl
theorem RAt.p5 (h : RAt w p B ns ws tr tms saved) : w.cell? ⟨p, 5, none⟩ = some (.slice (some ⟨B.m, 0, none⟩) tms.length 26) := cell_of 5 h.top rfl
theorem RAt.tag (h : RAt w p B ns ws tr tms saved) {i : Nat} {x : Nd} (hx : ns[i]? = some x) : w.cell? ⟨B.t, i, none⟩ = some (tagV x) := by
  have hi := lt_of_some hx
  rw [h.rt.cellAt i (by omega)]; simp [hx]
theorem RAt.word (h : RAt w p B ns ws tr tms saved) {i : Nat} {x : Int} (hx : ws[i]? = some x) : w.cell? ⟨B.w, i, none⟩ = some (.int .i32 x) := by
  have hi := (List.getElem?_eq_some_iff.1 hx).1
  have := h.words.1
  rw [h.rw.cellAt i (by omega)]; simp [hx]
theorem flatMap2 {x : Nd} : ∀ {ns : List Nd} {i : Nat}, ns[i]? = some x → (headsV ns)[2 * i]? = (headV x)[0]? ∧ (headsV ns)[2 * i + 1]? = (headV x)[1]?
  | [], i, h => by simp at h
  | y :: ns, 0, h => by
    simp at h; subst h
    unfold headsV
    cases y <;> simp [headV]
  | y :: ns, i + 1, h => by
    have := flatMap2 (ns := ns) (i := i) (by simpa using h)
    have e1 : 2 * (i + 1) = 2 * i + 2 := by omega
    rw [e1]
    unfold headsV at this ⊢
    cases y <;> simpa [headV] using this
theorem headsV_len (ns : List Nd) : (headsV ns).length = 2 * ns.length := by
  induction ns with
  | nil => rfl
  | cons x ns ih =>
    have : headsV (x :: ns) = headV x ++ headsV ns := rfl
    rw [this, List.length_append, ih]
    cases x <;> simp [headV] <;> omega
theorem RAt.head0 (h : RAt w p B ns ws tr tms saved) {i : Nat} {c d : UInt8} {es : List Nat} (hx : ns[i]? = some (.s c d es)) : w.cell? ⟨B.h, 2 * i, none⟩ = some (.int .u8 (c.toNat : Int)) := by
  have hi := lt_of_some hx
  rw [h.rh.cellAt (2 * i) (by omega), (flatMap2 hx).1]; rfl
theorem RAt.head1 (h : RAt w p B ns ws tr tms saved) {i : Nat} {c d : UInt8} {es : List Nat} (hx : ns[i]? = some (.s c d es)) : w.cell? ⟨B.h, 2 * i + 1, none⟩ = some (.int .u8 (d.toNat : Int)) := by
  have hi := lt_of_some hx
  rw [h.rh.cellAt (2 * i + 1) (by omega), (flatMap2 hx).2]; rfl
theorem args_at : ∀ {ns : List Nd} {i : Nat} {c d : UInt8} {es : List Nat}, ns[i]? = some (.s c d es) → ∃ r, allArgs ns = allArgs (ns.take i) ++ es ++ r
  | [], i, c, d, es, h => by simp at h
  | y :: ns, 0, c, d, es, h => by
    simp at h; subst h
    exact ⟨allArgs ns, by simp [allArgs, argsOf]⟩
  | y :: ns, i + 1, c, d, es, h => by
    obtain ⟨r, hr⟩ := args_at (ns := ns) (i := i) (by simpa using h)
    refine ⟨r, ?_⟩
    show argsOf y ++ allArgs ns = argsOf y ++ allArgs (ns.take i) ++ es ++ r
    rw [hr]; simp
theorem RAt.arg (h : RAt w p B ns ws tr tms saved) {i : Nat} {c d : UInt8} {es : List Nat} (hx : ns[i]? = some (.s c d es)) {j k : Nat} (hk : es[j]? = some k) : w.cell? ⟨B.a, aLen (ns.take i) + j, none⟩ = some (n32 k) := by
  obtain ⟨r, hr⟩ := args_at hx
  have hj := (List.getElem?_eq_some_iff.1 hk).1
  have hl : aLen ns = aLen (ns.take i) + es.length + r.length := by unfold aLen; rw [hr]; simp; omega
  rw [h.ra.cellAt _ (by omega), hr]
  unfold aLen
  rw [List.getElem?_map, List.append_assoc, List.getElem?_append_right (by omega), List.getElem?_append_left (by omega)]
  simp [hk]
theorem aLen_le (h : WfN ns) : aLen ns ≤ 4 * ns.length := by
  have : ∀ l : List Nd, (∀ x ∈ l, (argsOf x).length ≤ 4) → aLen l ≤ 4 * l.length := by
    intro l
    induction l with
    | nil => intro _; simp [aLen, allArgs]
    | cons x l ih =>
      intro hx
      have h1 := hx x (by simp)
      have h2 := ih (fun y hy => hx y (by simp [hy]))
      have : aLen (x :: l) = (argsOf x).length + aLen l := by simp [aLen, allArgs]
      rw [this]; simp; omega
  apply this
  intro x hx
  obtain ⟨i, hi, e⟩ := List.getElem_of_mem hx
  cases x with
  | v q => simp [argsOf]
  | s c d es =>
    have := h.arg i c d es (by rw [List.getElem?_eq_getElem hi, e])
    simp [argsOf]; omega

theorem top_any (h : HeapAt w p B ns saved) : Calls Try.prog 10 #[.pointer (some ⟨p, 0, none⟩)] w fun e w' => e = .returned (.int .i64 (ns.length : Int)) ∧ w' = w := by
  obtain ⟨ws, tr, tms, h1, -⟩ := h.main
  have c0 := h1.p0
  go_enter Try.func10, Try.ntmps10
  go_wp2_with fail
  go_ret
  exact ⟨rfl, rfl⟩
theorem marks_any (h : HeapAt w p B ns saved) : Calls Try.prog 18 #[.pointer (some ⟨p, 0, none⟩)] w fun e w' => e = .returned (.int .i64 (saved.length : Int)) ∧ w' = w := by
  obtain ⟨ws, tr, tms, h1, -, -, h2, -⟩ := h.main
  have c0 := h1.p5
  rw [h2] at c0
  clear h1 h2
  go_enter Try.func18, Try.ntmps18
  go_wp2_with fail
  go_ret
  exact ⟨rfl, rfl⟩

set_option maxRecDepth 20000 in
theorem deref_any (h : RAt w p B ns ws tr tms saved) (hw : WfN ns) (hs : ns.length ≤ 64) {a : Nat} (ha : a < ns.length) : Calls Try.prog 24 #[.pointer (some ⟨p, 0, none⟩), .int .i32 (a : Int)] w fun e w' => e = .returned (.int .i32 (deref ns a : Int)) ∧ w' = w := by
  have c0 := h.p0
  have c1 := h.p1
  have HB : Hid (∀ i r, ns[i]? = some (.v (some r)) → r < ns.length ∧ (∀ q, ns[r]? = some (Nd.v q) → r < i) ∧ deref ns i = deref ns r) := fun i r hi => ⟨(hw.ref i r hi).1, (hw.ref i r hi).2, deref_bound hw hi⟩
  have HT : Hid (∀ i x, ns[i]? = some x → w.cell? ⟨B.t, i, none⟩ = some (tagV x)) := fun i x hx => h.tag hx
  have HW : Hid (∀ (i r : Nat), ns[i]? = some (.v (some r)) → w.cell? ⟨B.w, i, none⟩ = some (.int .i32 (r : Int))) := fun i r hx => h.word (h.words.2 i _ hx)
  have HF : Hid (∀ a, (∀ r, ns[a]? ≠ some (.v (some r))) → deref ns a = a) := fun a => deref_free
  go_enter Try.func24, Try.ntmps24
  go_wp2_with fail
  go_loopg [1] (match ns[a]? with
    | some (.v _) => a + 1
    | _ => 0) (fun gk u wr => ∃ i : Nat, u = .int .i32 (i : Int) ∧ i < ns.length ∧ Hid (deref ns a = deref ns i) ∧ Hid (gk = match ns[i]? with
    | some (.v _) => i + 1
    | _ => 0) ∧ wr = w)
  case atStart =>
    exact ⟨a, rfl, ha, rfl, rfl, rfl⟩
  case round =>
    obtain ⟨i, rfl, hi, HD, HG, rfl⟩ := hrel
    cases hx : ns[i]? with
    | none => exact absurd (List.getElem?_eq_none_iff.1 hx) (by omega)
    | some x =>
      have ct := HT.out i x hx
      cases x with
      | s c d es =>
        have HE : Hid (deref ns i = i) := HF.out i (fun r e => by rw [hx] at e; cases e)
        simp only [tagV] at ct
        clear hx
        go_wp2_with fail
        go_ret
        rw [HD.out, HE.out]
        exact ⟨rfl, rfl⟩
      | v q =>
        cases q with
        | none =>
          have HE : Hid (deref ns i = i) := HF.out i (fun r e => by rw [hx] at e; cases e)
          simp only [tagV] at ct
          clear hx
          go_wp2_with fail
          go_ret
          rw [HD.out, HE.out]
          exact ⟨rfl, rfl⟩
        | some r =>
          obtain ⟨hr, hq, hde⟩ := HB.out i r hx
          have cw := HW.out i r hx
          have hgk : gk = i + 1 := by have := HG.out; rw [hx] at this; exact this
          have HN : Hid (deref ns a = deref ns r) := by show _ = _; rw [HD.out, hde]
          have HM : Hid ((match ns[r]? with
            | some (.v _) => r + 1
            | _ => 0) < gk) := by
            show _ < _
            rw [hgk]
            cases hy : ns[r]? with
            | none => exact Nat.succ_pos _
            | some y =>
              cases y with
              | v q' => exact Nat.succ_lt_succ (hq q' hy)
              | s c d es => exact Nat.succ_pos _
          simp only [tagV] at ct
          clear hx hde hgk HG
          go_wp2_with fail
          go_roundg (match ns[r]? with
            | some (.v _) => r + 1
            | _ => 0)
          case measure => exact HM.out
          case rel => exact ⟨r, rfl, hr, HN.out, rfl, rfl⟩
end
end Go.Proofs.Qxb6500301a
