import Derived.Test.Qxb6500302aObs4
namespace Go.Proofs.Qxb6500302a
open Go.RowKit
set_option linter.unusedSimpArgs false
set_option linter.unusedVariables false
attribute [local go_sem ↓] Go.wp_at_zero Go.wp_at_succ

theorem run_clearE {mt kt et : TypeId} (hu : Try.prog.underlying mt = some (.map kt et)) (ty : TypeId) {w : World} {b clock : Nat} {es : Array MapEntry} (h : w.heap[b]? = some (.map es clock)) :
    (Builtin.clear_ #[mt] ty #[.map (some b)]).run Try.prog w = .ok (.tuple #[]) (put w b (.map #[] clock)) := by
  have hso : (setObj b (.map #[] clock)).run Try.prog w = .ok () (put w b (.map #[] clock)) := by simp [setObj, Sem.run, h, put]
  unfold Builtin.clear_
  simp [Sem.run_bind, run_underlying hu, MapKept.run_getObj_map h, hso]

theorem BMap.at {K : Type} [DecidableEq K] {enc : K → Value} {lab : K → Lab} {w : World} {own : Own} {b : Nat} {f : K → Option (List Nat)} (h : BMap enc lab w own b f) : ∃ es clock, w.heap[b]? = some (.map es clock) := by
  obtain ⟨E, clock, h1, _⟩ := h
  exact ⟨_, _, h1⟩
theorem empty_mapC {K : Type} [DecidableEq K] {enc : K → Value} {lab : K → Lab} {w : World} {own : Own} {b c : Nat} (h : w.heap[b]? = some (.map #[] c)) : BMap enc lab w own b (fun _ => none) :=
  ⟨[], c, by rw [h]; rfl, Stamps.nil c, by simp, fun k => ⟨fun _ => rfl, fun ids h => by cases h⟩⟩

set_option maxRecDepth 20000 in
theorem Clear_any {w : World} {own : Own} {D : Nat → Prop} {p : Nat} {cs : List Tm} (h : ProgAt w own D p cs) : Calls Try.prog 23 #[.pointer (some ⟨p, 0, none⟩)] w fun e w' =>
    e = .returned (.tuple #[]) ∧ ∃ own' D', ProgAt w' own' D' p [] ∧ Fr (Foot own D) w w' ∧ Newer own D own' D' w.heap.size := by
  obtain ⟨ba, bo, bk, sl, xs, hp, h2, h3, h4, h5⟩ := h.main
  obtain ⟨ea, ca, hA⟩ := h4.mA.at
  obtain ⟨eo, co, hO⟩ := h4.mO.at
  obtain ⟨ek, ck, hK⟩ := h4.mK.at
  have nab : ba ≠ p := fun e => by have := h4.oa; rw [e, h.op] at this; simp at this
  have nob : bo ≠ p := fun e => by have := h4.oo; rw [e, h.op] at this; simp at this
  have nkb : bk ≠ p := fun e => by have := h4.ok; rw [e, h.op] at this; simp at this
  have nao : bo ≠ ba := fun e => by have := h4.oo; rw [e, h4.oa] at this; simp at this
  have nak : bk ≠ ba := fun e => by have := h4.ok; rw [e, h4.oa] at this; simp at this
  have nok : bk ≠ bo := fun e => by have := h4.ok; rw [e, h4.oo] at this; simp at this
  have cp : w.cell? ⟨p, 0, none⟩ = some sl := cell_of 0 hp rfl
  have fp : w.frozen? ⟨p, 0, none⟩ = false := frozen_of 0 hp
  -- the worlds on the way
  have hp1 : (w.setCell ⟨p, 0, none⟩ (.slice none 0 0)).heap[p]? = some (.cells #[.slice none 0 0, .map (some ba), .map (some bo), .map (some bk)] 52) := by rw [heap_setCell_same _ hp]; rfl
  have hA1 : (w.setCell ⟨p, 0, none⟩ (.slice none 0 0)).heap[ba]? = some (.map ea ca) := by rw [heap_setCell_other _ nab]; exact hA
  have hO1 : (w.setCell ⟨p, 0, none⟩ (.slice none 0 0)).heap[bo]? = some (.map eo co) := by rw [heap_setCell_other _ nob]; exact hO
  have hK1 : (w.setCell ⟨p, 0, none⟩ (.slice none 0 0)).heap[bk]? = some (.map ek ck) := by rw [heap_setCell_other _ nkb]; exact hK
  have F1 : Fr (Foot own D) w (w.setCell ⟨p, 0, none⟩ (.slice none 0 0)) := (Fr.refl _ w).setCell (fun _ => .inl (by rw [h.op]; simp)) _
  have hsz1 : (w.setCell ⟨p, 0, none⟩ (.slice none 0 0)).heap.size = w.heap.size := by simp [World.setCell]
  go_enter Try.func23, Try.ntmps23
  generalize hW1 : w.setCell ⟨p, 0, none⟩ (.slice none 0 0) = W1 at *
  have R1 : ∀ ty, (Builtin.clear_ #[48] ty #[.map (some ba)]).run Try.prog W1 = _ := fun ty => run_clearE Try.underlying48 ty hA1
  have hp2 : (put W1 ba (.map #[] ca)).heap[p]? = _ := (heap_put_other _ nab.symm).trans hp1
  have hA2 : (put W1 ba (.map #[] ca)).heap[ba]? = some (.map #[] ca) := heap_put_same _ hA1
  have hO2 : (put W1 ba (.map #[] ca)).heap[bo]? = _ := (heap_put_other _ nao).trans hO1
  have hK2 : (put W1 ba (.map #[] ca)).heap[bk]? = _ := (heap_put_other _ nak).trans hK1
  have F2 := F1.put (b := ba) (fun _ => .inl (by rw [h4.oa]; simp)) (.map #[] ca)
  have hsz2 := size_put W1 ba (.map #[] ca)
  generalize put W1 ba (.map #[] ca) = W2 at *
  have R2 : ∀ ty, (Builtin.clear_ #[48] ty #[.map (some bo)]).run Try.prog W2 = _ := fun ty => run_clearE Try.underlying48 ty hO2
  have hp3 : (put W2 bo (.map #[] co)).heap[p]? = _ := (heap_put_other _ nob.symm).trans hp2
  have hA3 : (put W2 bo (.map #[] co)).heap[ba]? = _ := (heap_put_other _ nao.symm).trans hA2
  have hO3 : (put W2 bo (.map #[] co)).heap[bo]? = some (.map #[] co) := heap_put_same _ hO2
  have hK3 : (put W2 bo (.map #[] co)).heap[bk]? = _ := (heap_put_other _ nok).trans hK2
  have F3 := F2.put (b := bo) (fun _ => .inl (by rw [h4.oo]; simp)) (.map #[] co)
  have hsz3 := size_put W2 bo (.map #[] co)
  generalize put W2 bo (.map #[] co) = W3 at *
  have R3 : ∀ ty, (Builtin.clear_ #[49] ty #[.map (some bk)]).run Try.prog W3 = _ := fun ty => run_clearE Try.underlying49 ty hK3
  have hp4 : (put W3 bk (.map #[] ck)).heap[p]? = _ := (heap_put_other _ nkb.symm).trans hp3
  have hA4 : (put W3 bk (.map #[] ck)).heap[ba]? = _ := (heap_put_other _ nak.symm).trans hA3
  have hO4 : (put W3 bk (.map #[] ck)).heap[bo]? = _ := (heap_put_other _ nok.symm).trans hO3
  have hK4 : (put W3 bk (.map #[] ck)).heap[bk]? = some (.map #[] ck) := heap_put_same _ hK3
  have F4 := F3.put (b := bk) (fun _ => .inl (by rw [h4.ok]; simp)) (.map #[] ck)
  have hsz4 := size_put W3 bk (.map #[] ck)
  generalize put W3 bk (.map #[] ck) = W4 at *
  have c1 := cell_of 1 hp1 rfl
  have c2 := cell_of 2 hp2 rfl
  have c3 := cell_of 3 hp3 rfl
  go_wp2_with fail
  go_end0
  have eA : fAll [] = fun _ => none := by funext k; simp [fAll, idsF, optL]
  have eO : fOpen [] = fun _ => none := by funext k; simp [fOpen, idsF, optL]
  have eK : fKey [] = fun _ => none := by funext k; simp [fKey]
  refine ⟨rfl, own, No, ⟨⟨ba, bo, bk, .slice none 0 0, [], hp4, World.ownsRow_nil _ _ _ _, fun g hg => by simp [Value.ownBlock] at hg, ⟨h4.oa, h4.oo, h4.ok, ?_, ?_, ?_, fun g l hg => by have := h4.lt g l hg; omega⟩, fun i x t hx _ => by simp at hx⟩,
    h.op, fun k hk => hk.elim, fun k hk => hk.elim, by simp, fun t ht => by cases ht⟩, F4, fun k hk => hk.elim (fun h => .inl (.inl h)) (fun h => h.elim)⟩
  · rw [eA]; exact empty_mapC hA4
  · rw [eO]; exact empty_mapC hO4
  · rw [eK]; exact empty_mapC hK4
end Go.Proofs.Qxb6500302a
