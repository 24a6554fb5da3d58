import Derived.Test.Qxb6500301aLoad3
namespace Go.Proofs.Qxb6500301a
open Go.RowKit
set_option linter.unusedSimpArgs false
set_option linter.unusedVariables false

/-! ### The six rows, each by itself -/
structure Loose (w : World) (p : Nat) (B : Blks) (T Wd Hd A R M : List Value) (nm : Nat) : Prop where
  top : w.heap[p]? = some (.cells #[sl B.t T.length 64, sl B.w Wd.length 64, sl B.h Hd.length 128, sl B.a A.length 256, sl B.r R.length 64, sl B.m nm 26] 56)
  rt : w.ownsRow 0 63 1 (sl B.t T.length 64) T.length T
  rw : w.ownsRow 0 21 1 (sl B.w Wd.length 64) Wd.length Wd
  rh : w.ownsRow 0 5 1 (sl B.h Hd.length 128) Hd.length Hd
  ra : w.ownsRow 0 21 1 (sl B.a A.length 256) A.length A
  rr : w.ownsRow 0 21 1 (sl B.r R.length 64) R.length R
  rm : w.ownsRow 0 60 3 (sl B.m nm 26) nm M
  apart : B.Apart p

section
variable {w w2 W : World} {p : Nat} {B : Blks} {T Wd Hd A R M news : List Value} {nm : Nat} {o : Obj}
theorem Loose.keep (h : Loose w p B T Wd Hd A R M nm) {S : Nat → Prop} (hf : Fr S w w2) (hT : ∀ k, B.Has p k → ¬ S k) : Loose w2 p B T Wd Hd A R M nm :=
  ⟨hf.keep h.top (hT _ (.inl rfl)), hf.rows h.rt (hT _ (by simp [Blks.Has])), hf.rows h.rw (hT _ (by simp [Blks.Has])), hf.rows h.rh (hT _ (by simp [Blks.Has])), hf.rows h.ra (hT _ (by simp [Blks.Has])), hf.rows h.rr (hT _ (by simp [Blks.Has])), hf.rows h.rm (hT _ (by simp [Blks.Has])), h.apart⟩
theorem grown_fr {g : Nat} (hf : Fr No W (W.alloc o)) (hg : (W.alloc o).grownBy w2 (some g)) : Fr (fun k => k = g) W w2 :=
  Fr.grown (S := fun k => k = g) (hf.mono (fun _ _ e => e.elim)) hg (fun k hk _ => (Option.some.inj hk).symm)
theorem Loose.addT (h : Loose W p B T Wd Hd A R M nm) (F2 : Fr (fun k => k = B.t) W w2) (hown : w2.ownsRow 0 63 1 (sl B.t (T.length + news.length) 64) (T.length + news.length) (T ++ news)) :
    Loose (w2.setCell ⟨p, 0, none⟩ (sl B.t (T.length + news.length) 64)) p B (T ++ news) Wd Hd A R M nm := by
  have ap := h.apart
  have hp2 := F2.keep h.top (fun e => ap.p.1 e)
  have F3 : Fr (fun k => k = B.t ∨ k = p) W (w2.setCell ⟨p, 0, none⟩ (sl B.t (T.length + news.length) 64)) := Fr.setCell (S := fun k => k = B.t ∨ k = p) (F2.mono (fun _ _ e => .inl e)) (fun _ => .inr rfl) _
  refine ⟨?_, ?_, F3.rows h.rw ?_, F3.rows h.rh ?_, F3.rows h.ra ?_, F3.rows h.rr ?_, F3.rows h.rm ?_, ap⟩
  · rw [heap_setCell_same _ hp2, List.length_append]; rfl
  · rw [List.length_append]
    exact ownsRow_setCell_other hown (fun e => ap.p.1 (own_sl e)) _
  · rintro (e | e); exact ap.t.1 e.symm; exact ap.p.2.1 e.symm
  · rintro (e | e); exact ap.t.2.1 e.symm; exact ap.p.2.2.1 e.symm
  · rintro (e | e); exact ap.t.2.2.1 e.symm; exact ap.p.2.2.2.1 e.symm
  · rintro (e | e); exact ap.t.2.2.2.1 e.symm; exact ap.p.2.2.2.2.1 e.symm
  · rintro (e | e); exact ap.t.2.2.2.2 e.symm; exact ap.p.2.2.2.2.2 e.symm
theorem Loose.addW (h : Loose W p B T Wd Hd A R M nm) (F2 : Fr (fun k => k = B.w) W w2) (hown : w2.ownsRow 0 21 1 (sl B.w (Wd.length + news.length) 64) (Wd.length + news.length) (Wd ++ news)) :
    Loose (w2.setCell ⟨p, 1, none⟩ (sl B.w (Wd.length + news.length) 64)) p B T (Wd ++ news) Hd A R M nm := by
  have ap := h.apart
  have hp2 := F2.keep h.top (fun e => ap.p.2.1 e)
  have F3 : Fr (fun k => k = B.w ∨ k = p) W (w2.setCell ⟨p, 1, none⟩ (sl B.w (Wd.length + news.length) 64)) := Fr.setCell (S := fun k => k = B.w ∨ k = p) (F2.mono (fun _ _ e => .inl e)) (fun _ => .inr rfl) _
  refine ⟨?_, F3.rows h.rt ?_, ?_, F3.rows h.rh ?_, F3.rows h.ra ?_, F3.rows h.rr ?_, F3.rows h.rm ?_, ap⟩
  · rw [heap_setCell_same _ hp2, List.length_append]; rfl
  · rintro (e | e); exact ap.t.1 e; exact ap.p.1 e.symm
  · rw [List.length_append]
    exact ownsRow_setCell_other hown (fun e => ap.p.2.1 (own_sl e)) _
  · rintro (e | e); exact ap.w.1 e.symm; exact ap.p.2.2.1 e.symm
  · rintro (e | e); exact ap.w.2.1 e.symm; exact ap.p.2.2.2.1 e.symm
  · rintro (e | e); exact ap.w.2.2.1 e.symm; exact ap.p.2.2.2.2.1 e.symm
  · rintro (e | e); exact ap.w.2.2.2 e.symm; exact ap.p.2.2.2.2.2 e.symm
theorem Loose.addH (h : Loose W p B T Wd Hd A R M nm) (F2 : Fr (fun k => k = B.h) W w2) (hown : w2.ownsRow 0 5 1 (sl B.h (Hd.length + news.length) 128) (Hd.length + news.length) (Hd ++ news)) :
    Loose (w2.setCell ⟨p, 2, none⟩ (sl B.h (Hd.length + news.length) 128)) p B T Wd (Hd ++ news) A R M nm := by
  have ap := h.apart
  have hp2 := F2.keep h.top (fun e => ap.p.2.2.1 e)
  have F3 : Fr (fun k => k = B.h ∨ k = p) W (w2.setCell ⟨p, 2, none⟩ (sl B.h (Hd.length + news.length) 128)) := Fr.setCell (S := fun k => k = B.h ∨ k = p) (F2.mono (fun _ _ e => .inl e)) (fun _ => .inr rfl) _
  refine ⟨?_, F3.rows h.rt ?_, F3.rows h.rw ?_, ?_, F3.rows h.ra ?_, F3.rows h.rr ?_, F3.rows h.rm ?_, ap⟩
  · rw [heap_setCell_same _ hp2, List.length_append]; rfl
  · rintro (e | e); exact ap.t.2.1 e; exact ap.p.1 e.symm
  · rintro (e | e); exact ap.w.1 e; exact ap.p.2.1 e.symm
  · rw [List.length_append]
    exact ownsRow_setCell_other hown (fun e => ap.p.2.2.1 (own_sl e)) _
  · rintro (e | e); exact ap.h.1 e.symm; exact ap.p.2.2.2.1 e.symm
  · rintro (e | e); exact ap.h.2.1 e.symm; exact ap.p.2.2.2.2.1 e.symm
  · rintro (e | e); exact ap.h.2.2 e.symm; exact ap.p.2.2.2.2.2 e.symm
theorem Loose.addA (h : Loose W p B T Wd Hd A R M nm) (F2 : Fr (fun k => k = B.a) W w2) (hown : w2.ownsRow 0 21 1 (sl B.a (A.length + news.length) 256) (A.length + news.length) (A ++ news)) :
    Loose (w2.setCell ⟨p, 3, none⟩ (sl B.a (A.length + news.length) 256)) p B T Wd Hd (A ++ news) R M nm := by
  have ap := h.apart
  have hp2 := F2.keep h.top (fun e => ap.p.2.2.2.1 e)
  have F3 : Fr (fun k => k = B.a ∨ k = p) W (w2.setCell ⟨p, 3, none⟩ (sl B.a (A.length + news.length) 256)) := Fr.setCell (S := fun k => k = B.a ∨ k = p) (F2.mono (fun _ _ e => .inl e)) (fun _ => .inr rfl) _
  refine ⟨?_, F3.rows h.rt ?_, F3.rows h.rw ?_, F3.rows h.rh ?_, ?_, F3.rows h.rr ?_, F3.rows h.rm ?_, ap⟩
  · rw [heap_setCell_same _ hp2, List.length_append]; rfl
  · rintro (e | e); exact ap.t.2.2.1 e; exact ap.p.1 e.symm
  · rintro (e | e); exact ap.w.2.1 e; exact ap.p.2.1 e.symm
  · rintro (e | e); exact ap.h.1 e; exact ap.p.2.2.1 e.symm
  · rw [List.length_append]
    exact ownsRow_setCell_other hown (fun e => ap.p.2.2.2.1 (own_sl e)) _
  · rintro (e | e); exact ap.a.1 e.symm; exact ap.p.2.2.2.2.1 e.symm
  · rintro (e | e); exact ap.a.2 e.symm; exact ap.p.2.2.2.2.2 e.symm
theorem Loose.setA (h : Loose W p B T Wd Hd A R M nm) (j : Nat) (u : Value) : Loose (W.setCell ⟨B.a, j, none⟩ u) p B T Wd Hd (A.set j u) R M nm := by
  have ap := h.apart
  have F3 : Fr (fun k => k = B.a) W (W.setCell ⟨B.a, j, none⟩ u) := (Fr.refl (fun k => k = B.a) W).setCell (fun _ => rfl) _
  refine ⟨?_, F3.rows h.rt ap.t.2.2.1, F3.rows h.rw ap.w.2.1, F3.rows h.rh ap.h.1, ?_, F3.rows h.rr (fun e => ap.a.1 e.symm), F3.rows h.rm (fun e => ap.a.2 e.symm), ap⟩
  · rw [List.length_set]; exact F3.keep h.top (fun e => ap.p.2.2.2.1 e)
  · rw [List.length_set]; exact ownsRow_put h.ra j u
theorem Loose.lt (h : Loose w p B T Wd Hd A R M nm) {k : Nat} (hk : B.Has p k) : k < w.heap.size := by
  rcases hk with rfl | rfl | rfl | rfl | rfl | rfl | rfl
  · exact lt_of_heap h.top
  · exact (h.rt.lt _ rfl).2
  · exact (h.rw.lt _ rfl).2
  · exact (h.rh.lt _ rfl).2
  · exact (h.ra.lt _ rfl).2
  · exact (h.rr.lt _ rfl).2
  · exact (h.rm.lt _ rfl).2
end

section
variable {w : World} {p : Nat} {B : Blks} {ns : List Nd} {ws : List Int} {tr tms : List Nat} {saved : List (List Nd)}
/-- The rows of a state. -/
abbrev LooseOf (w : World) (p : Nat) (B : Blks) (ns : List Nd) (ws : List Int) (tr tms : List Nat) (saved : List (List Nd)) : Prop :=
  Loose w p B (ns.map tagV) (ws.map (fun x => .int .i32 x)) (headsV ns) ((allArgs ns).map n32) (tr.map n32) (marksV tms saved) tms.length
theorem RAt.loose (h : RAt w p B ns ws tr tms saved) : LooseOf w p B ns ws tr tms saved := by
  have e1 : (ns.map tagV).length = ns.length := List.length_map _
  have e2 : (ws.map (fun x => (Value.int .i32 x))).length = ns.length := by rw [List.length_map]; exact h.words.1
  have e3 := headsV_len ns
  have e4 : ((allArgs ns).map n32).length = aLen ns := List.length_map _
  have e5 : (tr.map n32).length = tr.length := List.length_map _
  refine ⟨?_, ?_, ?_, ?_, ?_, ?_, h.rm, h.apart⟩
  · rw [e1, e2, e3, e4, e5]; exact h.top
  · rw [e1]; exact h.rt
  · rw [e2]; exact h.rw
  · rw [e3]; exact h.rh
  · rw [e4]; exact h.ra
  · rw [e5]; exact h.rr
theorem Loose.rat (h : LooseOf w p B ns ws tr tms saved) (hw : Words ns ws) : RAt w p B ns ws tr tms saved := by
  have e1 : (ns.map tagV).length = ns.length := List.length_map _
  have e2 : (ws.map (fun x => (Value.int .i32 x))).length = ns.length := by rw [List.length_map]; exact hw.1
  have e3 := headsV_len ns
  have e4 : ((allArgs ns).map n32).length = aLen ns := List.length_map _
  have e5 : (tr.map n32).length = tr.length := List.length_map _
  obtain ⟨h1, h2, h3, h4, h5, h6, h7, h8⟩ := h
  rw [e1, e2, e3, e4, e5] at h1
  rw [e1] at h2
  rw [e2] at h3
  rw [e3] at h4
  rw [e4] at h5
  rw [e5] at h6
  exact ⟨h1, h2, h3, h4, h5, h6, h7, hw, h8⟩
end

/-! ### One argument set -/
theorem flat_setArg {α : Type} (f : Nd → List α) (hf : ∀ c d es es', f (.s c d es) = f (.s c d es')) (ns : List Nd) (i j a : Nat) : (setArg ns i j a).flatMap f = ns.flatMap f := by
  unfold setArg
  split
  · rename_i c d es h
    have : ∀ (l : List Nd) (i : Nat), l[i]? = some (.s c d es) → (l.set i (.s c d (es.set j a))).flatMap f = l.flatMap f := by
      intro l
      induction l with
      | nil => intro i h; simp at h
      | cons x l ih =>
        intro i h
        cases i with
        | zero => simp at h; subst h; simp only [List.set_cons_zero, List.flatMap_cons, hf c d (es.set j a) es]
        | succ i => simp only [List.set_cons_succ, List.flatMap_cons]; rw [ih i (by simpa using h)]
    exact this ns i h
  · rfl
theorem map_setArg {α : Type} (f : Nd → α) (hf : ∀ c d es j a, f (.s c d (es.set j a)) = f (.s c d es)) (ns : List Nd) (i j a : Nat) : (setArg ns i j a).map f = ns.map f := by
  unfold setArg
  split
  · rename_i c d es h
    apply List.ext_getElem?
    intro k
    rw [List.map_set, hf]
    by_cases e : k = i
    · subst e
      have := lt_of_some h
      rw [List.getElem?_set_self (by simpa using this)]
      simp [h]
    · rw [List.getElem?_set_ne (by omega)]
  · rfl
theorem tag_setArg (ns : List Nd) (i j a : Nat) : (setArg ns i j a).map tagV = ns.map tagV := map_setArg tagV (fun _ _ _ _ _ => rfl) ns i j a
theorem heads_setArg (ns : List Nd) (i j a : Nat) : headsV (setArg ns i j a) = headsV ns := flat_setArg headV (fun _ _ _ _ => rfl) ns i j a
theorem args_setArg {ns : List Nd} {i j a : Nat} {c d : UInt8} {es : List Nat} (h : ns[i]? = some (.s c d es)) (hj : j < es.length) : allArgs (setArg ns i j a) = (allArgs ns).set (aLen (ns.take i) + j) a := by
  rw [setArg_s h]
  have : ∀ (l : List Nd) (i : Nat), l[i]? = some (.s c d es) → allArgs (l.set i (.s c d (es.set j a))) = (allArgs l).set (aLen (l.take i) + j) a := by
    intro l
    induction l with
    | nil => intro i h; simp at h
    | cons x l ih =>
      intro i h
      cases i with
      | zero =>
        simp at h; subst h
        show es.set j a ++ allArgs l = (es ++ allArgs l).set (0 + j) a
        rw [Nat.zero_add, List.set_append_left _ _ hj]
      | succ i =>
        have e := ih i (by simpa using h)
        show argsOf x ++ allArgs (l.set i _) = (argsOf x ++ allArgs l).set ((argsOf x ++ allArgs (l.take i)).length + j) a
        rw [e, List.length_append, List.set_append_right _ _ (by omega)]
        congr 2
        unfold aLen
        omega
  exact this ns i h
theorem aLen_sum (ns : List Nd) : aLen ns = (ns.map (fun x => (argsOf x).length)).sum := by
  unfold aLen allArgs
  rw [List.length_flatMap]
theorem aLen_setArg (ns : List Nd) (i j a : Nat) : aLen (setArg ns i j a) = aLen ns := by
  rw [aLen_sum, aLen_sum, map_setArg (fun x => (argsOf x).length) (fun _ _ _ _ _ => by simp [argsOf])]
theorem aLen_take_setArg (ns : List Nd) (i j a k : Nat) : aLen ((setArg ns i j a).take k) = aLen (ns.take k) := by
  rw [aLen_sum, aLen_sum, List.map_take, List.map_take, map_setArg (fun x => (argsOf x).length) (fun _ _ _ _ _ => by simp [argsOf])]
theorem Words.setArg {ns : List Nd} {ws : List Int} (hw : Words ns ws) (i j a : Nat) : Words (setArg ns i j a) ws := by
  refine ⟨by rw [setArg_len]; exact hw.1, fun k x hx => ?_⟩
  have key : (∃ c d es, ns[i]? = some (.s c d es) ∧ k = i ∧ x = .s c d (es.set j a)) ∨ ns[k]? = some x := by
    unfold Go.Proofs.Qxb6500301a.setArg at hx
    split at hx
    · rename_i c d es h
      by_cases e : k = i
      · subst e
        have := lt_of_some h
        simp [this] at hx
        exact .inl ⟨c, d, es, h, rfl, hx.symm⟩
      · rw [List.getElem?_set_ne (by omega)] at hx; exact .inr hx
    · exact .inr hx
  rcases key with ⟨c, d, es, h, rfl, rfl⟩ | h
  · have := hw.2 _ _ h
    simp only at this ⊢
    rw [aLen_take_setArg]; exact this
  · have := hw.2 _ _ h
    cases x with
    | v q => cases q <;> exact this
    | s c d es => simp only at this ⊢; rw [aLen_take_setArg]; exact this
theorem Words.add {ns : List Nd} {ws : List Int} (hw : Words ns ws) (y : Nd) (u : Int) (hy : ∀ r, y ≠ .v (some r)) (hs : ∀ c d es, y = .s c d es → u = (aLen ns : Int)) : Words (ns ++ [y]) (ws ++ [u]) := by
  refine ⟨by simp [hw.1], fun k x hx => ?_⟩
  by_cases hk : k < ns.length
  · rw [List.getElem?_append_left hk] at hx
    have := hw.2 _ _ hx
    have hw1 := hw.1
    cases x with
    | v q =>
      cases q with
      | none => trivial
      | some r => simp only at this ⊢; rw [List.getElem?_append_left (by omega)]; exact this
    | s c d es => simp only at this ⊢; rw [List.getElem?_append_left (by omega), List.take_append_of_le_length (by omega)]; exact this
  · have hkl : k = ns.length := by
      have := lt_of_some hx
      simp at this; omega
    subst hkl
    simp at hx
    subst hx
    have hw1 := hw.1
    cases y with
    | v q =>
      cases q with
      | none => trivial
      | some r => exact absurd rfl (hy r)
    | s c d es =>
      simp only
      rw [hs c d es rfl, ← hw1, List.getElem?_concat_length, hw1, List.take_left]
theorem aLen_add (ns : List Nd) (y : Nd) : aLen (ns ++ [y]) = aLen ns + (argsOf y).length := by simp [aLen, allArgs]
theorem args_add (ns : List Nd) (y : Nd) : allArgs (ns ++ [y]) = allArgs ns ++ argsOf y := by simp [allArgs]
theorem heads_add (ns : List Nd) (y : Nd) : headsV (ns ++ [y]) = headsV ns ++ headV y := by simp [headsV]

def Four (ns : List Nd) : Prop := ∀ x ∈ ns, (argsOf x).length ≤ 4
theorem Four.len {ns : List Nd} (h : Four ns) : aLen ns ≤ 4 * ns.length := by
  induction ns with
  | nil => simp [aLen, allArgs]
  | cons x l ih =>
    have h1 := h x (by simp)
    have h2 := ih (fun y hy => h y (by simp [hy]))
    have : aLen (x :: l) = (argsOf x).length + aLen l := by simp [aLen, allArgs]
    rw [this]; simp; omega
theorem Four.of {ns : List Nd} (h : WfN ns) : Four ns := by
  intro x hx
  obtain ⟨i, hi, e⟩ := List.getElem_of_mem hx
  cases x with
  | v q => simp [argsOf]
  | s c d es =>
    have := h.arg i c d es (by rw [List.getElem?_eq_getElem hi, e])
    simp [argsOf]; omega
theorem Four.add {ns : List Nd} (h : Four ns) {y : Nd} (hy : (argsOf y).length ≤ 4) : Four (ns ++ [y]) := by
  intro x hx
  rcases List.mem_append.1 hx with hx | hx
  · exact h x hx
  · have : x = y := by simpa using hx
    rw [this]; exact hy
theorem Four.setArg {ns : List Nd} (h : Four ns) (i j a : Nat) : Four (setArg ns i j a) := by
  intro x hx
  have : (argsOf x).length ∈ (Go.Proofs.Qxb6500301a.setArg ns i j a).map (fun x => (argsOf x).length) := List.mem_map.2 ⟨x, hx, rfl⟩
  rw [map_setArg (fun x => (argsOf x).length) (fun _ _ _ _ _ => by simp [argsOf])] at this
  obtain ⟨y, hy, e⟩ := List.mem_map.1 this
  rw [← e]; exact h y hy

/-! ### What waits -/
/-- Every place that waits is a place. -/
def Slots (ns : List Nd) (slots : List (Nat × Nat)) : Prop := ∀ s ∈ slots, ∃ c d es, ns[s.1]? = some (.s c d es) ∧ s.2 < es.length
def offs (ns : List Nd) (slots : List (Nat × Nat)) : List Nat := slots.map (fun s => aLen (ns.take s.1) + s.2)
theorem Slots.lt {ns : List Nd} {s : Nat × Nat} {ss : List (Nat × Nat)} (h : Slots ns (s :: ss)) : s.1 < ns.length := by
  obtain ⟨c, d, es, h1, _⟩ := h s (by simp)
  exact lt_of_some h1
theorem Slots.tail {ns : List Nd} {s : Nat × Nat} {ss : List (Nat × Nat)} (h : Slots ns (s :: ss)) : Slots ns ss := fun x hx => h x (by simp [hx])
theorem Slots.setArg {ns : List Nd} {ss : List (Nat × Nat)} (h : Slots ns ss) (i j a : Nat) : Slots (setArg ns i j a) ss := by
  intro s hs
  obtain ⟨c, d, es, h1, h2⟩ := h s hs
  unfold Go.Proofs.Qxb6500301a.setArg
  split
  · rename_i c' d' es' h'
    by_cases e : s.1 = i
    · rw [e] at h1
      rw [h'] at h1
      cases h1
      have := lt_of_some h'
      exact ⟨c, d, es.set j a, by rw [e]; simp [this], by simpa using h2⟩
    · exact ⟨c, d, es, by rw [List.getElem?_set_ne (by omega)]; exact h1, h2⟩
  · exact ⟨c, d, es, h1, h2⟩
theorem Slots.add {ns : List Nd} {ss : List (Nat × Nat)} (h : Slots ns ss) (m : List Nd) : Slots (ns ++ m) ss := by
  intro s hs
  obtain ⟨c, d, es, h1, h2⟩ := h s hs
  exact ⟨c, d, es, by rw [List.getElem?_append_left (lt_of_some h1)]; exact h1, h2⟩
theorem Slots.new {ns : List Nd} {q n : Nat} {c d : UInt8} {es : List Nat} (h : ns[q]? = some (.s c d es)) (hn : n ≤ es.length) : Slots ns (newSlots q 0 n) := by
  intro s hs
  obtain ⟨j, hj, rfl⟩ := List.mem_map.1 hs
  rw [List.mem_range'_1] at hj
  exact ⟨c, d, es, h, by simp only; omega⟩
theorem Slots.append {ns : List Nd} {s1 s2 : List (Nat × Nat)} (h1 : Slots ns s1) (h2 : Slots ns s2) : Slots ns (s1 ++ s2) := by
  intro s hs
  rcases List.mem_append.1 hs with hs | hs
  · exact h1 s hs
  · exact h2 s hs
theorem offs_setArg (ns : List Nd) (ss : List (Nat × Nat)) (i j a : Nat) : offs (setArg ns i j a) ss = offs ns ss := by
  unfold offs
  apply List.map_congr_left
  intro s _
  rw [aLen_take_setArg]
theorem offs_add {ns : List Nd} {ss : List (Nat × Nat)} (h : Slots ns ss) (m : List Nd) : offs (ns ++ m) ss = offs ns ss := by
  unfold offs
  apply List.map_congr_left
  intro s hs
  obtain ⟨c, d, es, h1, h2⟩ := h s hs
  have := lt_of_some h1
  rw [List.take_append_of_le_length (by omega)]
theorem Slots.off {ns : List Nd} {s : Nat × Nat} {ss : List (Nat × Nat)} (h : Slots ns (s :: ss)) : aLen (ns.take s.1) + s.2 < aLen ns := by
  obtain ⟨c, d, es, h1, h2⟩ := h s (by simp)
  obtain ⟨r, hr⟩ := args_at h1
  unfold aLen
  rw [hr]; simp; omega
theorem offs_new (ns : List Nd) (y : Nd) (m : List Nd) (n : Nat) : offs (ns ++ y :: m) (newSlots ns.length 0 n) = (List.range n).map (fun j => aLen ns + j) := by
  unfold offs newSlots
  rw [List.map_map, List.range_eq_range']
  apply List.map_congr_left
  intro j _
  simp

/-! ### One byte -/
def fillTop (ns : List Nd) (slots : List (Nat × Nat)) (a : Nat) : List Nd := match slots with
  | [] => ns
  | (i, j) :: _ => setArg ns i j a
/-- What is still to be laid, at the code's first byte too. -/
def LRel (F ns1 : List Nd) (slots : List (Nat × Nat)) (rest : List UInt8) (a : At) : Prop :=
  (slots = [] ∧ a = List.replicate 6 none ∧ ∃ ks news at', K 1 rest ns1.length a = some (ks, [], news, at') ∧ F = ns1 ++ news) ∨ LInv F ns1 slots rest a
section
variable {F ns : List Nd} {slots : List (Nat × Nat)} {c d : UInt8} {r : List UInt8} {a : At}
theorem getD_none (k : Nat) : (List.replicate 6 (none : Option Nat)).getD k none = none := by
  rw [List.getD_eq_getElem?_getD, List.getElem?_replicate]
  split <;> rfl
theorem LRel.known {x : Nat} (h : LRel F ns slots (c :: r) a) (hs : Slots ns slots) (hc : isVarC c = true) (hx : a.getD (c.toNat - 65) none = some x) : ∃ s ss, slots = s :: ss ∧ LInv F (setArg ns s.1 s.2 x) ss r a := by
  rcases h with ⟨_, rfl, _⟩ | h
  · rw [getD_none] at hx; cases hx
  · obtain ⟨s, ss, rfl⟩ := h.more
    exact ⟨s, ss, rfl, LInv.known (i := s.1) (j := s.2) h hs.lt hc hx⟩
theorem LRel.fresh (h : LRel F ns slots (c :: r) a) (hs : Slots ns slots) (hc : isVarC c = true) (hx : a.getD (c.toNat - 65) none = none) : LInv F (fillTop (ns ++ [.v none]) slots ns.length) slots.tail r (a.set (c.toNat - 65) (some ns.length)) := by
  rcases h with ⟨rfl, rfl, ks, news, at', hk, rfl⟩ | h
  · exact LInv.first_var hk hc hx
  · obtain ⟨s, ss, rfl⟩ := h.more
    exact LInv.fresh (i := s.1) (j := s.2) h hs.lt hc hx
theorem LRel.func (h : LRel F ns slots (c :: d :: r) a) (hs : Slots ns slots) (hc : isVarC c = false) (hf : (isFun c && okD d) = true) : LInv F (fillTop (ns ++ [.s c d (List.replicate (d.toNat - 48) 0)]) slots ns.length) (newSlots ns.length 0 (d.toNat - 48) ++ slots.tail) r a := by
  rcases h with ⟨rfl, rfl, ks, news, at', hk, rfl⟩ | h
  · simpa [fillTop] using LInv.first_func hk hc hf
  · obtain ⟨s, ss, rfl⟩ := h.more
    exact LInv.func (i := s.1) (j := s.2) h hs.lt hc hf
theorem LRel.shape (h : LRel F ns slots (c :: r) a) (hc : isVarC c = false) : ∃ d r', r = d :: r' ∧ (isFun c && okD d) = true := by
  have : ∃ w x, K (w + 1) (c :: r) ns.length a = some x := by
    rcases h with ⟨rfl, rfl, ks, news, at', hk, rfl⟩ | h
    · exact ⟨0, _, hk⟩
    · obtain ⟨s, ss, rfl⟩ := h.more
      obtain ⟨ks, news, at', h1, h2⟩ := h
      exact ⟨_, _, h1⟩
  obtain ⟨w, x, hk⟩ := this
  cases r with
  | nil => rw [K_one hc] at hk; cases hk
  | cons d r' =>
    refine ⟨d, r', rfl, ?_⟩
    by_cases hf : (isFun c && okD d) = true
    · exact hf
    · rw [K_bad hc (by simpa using hf)] at hk; cases hk
theorem fillS_len : ∀ (ss : List (Nat × Nat)) (ks : List Nat) (ns : List Nd), (fillS ns ss ks).length = ns.length
  | [], _, ns => by simp [fillS]
  | _ :: _, [], ns => by simp [fillS]
  | (i, j) :: ss, k :: ks, ns => by simp only [fillS]; rw [fillS_len, setArg_len]
theorem LInv.le (h : LInv F ns slots r a) : ns.length ≤ F.length := by
  obtain ⟨ks, news, at', h1, h2⟩ := h
  rw [← h2, fillS_len, List.length_append]
  omega
theorem fillTop_len (ns : List Nd) (slots : List (Nat × Nat)) (x : Nat) : (fillTop ns slots x).length = ns.length := by
  unfold fillTop
  split
  · rfl
  · rw [setArg_len]
theorem LRel.end' (h : LRel F ns slots [] a) : slots = [] ∧ F = ns := by
  rcases h with ⟨rfl, rfl, ks, news, at', hk, rfl⟩ | h
  · rw [K_nil] at hk; cases hk
  · exact h.done
end
end Go.Proofs.Qxb6500301a
