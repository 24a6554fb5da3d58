import Derived.Test.Qxb6500301aReal4
namespace Go.Proofs.Qxb6500301a
open Go.RowKit
set_option linter.unusedSimpArgs false
set_option linter.unusedVariables false
attribute [local go_sem ↓] Go.wp_at_zero Go.wp_at_succ
attribute [-go_sem] Go.run_string_add_if Go.run_index_string Go.run_slice_string_if

theorem flat_setv {α : Type} (f : Nd → List α) (hf : ∀ q q', f (.v q) = f (.v q')) {q q' : Option Nat} : ∀ {ns : List Nd} {v : Nat}, ns[v]? = some (.v q) → (ns.set v (.v q')).flatMap f = ns.flatMap f
  | [], v, h => by simp at h
  | x :: ns, 0, h => by
    simp at h; subst h
    simp only [List.set_cons_zero, List.flatMap_cons, hf q' q]
  | x :: ns, v + 1, h => by
    simp only [List.set_cons_succ, List.flatMap_cons]
    rw [flat_setv f hf (by simpa using h)]
theorem headsV_setv {ns : List Nd} {v : Nat} {q q' : Option Nat} (h : ns[v]? = some (.v q)) : headsV (ns.set v (.v q')) = headsV ns := flat_setv headV (fun _ _ => rfl) h
theorem allArgs_setv {ns : List Nd} {v : Nat} {q q' : Option Nat} (h : ns[v]? = some (.v q)) : allArgs (ns.set v (.v q')) = allArgs ns := flat_setv argsOf (fun _ _ => rfl) h
theorem aLen_setv {ns : List Nd} {v : Nat} {q q' : Option Nat} (h : ns[v]? = some (.v q)) : aLen (ns.set v (.v q')) = aLen ns := by unfold aLen; rw [allArgs_setv h]
theorem aLen_take_setv {ns : List Nd} {v : Nat} {q q' : Option Nat} (h : ns[v]? = some (.v q)) (i : Nat) : aLen ((ns.set v (.v q')).take i) = aLen (ns.take i) := by
  rw [List.take_set]
  by_cases hv : v < i
  · exact aLen_setv (by rw [List.getElem?_take, if_pos hv]; exact h)
  · rw [List.set_eq_of_length_le (by simp; omega)]

theorem Words.setv {ns : List Nd} {ws : List Int} (hw : Words ns ws) {v : Nat} {q q' : Option Nat} (h : ns[v]? = some (.v q)) {ws' : List Int} (hl : ws'.length = ws.length) (ho : ∀ i, i ≠ v → ws'[i]? = ws[i]?) (hn : ∀ r, q' = some r → ws'[v]? = some (r : Int)) : Words (ns.set v (.v q')) ws' := by
  refine ⟨by rw [hl, hw.1]; simp, fun i x hx => ?_⟩
  by_cases e : i = v
  · subst e
    have hlt := lt_of_some h
    simp [hlt] at hx
    subst hx
    cases q' with
    | none => trivial
    | some r => exact hn r rfl
  · rw [List.getElem?_set_ne (by omega)] at hx
    have h2 := hw.2 i x hx
    cases x with
    | v q2 =>
      cases q2 with
      | none => trivial
      | some r => simp only at h2 ⊢; rw [ho i e]; exact h2
    | s c d es => simp only at h2 ⊢; rw [ho i e, h2, aLen_take_setv h]

section
variable {w : World} {p : Nat} {B : Blks} {ns : List Nd} {ws : List Int} {tr tms : List Nat} {saved : List (List Nd)}

theorem Try.info21 : (Try.prog.info? 21).map (fun i => (i.zero, i.size, i.bytes)) = some (some (.int .i32 0), 1, 4) := by kernel_rfl

set_option maxRecDepth 20000 in
theorem bind_any (h : RAt w p B ns ws tr tms saved) {v t : Nat} (hv : ns[v]? = some (.v none)) (hs : ns.length ≤ 64) (ht : t < ns.length) (htr : tr.length < 64) :
    Calls Try.prog 42 #[.pointer (some ⟨p, 0, none⟩), .int .i32 (v : Int), .int .i32 (t : Int)] w fun e w' => e = .returned (.tuple #[]) ∧ RAt w' p B (ns.set v (.v (some t))) (ws.set v (t : Int)) (tr ++ [v]) tms saved ∧ Fr (B.Has p) w w' := by
  have hvl := lt_of_some hv
  have ap := h.apart
  have c0 := h.p0
  have c1 := h.p1
  have c4 := h.p4
  have cv := h.tag hv
  have hwl := h.words.1
  obtain ⟨x0, hx0⟩ : ∃ x, ws[v]? = some x := ⟨_, List.getElem?_eq_getElem (by omega)⟩
  have cw := h.word hx0
  have zw := World.ownsRow.frozenAt h.rw v
  have zt := World.ownsRow.frozenAt h.rt v
  have zp := frozen_of 4 h.top
  simp only [tagV] at cv
  have n1 : B.t ≠ B.w := ap.t.1
  have n1' : B.w ≠ B.t := ap.t.1.symm
  have n2 : p ≠ B.w := ap.p.2.1
  have n2' : B.w ≠ p := ap.p.2.1.symm
  have n3 : p ≠ B.t := ap.p.1
  have n3' : B.t ≠ p := ap.p.1.symm
  obtain ⟨i0, hi, hz0, hz1, hz2⟩ := info_parts Try.info21
  clear hx0
  go_enter Try.func42, Try.ntmps42
  go_upto_region 2 with fail
  have hb : bits BinOp.or IntKind.i8 0 2 = 2 := by decide
  rw [hb]
  have F1 : Fr (fun k => k = B.w ∨ k = B.t) w ((w.setCell ⟨B.w, v, none⟩ (.int .i32 (t : Int))).setCell ⟨B.t, v, none⟩ (.int .i8 2)) := ((Fr.refl (fun k => k = B.w ∨ k = B.t) w).setCell (fun _ => .inl rfl) _).setCell (fun _ => .inr rfl) _
  have top1 := F1.keep h.top (fun e => by rcases e with e | e; exact n2 e; exact n3 e)
  have rt1 : ((w.setCell ⟨B.w, v, none⟩ (.int .i32 (t : Int))).setCell ⟨B.t, v, none⟩ (.int .i8 2)).ownsRow 0 63 1 (sl B.t ns.length 64) ns.length ((ns.set v (.v (some t))).map tagV) := by
    have := ownsRow_put (ownsRow_setCell_other h.rt (a := ⟨B.w, v, none⟩) (fun e => n1 (own_sl e).symm) (.int .i32 (t : Int))) v (.int .i8 2)
    rw [List.map_set]
    exact this
  have rw1 : ((w.setCell ⟨B.w, v, none⟩ (.int .i32 (t : Int))).setCell ⟨B.t, v, none⟩ (.int .i8 2)).ownsRow 0 21 1 (sl B.w ns.length 64) ns.length ((ws.set v (t : Int)).map (fun x => .int .i32 x)) := by
    have := ownsRow_setCell_other (ownsRow_put h.rw v (.int .i32 (t : Int))) (a := ⟨B.t, v, none⟩) (fun e => n1' (own_sl e).symm) (.int .i8 2)
    rw [List.map_set]
    exact this
  have rh1 := F1.rows h.rh (fun e => by rcases e with e | e; exact ap.w.1 e.symm; exact ap.t.2.1 e.symm)
  have ra1 := F1.rows h.ra (fun e => by rcases e with e | e; exact ap.w.2.1 e.symm; exact ap.t.2.2.1 e.symm)
  have rr1 := F1.rows h.rr (fun e => by rcases e with e | e; exact ap.w.2.2.1 e.symm; exact ap.t.2.2.2.1 e.symm)
  have rm1 := F1.rows h.rm (fun e => by rcases e with e | e; exact ap.w.2.2.2 e.symm; exact ap.t.2.2.2.2 e.symm)
  generalize ((w.setCell ⟨B.w, v, none⟩ (.int .i32 (t : Int))).setCell ⟨B.t, v, none⟩ (.int .i8 2)) = W1 at *
  clear c0 c1 c4 cv cw zw zt zp
  have c4 : W1.cell? ⟨p, 4, none⟩ = some (.slice (some ⟨B.r, 0, none⟩) tr.length 64) := cell_of 4 top1 rfl
  have hrow : (W1.alloc (.cells #[n32 v] 21)).ownsRow 0 21 1 (sl B.r tr.length 64) tr.length (tr.map n32) := ((Fr.refl No W1).alloc _).rows rr1 (fun h => h)
  have hnb : (W1.alloc (.cells #[n32 v] 21)).heap[W1.heap.size]? = some (.cells #[n32 v] 21) := heap_alloc_same _ _
  have hpr : p ≠ B.r := ap.p.2.2.2.2.1
  go_wp2_with (at_builtin; refine wpList_append_own_spare _ (by rfl) _ _ 52 (by rfl) 0 21 i0 1 Try.underlying52 hi hz1 B.r tr.length 64 (tr.map n32) (by rfl) hrow ⟨W1.heap.size, 0, none⟩ 1 1 [n32 v] (by rfl) (by rfl) (World.news_of_block (cs := #[n32 v]) hnb) (by simp [n32, Value.oneCell']) (by omega) ?_; intro w2 hown2 hgrow2; have hp2 := heap_grown hgrow2 (heap_alloc_keep top1) (fun e => hpr (Option.some.inj e).symm); have cp2 := cell_of 4 hp2 rfl; have fp2 := frozen_of 4 hp2)
  go_end0
  have F2 : Fr (fun k => k = B.r) W1 w2 := Fr.grown (S := fun k => k = B.r) ((Fr.refl _ W1).alloc _) hgrow2 (fun k hk _ => (Option.some.inj hk).symm)
  have F3 : Fr (fun k => k = B.r ∨ k = p) W1 (w2.setCell ⟨p, 4, none⟩ (sl B.r (tr.length + 1) 64)) := Fr.setCell (S := fun k => k = B.r ∨ k = p) (F2.mono (fun _ _ e => .inl e)) (fun _ => .inr rfl) _
  refine ⟨rfl, ⟨?_, ?_, ?_, ?_, ?_, ?_, ?_, ?_, ap⟩, ?_⟩
  · have := heap_setCell_same (i := 4) (sl B.r (tr.length + 1) 64) hp2
    rw [this]
    rw [aLen_setv hv, List.length_set, List.length_append]
    rfl
  · rw [List.length_set]
    exact F3.rows rt1 (fun e => by rcases e with e | e; exact ap.t.2.2.2.1 e; exact n3' e)
  · rw [List.length_set]
    exact F3.rows rw1 (fun e => by rcases e with e | e; exact ap.w.2.2.1 e; exact n2' e)
  · rw [List.length_set, headsV_setv hv]
    exact F3.rows rh1 (fun e => by rcases e with e | e; exact ap.h.2.1 e; exact ap.p.2.2.1 e.symm)
  · rw [aLen_setv hv, allArgs_setv hv]
    exact F3.rows ra1 (fun e => by rcases e with e | e; exact ap.a.1 e; exact ap.p.2.2.2.1 e.symm)
  · have e1 : (tr ++ [v]).map n32 = tr.map n32 ++ [n32 v] := by simp
    rw [e1, List.length_append]
    exact ownsRow_setCell_other hown2 (fun e => hpr (by have := own_sl e; exact this)) _
  · exact F3.rows rm1 (fun e => by rcases e with e | e; exact ap.r e.symm; exact ap.p.2.2.2.2.2 e.symm)
  · exact h.words.setv hv (by simp) (fun i hi => by rw [List.getElem?_set_ne (by omega)]) (fun r hr => by
      have : t = r := Option.some.inj hr
      subst this
      simp [hwl, hvl])
  · exact (F1.mono (fun k _ e => by rcases e with e | e <;> simp [Blks.Has, e])).trans F3 (fun k _ e => by rcases e with e | e <;> simp [Blks.Has, e])
end
end Go.Proofs.Qxb6500301a
