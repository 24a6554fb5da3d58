import Derived.Test.Qxb6500301aReal5
namespace Go.Proofs.Qxb6500301a
open Go.RowKit
set_option linter.unusedSimpArgs false
set_option linter.unusedVariables false
attribute [local go_sem ↓] Go.wp_at_zero Go.wp_at_succ
attribute [-go_sem] Go.run_string_add_if Go.run_index_string Go.run_slice_string_if

theorem unb_set {ns : List Nd} {vs : List Nat} {v : Nat} (hv : v < ns.length) : (unb ns vs).set v (.v none) = unb ns (v :: vs) := by
  apply List.ext_getElem?
  intro i
  rw [unb_get]
  by_cases e : i = v
  · subst e
    rw [if_pos ⟨by simp, hv⟩]
    simp [unb_len, hv]
  · rw [List.getElem?_set_ne (by omega), unb_get]
    by_cases hm : i ∈ vs ∧ i < ns.length
    · rw [if_pos hm, if_pos ⟨by simp [hm.1], hm.2⟩]
    · rw [if_neg hm, if_neg (fun h => hm ⟨by have := h.1; simp [e] at this; exact this, h.2⟩)]

section
variable {w : World} {p : Nat} {B : Blks} {ns : List Nd} {ws : List Int} {tr tms : List Nat} {saved : List (List Nd)}

/-- One binding taken back. -/
theorem RAt.unbind {W W1 : World} {v : Nat} {q : Option Nat} (h : RAt W p B ns ws (tr ++ [v]) tms saved) (hv : ns[v]? = some (.v q)) (hW : Fr No (W.setCell ⟨p, 4, none⟩ (sl B.r tr.length 64)) W1) :
    RAt (W1.setCell ⟨B.t, v, none⟩ (.int .i8 0)) p B (ns.set v (.v none)) ws tr tms saved := by
  have ap := h.apart
  have F1 : Fr (fun k => k = p) W W1 := (setP (Fr.refl _ W) _ _).trans hW (fun _ _ e => e.elim)
  have F2 : Fr (fun k => k = B.t) W1 (W1.setCell ⟨B.t, v, none⟩ (.int .i8 0)) := (Fr.refl (fun k => k = B.t) _).setCell (fun _ => rfl) _
  have F : Fr (fun k => k = p ∨ k = B.t) W (W1.setCell ⟨B.t, v, none⟩ (.int .i8 0)) := (F1.mono (fun _ _ e => .inl e)).trans F2 (fun _ _ e => .inr e)
  refine ⟨?_, ?_, ?_, ?_, ?_, ?_, ?_, h.words.setv hv rfl (fun _ _ => rfl) (fun r hr => by cases hr), ap⟩
  · refine F2.keep (hW.keep ?_ (fun e => e)) (fun e => ap.p.1 e)
    have := heap_setCell_same (i := 4) (sl B.r tr.length 64) h.top
    rw [this, aLen_setv hv, List.length_set]
    rfl
  · have := ownsRow_put (F1.rows h.rt (fun e => ap.p.1 e.symm)) v (.int .i8 0)
    rw [List.length_set, List.map_set]
    exact this
  · rw [List.length_set]
    exact F.rows h.rw (fun e => by rcases e with e | e; exact ap.p.2.1 e.symm; exact ap.t.1 e.symm)
  · rw [List.length_set, headsV_setv hv]
    exact F.rows h.rh (fun e => by rcases e with e | e; exact ap.p.2.2.1 e.symm; exact ap.t.2.1 e.symm)
  · rw [aLen_setv hv, allArgs_setv hv]
    exact F.rows h.ra (fun e => by rcases e with e | e; exact ap.p.2.2.2.1 e.symm; exact ap.t.2.2.1 e.symm)
  · have := F.rows (ownsRow_cut h.rr (k := tr.length) (by simp)) (fun e => by rcases e with e | e; exact ap.p.2.2.2.2.1 e.symm; exact ap.t.2.2.2.1 e.symm)
    simpa using this
  · exact F.rows h.rm (fun e => by rcases e with e | e; exact ap.p.2.2.2.2.2 e.symm; exact ap.t.2.2.2.2 e.symm)

set_option maxRecDepth 20000 in
set_option maxHeartbeats 1000000 in
theorem unwind_any (h : RAt w p B ns ws tr tms saved) (hs : ns.length ≤ 64) (hnd : tr.Nodup) (hb : ∀ v ∈ tr, ∃ r, ns[v]? = some (.v (some r))) {q0 : Nat} (hto : q0 ≤ tr.length) :
    Calls Try.prog 44 #[.pointer (some ⟨p, 0, none⟩), .int .i64 (q0 : Int)] w fun e w' => e = .returned (.tuple #[]) ∧ RAt w' p B (unb ns (tr.drop q0)) ws (tr.take q0) tms saved ∧ Fr (B.Has p) w w' := by
  have hrl := ownsRow_cap h.rr
  go_enter Try.func44, Try.ntmps44
  go_wp2_with fail
  go_loopg [] tr.length (fun gk wr => ∃ j : Nat, j ≤ tr.length ∧ q0 ≤ j ∧ gk = j ∧ Hid (RAt wr p B (unb ns (tr.drop j)) ws (tr.take j) tms saved) ∧ Fr (B.Has p) w wr)
  case atStart => exact ⟨tr.length, Nat.le_refl _, hto, rfl, by rw [List.drop_length, List.take_length]; exact h, Fr.refl _ _⟩
  case round =>
    obtain ⟨j, hj, hjt, rfl, HR, hf⟩ := hrel
    by_cases hlt : q0 < gk
    · obtain ⟨j', rfl⟩ : ∃ j', gk = j' + 1 := ⟨gk - 1, by omega⟩
      obtain ⟨v, hv⟩ : ∃ v, tr[j']? = some v := ⟨_, List.getElem?_eq_getElem (by omega)⟩
      have e1 : tr.take (j' + 1) = tr.take j' ++ [v] := by rw [List.take_add_one, hv]; rfl
      have e2 : tr.drop j' = v :: tr.drop (j' + 1) := by
        rw [List.drop_eq_getElem_cons (by omega)]
        congr 1
        exact (List.getElem?_eq_some_iff.1 hv).2
      have hvm : v ∈ tr := List.mem_of_getElem? hv
      obtain ⟨r, hr⟩ := hb v hvm
      have hvl := lt_of_some hr
      have hnot : v ∉ tr.drop (j' + 1) := by
        have : (tr.drop j').Nodup := hnd.sublist (List.drop_sublist _ _)
        rw [e2, List.nodup_cons] at this
        exact this.1
      have hcur : (unb ns (tr.drop (j' + 1)))[v]? = some (.v (some r)) := by rw [unb_get, if_neg (fun e => hnot e.1)]; exact hr
      have hR := HR.out
      rw [e1] at hR
      have HN : Hid (∀ W W1, Fr No wr W → Fr No (W.setCell ⟨p, 4, none⟩ (sl B.r j' 64)) W1 → RAt (W1.setCell ⟨B.t, v, none⟩ (.int .i8 0)) p B (unb ns (tr.drop j')) ws (tr.take j') tms saved) := fun W W1 hW hW1 => by
        have e3 : (tr.take j').length = j' := by rw [List.length_take]; omega
        have := (hR.keep hW (fun _ _ e => e)).unbind hcur (W1 := W1) (by rw [e3]; exact hW1)
        rw [unb_set hvl, ← e2] at this
        exact this
      have e4 : (tr.take j' ++ [v]).length = j' + 1 := by rw [List.length_append, List.length_take]; simp; omega
      have c0 := hR.p0
      rw [unb_len] at c0
      have c4 := hR.p4
      rw [e4] at c4
      have ct := hR.tag hcur
      have zt := World.ownsRow.frozenAt hR.rt v
      have cr : wr.cell? ⟨B.r, j', none⟩ = some (.int .i32 (v : Int)) := by
        have := World.ownsRow.cellAt hR.rr j' (by rw [e4]; omega)
        rw [this, List.getElem?_map, List.getElem?_append_right (by rw [List.length_take]; omega)]
        have : j' - (tr.take j').length = 0 := by rw [List.length_take]; omega
        rw [this]; rfl
      have zp := frozen_of 4 hR.top
      have ap := hR.apart
      have n1 : p ≠ B.t := ap.p.1
      have n1' : B.t ≠ p := ap.p.1.symm
      have FT : Hid (Fr (B.Has p) w wr) := hf
      have hsub : (((j' + 1 : Nat) : Int)) - 1 = (j' : Int) := by omega
      simp only [tagV] at ct
      clear hR HR e1 e2 e4 hv hr hcur hf
      have hsub2 : ((j' : Int) + 1) - 1 = (j' : Int) := by omega
      have hbt : bits BinOp.andNot IntKind.i8 2 2 = 0 := by decide
      go_wp2_with fail
      go_quiet (fail)
      generalize hW : World.drewN wr _ = W2
      have F2 : Fr No wr W2 := hW ▸ (Fr.refl No wr).drewN _
      clear hW
      have c20 := F2.cellNo c0
      have c24 := F2.cellNo c4
      have ct2 := F2.cellNo ct
      have zt2 : W2.frozen? ⟨B.t, v, none⟩ = false := (World.frozen?_of_block (F2.block _ (cell_lt ct) (fun e => e))).trans zt
      have zp2 : W2.frozen? ⟨p, 4, none⟩ = false := (World.frozen?_of_block (F2.block _ (cell_lt c4) (fun e => e))).trans zp
      clear c0 c4 ct zt zp cr
      go_upto_region 2 with fail
      go_region
      have HN2 : Hid (RAt ((W2.setCell ⟨p, 4, none⟩ (sl B.r j' 64)).setCell ⟨B.t, v, none⟩ (.int .i8 0)).drew p B (unb ns (tr.drop j')) ws (tr.take j') tms saved) := (HN.out W2 _ F2 (Fr.refl No _)).keep ((Fr.refl No _).drew) (fun _ _ e => e)
      go_wp2_with fail
      go_roundg j'
      case measure => omega
      case rel => exact ⟨j', by omega, by omega, rfl, HN2.out, (((FT.out.trans F2 (fun _ _ e => e.elim)).setCell (fun _ => by simp [Blks.Has]) _).setCell (fun _ => by simp [Blks.Has]) _).drew⟩
    · have hjq : gk = q0 := by omega
      subst hjq
      have hR := HR.out
      have e4 : (tr.take gk).length = gk := by rw [List.length_take]; omega
      have c4 := hR.p4
      rw [e4] at c4
      clear e4
      go_wp2_with fail
      go_end0
      exact ⟨rfl, HR.out, hf⟩
end
end Go.Proofs.Qxb6500301a
