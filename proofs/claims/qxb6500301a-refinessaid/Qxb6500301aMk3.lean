import Derived.Test.Qxb6500301aMk1
import Derived.Test.Qxb6500301aMk2
namespace Go.Proofs.Qxb6500301a
open Go.RowKit
set_option linter.unusedSimpArgs false
set_option linter.unusedVariables false
attribute [local go_sem ↓] Go.wp_at_zero Go.wp_at_succ
attribute [-go_sem] Go.run_string_add_if Go.run_index_string Go.run_slice_string_if

section
variable {w : World} {p : Nat} {B : Blks} {ns : List Nd} {ws : List Int} {tr tms : List Nat} {saved : List (List Nd)}
theorem RAt.tr_small (h : RAt w p B ns ws tr tms saved) : tr.length ≤ 64 := ownsRow_cap h.rr

set_option maxRecDepth 40000 in
set_option maxHeartbeats 4000000 in
theorem Push_full (h : HeapAt w p B ns saved) (hf : 26 ≤ saved.length) : Calls Try.prog 29 #[.pointer (some ⟨p, 0, none⟩)] w (OnePost p B ns saved 6 w) := by
  obtain ⟨ws, tr, tms, h1, hinv, hsv, htm, hs26⟩ := h.main
  have c5 := h1.p5
  rw [htm] at c5
  have d1 : decide ((26 : Int) ≤ (saved.length : Int)) = true := decide_eq_true (by omega)
  have d1' : decide (26 ≤ saved.length) = true := decide_eq_true (by omega)
  have HH : Hid (HeapAt w p B ns saved) := h
  clear h h1 hinv hsv htm
  go_enter Try.func29, Try.ntmps29
  go_wp2_with fail
  go_ret
  exact ⟨rfl, HH.out, Fr.refl _ _⟩

set_option maxRecDepth 40000 in
set_option maxHeartbeats 4000000 in
theorem Push_any (h : HeapAt w p B ns saved) (hf : saved.length < 26) : Calls Try.prog 29 #[.pointer (some ⟨p, 0, none⟩)] w (OnePost p B ns (ns :: saved) 0 w) := by
  obtain ⟨ws, tr, tms, h1, hinv, hsv, htm, hs26⟩ := h.main
  have c0 := h1.p0
  have c3 := h1.p3
  have c4 := h1.p4
  have c5 := h1.p5
  have hn64 := hinv.wft.small
  have ha : aLen ns ≤ 256 := by have := (Four.of hinv.wft.wf).len; omega
  have ht64 := h1.tr_small
  have d1 : decide ((26 : Int) ≤ (tms.length : Int)) = false := decide_eq_false (by omega)
  have d1' : decide (26 ≤ tms.length) = false := decide_eq_false (by omega)
  have hml : tms.length < 26 := by omega
  have HR : Hid (RAt w p B ns ws tr tms saved) := h1
  have hpm : p ≠ B.m := h1.apart.p.2.2.2.2.2
  obtain ⟨i60, hi60, hz0, hz1, hz2⟩ := info_parts Try.info60
  have HFIN : Hid (∀ w', RAt w' p B ns ws tr (tr.length :: tms) (ns :: saved) → HeapAt w' p B ns (ns :: saved)) := by
    intro w' hr
    obtain ⟨i1, i2⟩ := hinv.push
    exact ⟨ws, tr, tr.length :: tms, hr, i1, by rw [List.map_cons, List.zip_cons_cons, i2, ← hsv], by simp [htm], by simp; omega⟩
  clear h h1 hinv hsv htm
  go_enter Try.func29, Try.ntmps29
  go_upto_region 3 with fail
  have FA : Fr No w (w.alloc (.cells #[n32 ns.length, n32 (aLen ns), n32 tr.length] 60)).drew := ((Fr.refl No w).alloc _).drew
  have hrow : (w.alloc (.cells #[n32 ns.length, n32 (aLen ns), n32 tr.length] 60)).drew.ownsRow 0 60 3 (sl B.m tms.length 26) tms.length (marksV tms saved) := FA.rows HR.out.rm (fun h => h)
  have hnb : (w.alloc (.cells #[n32 ns.length, n32 (aLen ns), n32 tr.length] 60)).drew.heap[w.heap.size]? = some (.cells #[n32 ns.length, n32 (aLen ns), n32 tr.length] 60) := heap_alloc_same _ _
  go_cut [] from 9 (fun wx => RAt wx p B ns ws tr (tr.length :: tms) (ns :: saved) ∧ Fr (B.Has p) w wx)
  case first =>
    have k0 : IntKind.i32.wrap (ns.length : Int) = (ns.length : Int) := by rw [IntKind.wrap_i32]; omega
    have k1 : IntKind.i32.wrap (aLen ns : Int) = (aLen ns : Int) := by rw [IntKind.wrap_i32]; omega
    have k2 : IntKind.i32.wrap (tr.length : Int) = (tr.length : Int) := by rw [IntKind.wrap_i32]; omega
    have S0 : w.cell? ⟨p, 0, none⟩ = some (.slice (some ⟨B.t, 0, none⟩) ns.length 64) ∧ w.cell? ⟨p, 3, none⟩ = some (.slice (some ⟨B.a, 0, none⟩) (aLen ns) 256) ∧ w.cell? ⟨p, 4, none⟩ = some (.slice (some ⟨B.r, 0, none⟩) tr.length 64) := ⟨c0, c3, c4⟩
    have n0 := World.new_ne w _ c0
    have ka := ((Fr.refl No w).alloc (.cells #[n32 ns.length, n32 (aLen ns), n32 tr.length] 60)).cellNo c5
    simp only [n32] at ka
    have kb0 := ((Fr.refl No w).alloc (.cells #[n32 ns.length, n32 (aLen ns), n32 tr.length] 60)).cellNo c0
    have kb3 := ((Fr.refl No w).alloc (.cells #[n32 ns.length, n32 (aLen ns), n32 tr.length] 60)).cellNo c3
    have kb4 := ((Fr.refl No w).alloc (.cells #[n32 ns.length, n32 (aLen ns), n32 tr.length] 60)).cellNo c4
    simp only [n32] at kb0 kb3 kb4
    go_region_law
      ((refine step_spare (by rfl) _ _ 54 (by rfl) 0 60 i60 3 Try.underlying54 hi60 hz1 B.m tms.length 26 (marksV tms saved) (by rfl) hrow ⟨w.heap.size, 0, none⟩ 1 1 [n32 ns.length, n32 (aLen ns), n32 tr.length] (by rfl) (by rfl) (World.news_of_block (cs := #[n32 ns.length, n32 (aLen ns), n32 tr.length]) hnb) (by simp [n32, Value.oneCell']) (by omega) ?_; intro w2 hown2 hgrow2; have G2 : Fr (fun k => k = B.m) w w2 := Fr.grown (S := fun k => k = B.m) (FA.mono (fun _ _ e => e.elim)) hgrow2 (fun k hk _ => (Option.some.inj hk).symm); have hp2 := G2.keep HR.out.top hpm; have cp2 := cell_of 5 hp2 rfl; have fp2 := frozen_of 5 hp2; have S9 : w2.cell? ⟨p, 0, none⟩ = some (.slice (some ⟨B.t, 0, none⟩) ns.length 64) ∧ w2.cell? ⟨p, 3, none⟩ = some (.slice (some ⟨B.a, 0, none⟩) (aLen ns) 256) ∧ w2.cell? ⟨p, 4, none⟩ = some (.slice (some ⟨B.r, 0, none⟩) tr.length 64) := ⟨G2.cellAt c0 hpm, G2.cellAt c3 hpm, G2.cellAt c4 hpm⟩))
    all_goals (go_wp2_with fail)
    all_goals go_meet
    all_goals (
      have T2 : Fr (fun k => k = B.m ∨ k = p) w (w2.setCell ⟨p, 5, none⟩ (sl B.m (tms.length + 1) 26)) := Fr.setCell (S := fun k => k = B.m ∨ k = p) (G2.mono (fun _ _ e => .inl e)) (fun _ => .inr rfl) _
      have ap := HR.out.apart
      refine ⟨⟨?_, T2.rows HR.out.rt ?_, T2.rows HR.out.rw ?_, T2.rows HR.out.rh ?_, T2.rows HR.out.ra ?_, T2.rows HR.out.rr ?_, ?_, HR.out.words, ap⟩, T2.mono ?_⟩
      · exact heap_setCell_same _ hp2
      · rintro (e | e); exact ap.t.2.2.2.2 e; exact ap.p.1 e.symm
      · rintro (e | e); exact ap.w.2.2.2 e; exact ap.p.2.1 e.symm
      · rintro (e | e); exact ap.h.2.2 e; exact ap.p.2.2.1 e.symm
      · rintro (e | e); exact ap.a.2 e; exact ap.p.2.2.2.1 e.symm
      · rintro (e | e); exact ap.r e; exact ap.p.2.2.2.2.1 e.symm
      · rw [marksV_push]
        exact ownsRow_setCell_other hown2 (fun e => hpm (own_sl e)) _
      · rintro k _ (e | e) <;> simp [Blks.Has, e])
  case rest =>
    obtain ⟨hr, hf⟩ := hcut
    have HR2 := HFIN.out _ hr
    clear c0 c3 c4 c5 hrow hnb FA
    go_wp2_with fail
    go_ret
    exact ⟨rfl, HR2, hf⟩
end
end Go.Proofs.Qxb6500301a
