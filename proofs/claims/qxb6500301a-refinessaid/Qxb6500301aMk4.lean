import Derived.Test.Qxb6500301aMk1
namespace Go.Proofs.Qxb6500301a
open Go.RowKit
set_option linter.unusedSimpArgs false
set_option linter.unusedVariables false
attribute [local go_sem ↓] Go.wp_at_zero Go.wp_at_succ
attribute [-go_sem] Go.run_string_add_if Go.run_index_string Go.run_slice_string_if

section
variable {w : World} {p : Nat} {B : Blks} {ns : List Nd} {ws : List Int} {tr tms : List Nat} {saved : List (List Nd)}
set_option maxRecDepth 40000 in
theorem Undo_idle (h : HeapAt w p B ns []) : Calls Try.prog 30 #[.pointer (some ⟨p, 0, none⟩)] w (OnePost p B ns [] 3 w) := by
  obtain ⟨ws, tr, tms, h1, hinv, hsv, htm, hs26⟩ := h.main
  have c5 := h1.p5
  rw [htm] at c5
  have HH : Hid (HeapAt w p B ns []) := h
  clear h h1 hinv hsv htm
  go_enter Try.func30, Try.ntmps30
  go_wp2_with fail
  go_ret
  exact ⟨rfl, HH.out, Fr.refl _ _⟩

theorem marks_cell {w : World} {g tm : Nat} {tms : List Nat} {s : List Nd} {ss : List (List Nd)} (hl : tms.length = ss.length) (h : w.ownsRow 0 60 3 (sl g (tms.length + 1) 26) (tms.length + 1) (marksV (tm :: tms) (s :: ss))) :
    w.cell? ⟨g, ss.length * 3, none⟩ = some (.int .i32 (s.length : Int)) ∧ w.cell? ⟨g, ss.length * 3 + 1, none⟩ = some (.int .i32 (aLen s : Int)) ∧ w.cell? ⟨g, ss.length * 3 + 2, none⟩ = some (.int .i32 (tm : Int)) := by
  have e : (marksV tms ss).length = ss.length * 3 := by
    unfold marksV
    rw [marks_len]
    simp [hl]
  rw [marksV_push] at h
  refine ⟨?_, ?_, ?_⟩
  · rw [h.cellAt (ss.length * 3) (by omega), List.getElem?_append_right (by omega), e, Nat.sub_self]; rfl
  · rw [h.cellAt (ss.length * 3 + 1) (by omega), List.getElem?_append_right (by omega), e, show ss.length * 3 + 1 - ss.length * 3 = 1 by omega]; rfl
  · rw [h.cellAt (ss.length * 3 + 2) (by omega), List.getElem?_append_right (by omega), e, show ss.length * 3 + 2 - ss.length * 3 = 2 by omega]; rfl

set_option maxRecDepth 40000 in
set_option maxHeartbeats 4000000 in
theorem Undo_any {s : List Nd} {ss : List (List Nd)} (h : HeapAt w p B ns (s :: ss)) : Calls Try.prog 30 #[.pointer (some ⟨p, 0, none⟩)] w (OnePost p B s (s :: ss) 0 w) := by
  obtain ⟨ws, tr, tms, h1, hinv, hsv, htm, hs26⟩ := h.main
  cases tms with
  | nil => simp at htm
  | cons tm tms =>
  have hl : tms.length = ss.length := by simpa using htm
  have c5 := h1.p5
  rw [htm, List.length_cons] at c5
  obtain ⟨m0, m1, m2⟩ := marks_cell hl h1.rm
  have hI : s.length ≤ ns.length ∧ tm ≤ tr.length ∧ s = restore ns (tr.drop tm) s.length := by
    rw [List.map_cons, List.zip_cons_cons] at hinv hsv
    simp only [savedOf] at hsv
    exact ⟨hinv.2.1, hinv.2.2.1, (List.cons.inj hsv).1⟩
  have HR : Hid (RAt w p B ns ws tr (tm :: tms) (s :: ss)) := h1
  have HUN : Hid (Inv s (tr.take tm) (((s :: ss).map List.length).zip (tm :: tms)) ∧ (s :: ss) = savedOf s (tr.take tm) (((s :: ss).map List.length).zip (tm :: tms))) := by
    have hI3 := hI.2.2
    rw [List.map_cons, List.zip_cons_cons] at hinv hsv ⊢
    obtain ⟨u1, u2⟩ := hinv.undo
    rw [← hI3] at u1 u2
    exact ⟨u1, by rw [u2]; exact hsv⟩
  have hss : ss.length ≤ 25 := by simp at hs26; omega
  have hn64 := hinv.wft.small
  have hsub : (((ss.length + 1 : Nat)) : Int) - 1 = (ss.length : Int) := by omega
  have hsub2 : ((ss.length : Int) + 1) - 1 = (ss.length : Int) := by omega
  have HI : Hid (s.length ≤ ns.length ∧ tm ≤ tr.length ∧ s = restore ns (tr.drop tm) s.length) := hI
  have hi1 := hI.1
  have hi2 := hI.2.1
  have HT : Hid (tr.Nodup ∧ ∀ v ∈ tr, ∃ r, ns[v]? = some (.v (some r))) := ⟨hinv.wft.nodup, fun v hv => (hinv.wft.mem v).1 hv⟩
  have ht64 : tr.length ≤ 64 := ownsRow_cap h1.rr
  clear h h1 hinv hsv htm hI
  go_enter Try.func30, Try.ntmps30
  go_upto_region 3 with fail
  have FZ : Fr No w (w.alloc (.cells #[.int .i32 0, .int .i32 0, .int .i32 0] 60)) := (Fr.refl No w).alloc _
  have a5 := FZ.cellNo c5
  have b0 := FZ.cellNo m0
  have b1 := FZ.cellNo m1
  have b2 := FZ.cellNo m2
  have nn5 := World.new_ne w _ c5
  have nnm := World.new_ne w _ m0
  have wr1 : IntKind.i64.wrap (ss.length : Int) = (ss.length : Int) := by rw [IntKind.wrap_i64]; omega
  go_region
  have HFI : Hid (Inv s (tr.take tm) (((s :: ss).map List.length).zip (tm :: tms)) ∧ (s :: ss) = savedOf s (tr.take tm) (((s :: ss).map List.length).zip (tm :: tms))) := HUN.out
  have F1 : Fr No w (w.alloc (.cells #[.int .i32 (s.length : Int), .int .i32 (aLen s : Int), .int .i32 (tm : Int)] 60)).drew := ((Fr.refl No w).alloc _).drew
  have hb1 : (w.alloc (.cells #[.int .i32 (s.length : Int), .int .i32 (aLen s : Int), .int .i32 (tm : Int)] 60)).drew.heap[w.heap.size]? = some (.cells #[.int .i32 (s.length : Int), .int .i32 (aLen s : Int), .int .i32 (tm : Int)] 60) := heap_alloc_same _ _
  generalize (w.alloc (.cells #[.int .i32 (s.length : Int), .int .i32 (aLen s : Int), .int .i32 (tm : Int)] 60)).drew = W1 at *
  have HF1 : Hid (Fr No w W1) := F1
  clear FZ a5 b0 b1 b2 nn5 nnm wr1 c5 m0 m1 m2
  have q12 := cell_of 2 hb1 rfl
  have HU : Hid (∀ w', w' = W1 → Calls Try.prog 44 #[.pointer (some ⟨p, 0, none⟩), .int .i64 (tm : Int)] w' fun e w' => e = .returned (.tuple #[]) ∧ RAt w' p B (unb ns (tr.drop tm)) ws (tr.take tm) (tm :: tms) (s :: ss) ∧ Fr (B.Has p) W1 w') := fun w' e => by subst e; exact unwind_any (HR.out.keep F1 (fun _ _ e => e)) hn64 HT.out.1 HT.out.2 hi2
  go_wp2_with fail
  refine (HU.out _ rfl).mono ?_
  rintro e w2 ⟨rfl, h2, f2⟩
  have HR2 : Hid (RAt w2 p B (unb ns (tr.drop tm)) ws (tr.take tm) (tm :: tms) (s :: ss)) := h2
  have HF2 : Hid (Fr (B.Has p) W1 w2) := f2
  have hb2 := f2.keep hb1 (fun hk => by have := HR.out.lt hk; omega)
  have hul : (unb ns (tr.drop tm)).length = ns.length := unb_len _ _
  have hsa : s = (unb ns (tr.drop tm)).take s.length := HI.out.2.2
  have hsal : aLen s ≤ aLen (unb ns (tr.drop tm)) := by rw [hsa]; exact aLen_take_le _ _
  have hua := ownsRow_cap h2.ra
  have hpg : p ≠ w.heap.size := fun e => by have := lt_of_heap HR.out.top; omega
  have hs64 : s.length ≤ 64 := by omega
  have hs256 : aLen s ≤ 256 := by omega
  have t2 := h2.top
  rw [hul] at t2
  have HSA : Hid (s = (unb ns (tr.drop tm)).take s.length) := hsa
  have HSL : Hid (aLen s ≤ aLen (unb ns (tr.drop tm))) := hsal
  generalize hAU : aLen (unb ns (tr.drop tm)) = AU at *
  generalize hTT : (tr.take tm).length = TT at *
  have HAU : Hid (aLen (unb ns (tr.drop tm)) = AU) := hAU
  have HTT : Hid ((tr.take tm).length = TT) := hTT
  clear h2 f2 hb1 HU q12 hsa hsal hul hAU hTT F1
  have hw2 : IntKind.i32.wrap (2 * (s.length : Int)) = 2 * (s.length : Int) := by rw [IntKind.wrap_i32]; omega
  have hw3 : IntKind.i32.wrap (s.length : Int) = (s.length : Int) := by rw [IntKind.wrap_i32]; omega
  have P2 : w2.heap[p]? = some (.cells #[sl B.t ns.length 64, sl B.w ns.length 64, sl B.h (2 * ns.length) 128, sl B.a AU 256, sl B.r TT 64, sl B.m (tms.length + 1) 26] 56) := t2
  have T2 : Fr (fun k => k = p) w2 w2 := Fr.refl _ _
  clear t2
  have cc3 := cell_of 0 P2 rfl
  have zz3 := frozen_of 0 P2
  have dd3 := cell_of 0 hb2 rfl
  have ee3 := cell_of 1 hb2 rfl
  go_upto_region 5 with fail
  go_region
  have P3 : (w2.setCell ⟨p, 0, none⟩ (sl B.t s.length 64)).drew.heap[p]? = some (.cells #[sl B.t s.length 64, sl B.w ns.length 64, sl B.h (2 * ns.length) 128, sl B.a AU 256, sl B.r TT 64, sl B.m (tms.length + 1) 26] 56) := heap_setCell_same _ P2
  have S3 : Fr (fun k => k = p) w2 (w2.setCell ⟨p, 0, none⟩ (sl B.t s.length 64)).drew := (setP (Fr.refl _ w2) _ _).drew
  have T3 : Fr (fun k => k = p) w2 (w2.setCell ⟨p, 0, none⟩ (sl B.t s.length 64)).drew := T2.trans S3 (fun _ _ e => e)
  have hb3 := S3.keep hb2 (fun e => hpg e.symm)
  generalize (w2.setCell ⟨p, 0, none⟩ (sl B.t s.length 64)).drew = W3 at *
  clear cc3 zz3 dd3 ee3 P2 hb2 T2 S3
  have cc4 := cell_of 1 P3 rfl
  have zz4 := frozen_of 1 P3
  have dd4 := cell_of 0 hb3 rfl
  have ee4 := cell_of 1 hb3 rfl
  go_upto_region 6 with fail
  go_region
  have P4 : (W3.setCell ⟨p, 1, none⟩ (sl B.w s.length 64)).drew.heap[p]? = some (.cells #[sl B.t s.length 64, sl B.w s.length 64, sl B.h (2 * ns.length) 128, sl B.a AU 256, sl B.r TT 64, sl B.m (tms.length + 1) 26] 56) := heap_setCell_same _ P3
  have S4 : Fr (fun k => k = p) W3 (W3.setCell ⟨p, 1, none⟩ (sl B.w s.length 64)).drew := (setP (Fr.refl _ W3) _ _).drew
  have T4 : Fr (fun k => k = p) w2 (W3.setCell ⟨p, 1, none⟩ (sl B.w s.length 64)).drew := T3.trans S4 (fun _ _ e => e)
  have hb4 := S4.keep hb3 (fun e => hpg e.symm)
  generalize (W3.setCell ⟨p, 1, none⟩ (sl B.w s.length 64)).drew = W4 at *
  clear cc4 zz4 dd4 ee4 P3 hb3 T3 S4
  have cc5 := cell_of 2 P4 rfl
  have zz5 := frozen_of 2 P4
  have dd5 := cell_of 0 hb4 rfl
  have ee5 := cell_of 1 hb4 rfl
  go_upto_region 7 with fail
  go_region
  have P5 : (W4.setCell ⟨p, 2, none⟩ (sl B.h (2 * s.length) 128)).drew.heap[p]? = some (.cells #[sl B.t s.length 64, sl B.w s.length 64, sl B.h (2 * s.length) 128, sl B.a AU 256, sl B.r TT 64, sl B.m (tms.length + 1) 26] 56) := heap_setCell_same _ P4
  have S5 : Fr (fun k => k = p) W4 (W4.setCell ⟨p, 2, none⟩ (sl B.h (2 * s.length) 128)).drew := (setP (Fr.refl _ W4) _ _).drew
  have T5 : Fr (fun k => k = p) w2 (W4.setCell ⟨p, 2, none⟩ (sl B.h (2 * s.length) 128)).drew := T4.trans S5 (fun _ _ e => e)
  have hb5 := S5.keep hb4 (fun e => hpg e.symm)
  generalize (W4.setCell ⟨p, 2, none⟩ (sl B.h (2 * s.length) 128)).drew = W5 at *
  clear cc5 zz5 dd5 ee5 P4 hb4 T4 S5
  have cc6 := cell_of 3 P5 rfl
  have zz6 := frozen_of 3 P5
  have dd6 := cell_of 0 hb5 rfl
  have ee6 := cell_of 1 hb5 rfl
  go_upto_region 8 with fail
  go_region
  have P6 : (W5.setCell ⟨p, 3, none⟩ (sl B.a (aLen s) 256)).drew.heap[p]? = some (.cells #[sl B.t s.length 64, sl B.w s.length 64, sl B.h (2 * s.length) 128, sl B.a (aLen s) 256, sl B.r TT 64, sl B.m (tms.length + 1) 26] 56) := heap_setCell_same _ P5
  have S6 : Fr (fun k => k = p) W5 (W5.setCell ⟨p, 3, none⟩ (sl B.a (aLen s) 256)).drew := (setP (Fr.refl _ W5) _ _).drew
  have T6 : Fr (fun k => k = p) w2 (W5.setCell ⟨p, 3, none⟩ (sl B.a (aLen s) 256)).drew := T5.trans S6 (fun _ _ e => e)
  have hb6 := S6.keep hb5 (fun e => hpg e.symm)
  generalize (W5.setCell ⟨p, 3, none⟩ (sl B.a (aLen s) 256)).drew = W6 at *
  clear cc6 zz6 dd6 ee6 P5 hb5 T5 S6
  go_wp2_with fail
  go_ret
  have h2 := HR2.out
  have ap := h2.apart
  have hul : (unb ns (tr.drop tm)).length = ns.length := unb_len _ _
  have hsl := HI.out.1
  have hsa := HSA.out
  refine ⟨rfl, ⟨ws.take s.length, tr.take tm, tm :: tms, ⟨?_, ?_, ?_, ?_, ?_, ?_, ?_, ?_, ap⟩, HFI.out.1, HFI.out.2, by simp [hl], by simp; omega⟩, ?_⟩
  · rw [P6, HTT.out]; rfl
  · have e := T6.rows (ownsRow_cut h2.rt (k := s.length) (by omega)) (fun e => ap.p.1 e.symm)
    rw [Nat.mul_one, ← List.map_take, ← hsa] at e
    exact e
  · have e := T6.rows (ownsRow_cut h2.rw (k := s.length) (by omega)) (fun e => ap.p.2.1 e.symm)
    rw [Nat.mul_one, ← List.map_take] at e
    exact e
  · have e := T6.rows (ownsRow_cut h2.rh (k := 2 * s.length) (by omega)) (fun e => ap.p.2.2.1 e.symm)
    rw [Nat.mul_one, heads_take, ← hsa] at e
    exact e
  · have hle := HSL.out
    have e := T6.rows (ownsRow_cut h2.ra (k := aLen s) (by rw [HAU.out]; exact hle)) (fun e => ap.p.2.2.2.1 e.symm)
    rw [Nat.mul_one, ← List.map_take] at e
    have e2 := args_take (unb ns (tr.drop tm)) s.length
    rw [← hsa] at e2
    rw [e2] at e
    exact e
  · exact T6.rows h2.rr (fun e => ap.p.2.2.2.2.1 e.symm)
  · exact T6.rows h2.rm (fun e => ap.p.2.2.2.2.2 e.symm)
  · have e := h2.words.take s.length
    rw [← hsa] at e
    exact e
  · exact (HF1.out.mono (fun _ _ e => e.elim)).trans HF2.out (fun _ _ e => e) |>.trans T6 (fun _ _ e => .inl e)
end
end Go.Proofs.Qxb6500301a
