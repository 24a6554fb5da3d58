import Derived.Test.Qxb6500301aPrn4
import Derived.Test.Qxb6500301aMk1
namespace Go.Proofs.Qxb6500301a
open Go.RowKit
set_option linter.unusedSimpArgs false
set_option linter.unusedVariables false
attribute [local go_sem ↓] Go.wp_at_zero Go.wp_at_succ
attribute [-go_sem] Go.run_string_add_if Go.run_index_string Go.run_slice_string_if

theorem flat_unb (vs : List Nat) : ∀ (ns : List Nd), (∀ v ∈ vs, v < ns.length → ∃ q, ns[v]? = some (.v q)) → allArgs (unb ns vs) = allArgs ns := by
  induction vs with
  | nil => intro ns h; rfl
  | cons v vs ih =>
    intro ns h
    rw [unb_cons]
    by_cases hv : v < ns.length
    · obtain ⟨q, hq⟩ := h v (by simp) hv
      rw [ih (ns.set v (.v none))]
      · exact allArgs_setv hq
      · intro u hu hul
        rw [List.length_set] at hul
        by_cases e : v = u
        · subst e; exact ⟨none, by rw [List.getElem?_set_self hv]⟩
        · rw [List.getElem?_set_ne e]; exact h u (by simp [hu]) hul
    · have : ns.set v (.v none) = ns := List.set_eq_of_length_le (by omega)
      rw [this]
      exact ih ns (fun u hu => h u (by simp [hu]))
theorem aLen_restore {ns : List Nd} {tr : List Nat} (h : WfT ns tr) (tm top : Nat) : aLen (restore ns (tr.drop tm) top) ≤ aLen ns := by
  unfold restore
  refine Nat.le_trans (aLen_take_le _ _) ?_
  unfold aLen
  rw [flat_unb]
  · exact Nat.le_refl _
  · intro v hv _
    obtain ⟨r, hr⟩ := (h.mem v).1 (List.mem_of_mem_drop hv)
    exact ⟨_, hr⟩
/-- The marks' three tops never rise from a mark to the one before it. -/
theorem chain : ∀ (ms : List (Nat × Nat)) (ns : List Nd) (tr : List Nat), Inv ns tr ms → ∀ (j : Nat) (s : List Nd) (top tm : Nat), (savedOf ns tr ms)[j]? = some s → ms[j]? = some (top, tm) →
    s.length ≤ ns.length ∧ aLen s ≤ aLen ns ∧ tm ≤ tr.length ∧ ∀ s' top' tm', (savedOf ns tr ms)[j + 1]? = some s' → ms[j + 1]? = some (top', tm') → s'.length ≤ s.length ∧ aLen s' ≤ aLen s ∧ tm' ≤ tm
  | [], ns, tr, h, j, s, top, tm, h1, h2 => by simp at h2
  | (top0, tm0) :: ms, ns, tr, h, j, s, top, tm, h1, h2 => by
    obtain ⟨g1, g2, g3, g4⟩ := h
    have hl := restore_len (vs := tr.drop tm0) g2
    have ha := aLen_restore g1 tm0 top0
    have ih := chain ms _ _ g4
    cases j with
    | zero =>
      simp only [savedOf, List.getElem?_cons_zero, Option.some.injEq] at h1 h2
      cases h2
      subst h1
      refine ⟨by omega, ha, g3, fun s' top' tm' h3 h4 => ?_⟩
      obtain ⟨k1, k2, k3, _⟩ := ih 0 s' top' tm' (by simpa [savedOf] using h3) (by simpa using h4)
      exact ⟨k1, k2, by rw [List.length_take] at k3; omega⟩
    | succ j =>
      simp only [savedOf, List.getElem?_cons_succ] at h1 h2
      obtain ⟨k1, k2, k3, k4⟩ := ih j s top tm h1 h2
      refine ⟨by omega, by omega, by rw [List.length_take] at k3; omega, fun s' top' tm' h3 h4 => ?_⟩
      exact k4 s' top' tm' (by simpa [savedOf] using h3) (by simpa using h4)

section
variable {w : World} {p : Nat} {B : Blks} {ns : List Nd} {ws : List Int} {tr tms : List Nat} {saved : List (List Nd)}
theorem marks_chain (h1 : RAt w p B ns ws tr tms saved) (hinv : Inv ns tr ((saved.map List.length).zip tms)) (hsv : saved = savedOf ns tr ((saved.map List.length).zip tms)) (htm : tms.length = saved.length) :
    ∃ P : Nat → Nat × Nat × Nat, P 0 = (0, 0, 0) ∧ (∀ j, j < saved.length → (P j).1 ≤ (P (j + 1)).1 ∧ (P j).2.1 ≤ (P (j + 1)).2.1 ∧ (P j).2.2 ≤ (P (j + 1)).2.2 ∧ w.cell? ⟨B.m, j * 3, none⟩ = some (.int .i32 ((P (j + 1)).1 : Int)) ∧ w.cell? ⟨B.m, j * 3 + 1, none⟩ = some (.int .i32 ((P (j + 1)).2.1 : Int)) ∧ w.cell? ⟨B.m, j * 3 + 2, none⟩ = some (.int .i32 ((P (j + 1)).2.2 : Int))) ∧
      (P saved.length).1 ≤ ns.length ∧ (P saved.length).2.1 ≤ aLen ns ∧ (P saved.length).2.2 ≤ tr.length := by
  have get : ∀ j, j < saved.length → saved[j]? = some (saved.getD j []) ∧ tms[j]? = some (tms.getD j 0) ∧ ((saved.map List.length).zip tms)[j]? = some ((saved.getD j []).length, tms.getD j 0) := by
    intro j hj
    have a : saved[j]? = some (saved.getD j []) := by simp [List.getD, hj]
    have b : tms[j]? = some (tms.getD j 0) := by simp [List.getD, show j < tms.length by omega]
    exact ⟨a, b, by rw [List.getElem?_zip_eq_some]; exact ⟨by rw [List.getElem?_map, a]; rfl, b⟩⟩
  refine ⟨fun j => match j with
    | 0 => (0, 0, 0)
    | j + 1 => ((saved.getD (saved.length - 1 - j) []).length, aLen (saved.getD (saved.length - 1 - j) []), tms.getD (saved.length - 1 - j) 0), rfl, ?_, ?_⟩
  · intro j hj
    obtain ⟨a, b, c⟩ := get (saved.length - 1 - j) (by omega)
    have hc := mark_cells htm h1.rm b a
    rw [show saved.length - 1 - (saved.length - 1 - j) = j by omega] at hc
    cases j with
    | zero => exact ⟨Nat.zero_le _, Nat.zero_le _, Nat.zero_le _, hc.1, hc.2.1, hc.2.2⟩
    | succ j =>
      obtain ⟨a', b', c'⟩ := get (saved.length - 1 - j) (by omega)
      have e : saved.length - 1 - j = saved.length - 1 - (j + 1) + 1 := by omega
      obtain ⟨_, _, _, k⟩ := chain _ _ _ hinv (saved.length - 1 - (j + 1)) _ _ _ (by rw [← hsv]; exact a) c
      obtain ⟨k1, k2, k3⟩ := k _ _ _ (by rw [← hsv, ← e]; exact a') (by rw [← e]; exact c')
      exact ⟨k1, k2, k3, hc.1, hc.2.1, hc.2.2⟩
  · cases hn : saved.length with
    | zero => exact ⟨Nat.zero_le _, Nat.zero_le _, Nat.zero_le _⟩
    | succ n =>
      obtain ⟨a, b, c⟩ := get 0 (by omega)
      obtain ⟨k1, k2, k3, _⟩ := chain _ _ _ hinv 0 _ _ _ (by rw [← hsv]; exact a) c
      have e : n + 1 - 1 - n = 0 := by omega
      simp only [e]
      exact ⟨k1, k2, k3⟩
end

theorem not_mem_take {tr : List Nat} (h : tr.Nodup) {j : Nat} (hj : j < tr.length) : tr[j] ∉ tr.take j := by
  intro hm
  rw [← List.take_append_drop j tr, List.nodup_append] at h
  have h3 := h.2.2 _ hm tr[j] (List.mem_iff_getElem?.2 ⟨0, by rw [List.getElem?_drop, Nat.add_zero, List.getElem?_eq_getElem hj]⟩)
  exact h3 rfl
section
variable {w : World} {p : Nat} {B : Blks} {ns : List Nd} {saved : List (List Nd)}
set_option maxRecDepth 40000 in
set_option maxHeartbeats 4000000 in
theorem trailOK_any (h : HeapAt w p B ns saved) : Calls Try.prog 46 #[.pointer (some ⟨p, 0, none⟩)] w fun e w' => e = .returned (.bool true) ∧ Fr No w w' := by
  obtain ⟨ws, tr, tms, h1, hinv, hsv, htm, hs26⟩ := h.main
  obtain ⟨i4, hi4, hz4, hs4, hy4⟩ := info_parts Try.info4
  have hwt := hinv.wft
  have hs := hwt.small
  obtain ⟨P, hP0, hPs, hPe⟩ := marks_chain h1 hinv hsv htm
  have c0 := h1.p0
  have c3 := h1.p3
  have c4 := h1.p4
  have c5 := h1.p5
  rw [htm] at c5
  have hB : ∀ k, B.Has p k → k < w.heap.size := fun k hk => h1.lt hk
  have hBp := hB p (by simp [Blks.Has])
  have hBm := hB B.m (by simp [Blks.Has])
  have hBr := hB B.r (by simp [Blks.Has])
  have hBt := hB B.t (by simp [Blks.Has])
  have HTR : Hid (∀ j, j < tr.length → ∃ v : Nat, v < ns.length ∧ tr[j]? = some v ∧ v ∉ tr.take j ∧ w.cell? ⟨B.r, j, none⟩ = some (.int .i32 (v : Int)) ∧ w.cell? ⟨B.t, v, none⟩ = some (.int .i8 2)) := by
    intro j hj
    have hg : tr[j]? = some tr[j] := List.getElem?_eq_getElem hj
    obtain ⟨r, hr⟩ := (hwt.mem tr[j]).1 (List.getElem_mem hj)
    refine ⟨tr[j], lt_of_some hr, hg, not_mem_take hwt.nodup hj, ?_, h1.tag hr⟩
    rw [h1.rr.cellAt j (by omega)]
    simp [hj, n32]
  have HPS : Hid (∀ j, j < saved.length → (P j).1 ≤ (P (j + 1)).1 ∧ (P j).2.1 ≤ (P (j + 1)).2.1 ∧ (P j).2.2 ≤ (P (j + 1)).2.2 ∧ w.cell? ⟨B.m, j * 3, none⟩ = some (.int .i32 ((P (j + 1)).1 : Int)) ∧ w.cell? ⟨B.m, j * 3 + 1, none⟩ = some (.int .i32 ((P (j + 1)).2.1 : Int)) ∧ w.cell? ⟨B.m, j * 3 + 2, none⟩ = some (.int .i32 ((P (j + 1)).2.2 : Int))) := hPs
  have HPE : Hid ((P saved.length).1 ≤ ns.length ∧ (P saved.length).2.1 ≤ aLen ns ∧ (P saved.length).2.2 ≤ tr.length) := hPe
  have HP0 : Hid (P 0 = (0, 0, 0)) := hP0
  have ht64 : tr.length ≤ 64 := ownsRow_cap h1.rr
  have ha256 : aLen ns ≤ 256 := ownsRow_cap h1.ra
  clear h h1 hinv hsv hwt hPs hPe hP0 hB
  obtain ⟨w1, hrun1, hown1, hgrow1⟩ := run_make_full (P := Try.prog) w 0 57 4 i4 (.bool false) 1 Try.underlying57 hi4 hz4 hs4 .i64 .i64 ns.length (by rw [hy4]; omega) (by unfold maxLen; omega) (Nat.zero_le _)
  have hU1 : UndAt w1 w.heap.size ns.length [] := und_made hown1
  have F1 : Fr No w w1 := (Fr.refl No w).grown hgrow1 (fun k e => by cases e)
  have c41 := F1.cellNo c4
  have hsz1 : w.heap.size < w1.heap.size := lt_of_heap hU1
  have HC : Hid (∀ w', Fr (fun k => w.heap.size ≤ k) w w' → w'.cell? ⟨p, 0, none⟩ = some (.slice (some ⟨B.t, 0, none⟩) ns.length 64) ∧ w'.cell? ⟨p, 3, none⟩ = some (.slice (some ⟨B.a, 0, none⟩) (aLen ns) 256) ∧ w'.cell? ⟨p, 4, none⟩ = some (.slice (some ⟨B.r, 0, none⟩) tr.length 64) ∧ w'.cell? ⟨p, 5, none⟩ = some (.slice (some ⟨B.m, 0, none⟩) saved.length 26)) := by
    intro w' hf
    exact ⟨hf.cellAt c0 (by simp only; omega), hf.cellAt c3 (by simp only; omega), hf.cellAt c4 (by simp only; omega), hf.cellAt c5 (by simp only; omega)⟩
  generalize aLen ns = al at *
  go_enter Try.func46, Try.ntmps46
  go_wp2_with fail
  go_loopg [20] (tr.length + 1) (fun gk v20 wr => ∃ (j : Nat) (vs : List Nat), j ≤ tr.length ∧ gk = tr.length + 1 - j ∧ v20 = .int .i64 (j : Int) ∧ Hid (∀ v, v ∈ vs → v ∈ tr.take j) ∧ UndAt wr w.heap.size ns.length vs ∧ Fr (fun k => w.heap.size ≤ k) w wr)
  case atStart => exact ⟨0, [], Nat.zero_le _, rfl, rfl, fun v hv => by simp at hv, hU1, F1.mono (fun _ _ e => e.elim)⟩
  case round =>
    obtain ⟨j, vs, hj, hgk, rfl, HV, hU, hF⟩ := hrel
    obtain ⟨k0, k3, k4, k5⟩ := HC.out wr hF
    have hsz := hF.size
    clear c0 c3 c4 c5 c41 hrun1 hown1 hgrow1 hU1 F1
    by_cases hjl : j < tr.length
    case pos =>
      have d1 : decide ((j : Int) < (tr.length : Int)) = true := decide_eq_true (by omega)
      have d1' : decide (j < tr.length) = true := decide_eq_true (by omega)
      obtain ⟨v, hv, hjv, hnv, cr, ct⟩ := HTR.out j hjl
      have cr1 := hF.cellAt cr (by simp only; omega)
      have ct1 := hF.cellAt ct (by simp only; omega)
      have cu := hU.cell hv
      have hnm : v ∉ vs := fun e => hnv (HV.out v e)
      rw [decide_eq_false hnm] at cu
      have fu := frozen_of v hU
      have d2 : decide ((ns.length : Int) ≤ (v : Int)) = false := decide_eq_false (by omega)
      have d2' : decide (ns.length ≤ v) = false := decide_eq_false (by omega)
      have HU2 : Hid (UndAt (wr.setCell ⟨w.heap.size, v, none⟩ (.bool true)) w.heap.size ns.length (v :: vs)) := hU.set v
      have HF2 : Hid (Fr (fun k => w.heap.size ≤ k) w (wr.setCell ⟨w.heap.size, v, none⟩ (.bool true))) := hF.setCell (fun h => Nat.le_refl _) _
      have HV2 : Hid (∀ u, u ∈ v :: vs → u ∈ tr.take (j + 1)) := by
        intro u hu
        rw [List.take_add_one, hjv]
        rcases List.mem_cons.1 hu with rfl | hu
        · simp
        · simp [HV.out u hu]
      clear hjv hnv cr ct hnm hU hF
      go_wp2_with fail
      go_roundg (tr.length + 1 - (j + 1))
      case measure => omega
      case rel => exact ⟨j + 1, v :: vs, by omega, rfl, by go_num, HV2, HU2.out, HF2.out⟩
    case neg =>
      have d1 : decide ((j : Int) < (tr.length : Int)) = false := decide_eq_false (by omega)
      have d1' : decide (j < tr.length) = false := decide_eq_false (by omega)
      go_upto_region 10 with fail
      have F2 : Fr (fun k => w.heap.size ≤ k) w (wr.alloc (.cells #[.int .i32 0, .int .i32 0, .int .i32 0] 60)) := hF.alloc _
      have hb2 : (wr.alloc (.cells #[.int .i32 0, .int .i32 0, .int .i32 0] 60)).heap[wr.heap.size]? = some (.cells #[.int .i32 ((P 0).1 : Int), .int .i32 ((P 0).2.1 : Int), .int .i32 ((P 0).2.2 : Int)] 60) := by
        rw [HP0.out]
        exact heap_alloc_same _ _
      generalize (wr.alloc (.cells #[.int .i32 0, .int .i32 0, .int .i32 0] 60)) = W2 at *
      obtain ⟨m0, m3, m4, m5⟩ := HC.out W2 F2
      clear k0 k3 k4 k5 hU hF HV
      have hglb : w.heap.size ≤ wr.heap.size := hsz
      generalize hgl : wr.heap.size = gl at *
      clear hgl
      go_wp2_with fail
      go_loopg [59] (saved.length + 1) (fun gk2 v59 wr2 => ∃ (m : Nat), m ≤ saved.length ∧ gk2 = saved.length + 1 - m ∧ v59 = .int .i64 (m : Int) ∧ wr2.heap[gl]? = some (.cells #[.int .i32 ((P m).1 : Int), .int .i32 ((P m).2.1 : Int), .int .i32 ((P m).2.2 : Int)] 60) ∧ Fr (fun k => w.heap.size ≤ k) w wr2)
      case atStart => exact ⟨0, Nat.zero_le _, rfl, rfl, hb2, F2⟩
      case round =>
        clear m0 m3 m4 m5 F2 hb2
        obtain ⟨m, hm, hgk2, rfl, hb, hF⟩ := hrel
        obtain ⟨m0, m3, m4, m5⟩ := HC.out _ hF
        have q0 := cell_of 0 hb rfl
        have q1 := cell_of 1 hb rfl
        have q2 := cell_of 2 hb rfl
        have hgl := lt_of_heap hb
        by_cases hml : m < saved.length
        case pos =>
          have d3 : decide ((m : Int) < (saved.length : Int)) = true := decide_eq_true (by omega)
          have d3' : decide (m < saved.length) = true := decide_eq_true (by omega)
          obtain ⟨l1, l2, l3, e1, e2, e3⟩ := HPS.out m hml
          have r1 := hF.cellAt e1 (by simp only; omega)
          have r2 := hF.cellAt e2 (by simp only; omega)
          have r3 := hF.cellAt e3 (by simp only; omega)
          clear e1 e2 e3
          go_upto_region 13 with fail
          have F3 : Fr No wr (wr.alloc (.cells #[.int .i32 ((P (m + 1)).1 : Int), .int .i32 ((P (m + 1)).2.1 : Int), .int .i32 ((P (m + 1)).2.2 : Int)] 60)) := (Fr.refl No wr).alloc _
          have hn3 : (wr.alloc (.cells #[.int .i32 ((P (m + 1)).1 : Int), .int .i32 ((P (m + 1)).2.1 : Int), .int .i32 ((P (m + 1)).2.2 : Int)] 60)).heap[wr.heap.size]? = some (.cells #[.int .i32 ((P (m + 1)).1 : Int), .int .i32 ((P (m + 1)).2.1 : Int), .int .i32 ((P (m + 1)).2.2 : Int)] 60) := heap_alloc_same _ _
          generalize (wr.alloc (.cells #[.int .i32 ((P (m + 1)).1 : Int), .int .i32 ((P (m + 1)).2.1 : Int), .int .i32 ((P (m + 1)).2.2 : Int)] 60)) = W3 at *
          have hb3 := F3.keep hb (fun e => e)
          have HF3 : Hid (Fr (fun k => w.heap.size ≤ k) w W3) := hF.trans F3 (fun _ _ e => e.elim)
          have HB3 : Hid (W3.heap[gl]? = some (.cells #[.int .i32 ((P m).1 : Int), .int .i32 ((P m).2.1 : Int), .int .i32 ((P m).2.2 : Int)] 60)) := hb3
          have hne : gl ≠ wr.heap.size := by omega
          have hne' : wr.heap.size ≠ gl := by omega
          clear q0 q1 q2 r1 r2 r3 m0 m3 m4 m5 hF hb
          generalize wr.heap.size = gm at *
          have q0 := cell_of 0 hb3 rfl
          have q1 := cell_of 1 hb3 rfl
          have q2 := cell_of 2 hb3 rfl
          have z0 := frozen_of 0 hb3
          have z1 := frozen_of 1 hb3
          have z2 := frozen_of 2 hb3
          have r0 := cell_of 0 hn3 rfl
          have r1 := cell_of 1 hn3 rfl
          have r2 := cell_of 2 hn3 rfl
          have t1 : decide (((P (m + 1)).1 : Int) < ((P m).1 : Int)) = false := decide_eq_false (by omega)
          have t2 : decide (((P (m + 1)).2.1 : Int) < ((P m).2.1 : Int)) = false := decide_eq_false (by omega)
          have t3 : decide (((P (m + 1)).2.2 : Int) < ((P m).2.2 : Int)) = false := decide_eq_false (by omega)
          have t1' : decide ((P (m + 1)).1 < (P m).1) = false := decide_eq_false (by omega)
          have t2' : decide ((P (m + 1)).2.1 < (P m).2.1) = false := decide_eq_false (by omega)
          have t3' : decide ((P (m + 1)).2.2 < (P m).2.2) = false := decide_eq_false (by omega)
          have hglw : w.heap.size ≤ gl := hglb
          clear hb3 hn3 F3
          go_wp2_with fail
          go_roundg (saved.length + 1 - (m + 1))
          case measure => omega
          case rel =>
            refine ⟨m + 1, by omega, rfl, by go_num, ?_, ?_⟩
            · have s0 := heap_setCell_same (i := 0) (.int .i32 ((P (m + 1)).1 : Int)) HB3.out
              have s1 := heap_setCell_same (i := 1) (.int .i32 ((P (m + 1)).2.1 : Int)) s0
              have s2 := heap_setCell_same (i := 2) (.int .i32 ((P (m + 1)).2.2 : Int)) s1
              exact s2
            · exact ((HF3.out.setCell (fun _ => hglw) _).setCell (fun _ => hglw) _).setCell (fun _ => hglw) _
        case neg =>
          have hme : m = saved.length := by omega
          have d3 : decide ((m : Int) < (saved.length : Int)) = false := decide_eq_false (by omega)
          have d3' : decide (m < saved.length) = false := decide_eq_false (by omega)
          have he := HPE.out
          rw [← hme] at he
          obtain ⟨x1, x2, x3⟩ := he
          have t1 : decide (((P m).1 : Int) ≤ (ns.length : Int)) = true := decide_eq_true (by omega)
          have t2 : decide (((P m).2.1 : Int) ≤ (al : Int)) = true := decide_eq_true (by omega)
          have t3 : decide (((P m).2.2 : Int) ≤ (tr.length : Int)) = true := decide_eq_true (by omega)
          have t1' : decide ((P m).1 ≤ ns.length) = true := decide_eq_true (by omega)
          have t2' : decide ((P m).2.1 ≤ al) = true := decide_eq_true (by omega)
          have t3' : decide ((P m).2.2 ≤ tr.length) = true := decide_eq_true (by omega)
          have y1 : IntKind.i64.wrap ((P m).1 : Int) = ((P m).1 : Int) := by rw [IntKind.wrap_i64]; omega
          have y2 : IntKind.i64.wrap ((P m).2.1 : Int) = ((P m).2.1 : Int) := by rw [IntKind.wrap_i64]; omega
          have y3 : IntKind.i64.wrap ((P m).2.2 : Int) = ((P m).2.2 : Int) := by rw [IntKind.wrap_i64]; omega
          have HFN : Hid (Fr No w wr) := hF.mono (fun k hk e => by omega)
          clear hme hb hF
          go_upto_region 17 with fail
          go_quiet (fail)
          go_wp2_with fail
          go_ret
          exact ⟨rfl, HFN.out.drewN _⟩
end
end Go.Proofs.Qxb6500301a
