import Derived.Test.Qxb6500301aPrn3
namespace Go.Proofs.Qxb6500301a
open Go.RowKit
set_option linter.unusedSimpArgs false
set_option linter.unusedVariables false
attribute [local go_sem ↓] Go.wp_at_zero Go.wp_at_succ
attribute [-go_sem] Go.run_string_add_if Go.run_index_string Go.run_slice_string_if

theorem made_false (n : Nat) : (madeCells (Value.bool false).cells (n * 1)).toList = List.replicate n (.bool false) := by
  rw [List.eq_replicate_iff]
  simp [madeCells, Value.cells, Nat.mod_one]
theorem und_made {w : World} {b0 g n : Nat} (h : w.ownsRow b0 4 1 (sl g n n) n (madeCells (Value.bool false).cells (n * 1)).toList) : UndAt w g n [] := by
  rw [made_false] at h
  rcases h.2 with ⟨e, _⟩ | ⟨g', cap', cur, hv, hb, hg, hn, hc, hs, ht⟩
  · cases e
  · cases hv
    unfold UndAt
    rw [hg]
    congr 2
    apply Array.ext'
    have : cur.toList = List.replicate n (.bool false) := by
      rw [← ht]
      exact (List.take_of_length_le (by simp; omega)).symm
    rw [this]
    simp
    rw [List.map_const']
    simp

section
variable {w : World} {p : Nat} {B : Blks} {ns : List Nd} {saved : List (List Nd)}
set_option maxRecDepth 40000 in
set_option maxHeartbeats 8000000 in
theorem Show_any (h : HeapAt w p B ns saved) : Calls Try.prog 11 #[.pointer (some ⟨p, 0, none⟩)] w fun e w' => e = .returned (.string (S (showL ns saved))) ∧ Fr No w w' := by
  obtain ⟨hw, hs⟩ := h.wf
  obtain ⟨ws, tr, tms, h1, hinv, hsv, htm, hs26⟩ := h.main
  obtain ⟨i4, hi4, hz4, hs4, hy4⟩ := info_parts Try.info4
  have c0 := h1.p0
  have c4 := h1.p4
  have c5 := h1.p5
  rw [htm] at c5
  have HR : Hid (RAt w p B ns ws tr tms saved) := h1
  have HWT := hinv.wft
  have ht64 : tr.length ≤ 64 := ownsRow_cap h1.rr
  have HM : Hid (∀ j s, saved[j]? = some s → ∃ tm, tms[j]? = some tm ∧ tm ≤ tr.length ∧ s = restore ns (tr.drop tm) s.length ∧ s.length ≤ ns.length ∧ ∀ tm', tms[j + 1]? = some tm' → tm' ≤ tm) := by
    intro j s hj
    have hjl := (List.getElem?_eq_some_iff.1 hj).1
    have htj : tms[j]? = some (tms[j]'(by omega)) := List.getElem?_eq_getElem (by omega)
    have hms : ((saved.map List.length).zip tms)[j]? = some (s.length, tms[j]'(by omega)) := by
      rw [List.getElem?_zip_eq_some]
      exact ⟨by simp [hj], htj⟩
    obtain ⟨a1, a2, a3, a4⟩ := hinv.at hms
    rw [← hsv, hj] at a3
    refine ⟨_, htj, a2, Option.some.inj a3, a1, fun tm' htm' => ?_⟩
    have hjl' := (List.getElem?_eq_some_iff.1 htm').1
    refine a4 (saved[j + 1]'(by omega)).length tm' ?_
    rw [List.getElem?_zip_eq_some]
    exact ⟨by rw [List.getElem?_map, List.getElem?_eq_getElem (by omega)]; rfl, htm'⟩
  have HROW : Hid (∀ (w' : World) (vs : List Nat) (top ub : Nat), Fr (fun k => w.heap.size ≤ k) w w' → (∀ v ∈ vs, v ∈ tr) → top ≤ ns.length → UndAt w' ub ns.length vs → Calls Try.prog 23 #[.pointer (some ⟨p, 0, none⟩), .int .i64 (top : Int), .slice (some ⟨ub, 0, none⟩) ns.length ns.length] w' fun e w'' => e = .returned (.string (S (rowL (restore ns vs top)))) ∧ Fr No w' w'') := by
    intro w' vs top ub hf hvs ht hu
    exact row_any (h1.keep hf (fun k hk e => by have := h1.lt hk; omega)) hw hs (fun v hv => (HWT.mem v).1 (hvs v hv)) ht (fun i hi => hu.cell hi)
  have HTR : Hid (∀ v ∈ tr, v < ns.length) := fun v hv => by obtain ⟨r, hr⟩ := (HWT.mem v).1 hv; exact lt_of_some hr
  have HW : Hid (WfN ns) := hw
  have HTM : Hid (tms.length = saved.length) := htm
  clear h h1 hinv hsv HWT hw
  obtain ⟨w1, hrun1, hown1, hgrow1⟩ := run_make_full (P := Try.prog) w 0 57 4 i4 (.bool false) 1 Try.underlying57 hi4 hz4 hs4 .i64 .i64 ns.length (by rw [hy4]; omega) (by unfold maxLen; omega) (Nat.zero_le _)
  have hU1 : UndAt w1 w.heap.size ns.length [] := und_made hown1
  have F1 : Fr No w w1 := (Fr.refl No w).grown hgrow1 (fun k e => by cases e)
  have c01 := F1.cellNo c0
  have c41 := F1.cellNo c4
  have c51 := F1.cellNo c5
  have hsz1 : w.heap.size < w1.heap.size := lt_of_heap hU1
  have HRN : Hid (restore ns [] ns.length = ns) := by show _ = _; unfold restore; rw [unb_nil, List.take_length]
  have hrl : (rowL ns).length ≤ 960 := by have := rowL_len HW.out; omega
  have a1 := add_S [72] (rowL ns) (by simp; omega)
  go_enter Try.func11, Try.ntmps11
  go_wp2_with fail
  refine (HROW.out w1 [] ns.length w.heap.size (F1.mono (fun _ _ e => e.elim)) (by simp) (Nat.le_refl _) hU1).mono ?_
  rintro e w2 ⟨rfl, F2⟩
  rw [HRN.out]
  have c42 := F2.cellNo c41
  have c52 := F2.cellNo c51
  have hU2 := hU1.keep F2 (fun e => e)
  have F12 : Fr (fun k => w.heap.size ≤ k) w w2 := (F1.trans F2 (fun _ _ e => e)).mono (fun _ _ e => e.elim)
  have hsz2 := F2.size
  clear c0 c4 c5 c01 c41 c51 F1 F2 hU1 hrun1 hown1 hgrow1
  have a1' : ∀ w, (Op.stringOp .add { data := #[72] } (S (rowL ns))).run Try.prog w = .ok (.string (S ([72] ++ rowL ns))) w := a1
  clear a1
  go_wp2_with fail
  go_loopg [4, 5, 6] (saved.length + 1) (fun gk v4 v5 v6 wr => ∃ (j e0 : Nat), j ≤ saved.length ∧ gk = saved.length + 1 - j ∧ v6 = .int .i64 ((saved.length : Int) - 1 - (j : Int)) ∧ v5 = .int .i64 (e0 : Int) ∧ e0 ≤ tr.length ∧ Hid (∀ tm, tms[j]? = some tm → tm ≤ e0) ∧ v4 = .string (S ([72] ++ rowL ns ++ oldL (saved.take j))) ∧ ([72] ++ rowL ns ++ oldL (saved.take j)).length ≤ 1000 * (j + 1) ∧ UndAt wr w.heap.size ns.length (tr.drop e0) ∧ Fr (fun k => w.heap.size ≤ k) w wr)
  case atStart =>
    refine ⟨0, tr.length, Nat.zero_le _, rfl, by simp, rfl, Nat.le_refl _, ?_, ?_, ?_, ?_, F12⟩
    · intro tm htm
      have hl := (List.getElem?_eq_some_iff.1 htm).1
      have htl := HTM.out
      obtain ⟨tm2, h1, h2, _⟩ := HM.out 0 (saved[0]'(by omega)) (List.getElem?_eq_getElem (by omega))
      rw [htm] at h1
      cases h1
      exact h2
    · simp [oldL]
    · simp [oldL]; omega
    · rw [List.drop_length]; exact hU2
  case round =>
    clear c42 c52 hU2 F12 hsz2
    obtain ⟨j, e0, hj, hgk, rfl, rfl, he0, HE, rfl, hlen, hU, hF⟩ := hrel
    have hsz := hF.size
    by_cases hjl : j < saved.length
    case neg =>
      have hje : j = saved.length := by omega
      have em : (saved.length : Int) - 1 - (j : Int) = -1 := by omega
      have HN : Hid (showL ns saved = [72] ++ rowL ns ++ oldL (saved.take j)) := by show _ = _; rw [hje, List.take_length]; rfl
      rw [em]
      clear hje
      go_wp2_with fail
      go_ret
      rw [HN.out]
      exact ⟨rfl, hF.mono (fun k hk e => by omega)⟩
    case pos =>
      obtain ⟨s, hsj⟩ : ∃ s, saved[j]? = some s := ⟨_, List.getElem?_eq_getElem hjl⟩
      obtain ⟨tm, ht1, ht2, ht3, ht4, ht5⟩ := HM.out j s hsj
      have hte := HE.out tm ht1
      have hwr : RAt wr p B ns ws tr tms saved := HR.out.keep hF (fun k hk e => by have := HR.out.lt hk; omega)
      have c5 := hwr.p5
      rw [HTM.out] at c5
      obtain ⟨m0, m1, m2⟩ := mark_cells HTM.out hwr.rm ht1 hsj
      obtain ⟨K0, hK0⟩ : ∃ K0, saved.length - 1 - j = K0 := ⟨_, rfl⟩
      rw [hK0] at m0 m1 m2
      have eK : (saved.length : Int) - 1 - (j : Int) = (K0 : Int) := by omega
      have hK1 : K0 < saved.length := by omega
      rw [eK]
      have HT3 : Hid (s = restore ns (tr.drop tm) s.length) := ht3
      have HN : Hid ([72] ++ rowL ns ++ oldL (saved.take (j + 1)) = ([72] ++ rowL ns ++ oldL (saved.take j)) ++ [124] ++ rowL s) := by
        show _ = _
        rw [oldL_snoc hsj]; simp
      have hrs : (rowL s).length ≤ 960 := by rw [ht3]; have := rowL_restore HW.out (vs := tr.drop tm) ht4; omega
      have HT5 : Hid (∀ tm', tms[j + 1]? = some tm' → tm' ≤ tm) := ht5
      obtain ⟨L, hL⟩ : ∃ L, [72] ++ rowL ns ++ oldL (saved.take j) = L := ⟨_, rfl⟩
      rw [hL] at hlen HN ⊢
      have HKJ : Hid (K0 = saved.length - 1 - j) := hK0.symm
      have k3 : K0 ≤ 25 := by omega
      clear ht1 ht3 ht5 hL hK0 eK hsj HE
      go_upto_region 8 with fail
      have hb1 : (wr.alloc (.cells #[.int .i32 (s.length : Int), .int .i32 (aLen s : Int), .int .i32 (tm : Int)] 60)).heap[wr.heap.size]? = some (.cells #[.int .i32 (s.length : Int), .int .i32 (aLen s : Int), .int .i32 (tm : Int)] 60) := heap_alloc_same _ _
      have F3 : Fr No wr (wr.alloc (.cells #[.int .i32 (s.length : Int), .int .i32 (aLen s : Int), .int .i32 (tm : Int)] 60)) := (Fr.refl No wr).alloc _
      have hU3 := hU.keep F3 (fun e => e)
      have F03 : Fr (fun k => w.heap.size ≤ k) w (wr.alloc (.cells #[.int .i32 (s.length : Int), .int .i32 (aLen s : Int), .int .i32 (tm : Int)] 60)) := hF.trans F3 (fun _ _ e => e.elim)
      have hsz3 := F3.size
      have hlt3 : wr.heap.size < (wr.alloc (.cells #[.int .i32 (s.length : Int), .int .i32 (aLen s : Int), .int .i32 (tm : Int)] 60)).heap.size := lt_of_heap hb1
      generalize hgb : wr.heap.size = gb at *
      generalize (wr.alloc (.cells #[.int .i32 (s.length : Int), .int .i32 (aLen s : Int), .int .i32 (tm : Int)] 60)) = W3 at *
      have hgb1 : w.heap.size < gb := by have := lt_of_heap hU; omega
      clear c5 m0 m1 m2 hwr hU F3 hF hgb
      have m0 := cell_of 0 hb1 rfl
      have m2 := cell_of 2 hb1 rfl
      go_loopg [5] (e0 + 1) (fun gk2 v5 wr2 => ∃ e1 : Nat, v5 = .int .i64 (e1 : Int) ∧ tm ≤ e1 ∧ e1 ≤ tr.length ∧ gk2 = e1 + 1 ∧ UndAt wr2 w.heap.size ns.length (tr.drop e1) ∧ wr2.heap[gb]? = some (.cells #[.int .i32 (s.length : Int), .int .i32 (aLen s : Int), .int .i32 (tm : Int)] 60) ∧ Fr (fun k => w.heap.size ≤ k) w wr2 ∧ gb < wr2.heap.size)
      case atStart => exact ⟨e0, rfl, hte, he0, rfl, hU3, hb1, F03, hlt3⟩
      case round =>
        clear m0 m2 hU3 hb1 F03 hlt3 hsz3
        obtain ⟨e1, rfl, he1, he1l, hgk2, hU4, hb4, hF4, hlt4⟩ := hrel
        have n0 := cell_of 0 hb4 rfl
        have n2 := cell_of 2 hb4 rfl
        by_cases hte1 : tm < e1
        case pos =>
          have d1 : decide ((tm : Int) < (e1 : Int)) = true := decide_eq_true (by omega)
          have d1' : decide (tm < e1) = true := decide_eq_true hte1
          obtain ⟨e2, rfl⟩ : ∃ e2, e1 = e2 + 1 := ⟨e1 - 1, by omega⟩
          obtain ⟨v, hv⟩ : ∃ v, tr[e2]? = some v := ⟨_, List.getElem?_eq_getElem (by omega)⟩
          have hvn : v < ns.length := HTR.out v (List.mem_of_getElem? hv)
          have hwr : RAt wr p B ns ws tr tms saved := HR.out.keep hF4 (fun k hk e => by have := HR.out.lt hk; omega)
          have c4 := hwr.p4
          have cr : wr.cell? ⟨B.r, e2, none⟩ = some (.int .i32 (v : Int)) := by rw [hwr.rr.cellAt e2 (by omega)]; simp [hv, n32]
          have cu := hU4.cell hvn
          have zu := frozen_of v hU4
          have hUD : tr.drop e2 = v :: tr.drop (e2 + 1) := by
            rw [List.drop_eq_getElem_cons (by omega)]
            congr 1
            exact (List.getElem?_eq_some_iff.1 hv).2
          have hU5 := hU4.set v
          rw [← hUD] at hU5
          have HU5 : Hid (UndAt (wr.setCell ⟨w.heap.size, v, none⟩ (.bool true)) w.heap.size ns.length (tr.drop e2)) := hU5
          have hsub : ((e2 + 1 : Nat) : Int) - 1 = (e2 : Int) := by omega
          have hsub2 : ((e2 : Int) + 1) - 1 = (e2 : Int) := by omega
          have hb5 := (Fr.setCell (S := fun k => k = w.heap.size) (Fr.refl _ wr) (p := ⟨w.heap.size, v, none⟩) (fun _ => rfl) (.bool true)).keep hb4 (by omega)
          have hF5 : Fr (fun k => w.heap.size ≤ k) w (wr.setCell ⟨w.heap.size, v, none⟩ (.bool true)) := hF4.setCell (fun _ => Nat.le_refl _) _
          have HB5 : Hid ((wr.setCell ⟨w.heap.size, v, none⟩ (.bool true)).heap[gb]? = some (.cells #[.int .i32 (s.length : Int), .int .i32 (aLen s : Int), .int .i32 (tm : Int)] 60)) := hb5
          clear hUD hU5 hv hwr hb5 hU4 hb4
          go_wp2_with fail
          go_roundg (e2 + 1)
          case measure => omega
          case rel => exact ⟨e2, rfl, by omega, by omega, rfl, HU5.out, HB5.out, hF5, lt_of_heap HB5.out⟩
        case neg =>
          have hee : e1 = tm := by omega
          subst hee
          have d1 : decide ((e1 : Int) < (e1 : Int)) = false := decide_eq_false (by omega)
          have a2 := fun w => add_S L [124] (by simp; omega) w
          have a3 := fun w => add_S (L ++ [124]) (rowL s) (by simp; omega) w
          have a2' : ∀ w, (Op.stringOp .add (S L) { data := #[124] }).run Try.prog w = .ok (.string (S (L ++ [124]))) w := a2
          have hcl : (L ++ [124] ++ rowL s).length ≤ 1000 * (j + 1 + 1) := by simp; omega
          clear a2
          go_wp2_with fail
          refine (HROW.out wr (tr.drop e1) s.length w.heap.size hF4 (fun v hv => List.mem_of_mem_drop hv) ht4 hU4).mono ?_
          rintro e w6 ⟨rfl, F6⟩
          rw [← HT3.out]
          have hU6 := hU4.keep F6 (fun e => e)
          have hF6 : Fr (fun k => w.heap.size ≤ k) w w6 := hF4.trans F6 (fun _ _ e => e.elim)
          clear n0 n2
          go_wp2_with fail
          go_roundg (saved.length + 1 - (j + 1))
          case measure => omega
          case rel =>
            refine ⟨j + 1, e1, by omega, rfl, ?_, rfl, he1l, HT5.out, by rw [HN.out, List.append_assoc]; rfl, by rw [HN.out]; exact hcl, hU6, hF6⟩
            have := HKJ.out
            congr 1
            omega
end
end Go.Proofs.Qxb6500301a
