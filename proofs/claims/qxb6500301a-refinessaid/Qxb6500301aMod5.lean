import Derived.Test.Qxb6500301aMod4
import Derived.Deep.RegionLaw
namespace Go.Proofs.Qxb6500301a
open Go.RowKit
set_option linter.unusedSimpArgs false
set_option linter.unusedVariables false
attribute [local go_sem ↓] Go.wp_at_zero Go.wp_at_succ
attribute [-go_sem] Go.run_string_add_if Go.run_index_string Go.run_slice_string_if

theorem e_cdne {c d c' d' : UInt8} (h : ¬ (c = c' ∧ d = d')) : ((S [c, d]).toList == (S [c', d']).toList) = false := by
  rw [ByteArray.toList_eq, ByteArray.toList_eq, S_list, S_list]
  apply beq_eq_false_iff_ne.2
  intro e
  simp at e
  exact h e

section
variable {w : World} {b0 q : Nat} {vn vo vl : Value} {ns : List Nd} {saved : List (List Nd)}
set_option maxRecDepth 40000 in
set_option maxHeartbeats 4000000 in
theorem uni_clash {f a b : Nat} {c d c' d' : UInt8} {es es' : List Nat} (hf : f < 40) (hb0 : b0 ≤ w.heap.size) (h : MAt w b0 q vn vo vl ns saved) (hw : WfN ns) (hs : ns.length ≤ 64) (ha : a < ns.length) (hb : b < ns.length) (e : deref ns a ≠ deref ns b) (hx : ns[deref ns a]? = some (.s c d es)) (hy : ns[deref ns b]? = some (.s c' d' es')) (hne : ¬ (c = c' ∧ d = d')) :
    Calls Try.prog 64 #[.pointer (some ⟨q, 0, none⟩), .int .i64 (a : Int), .int .i64 (b : Int), .int .i64 (39 - (f : Int))] w (MUniPost b0 q vn vo vl saved (U (f + 1) ns [(a, b)]) w) := by
  have HST : Hid (stp f ns a b = .err 7) := by show _ = _; rw [stp_ss rfl rfl e hx hy, if_neg hne]
  have HD : Hid (Calls Try.prog 54 #[.pointer (some ⟨q, 0, none⟩), .int .i64 (a : Int)] w fun e w'' => e = .returned (.int .i64 (deref ns a : Int)) ∧ w'' = w) := mderef_at h hw hs ha
  have HE : Hid (Calls Try.prog 54 #[.pointer (some ⟨q, 0, none⟩), .int .i64 (b : Int)] w fun e w'' => e = .returned (.int .i64 (deref ns b : Int)) ∧ w'' = w) := mderef_at h hw hs hb
  obtain ⟨g, cap, rfl, hgb, hgl, hcap⟩ := owns_ptr h.rn (by omega)
  have c0 := cell_of 0 h.top rfl
  have cx := (nd_cells h.rn hx).1
  have cy := (nd_cells h.rn hy).1
  have hxl := lt_of_some hx
  have hyl := lt_of_some hy
  have e1 := e_cd c d
  have e1' := e_cd' c d
  have e2 := e_cd c' d'
  have e2' := e_cd' c' d'
  have e3 := e_cdne hne
  simp only [hdS] at cx cy
  have HM : Hid (MAt w b0 q (sl g ns.length cap) vo vl ns saved) := h
  generalize deref ns a = x at *
  generalize deref ns b = y at *
  have ne1 : ((x : Int) == (y : Int)) = false := by simp; omega
  have ne2 : decide ((x : Int) = (y : Int)) = false := decide_eq_false (by omega)
  clear h hx hy
  go_enter Try.func64, Try.ntmps64
  go_wp2_with fail
  refine HD.out.mono ?_
  rintro e w1 ⟨rfl, rfl⟩
  go_wp2_with fail
  refine HE.out.mono ?_
  rintro e w1 ⟨rfl, rfl⟩
  go_wp2_with fail
  go_ret2
  rw [U_err HST.out]
  exact ⟨_, _, rfl, Fr.refl _ _, by omega, rfl, _, HM.out⟩

theorem zip_at {es es' : List Nat} {i k k' : Nat} (h : es[i]? = some k) (h' : es'[i]? = some k') : (es.zip es')[i]? = some (k, k') := by
  rw [List.getElem?_zip_eq_some]; exact ⟨h, h'⟩

set_option maxRecDepth 40000 in
set_option maxHeartbeats 4000000 in
theorem uni_ss {f a b : Nat} {c d : UInt8} {es es' : List Nat} (IH : ∀ m, m ≤ f → MUniOK b0 q vn vo vl saved m) (hf : f < 40) (hb0 : b0 ≤ w.heap.size) (h : MAt w b0 q vn vo vl ns saved) (hw : WfN ns) (hs : ns.length ≤ 64) (ha : a < ns.length) (hb : b < ns.length) (e : deref ns a ≠ deref ns b) (hx : ns[deref ns a]? = some (.s c d es)) (hy : ns[deref ns b]? = some (.s c d es')) :
    Calls Try.prog 64 #[.pointer (some ⟨q, 0, none⟩), .int .i64 (a : Int), .int .i64 (b : Int), .int .i64 (39 - (f : Int))] w (MUniPost b0 q vn vo vl saved (U (f + 1) ns [(a, b)]) w) := by
  rw [U_more (by rw [stp_ss rfl rfl e hx hy, if_pos ⟨rfl, rfl⟩])]
  have HD : Hid (Calls Try.prog 54 #[.pointer (some ⟨q, 0, none⟩), .int .i64 (a : Int)] w fun e w'' => e = .returned (.int .i64 (deref ns a : Int)) ∧ w'' = w) := mderef_at h hw hs ha
  have HE : Hid (Calls Try.prog 54 #[.pointer (some ⟨q, 0, none⟩), .int .i64 (b : Int)] w fun e w'' => e = .returned (.int .i64 (deref ns b : Int)) ∧ w'' = w) := mderef_at h hw hs hb
  obtain ⟨g, cap, rfl, hgb, hgl, hcap⟩ := owns_ptr h.rn (by omega)
  have c0 := cell_of 0 h.top rfl
  have cx := (nd_cells h.rn hx).1
  have cy := (nd_cells h.rn hy).1
  have hxl := lt_of_some hx
  have hyl := lt_of_some hy
  have hax := hw.arg _ _ _ _ hx
  have hay := hw.arg _ _ _ _ hy
  have e1 := e_cd c d
  have e1' := e_cd' c d
  simp only [hdS] at cx cy
  have HM : Hid (MAt w b0 q (sl g ns.length cap) vo vl ns saved) := h
  have HWF : Hid (∀ i fi nsi bsi, U f ns ((es.zip es').take i) = .inr (fi, nsi, bsi) → WfN nsi ∧ Bnds ns nsi bsi ∧ fi ≤ f) := by
    intro i fi nsi bsi hu
    exact U_wf f ns _ hw (fun p hp => zip_lt hax.2.2.2 hay.2.2.2 p (List.mem_of_mem_take hp)) fi nsi bsi hu
  have HX : Hid (ns[deref ns a]? = some (.s c d es)) := hx
  have HY : Hid (ns[deref ns b]? = some (.s c d es')) := hy
  have HAY : Hid (∀ w, Calls Try.prog 66 #[.string (S [c, d])] w fun e w' => e = .returned (.int .i64 (es.length : Int)) ∧ w' = w) := fun w => arity_nd hw hx w
  have HIH : Hid (∀ m, m ≤ f → MUniOK b0 q (sl g ns.length cap) vo vl saved m) := IH
  have hel : es'.length = es.length := by omega
  have hes4 : es.length ≤ 4 := by omega
  have hkx : ∀ k ∈ es, k < ns.length := hax.2.2.2
  have hky : ∀ k ∈ es', k < ns.length := hay.2.2.2
  generalize deref ns a = x at *
  generalize deref ns b = y at *
  have ne1 : ((x : Int) == (y : Int)) = false := by simp; omega
  have ne2 : decide ((x : Int) = (y : Int)) = false := decide_eq_false (by omega)
  clear h hx hy hax hay IH hw
  go_enter Try.func64, Try.ntmps64
  go_wp2_with fail
  refine HD.out.mono ?_
  rintro e w1 ⟨rfl, rfl⟩
  go_wp2_with fail
  refine HE.out.mono ?_
  rintro e w1 ⟨rfl, rfl⟩
  go_wp2_with fail
  go_loopg [3, 14, 15] (es.length + 1) (fun gk v3 v14 v15 wr => ∃ (i : Nat) (n er : Int), i ≤ es.length ∧ gk = es.length + 1 - i ∧ v15 = .int .i64 (i : Int) ∧ v3 = .int .i64 n ∧ v14 = .int .i64 er ∧ Hid (UniRes b0 q (sl g ns.length cap) vo vl saved (U f ns ((es.zip es').take i)) n er wr) ∧ Fr (OwnB (sl g ns.length cap)) w1 wr)
  case atStart =>
    refine ⟨0, _, _, Nat.zero_le _, rfl, rfl, rfl, rfl, ?_, Fr.refl _ _⟩
    rw [List.take_zero, U_nil]
    exact ⟨by omega, rfl, HM.out⟩
  case round =>
    obtain ⟨i, n, er, hi, hgk, rfl, rfl, rfl, HU, hF⟩ := hrel
    have hFs := hF.size
    have HSEQ : Hid (U f ns (es.zip es') = thn (U f ns ((es.zip es').take i)) ((es.zip es').drop i)) := by
      show _ = _
      rw [← U_seq, List.take_append_drop]
    cases hU : U f ns ((es.zip es').take i) with
    | inl er' =>
      rw [hU] at HU HSEQ
      obtain ⟨hne0, rfl, ns', hM'⟩ := HU.out
      have HFIN : Hid (MUniPost b0 q (sl g ns.length cap) vo vl saved (U f ns (es.zip es')) w1 (.returned (.tuple #[.int .i64 n, .int .i64 (er' : Int)])) wr) := by
        show MUniPost _ _ _ _ _ _ _ _ _ _
        rw [HSEQ.out]
        exact ⟨_, _, rfl, hF, hne0, rfl, ns', hM'⟩
      have n1 : ((er' : Int) == 0) = false := by simp; omega
      have n2 : decide ((er' : Int) = 0) = false := decide_eq_false (by omega)
      clear hU HU hM' HSEQ
      by_cases hil : i < es.length
      · have d2 : decide ((i : Int) < (es.length : Int)) = true := decide_eq_true (by omega)
        have d2' : decide (i < es.length) = true := decide_eq_true hil
        go_wp2_with fail
        refine (HAY.out _).mono ?_
        rintro e w2 ⟨rfl, rfl⟩
        go_wp2_with fail
        go_ret2
        exact HFIN.out
      · have d2 : decide ((i : Int) < (es.length : Int)) = false := decide_eq_false (by omega)
        have d2' : decide (i < es.length) = false := decide_eq_false hil
        go_wp2_with fail
        refine (HAY.out _).mono ?_
        rintro e w2 ⟨rfl, rfl⟩
        go_wp2_with fail
        go_ret2
        exact HFIN.out
    | inr r3 =>
      obtain ⟨fi, nsi, bsi⟩ := r3
      obtain ⟨hwi, hBi, hfi⟩ := HWF.out i fi nsi bsi hU
      rw [hU] at HU HSEQ
      obtain ⟨rfl, rfl, hMi⟩ := HU.out
      have hlen : nsi.length = ns.length := hBi.len
      by_cases hil : i < es.length
      · have d2 : decide ((i : Int) < (es.length : Int)) = true := decide_eq_true (by omega)
        have d2' : decide (i < es.length) = true := decide_eq_true hil
        obtain ⟨k, hk⟩ : ∃ k, es[i]? = some k := ⟨_, List.getElem?_eq_getElem hil⟩
        obtain ⟨k', hk'⟩ : ∃ k, es'[i]? = some k := ⟨_, List.getElem?_eq_getElem (by omega)⟩
        have hkn := hkx k (List.mem_of_getElem? hk)
        have hkn' := hky k' (List.mem_of_getElem? hk')
        have hxi : nsi[x]? = some (.s c d es) := by
          rw [hBi.other x (fun hm => by have := hBi.old x hm; rw [HX.out] at this; cases this)]; exact HX.out
        have hyi : nsi[y]? = some (.s c d es') := by
          rw [hBi.other y (fun hm => by have := hBi.old y hm; rw [HY.out] at this; cases this)]; exact HY.out
        have hMi2 := hMi
        rw [← hlen] at hMi2
        have ax := (nd_cells hMi2.rn hxi).2.2 i (by omega)
        have ay := (nd_cells hMi2.rn hyi).2.2 i (by omega)
        rw [argM_at (x := .s c d es) hk] at ax
        rw [argM_at (x := .s c d es') hk'] at ay
        have ct := cell_of 0 hMi.top rfl
        have HC : Hid (∀ w', Fr No wr w' → Calls Try.prog 64 #[.pointer (some ⟨q, 0, none⟩), .int .i64 (k : Int), .int .i64 (k' : Int), .int .i64 (40 - (fi : Int))] w' (MUniPost b0 q (sl g ns.length cap) vo vl saved (U fi nsi [(k, k')]) w')) := by
          intro w' hf'
          exact HIH.out fi hfi w' nsi k k' (by have := hf'.size; omega) (hMi.no' hf') hwi (by omega) (by omega) (by omega)
        have HNX : Hid (U f ns ((es.zip es').take (i + 1)) = app bsi (U fi nsi [(k, k')])) := by
          show _ = _
          rw [List.take_add_one, zip_at hk hk', Option.toList_some, U_seq, hU]
          rfl
        clear hU HU HSEQ hMi hMi2 hxi hyi hk hk' hwi hBi c0 cx cy
        go_wp2_with fail
        refine (HAY.out _).mono ?_
        rintro e w2 ⟨rfl, rfl⟩
        go_upto_region 29 with fail
        have hxs : (x : Int) < (ns.length : Int) := by omega
        have hys : (y : Int) < (ns.length : Int) := by omega
        have hi4 : (i : Int) < 4 := by omega
        go_region_law (first
          | (go_simp; refine (HC.out _ ((Fr.refl No w2).drew)).mono ?_; rintro e w4 ⟨n4, er4, rfl, F4, hR4⟩; go_wp2_with fail)
          | fail)
        all_goals (go_wp2_with fail)
        all_goals (
          have F5 : Fr (OwnB (sl g ns.length cap)) w1 w4 := hF.trans (S' := OwnB (sl g ns.length cap)) ⟨F4.os, F4.tape, F4.output, F4.size, F4.block⟩ (fun _ _ e => e)
          have HR5 : Hid (UniRes b0 q (sl g ns.length cap) vo vl saved (U f ns ((es.zip es').take (i + 1))) n4 er4 w4) := by
            show UniRes _ _ _ _ _ _ _ _ _ _
            rw [HNX.out]
            exact hR4.app bsi
          go_roundg (es.length + 1 - (i + 1))
          case measure => omega
          case rel => exact ⟨i + 1, n4, er4, by omega, rfl, by go_num, rfl, rfl, HR5, F5⟩)
      · have d2 : decide ((i : Int) < (es.length : Int)) = false := decide_eq_false (by omega)
        have d2' : decide (i < es.length) = false := decide_eq_false hil
        have hzl : ((es.zip es').drop i) = [] := List.drop_eq_nil_of_le (by rw [List.length_zip]; omega)
        have HFIN : Hid (MUniPost b0 q (sl g ns.length cap) vo vl saved (U f ns (es.zip es')) w1 (.returned (.tuple #[.int .i64 (40 - (fi : Int)), .int .i64 0])) wr) := by
          show MUniPost _ _ _ _ _ _ _ _ _ _
          rw [HSEQ.out, hzl]
          simp only [thn]
          rw [U_nil]
          exact ⟨_, _, rfl, hF, rfl, rfl, hMi⟩
        clear hU HU hMi HSEQ hzl hBi hwi
        go_wp2_with fail
        refine (HAY.out _).mono ?_
        rintro e w2 ⟨rfl, rfl⟩
        go_wp2_with fail
        go_ret2
        exact HFIN.out

set_option maxRecDepth 40000 in
theorem mUni_any : ∀ f, f ≤ 40 → MUniOK b0 q vn vo vl saved f := by
  intro f
  induction f using Nat.strongRecOn with
  | _ f IH =>
    intro hf w ns a b hb0 h hw hs ha hb
    cases f with
    | zero =>
      rw [U_zero]
      have HM : Hid (MAt w b0 q vn vo vl ns saved) := h
      clear h IH
      go_enter Try.func64, Try.ntmps64
      go_wp2_with fail
      go_ret2
      exact ⟨_, _, rfl, Fr.refl _ _, by omega, rfl, _, HM.out⟩
    | succ f =>
      rw [show (40 : Int) - ((f + 1 : Nat) : Int) = 39 - (f : Int) by omega]
      by_cases e : deref ns a = deref ns b
      · exact uni_same (by omega) hb0 h hw hs ha hb e
      rcases (deref_end hw a ha).2 with hx | ⟨c, d, es, hx⟩
      · rcases (deref_end hw b hb).2 with hy | ⟨c', d', es', hy⟩
        · exact uni_vv (by omega) hb0 h hw hs ha hb e hx hy
        · exact uni_vs (by omega) hb0 h hw hs ha hb hx hy
      · rcases (deref_end hw b hb).2 with hy | ⟨c', d', es', hy⟩
        · exact uni_sv (by omega) hb0 h hw hs ha hb hx hy
        · by_cases hne : c = c' ∧ d = d'
          · obtain ⟨rfl, rfl⟩ := hne
            exact uni_ss (fun m hm => IH m (by omega) (by omega)) (by omega) hb0 h hw hs ha hb e hx hy
          · exact uni_clash (by omega) hb0 h hw hs ha hb e hx hy hne
end
end Go.Proofs.Qxb6500301a
