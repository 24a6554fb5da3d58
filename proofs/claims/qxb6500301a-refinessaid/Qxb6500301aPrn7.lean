import Derived.Test.Qxb6500301aPrn6
namespace Go.Proofs.Qxb6500301a
open Go.RowKit
set_option linter.unusedSimpArgs false
set_option linter.unusedVariables false
attribute [local go_sem ↓] Go.wp_at_zero Go.wp_at_succ
attribute [-go_sem] Go.run_string_add_if Go.run_index_string Go.run_slice_string_if

theorem putKids_at {P : Nat → PS → Option PS} {es : List Nat} {j k : Nat} (hk : es[j]? = some k) (b : Bool) (o : List UInt8) (nm : List Nat) : putKids P b (es.drop j) (o, nm) = if 48 < (o ++ [sepB b]).length then none else (P k (o ++ [sepB b], nm)).bind (putKids P false (es.drop (j + 1))) := by
  have hj := (List.getElem?_eq_some_iff.1 hk).1
  have h2 := (List.getElem?_eq_some_iff.1 hk).2
  rw [List.drop_eq_getElem_cons hj, h2]
  rfl

section
variable {w0 w : World} {p : Nat} {B : Blks} {ns : List Nd} {ws : List Int} {tr tms : List Nat} {saved : List (List Nd)}
set_option maxRecDepth 40000 in
set_option maxHeartbeats 8000000 in
theorem put_str (h : RAt w0 p B ns ws tr tms saved) (hw : WfN ns) (hs : ns.length ≤ 64) {f a : Nat} (IH : PutOK p w0.heap.size w0 ns f) {st : PS} {g mb : Nat} {bs : Option Addr} {cap : Nat} (hF : Fr (fun k => w0.heap.size ≤ k) w0 w) (hP : PenAt w0.heap.size w g mb bs cap st) (h48 : st.1.length ≤ 48) (hnm : st.2.length ≤ st.1.length) (h49 : 49 ≤ st.1.length + (f + 1)) (ha : a < ns.length) {c d : UInt8} {es : List Nat} (hx : ns[deref ns a]? = some (.s c d es)) :
    Calls Try.prog 35 #[.pointer (some ⟨p, 0, none⟩), .pointer (some ⟨g, 0, none⟩), .int .i32 (a : Int)] w (PutPost w0.heap.size w g mb (putN (f + 1) ns a st)) := by
  have hw1 : RAt w p B ns ws tr tms saved := h.keep hF (fun k hk e => by have := h.lt hk; omega)
  have HD : Hid (∀ w', w' = w → Calls Try.prog 24 #[.pointer (some ⟨p, 0, none⟩), .int .i32 (a : Int)] w' fun e w'' => e = .returned (.int .i32 (deref ns a : Int)) ∧ w'' = w') := fun w' e => by subst e; exact deref_any hw1 hw hs ha
  have hdl := (deref_end hw a ha).1
  obtain ⟨i5, hi5, hz5, hs5, hy5⟩ := info_parts Try.info5p
  have hFs := hF.size
  have c0 := hw1.p0
  have c2 := hw1.p2
  have hBg : ∀ k, B.Has p k → k < w0.heap.size := fun k hk => h.lt hk
  have ct := hw1.tag hx
  have ch0 := hw1.head0 hx
  have hal := hw.arg _ c d es hx
  have hpv : putN (f + 1) ns a st = (putKids (putN f ns) true es (st.1 ++ [c], st.2)).bind (shut es) := by simp only [putN, hx]
  have HFW : Hid (Fr (fun k => w0.heap.size ≤ k) w0 w) := hF
  have HKI : Hid (∀ w', Fr (fun k => w0.heap.size ≤ k) w0 w' → Calls Try.prog 39 #[.pointer (some ⟨p, 0, none⟩), .int .i32 (deref ns a : Int)] w' (KidsPost B es w')) := by
    intro w' hf'
    have hrw : RAt w' p B ns ws tr tms saved := h.keep hf' (fun k hk e => by have := h.lt hk; omega)
    have := kids_any hrw hw hs hdl
    have e : kidsOf ns (deref ns a) = es := by unfold kidsOf; rw [hx]
    rw [e] at this
    exact this
  have hes : es.length ≤ 4 ∧ ∀ k ∈ es, k < ns.length := ⟨by omega, hal.2.2.2⟩
  have HIH : Hid (PutOK p w0.heap.size w0 ns f) := IH
  have hcpen := cell_of 0 hP.pen rfl
  have hzpen := frozen_of 0 hP.pen
  have HPN : Hid (PenAt w0.heap.size w g mb bs cap st) := hP
  simp only [tagV] at ct
  obtain ⟨o1, nm⟩ := st
  simp only at hnm h48 h49 hpv hcpen
  generalize hR : putN (f + 1) ns a (o1, nm) = R at *
  have HR0 : Hid (R = (putKids (putN f ns) true es (o1 ++ [c], nm)).bind (shut es)) := hpv
  clear hR hpv hx hP hw1 h hal IH hF
  generalize deref ns a = da at *
  have HF0 : Hid (Fr (fun k => w0.heap.size ≤ k) w w) := Fr.refl _ _
  go_enter Try.func35, Try.ntmps35
  go_wp2_with fail
  refine (HD.out _ rfl).mono ?_
  rintro e w1 ⟨rfl, rfl⟩
  go_upto_region 10 with fail
  clear HD ct
  go_cut [] from 73 (fun wx => ∃ bs4 cap4, PenAt w0.heap.size wx g mb bs4 cap4 (o1 ++ [c], nm) ∧ Fr (fun k => w0.heap.size ≤ k) w1 wx)
  case first =>
    have h2d : (0:Int) ≤ 2 * (da : Int) := by omega
    have h2t : (2 * (da : Int)).toNat = 2 * da := by omega
    have h2l : 2 * (da : Int) < ((2 * ns.length : Nat) : Int) := by omega
    have hwm : IntKind.i32.wrap (2 * (da : Int)) = 2 * (da : Int) := by rw [IntKind.wrap_i32]; omega
    have FA : Fr No w1 (w1.alloc (.cells #[.int .u8 (c.toNat : Int)] 5)) := (Fr.refl No w1).alloc _
    have FA' : Fr No w1 (w1.alloc (.cells #[.int .u8 (c.toNat : Int)] 5)).drew := ((Fr.refl No w1).alloc _).drew
    have ka := FA.cellNo hcpen
    have n0 := World.new_ne w1 _ hcpen
    have hrow1 : (w1.alloc (.cells #[.int .u8 (c.toNat : Int)] 5)).drew.ownsRow w0.heap.size 5 1 (.slice bs o1.length cap) o1.length (o1.map u8v) := HPN.out.buf.no FA'
    have hnb1 : (w1.alloc (.cells #[.int .u8 (c.toNat : Int)] 5)).drew.heap[w1.heap.size]? = some (.cells #[.int .u8 (c.toNat : Int)] 5) := heap_alloc_same _ _
    go_region_law
      ((refine step_append_lies _ (by rfl) _ _ 53 (by rfl) w0.heap.size 5 i5 (.int .u8 0) 1 1 Try.underlying53 hi5 hz5 hs5 hy5 rfl (by omega) (.slice bs o1.length cap) o1.length (o1.map u8v) (by rfl) hrow1 ⟨w1.heap.size, 0, none⟩ 1 1 [.int .u8 (c.toNat : Int)] (by rfl) (by rfl) (World.news_of_block (cs := #[.int .u8 (c.toNat : Int)]) hnb1) (by simp [Value.oneCell']) (by omega) (by unfold maxLen; omega) (by omega) (by simp; omega) (w1.heap.size + 1) (by simp) ?_; intro g3 cap3 w3 hown3 hgrow3 hat3 hlt3; have G3 : Fr (fun k => (Value.slice bs o1.length cap).ownBlock = some k) w1 w3 := Fr.grown (S := fun k => (Value.slice bs o1.length cap).ownBlock = some k) (FA'.mono (fun _ _ e => e.elim)) hgrow3 (fun k hk _ => hk); have hp3 := G3.keep HPN.out.pen (fun e => (HPN.out.ne e).1 rfl); have cp3 := cell_of 0 hp3 rfl; have fp3 := frozen_of 0 hp3))
    all_goals (go_wp2_with fail)
    all_goals go_meet
    all_goals (
      have hb3 : Buf w0.heap.size w3 (.slice (some ⟨g3, 0, none⟩) (o1 ++ [c]).length cap3) (o1 ++ [c]) := by
        unfold Buf
        rw [List.length_append, List.map_append]
        exact hown3
      have hP3 := HPN.out.app G3 hb3
      refine ⟨some ⟨g3, 0, none⟩, cap3, ?_, (G3.mono (fun k _ e => (HPN.out.buf.lt k e).1)).setCell (fun _ => HPN.out.gb) _⟩
      have e3 : (o1 ++ [c]).length = o1.length + 1 := by simp
      rw [e3] at hP3
      exact hP3)
  case rest =>
    obtain ⟨bs4, cap4, hP4, hF4⟩ := hcut
    have HP4 : Hid (PenAt w0.heap.size wc g mb bs4 cap4 (o1 ++ [c], nm)) := hP4
    have HF4 : Hid (Fr (fun k => w0.heap.size ≤ k) w1 wc) := hF4
    have hl4 : (o1 ++ [c]).length = o1.length + 1 := by simp
    have hsz4 := hF4.size
    obtain ⟨o4, ho4⟩ : ∃ o4, o1 ++ [c] = o4 := ⟨_, rfl⟩
    rw [ho4] at HP4 hl4 HR0
    have hl4' : o4.length ≤ 49 ∧ nm.length ≤ o4.length ∧ 49 ≤ o4.length + f := by omega
    clear hP4 hF4 ho4 hl4 c0 c2 ch0 hcpen hzpen
    go_wp2_with fail
    refine (HKI.out _ (HFW.out.trans HF4.out (fun _ _ e => e))).mono ?_
    rintro e w5 ⟨bk, ck, rfl, rfl, hck, hkc⟩
    generalize hW5 : w5 = W5 at *
    clear hW5
    go_wp2_with fail
    go_loopg [10, 95] (es.length + 1) (fun gk v10 v95 wr => ∃ (j : Nat) (bj : Option Addr) (cj : Nat) (oj : List UInt8) (nj : List Nat), j ≤ es.length ∧ gk = es.length + 1 - j ∧ v95 = .int .i64 (j : Int) ∧ v10 = .int .u8 ((sepB (decide (j = 0))).toNat : Int) ∧ Hid (R = (putKids (putN f ns) (decide (j = 0)) (es.drop j) (oj, nj)).bind (shut es)) ∧ Hid (PenAt w0.heap.size wr g mb bj cj (oj, nj)) ∧ oj.length ≤ 49 ∧ nj.length ≤ oj.length ∧ 49 ≤ oj.length + f ∧ Hid (Fr (fun k => w0.heap.size ≤ k) W5 wr))
    case atStart => exact ⟨0, bs4, cap4, o4, nm, Nat.zero_le _, rfl, rfl, rfl, HR0, HP4, hl4'.1, hl4'.2.1, hl4'.2.2, Fr.refl _ _⟩
    case round =>
      obtain ⟨j, bj, cj, oj, nj, hj, hgk, rfl, rfl, HRj, HPj, hoj, hnj, h49j, HFj⟩ := hrel
      have hszj := HFj.out.size
      by_cases hjlt : j < es.length
      case neg =>
        have hje : j = es.length := by omega
        have d2 : decide ((j : Int) < (es.length : Int)) = false := decide_eq_false (by omega)
        have d2' : decide (j < es.length) = false := decide_eq_false (by omega)
        have HRs : Hid (R = shut es (oj, nj)) := by
          show _ = _
          rw [HRj.out, hje, List.drop_length]
          rfl
        have HFT : Hid (Fr (fun k => w0.heap.size ≤ k) w1 wr) := HF4.out.trans HFj.out (fun _ _ e => e)
        clear hje
        by_cases he : es = []
        · have HV : Hid (R = if oj.length ≤ 48 then some (oj, nj) else none) := by
            show _ = _
            rw [HRs.out]
            unfold shut endL
            rw [if_pos he]
          have hel : es.length = 0 := by rw [he]; rfl
          have d3 : decide ((0 : Int) < (es.length : Int)) = false := decide_eq_false (by omega)
          have d3' : decide (0 < es.length) = false := decide_eq_false (by omega)
          have cj0 := cell_of 0 HPj.out.pen rfl
          simp only at cj0
          clear he

          by_cases h4x : oj.length ≤ 48
          · have d4 : decide ((oj.length : Int) ≤ 48) = true := decide_eq_true (by omega)
            have d4' : decide (oj.length ≤ 48) = true := decide_eq_true h4x
            go_wp2_with fail
            go_ret
            unfold PutPost
            rw [HV.out, if_pos h4x]
            refine ⟨rfl, HFT.out, fun st' e => ?_⟩
            cases e
            exact ⟨_, _, HPj.out⟩
          · have d4 : decide ((oj.length : Int) ≤ 48) = false := decide_eq_false (by omega)
            have d4' : decide (oj.length ≤ 48) = false := decide_eq_false h4x
            go_wp2_with fail
            go_ret
            unfold PutPost
            rw [HV.out, if_neg h4x]
            exact ⟨rfl, HFT.out, fun st' e => by cases e⟩
        · have HV0 : Hid (R = if (oj ++ [41]).length ≤ 48 then some (oj ++ [41], nj) else none) := by
            show _ = _
            rw [HRs.out]
            unfold shut endL
            rw [if_neg he]
          have hel : 0 < es.length := by
            cases hes' : es with
            | nil => exact absurd hes' he
            | cons x r => simp
          have d3 : decide ((0 : Int) < (es.length : Int)) = true := decide_eq_true (by omega)
          have d3' : decide (0 < es.length) = true := decide_eq_true (by omega)
          clear he
          have cg06 := cell_of 0 HPj.out.pen rfl
          have zg06 := frozen_of 0 HPj.out.pen
          have hrow6 : (wr.alloc (.cells #[.int .u8 41] 5)).ownsRow w0.heap.size 5 1 (.slice bj oj.length cj) oj.length (oj.map u8v) := HPj.out.buf.no ((Fr.refl No wr).alloc _)
          have hnb6 : (wr.alloc (.cells #[.int .u8 41] 5)).heap[wr.heap.size]? = some (.cells #[.int .u8 41] 5) := heap_alloc_same _ _
          go_upto_region 26 with (at_builtin; refine wpList_append_lies _ (by rfl) _ _ 53 (by rfl) w0.heap.size 5 i5 (.int .u8 0) 1 1 Try.underlying53 hi5 hz5 hs5 hy5 rfl (by omega) _ oj.length (oj.map u8v) (by rfl) hrow6 ⟨wr.heap.size, 0, none⟩ 1 1 [.int .u8 41] (by rfl) (by rfl) (World.news_of_block (cs := #[.int .u8 41]) hnb6) (by simp [Value.oneCell']) (by omega) (by unfold maxLen; omega) (by omega) (by simp; omega) (wr.heap.size + 1) (by simp) ?_; intro g6 cap6 w6 hown6 hgrow6 hat6 hlt6; have G6 : Fr (fun k => (Value.slice bj oj.length cj).ownBlock = some k) wr w6 := Fr.grown (S := fun k => (Value.slice bj oj.length cj).ownBlock = some k) ((Fr.refl _ wr).alloc _) hgrow6 (fun k hk _ => hk); have hp6 := G6.keep HPj.out.pen (fun e => (HPj.out.ne e).1 rfl); have cp6 := cell_of 0 hp6 rfl; have fp6 := frozen_of 0 hp6)
          have hb6 : Buf w0.heap.size w6 (.slice (some ⟨g6, 0, none⟩) (oj ++ [41]).length cap6) (oj ++ [41]) := by
            unfold Buf
            rw [List.length_append, List.map_append]
            exact hown6
          have hP6 := HPj.out.app G6 hb6
          have e6 : (oj ++ [41]).length = oj.length + 1 := by simp
          have T6 : Fr (fun k => w0.heap.size ≤ k) wr (w6.setCell ⟨g, 0, none⟩ (.slice (some ⟨g6, 0, none⟩) (oj ++ [41]).length cap6)) := (G6.mono (fun k _ e => (HPj.out.buf.lt k e).1)).setCell (fun _ => HPj.out.gb) _
          rw [e6] at hP6 T6
          generalize (w6.setCell ⟨g, 0, none⟩ (.slice (some ⟨g6, 0, none⟩) (oj.length + 1) cap6)) = W6 at *
          have hsz6 := T6.size
          clear hown6 hgrow6 hat6 hlt6 G6 hp6 cp6 fp6 hb6 hrow6 hnb6 cg06 zg06
          obtain ⟨o6, ho6⟩ : ∃ o6, oj ++ [41] = o6 := ⟨_, rfl⟩
          rw [ho6] at e6
          rw [show ((oj, nj) : PS).1 ++ [41] = o6 from ho6] at hP6
          have HO6 : Hid (oj ++ [41] = o6) := ho6
          rw [← e6]
          have hl6 : o6.length ≤ 50 ∧ oj.length + 1 ≤ o6.length := by omega
          clear ho6 e6
          have HP6 : Hid (PenAt w0.heap.size W6 g mb (some ⟨g6, 0, none⟩) cap6 (o6, nj)) := hP6
          have cq6 := cell_of 0 hP6.pen rfl
          have zq6 := frozen_of 0 hP6.pen
          clear hP6
          have HV : Hid (R = if o6.length ≤ 48 then some (o6, nj) else none) := by
            show _ = _
            rw [HV0.out, HO6.out]
          have HFU : Hid (Fr (fun k => w0.heap.size ≤ k) w1 W6) := HFT.out.trans T6 (fun _ _ e => e)

          by_cases h4x : o6.length ≤ 48
          · have d4 : decide ((o6.length : Int) ≤ 48) = true := decide_eq_true (by omega)
            have d4' : decide (o6.length ≤ 48) = true := decide_eq_true h4x
            go_wp2_with fail
            go_ret
            unfold PutPost
            rw [HV.out, if_pos h4x]
            refine ⟨rfl, HFU.out, fun st' e => ?_⟩
            cases e
            exact ⟨_, _, HP6.out⟩
          · have d4 : decide ((o6.length : Int) ≤ 48) = false := decide_eq_false (by omega)
            have d4' : decide (o6.length ≤ 48) = false := decide_eq_false h4x
            go_wp2_with fail
            go_ret
            unfold PutPost
            rw [HV.out, if_neg h4x]
            exact ⟨rfl, HFU.out, fun st' e => by cases e⟩
      case pos =>
        have d2 : decide ((j : Int) < (es.length : Int)) = true := decide_eq_true (by omega)
        have d2' : decide (j < es.length) = true := decide_eq_true (by omega)
        obtain ⟨k, hk⟩ : ∃ k, es[j]? = some k := ⟨_, List.getElem?_eq_getElem hjlt⟩
        have hkn : k < ns.length := hes.2 k (List.mem_of_getElem? hk)
        obtain ⟨ofs, rfl, hck1⟩ := hkc j k hk
        have hck2 := HFj.out.cellAt hck1 (by have := hBg B.a (by simp [Blks.Has]); simp only; omega)
        simp only [n32] at hck2
        obtain ⟨sb, hsb⟩ : ∃ sb, sepB (decide (j = 0)) = sb := ⟨_, rfl⟩
        have HRk : Hid (R = (if 48 < (oj ++ [sb]).length then none else (putN f ns k (oj ++ [sb], nj)).bind (putKids (putN f ns) false (es.drop (j + 1)))).bind (shut es)) := by
          show _ = _
          rw [HRj.out, putKids_at hk, hsb]
        rw [hsb]
        clear hsb hck1 hk
        have cg07 := cell_of 0 HPj.out.pen rfl
        have zg07 := frozen_of 0 HPj.out.pen
        have hrow7 : (wr.alloc (.cells #[.int .u8 (sb.toNat : Int)] 5)).ownsRow w0.heap.size 5 1 (.slice bj oj.length cj) oj.length (oj.map u8v) := HPj.out.buf.no ((Fr.refl No wr).alloc _)
        have hnb7 : (wr.alloc (.cells #[.int .u8 (sb.toNat : Int)] 5)).heap[wr.heap.size]? = some (.cells #[.int .u8 (sb.toNat : Int)] 5) := heap_alloc_same _ _
        go_upto_region 18 with (at_builtin; refine wpList_append_lies _ (by rfl) _ _ 53 (by rfl) w0.heap.size 5 i5 (.int .u8 0) 1 1 Try.underlying53 hi5 hz5 hs5 hy5 rfl (by omega) _ oj.length (oj.map u8v) (by rfl) hrow7 ⟨wr.heap.size, 0, none⟩ 1 1 [.int .u8 (sb.toNat : Int)] (by rfl) (by rfl) (World.news_of_block (cs := #[.int .u8 (sb.toNat : Int)]) hnb7) (by simp [Value.oneCell']) (by omega) (by unfold maxLen; omega) (by omega) (by simp; omega) (wr.heap.size + 1) (by simp) ?_; intro g7 cap7 w7 hown7 hgrow7 hat7 hlt7; have G7 : Fr (fun k => (Value.slice bj oj.length cj).ownBlock = some k) wr w7 := Fr.grown (S := fun k => (Value.slice bj oj.length cj).ownBlock = some k) ((Fr.refl _ wr).alloc _) hgrow7 (fun k hk _ => hk); have hp7 := G7.keep HPj.out.pen (fun e => (HPj.out.ne e).1 rfl); have cp7 := cell_of 0 hp7 rfl; have fp7 := frozen_of 0 hp7)
        have hb7 : Buf w0.heap.size w7 (.slice (some ⟨g7, 0, none⟩) (oj ++ [sb]).length cap7) (oj ++ [sb]) := by
          unfold Buf
          rw [List.length_append, List.map_append]
          exact hown7
        have hP7 := HPj.out.app G7 hb7
        have e7 : (oj ++ [sb]).length = oj.length + 1 := by simp
        have T7 : Fr (fun k => w0.heap.size ≤ k) wr (w7.setCell ⟨g, 0, none⟩ (.slice (some ⟨g7, 0, none⟩) (oj ++ [sb]).length cap7)) := (G7.mono (fun k _ e => (HPj.out.buf.lt k e).1)).setCell (fun _ => HPj.out.gb) _
        rw [e7] at hP7 T7
        generalize (w7.setCell ⟨g, 0, none⟩ (.slice (some ⟨g7, 0, none⟩) (oj.length + 1) cap7)) = W7 at *
        have hsz7 := T7.size
        clear hown7 hgrow7 hat7 hlt7 G7 hp7 cp7 fp7 hb7 hrow7 hnb7 cg07 zg07
        obtain ⟨o7, ho7⟩ : ∃ o7, oj ++ [sb] = o7 := ⟨_, rfl⟩
        rw [ho7] at e7
        rw [show ((oj, nj) : PS).1 ++ [sb] = o7 from ho7] at hP7
        have HO7 : Hid (oj ++ [sb] = o7) := ho7
        rw [← e7]
        have hl7 : o7.length ≤ 50 ∧ oj.length + 1 ≤ o7.length := by omega
        clear ho7 e7
        have HP7 : Hid (PenAt w0.heap.size W7 g mb (some ⟨g7, 0, none⟩) cap7 (o7, nj)) := hP7
        have cq7 := cell_of 0 hP7.pen rfl
        have zq7 := frozen_of 0 hP7.pen
        clear hP7
        have HFU : Hid (Fr (fun k => w0.heap.size ≤ k) w1 W7) := (HF4.out.trans HFj.out (fun _ _ e => e)).trans T7 (fun _ _ e => e)
        rw [HO7.out] at HRk
        clear hck2
        by_cases h4y : 48 < o7.length
        · have d4 : decide ((48 : Int) < (o7.length : Int)) = true := decide_eq_true (by omega)
          have d4' : decide (48 < o7.length) = true := decide_eq_true h4y
          have HN : Hid (R = none) := by show _ = _; rw [HRk.out, if_pos h4y]; rfl
          go_wp2_with fail
          go_ret
          unfold PutPost
          rw [HN.out]
          exact ⟨rfl, HFU.out, fun st' e => by cases e⟩
        · have d4 : decide ((48 : Int) < (o7.length : Int)) = false := decide_eq_false (by omega)
          have d4' : decide (48 < o7.length) = false := decide_eq_false h4y
          have HRl : Hid (R = ((putN f ns k (o7, nj)).bind (putKids (putN f ns) false (es.drop (j + 1)))).bind (shut es)) := by show _ = _; rw [HRk.out, if_neg h4y]
          have HCL := HIH.out k (o7, nj) W7 g mb _ _ (HFW.out.trans HFU.out (fun _ _ e => e)) HP7.out (by simp only; omega) (by simp only; omega) (by simp only; omega) hkn
          have HCL' : Hid (Calls Try.prog 35 #[.pointer (some ⟨p, 0, none⟩), .pointer (some ⟨g, 0, none⟩), .int .i32 (k : Int)] W7 (PutPost w0.heap.size W7 g mb (putN f ns k (o7, nj)))) := HCL
          clear HCL
          go_wp2_with fail
          refine HCL'.out.mono ?_
          rintro e w8 ⟨rfl, F8, hst⟩
          cases hr8 : putN f ns k (o7, nj) with
          | none =>
            have HN : Hid (R = none) := by show _ = _; rw [HRl.out, hr8]; rfl
            have HF8 : Hid (Fr (fun k => w0.heap.size ≤ k) w1 w8) := HFU.out.trans F8 (fun _ _ e => e)
            clear hr8 hst F8
            simp only [Option.isSome_none]
            go_wp2_with fail
            go_ret
            unfold PutPost
            rw [HN.out]
            exact ⟨rfl, HF8.out, fun st' e => by cases e⟩
          | some st8 =>
            obtain ⟨o8, n8⟩ := st8
            obtain ⟨bs8, cap8, hP8⟩ := hst _ hr8
            have pk := putN_ok _ _ _ _ _ hr8
            have pk1 := pk.ge
            have pk2 := pk.le
            have pk3 := pk.nm (by simp only; omega)
            simp only at pk1 pk2 pk3
            have HN : Hid (R = (putKids (putN f ns) (decide (j + 1 = 0)) (es.drop (j + 1)) (o8, n8)).bind (shut es)) := by
              show _ = _
              rw [HRl.out, hr8, Option.bind_some, decide_eq_false (Nat.succ_ne_zero j)]
            have HP8 : Hid (PenAt w0.heap.size w8 g mb bs8 cap8 (o8, n8)) := hP8
            have HF8 : Hid (Fr (fun k => w0.heap.size ≤ k) W5 w8) := (HFj.out.trans T7 (fun _ _ e => e)).trans F8 (fun _ _ e => e)
            have HSB : Hid ((sepB (decide (j + 1 = 0))) = 44) := by
              show _ = _
              rw [decide_eq_false (Nat.succ_ne_zero j)]; rfl
            clear hr8 hst F8 hP8 pk
            simp only [Option.isSome_some]
            go_wp2_with fail
            go_roundg (es.length + 1 - (j + 1))
            case measure => omega
            case rel => exact ⟨j + 1, bs8, cap8, o8, n8, by omega, rfl, by go_num, by rw [HSB.out]; rfl, HN, HP8, by omega, pk3, by omega, HF8⟩

theorem put_any (h : RAt w0 p B ns ws tr tms saved) (hw : WfN ns) (hs : ns.length ≤ 64) : ∀ f, PutOK p w0.heap.size w0 ns f := by
  intro f
  induction f with
  | zero => intro a st w g mb bs cap hF hP h48 hnm h49 ha; omega
  | succ f ih =>
    intro a st w g mb bs cap hF hP h48 hnm h49 ha
    rcases (deref_end hw a ha).2 with hx | ⟨c, d, es, hx⟩
    · exact put_var h hw hs hF hP h48 hnm ha hx
    · exact put_str h hw hs ih hF hP h48 hnm h49 ha hx
end
end Go.Proofs.Qxb6500301a
