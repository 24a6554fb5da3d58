import Derived.Test.Qxb6500301aPrn5
namespace Go.Proofs.Qxb6500301a
open Go.RowKit
set_option linter.unusedSimpArgs false
set_option linter.unusedVariables false
attribute [local go_sem ↓] Go.wp_at_zero Go.wp_at_succ
attribute [-go_sem] Go.run_string_add_if Go.run_index_string Go.run_slice_string_if

def PutPost (b0 : Nat) (w : World) (g mb : Nat) (r : Option PS) (e : Ending) (w' : World) : Prop :=
  e = .returned (.bool r.isSome) ∧ Fr (fun k => b0 ≤ k) w w' ∧ ∀ st', r = some st' → ∃ bs cap, PenAt b0 w' g mb bs cap st'
def PutOK (p : Nat) (b0 : Nat) (w0 : World) (ns : List Nd) (f : Nat) : Prop := ∀ (a : Nat) (st : PS) (w : World) (g mb : Nat) (bs : Option Addr) (cap : Nat), Fr (fun k => b0 ≤ k) w0 w → PenAt b0 w g mb bs cap st → st.1.length ≤ 48 → st.2.length ≤ st.1.length → 49 ≤ st.1.length + f → a < ns.length →
  Calls Try.prog 35 #[.pointer (some ⟨p, 0, none⟩), .pointer (some ⟨g, 0, none⟩), .int .i32 (a : Int)] w (PutPost b0 w g mb (putN f ns a st))

section
variable {w0 w : World} {p : Nat} {B : Blks} {ns : List Nd} {ws : List Int} {tr tms : List Nat} {saved : List (List Nd)}
set_option maxRecDepth 40000 in
set_option maxHeartbeats 8000000 in
theorem put_var (h : RAt w0 p B ns ws tr tms saved) (hw : WfN ns) (hs : ns.length ≤ 64) {f a : Nat} {st : PS} {g mb : Nat} {bs : Option Addr} {cap : Nat} (hF : Fr (fun k => w0.heap.size ≤ k) w0 w) (hP : PenAt w0.heap.size w g mb bs cap st) (h48 : st.1.length ≤ 48) (hnm : st.2.length ≤ st.1.length) (ha : a < ns.length) (hx : ns[deref ns a]? = some (.v none)) :
    Calls Try.prog 35 #[.pointer (some ⟨p, 0, none⟩), .pointer (some ⟨g, 0, none⟩), .int .i32 (a : Int)] w (PutPost w0.heap.size w g mb (putN (f + 1) ns a st)) := by
  have hw1 : RAt w p B ns ws tr tms saved := h.keep hF (fun k hk e => by have := h.lt hk; omega)
  have HD : Hid (∀ w', w' = w → Calls Try.prog 24 #[.pointer (some ⟨p, 0, none⟩), .int .i32 (a : Int)] w' fun e w'' => e = .returned (.int .i32 (deref ns a : Int)) ∧ w'' = w') := fun w' e => by subst e; exact deref_any hw1 hw hs ha
  have hdl := (deref_end hw a ha).1
  obtain ⟨i5, hi5, hz5, hs5, hy5⟩ := info_parts Try.info5p
  have hFs := hF.size
  have c0 := hw1.p0
  have c2 := hw1.p2
  have hBg : ∀ k, B.Has p k → k < w0.heap.size := fun k hk => h.lt hk
  have HPN : Hid (PenAt w0.heap.size w g mb bs cap st) := hP
  have ct := hw1.tag hx
  have cg1 := cell_of 1 hP.pen rfl
  have hlk := run_lookup_nm hP.map (deref ns a)
  have hix := ixOf_le st.2 (deref ns a)
  have HPV0 : Hid (putN (f + 1) ns a st = putVar (deref ns a) st) := by show _ = _; simp only [putN, hx]
  simp only [tagV] at ct
  obtain ⟨o1, nm⟩ := st
  simp only at hix hnm h48 hlk
  by_cases hlt : ixOf nm (deref ns a) < nm.length
  · rw [if_pos hlt, decide_eq_true hlt] at hlk
    obtain ⟨kk, hkk⟩ : ∃ kk, ixOf nm (deref ns a) = kk := ⟨_, rfl⟩
    have HPV : Hid (putN (f + 1) ns a (o1, nm) = if (o1 ++ [95] ++ itoaL kk).length ≤ 48 then some (o1 ++ [95] ++ itoaL kk, nm) else none) := by
      show _ = _
      rw [HPV0.out]
      unfold putVar nmAdd
      simp only
      rw [if_pos hlt, hkk]
    have HIT : Hid (∀ w, Calls Try.prog 34 #[.int .i64 (kk : Int)] w fun e w' => e = .returned (.string (S (itoaL kk))) ∧ Fr No w w') := fun w => Itoa_any (by omega)
    rw [hkk] at hlk hix hlt
    have HFW : Hid (Fr (fun k => w0.heap.size ≤ k) w w) := Fr.refl _ _
    have hk1 : kk ≤ 48 := by omega
    clear hkk hx HPV0 hP hw1 hlt
    go_enter Try.func35, Try.ntmps35
    go_wp2_with fail
    refine (HD.out _ rfl).mono ?_
    rintro e w1 ⟨rfl, rfl⟩
    go_upto_region 7 with fail
    obtain ⟨nm2, hnm2⟩ : ∃ nm2, nm2 = nm := ⟨_, rfl⟩
    have hPW := HPN.out
    rw [← hnm2] at hPW
    have HPV2 : Hid (putN (f + 1) ns a (o1, nm) = if (o1 ++ [95] ++ itoaL kk).length ≤ 48 then some (o1 ++ [95] ++ itoaL kk, nm2) else none) := by
      show _ = _
      rw [hnm2]
      exact HPV.out
    clear HPV
    have HPV := HPV2
    clear HPV2 hnm2
    clear c0 c2 ct cg1 hlk
    have hsz := HFW.out.size
    generalize hWW : w1 = W at *
    clear hWW
    have HFW : Hid (Fr (fun k => w0.heap.size ≤ k) W W) := Fr.refl _ _
    have cg0 := cell_of 0 hPW.pen rfl
    have zg0 := frozen_of 0 hPW.pen
    have hrow1 : (W.alloc (.cells #[.int .u8 95] 5)).ownsRow w0.heap.size 5 1 (.slice bs o1.length cap) o1.length (o1.map u8v) := hPW.buf.no ((Fr.refl No W).alloc _)
    have hnb1 : (W.alloc (.cells #[.int .u8 95] 5)).heap[W.heap.size]? = some (.cells #[.int .u8 95] 5) := heap_alloc_same _ _
    have HPW : Hid (PenAt w0.heap.size W g mb bs cap (o1, nm2)) := hPW
    clear hPW
    go_upto_region 8 with (at_builtin; refine wpList_append_lies _ (by rfl) _ _ 53 (by rfl) w0.heap.size 5 i5 (.int .u8 0) 1 1 Try.underlying53 hi5 hz5 hs5 hy5 rfl (by omega) _ o1.length (o1.map u8v) (by rfl) hrow1 ⟨W.heap.size, 0, none⟩ 1 1 [.int .u8 95] (by rfl) (by rfl) (World.news_of_block (cs := #[.int .u8 95]) hnb1) (by simp [Value.oneCell']) (by omega) (by unfold maxLen; omega) (by omega) (by simp; omega) (W.heap.size + 1) (by simp) ?_; intro g3 cap3 w3 hown3 hgrow3 hat3 hlt3; have G3 : Fr (fun k => (Value.slice bs o1.length cap).ownBlock = some k) W w3 := Fr.grown (S := fun k => (Value.slice bs o1.length cap).ownBlock = some k) ((Fr.refl _ W).alloc _) hgrow3 (fun k hk _ => hk); have hp3 := G3.keep HPW.out.pen (fun e => (HPW.out.ne e).1 rfl); have cp3 := cell_of 0 hp3 rfl; have fp3 := frozen_of 0 hp3)
    have hb3 : Buf w0.heap.size w3 (.slice (some ⟨g3, 0, none⟩) (o1 ++ [95]).length cap3) (o1 ++ [95]) := by
      unfold Buf
      rw [List.length_append, List.map_append]
      exact hown3
    have hP3 := HPW.out.app G3 hb3
    have e3 : (o1 ++ [95]).length = o1.length + 1 := by simp
    have T3 : Fr (fun k => w0.heap.size ≤ k) W (w3.setCell ⟨g, 0, none⟩ (.slice (some ⟨g3, 0, none⟩) (o1 ++ [95]).length cap3)) := (G3.mono (fun k _ e => (HPW.out.buf.lt k e).1)).setCell (fun _ => HPW.out.gb) _
    rw [e3] at hP3 T3
    generalize (w3.setCell ⟨g, 0, none⟩ (.slice (some ⟨g3, 0, none⟩) (o1.length + 1) cap3)) = W3 at *
    have hsz3 := T3.size
    clear hown3 hgrow3 hat3 hlt3 G3 hp3 cp3 fp3 hb3 hrow1 hnb1 cg0 zg0
    obtain ⟨o3, ho3⟩ : ∃ o3, o1 ++ [95] = o3 := ⟨_, rfl⟩
    rw [ho3] at e3
    rw [show ((o1, nm2) : PS).1 ++ [95] = o3 from ho3] at hP3
    have HO3 : Hid (o1 ++ [95] = o3) := ho3
    rw [← e3]
    have hl3 : o3.length ≤ 49 := by omega
    clear ho3 e3
    have HP3 : Hid (PenAt w0.heap.size W3 g mb (some ⟨g3, 0, none⟩) cap3 (o3, nm2)) := hP3
    have cq0 := cell_of 0 hP3.pen rfl
    have zq0 := frozen_of 0 hP3.pen
    clear hP3
    go_cut [] from 57 (fun wx => ∃ bs4 cap4, PenAt w0.heap.size wx g mb bs4 cap4 (o3 ++ itoaL kk, nm2) ∧ Fr (fun k => w0.heap.size ≤ k) W3 wx)
    case first =>
      have hss : (S (itoaL kk)).size = (itoaL kk).length := S_size _
      have hit := itoaL_len kk
      go_region_law (first
        | (go_simp; refine (HIT.out _).mono ?_; rintro e w4 ⟨rfl, F4⟩; have FF4 : Fr No W3 w4 := (Fr.refl No W3).drew.trans F4 (fun _ _ e => e); have cq4 := FF4.cellNo cq0; have hb4 := (HP3.out.no FF4).buf; have hsz4 := FF4.size; go_wp2_with fail)
        | (refine step_str (by rfl) _ _ 53 9 (by rfl) w0.heap.size 5 i5 Try.underlying53 Try.underlying9 hi5 hz5 hs5 hy5 (.slice (some ⟨g3, 0, none⟩) o3.length cap3) o3.length (o3.map u8v) (by rfl) hb4 (S (itoaL kk)) (by rfl) (by rw [hss]; unfold maxLen; omega) (by rw [hss]; omega) (by omega) ?_; intro bs5 cap5 w5 hown5 hgrow5; have G5 : Fr (fun k => (Value.slice (some ⟨g3, 0, none⟩) o3.length cap3).ownBlock = some k) W3 w5 := Fr.grown (S := fun k => (Value.slice (some ⟨g3, 0, none⟩) o3.length cap3).ownBlock = some k) (FF4.mono (fun _ _ e => e.elim)) hgrow5 (fun k hk _ => hk); have hp5 := G5.keep HP3.out.pen (fun e => (HP3.out.ne e).1 rfl); have cp5 := cell_of 0 hp5 rfl; have fp5 := frozen_of 0 hp5))
      all_goals (go_wp2_with fail)
      all_goals go_meet
      all_goals (
        have hb5 : Buf w0.heap.size w5 (.slice bs5 (o3 ++ itoaL kk).length cap5) (o3 ++ itoaL kk) := by
          unfold Buf
          rw [List.length_append, List.map_append, ← strCells_S, ← hss]
          exact hown5
        have hP5 := HP3.out.app G5 hb5
        refine ⟨bs5, cap5, ?_, (G5.mono (fun k _ e => (HP3.out.buf.lt k e).1)).setCell (fun _ => HP3.out.gb) _⟩
        have e5 : (o3 ++ itoaL kk).length = o3.length + (S (itoaL kk)).size := by rw [List.length_append, hss]
        rw [e5] at hP5
        simp only [hss] at hP5
        exact hP5)
    case rest =>
      obtain ⟨bs4, cap4, hP4, hF4⟩ := hcut
      have cr0 := cell_of 0 hP4.pen rfl
      have HP4 : Hid (PenAt w0.heap.size wc g mb bs4 cap4 (o3 ++ itoaL kk, nm2)) := hP4
      have HF4 : Hid (Fr (fun k => w0.heap.size ≤ k) W wc) := (HFW.out.trans T3 (fun _ _ e => e)).trans hF4 (fun _ _ e => e)
      have e4 : (o3 ++ itoaL kk).length = o3.length + (itoaL kk).length := List.length_append
      have hit := itoaL_len kk
      clear hP4 hF4
      obtain ⟨o4, ho4⟩ : ∃ o4, o3 ++ itoaL kk = o4 := ⟨_, rfl⟩
      have HO4 : Hid (o3 ++ itoaL kk = o4) := ho4
      have hl4 : o4.length ≤ 60 := by rw [← ho4, e4]; omega
      rw [show ((o3 ++ itoaL kk, nm2) : PS).1.length = o4.length by rw [← ho4]] at cr0
      have HV : Hid (putN (f + 1) ns a (o1, nm) = if o4.length ≤ 48 then some (o4, nm2) else none) := by
        show _ = _
        rw [HPV.out]
        rw [← HO4.out, ← HO3.out]
      clear ho4 e4
      by_cases h48 : o4.length ≤ 48
      · have d4 : decide ((o4.length : Int) ≤ 48) = true := decide_eq_true (by omega)
        have d4' : decide (o4.length ≤ 48) = true := decide_eq_true h48
        go_wp2_with fail
        go_ret
        unfold PutPost
        rw [HV.out, if_pos h48]
        refine ⟨rfl, HF4.out, fun st' e => ?_⟩
        cases e
        have hh := HP4.out
        rw [HO4.out] at hh
        exact ⟨bs4, cap4, hh⟩
      · have d4 : decide ((o4.length : Int) ≤ 48) = false := decide_eq_false (by omega)
        have d4' : decide (o4.length ≤ 48) = false := decide_eq_false h48
        go_wp2_with fail
        go_ret
        unfold PutPost
        rw [HV.out, if_neg h48]
        exact ⟨rfl, HF4.out, fun st' e => by cases e⟩
  · rw [if_neg hlt, decide_eq_false hlt] at hlk
    have hkk : ixOf nm (deref ns a) = nm.length := by omega
    have HPV : Hid (putN (f + 1) ns a (o1, nm) = if (o1 ++ [95] ++ itoaL nm.length).length ≤ 48 then some (o1 ++ [95] ++ itoaL nm.length, nm ++ [deref ns a]) else none) := by
      show _ = _
      rw [HPV0.out]
      unfold putVar nmAdd
      simp only
      rw [if_neg hlt, hkk]
    have HIT : Hid (∀ w, Calls Try.prog 34 #[.int .i64 (nm.length : Int)] w fun e w' => e = .returned (.string (S (itoaL nm.length))) ∧ Fr No w w') := fun w => Itoa_any (by omega)
    have hlen := run_len_nm hP.map 3
    have hupd := run_update_nm hP.map (deref ns a) hlt
    have hPW := hP.name (deref ns a)
    have hFW : Fr (fun k => w0.heap.size ≤ k) w (put w mb (.map (nmEnts (nm ++ [deref ns a])) (nm.length + 1))) := Fr.put (S := fun k => w0.heap.size ≤ k) (Fr.refl _ w) (fun _ => hP.mbb) _
    simp only at hlen hupd hPW
    clear hkk hx HPV0 hP hw1 hlt
    go_enter Try.func35, Try.ntmps35
    go_wp2_with fail
    refine (HD.out _ rfl).mono ?_
    rintro e w1 ⟨rfl, rfl⟩
    go_upto_region 7 with fail
    have hsz := hFW.size
    have HFW : Hid (Fr (fun k => w0.heap.size ≤ k) w1 (put w1 mb (.map (nmEnts (nm ++ [deref ns a])) (nm.length + 1)))) := hFW
    clear c0 c2 ct cg1 hlk hlen hupd hFW
    generalize (put w1 mb (.map (nmEnts (nm ++ [deref ns a])) (nm.length + 1))) = W at *
    obtain ⟨nm2, hnm2⟩ : ∃ nm2, nm2 = nm ++ [deref ns a] := ⟨_, rfl⟩
    rw [← hnm2] at hPW HPV
    obtain ⟨kk, hkk⟩ : ∃ kk, kk = nm.length := ⟨_, rfl⟩
    rw [← hkk] at HPV HIT ⊢
    clear hkk
    have cg0 := cell_of 0 hPW.pen rfl
    have zg0 := frozen_of 0 hPW.pen
    have hrow1 : (W.alloc (.cells #[.int .u8 95] 5)).ownsRow w0.heap.size 5 1 (.slice bs o1.length cap) o1.length (o1.map u8v) := hPW.buf.no ((Fr.refl No W).alloc _)
    have hnb1 : (W.alloc (.cells #[.int .u8 95] 5)).heap[W.heap.size]? = some (.cells #[.int .u8 95] 5) := heap_alloc_same _ _
    have HPW : Hid (PenAt w0.heap.size W g mb bs cap (o1, nm2)) := hPW
    clear hPW
    go_upto_region 8 with (at_builtin; refine wpList_append_lies _ (by rfl) _ _ 53 (by rfl) w0.heap.size 5 i5 (.int .u8 0) 1 1 Try.underlying53 hi5 hz5 hs5 hy5 rfl (by omega) _ o1.length (o1.map u8v) (by rfl) hrow1 ⟨W.heap.size, 0, none⟩ 1 1 [.int .u8 95] (by rfl) (by rfl) (World.news_of_block (cs := #[.int .u8 95]) hnb1) (by simp [Value.oneCell']) (by omega) (by unfold maxLen; omega) (by omega) (by simp; omega) (W.heap.size + 1) (by simp) ?_; intro g3 cap3 w3 hown3 hgrow3 hat3 hlt3; have G3 : Fr (fun k => (Value.slice bs o1.length cap).ownBlock = some k) W w3 := Fr.grown (S := fun k => (Value.slice bs o1.length cap).ownBlock = some k) ((Fr.refl _ W).alloc _) hgrow3 (fun k hk _ => hk); have hp3 := G3.keep HPW.out.pen (fun e => (HPW.out.ne e).1 rfl); have cp3 := cell_of 0 hp3 rfl; have fp3 := frozen_of 0 hp3)
    have hb3 : Buf w0.heap.size w3 (.slice (some ⟨g3, 0, none⟩) (o1 ++ [95]).length cap3) (o1 ++ [95]) := by
      unfold Buf
      rw [List.length_append, List.map_append]
      exact hown3
    have hP3 := HPW.out.app G3 hb3
    have e3 : (o1 ++ [95]).length = o1.length + 1 := by simp
    have T3 : Fr (fun k => w0.heap.size ≤ k) W (w3.setCell ⟨g, 0, none⟩ (.slice (some ⟨g3, 0, none⟩) (o1 ++ [95]).length cap3)) := (G3.mono (fun k _ e => (HPW.out.buf.lt k e).1)).setCell (fun _ => HPW.out.gb) _
    rw [e3] at hP3 T3
    generalize (w3.setCell ⟨g, 0, none⟩ (.slice (some ⟨g3, 0, none⟩) (o1.length + 1) cap3)) = W3 at *
    have hsz3 := T3.size
    clear hown3 hgrow3 hat3 hlt3 G3 hp3 cp3 fp3 hb3 hrow1 hnb1 cg0 zg0
    obtain ⟨o3, ho3⟩ : ∃ o3, o1 ++ [95] = o3 := ⟨_, rfl⟩
    rw [ho3] at e3
    rw [show ((o1, nm2) : PS).1 ++ [95] = o3 from ho3] at hP3
    have HO3 : Hid (o1 ++ [95] = o3) := ho3
    rw [← e3]
    have hl3 : o3.length ≤ 49 := by omega
    clear ho3 e3
    have HP3 : Hid (PenAt w0.heap.size W3 g mb (some ⟨g3, 0, none⟩) cap3 (o3, nm2)) := hP3
    have cq0 := cell_of 0 hP3.pen rfl
    have zq0 := frozen_of 0 hP3.pen
    clear hP3
    go_cut [] from 57 (fun wx => ∃ bs4 cap4, PenAt w0.heap.size wx g mb bs4 cap4 (o3 ++ itoaL kk, nm2) ∧ Fr (fun k => w0.heap.size ≤ k) W3 wx)
    case first =>
      have hss : (S (itoaL kk)).size = (itoaL kk).length := S_size _
      have hit := itoaL_len kk
      go_region_law (first
        | (go_simp; refine (HIT.out _).mono ?_; rintro e w4 ⟨rfl, F4⟩; have FF4 : Fr No W3 w4 := (Fr.refl No W3).drew.trans F4 (fun _ _ e => e); have cq4 := FF4.cellNo cq0; have hb4 := (HP3.out.no FF4).buf; have hsz4 := FF4.size; go_wp2_with fail)
        | (refine step_str (by rfl) _ _ 53 9 (by rfl) w0.heap.size 5 i5 Try.underlying53 Try.underlying9 hi5 hz5 hs5 hy5 (.slice (some ⟨g3, 0, none⟩) o3.length cap3) o3.length (o3.map u8v) (by rfl) hb4 (S (itoaL kk)) (by rfl) (by rw [hss]; unfold maxLen; omega) (by rw [hss]; omega) (by omega) ?_; intro bs5 cap5 w5 hown5 hgrow5; have G5 : Fr (fun k => (Value.slice (some ⟨g3, 0, none⟩) o3.length cap3).ownBlock = some k) W3 w5 := Fr.grown (S := fun k => (Value.slice (some ⟨g3, 0, none⟩) o3.length cap3).ownBlock = some k) (FF4.mono (fun _ _ e => e.elim)) hgrow5 (fun k hk _ => hk); have hp5 := G5.keep HP3.out.pen (fun e => (HP3.out.ne e).1 rfl); have cp5 := cell_of 0 hp5 rfl; have fp5 := frozen_of 0 hp5))
      all_goals (go_wp2_with fail)
      all_goals go_meet
      all_goals (
        have hb5 : Buf w0.heap.size w5 (.slice bs5 (o3 ++ itoaL kk).length cap5) (o3 ++ itoaL kk) := by
          unfold Buf
          rw [List.length_append, List.map_append, ← strCells_S, ← hss]
          exact hown5
        have hP5 := HP3.out.app G5 hb5
        refine ⟨bs5, cap5, ?_, (G5.mono (fun k _ e => (HP3.out.buf.lt k e).1)).setCell (fun _ => HP3.out.gb) _⟩
        have e5 : (o3 ++ itoaL kk).length = o3.length + (S (itoaL kk)).size := by rw [List.length_append, hss]
        rw [e5] at hP5
        simp only [hss] at hP5
        exact hP5)
    case rest =>
      obtain ⟨bs4, cap4, hP4, hF4⟩ := hcut
      have cr0 := cell_of 0 hP4.pen rfl
      have HP4 : Hid (PenAt w0.heap.size wc g mb bs4 cap4 (o3 ++ itoaL kk, nm2)) := hP4
      have HF4 : Hid (Fr (fun k => w0.heap.size ≤ k) w1 wc) := (HFW.out.trans T3 (fun _ _ e => e)).trans hF4 (fun _ _ e => e)
      have e4 : (o3 ++ itoaL kk).length = o3.length + (itoaL kk).length := List.length_append
      have hit := itoaL_len kk
      clear hP4 hF4
      obtain ⟨o4, ho4⟩ : ∃ o4, o3 ++ itoaL kk = o4 := ⟨_, rfl⟩
      have HO4 : Hid (o3 ++ itoaL kk = o4) := ho4
      have hl4 : o4.length ≤ 60 := by rw [← ho4, e4]; omega
      rw [show ((o3 ++ itoaL kk, nm2) : PS).1.length = o4.length by rw [← ho4]] at cr0
      have HV : Hid (putN (f + 1) ns a (o1, nm) = if o4.length ≤ 48 then some (o4, nm2) else none) := by
        show _ = _
        rw [HPV.out]
        rw [← HO4.out, ← HO3.out]
      clear ho4 e4
      by_cases h48 : o4.length ≤ 48
      · have d4 : decide ((o4.length : Int) ≤ 48) = true := decide_eq_true (by omega)
        have d4' : decide (o4.length ≤ 48) = true := decide_eq_true h48
        go_wp2_with fail
        go_ret
        unfold PutPost
        rw [HV.out, if_pos h48]
        refine ⟨rfl, HF4.out, fun st' e => ?_⟩
        cases e
        have hh := HP4.out
        rw [HO4.out] at hh
        exact ⟨bs4, cap4, hh⟩
      · have d4 : decide ((o4.length : Int) ≤ 48) = false := decide_eq_false (by omega)
        have d4' : decide (o4.length ≤ 48) = false := decide_eq_false h48
        go_wp2_with fail
        go_ret
        unfold PutPost
        rw [HV.out, if_neg h48]
        exact ⟨rfl, HF4.out, fun st' e => by cases e⟩

end
end Go.Proofs.Qxb6500301a
