import Derived.Test.Qxb6500301aMod8
namespace Go.Proofs.Qxb6500301a
open Go.RowKit
set_option linter.unusedSimpArgs false
set_option linter.unusedVariables false
attribute [local go_sem ↓] Go.wp_at_zero Go.wp_at_succ
attribute [-go_sem] Go.run_string_add_if Go.run_index_string Go.run_slice_string_if Go.run_slice_any Go.run_slice_l Go.run_slice_h

theorem own_same (bs : Option Addr) (n m c : Nat) : (Value.slice bs n c).ownBlock = (Value.slice bs m c).ownBlock := by cases bs <;> rfl
section
variable {w : World} {b0 q : Nat} {vn vo vl : Value} {ns : List Nd} {saved : List (List Nd)}
set_option maxRecDepth 40000 in
set_option maxHeartbeats 4000000 in
theorem mCut_any (hb0 : b0 ≤ w.heap.size) (h : MAt w b0 q vn vo vl ns saved) (ok : OkS ns saved) (k : Int) : Calls Try.prog 52 #[.pointer (some ⟨q, 0, none⟩), .int .i64 k] w (MOne b0 q vn vo vl ns (cutAns saved k).2 (cutAns saved k).1 w) := by
  have hmk := ok.marks
  have hold := ok.old
  by_cases hout : k < 0 ∨ (saved.length : Int) < k
  · have HA : Hid (cutAns saved k = (4, saved)) := by show _ = _; unfold cutAns; rw [if_pos hout]
    obtain ⟨bs, cap, rfl⟩ := owns_slice h.rl
    have HM : Hid (ModAt w b0 q ns saved) := ⟨vn, vo, _, h⟩
    have c0 := cell_of 2 h.top rfl
    rw [HA.out]
    by_cases h1 : k < 0
    · have d1 : decide (k < 0) = true := decide_eq_true h1
      clear h hout
      go_enter Try.func52, Try.ntmps52
      go_wp2_with fail
      go_ret
      exact ⟨rfl, HM.out, Fr.refl _ _⟩
    · have d1 : decide (k < 0) = false := decide_eq_false h1
      have d2 : decide ((saved.length : Int) < k) = true := decide_eq_true (by omega)
      clear h hout
      go_enter Try.func52, Try.ntmps52
      go_wp2_with fail
      go_ret
      exact ⟨rfl, HM.out, Fr.refl _ _⟩
  · obtain ⟨m, rfl⟩ : ∃ m : Nat, k = (m : Int) := ⟨k.toNat, by omega⟩
    have HA : Hid (cutAns saved (m : Int) = (0, saved.drop (saved.length - m))) := by show _ = _; unfold cutAns; rw [if_neg hout, Int.toNat_natCast]
    rw [HA.out]
    have hml : m ≤ saved.length := by omega
    have d1 : decide ((m : Int) < 0) = false := decide_eq_false (by omega)
    have d2 : decide ((saved.length : Int) < (m : Int)) = false := decide_eq_false (by omega)
    have d2' : decide (saved.length < m) = false := decide_eq_false (by omega)
    obtain ⟨bs, cap, rfl⟩ := owns_slice h.rl
    have c0 := cell_of 2 h.top rfl
    have HM : Hid (MAt w b0 q vn vo (.slice bs saved.length cap) ns saved) := h
    clear h hout
    go_enter Try.func52, Try.ntmps52
    go_wp2_with fail
    go_loopg [] (saved.length + 1) (fun gk wr => ∃ (j : Nat), j + m ≤ saved.length ∧ gk = saved.length + 1 - j ∧ (∃ vo1 vl1, MAt wr b0 q vn vo1 vl1 ns (saved.drop j) ∧ vo1.ownBlock = vo.ownBlock ∧ vl1.ownBlock = (Value.slice bs saved.length cap).ownBlock) ∧ Fr (Foot q vn vo (.slice bs saved.length cap)) w wr)
    case atStart => exact ⟨0, by omega, rfl, ⟨_, _, HM.out, rfl, rfl⟩, Fr.refl _ _⟩
    case round =>
      clear c0
      obtain ⟨j, hj, hgk, ⟨vo1, vl1, h1, ho1, hl1⟩, hF⟩ := hrel
      have HO1 : Hid (vo1.ownBlock = vo.ownBlock) := ho1
      have HL1 : Hid (vl1.ownBlock = (Value.slice bs saved.length cap).ownBlock) := hl1
      clear ho1 hl1
      have hFs := hF.size
      by_cases hjm : j + m = saved.length
      · have hdl : (saved.drop j).length = m := by rw [List.length_drop]; omega
        have HD : Hid (saved.drop (saved.length - m) = saved.drop j) := by show _ = _; congr 1; omega
        obtain ⟨bs1, cap1, rfl⟩ := owns_slice h1.rl
        have c2 := cell_of 2 h1.top rfl
        have HM1 : Hid (ModAt wr b0 q ns (saved.drop j)) := ⟨_, _, _, h1⟩
        rw [hdl] at c2
        clear h1 hdl
        go_wp2_with fail
        go_ret
        rw [HD.out]
        exact ⟨rfl, HM1.out, hF⟩
      · obtain ⟨s, hs⟩ : ∃ s, saved[j]? = some s := ⟨_, List.getElem?_eq_getElem (by omega)⟩
        have hdr : saved.drop j = s :: saved.drop (j + 1) := by
          have hlt := (List.getElem?_eq_some_iff.1 hs).1
          have h2 := (List.getElem?_eq_some_iff.1 hs).2
          rw [List.drop_eq_getElem_cons hlt, h2]
        have hsm := (hold s (List.mem_of_getElem? hs)).2
        have hrl : (saved.drop (j + 1)).length = saved.length - (j + 1) := List.length_drop
        have hoN := oldN_le (saved := saved.drop (j + 1)) (fun x hx => (hold x (List.mem_of_mem_drop hx)).2)
        rw [hdr] at h1
        generalize hss : saved.drop (j + 1) = ss at *
        have HSS : Hid (saved.drop (j + 1) = ss) := hss
        clear hss
        have hll : m < ss.length + 1 := by omega
        have hl25 : ss.length ≤ 25 := by omega
        have HRL : Hid (ss.length = saved.length - (j + 1)) := hrl
        clear hrl
        obtain ⟨gl, capl, rfl, hglb, hgll, hcapl⟩ := owns_ptr h1.rl (by simp)
        obtain ⟨bso, capo, rfl⟩ := owns_slice h1.ro
        obtain ⟨bsn, capn, rfl⟩ := owns_slice h1.rn
        have c1 := cell_of 1 h1.top rfl
        have c2 := cell_of 2 h1.top rfl
        have z1 := frozen_of 1 h1.top
        have cl := lens_last h1.rl
        simp only [List.length_cons] at c2
        have hk : oldN ss + s.length = oldN (s :: ss) := (oldN_cons s ss).symm
        have hsl := run_head94 h1.ro (k := oldN ss) (by omega)
        have hro2 := owns_head h1.ro (k := oldN ss) (by omega)
        have HTK : Hid ((oldM (s :: ss)).take (oldN ss * 6) = oldM ss) := by
          show _ = _
          rw [oldM_cons, ← oldM_len, List.take_left]
        rw [HTK.out] at hro2
        have HRO2 : Hid (wr.ownsRow b0 111 6 (.slice bso (oldN ss) capo) (oldN ss) (oldM ss)) := hro2
        have HM1 : Hid (MR wr b0 q (.slice bsn ns.length capn) (.slice bso (oldN (s :: ss)) capo) (sl gl (ss.length + 1) capl) ns.length (nodesM 0 ns) (oldN (s :: ss)) (oldM (s :: ss)) (ss.length + 1) (lenM (s :: ss))) := h1.mr
        have hgq : gl ≠ q := (h1.ql gl rfl).symm
        generalize hN : oldN (s :: ss) = N at *
        generalize hKK : oldN ss = K at *
        have HKK : Hid (oldN ss = K) := hKK
        have hlo : (N : Int) - (s.length : Int) = (K : Int) := by omega
        have hlow : IntKind.i64.wrap (K : Int) = (K : Int) := by rw [IntKind.wrap_i64]; omega
        have hsub : ((ss.length + 1 : Nat) : Int) - 1 = (ss.length : Int) := by omega
        have hsub2 : ((ss.length : Int) + 1) - 1 = (ss.length : Int) := by omega
        have d3 : decide ((m : Int) < ((ss.length + 1 : Nat) : Int)) = true := decide_eq_true (by omega)
        have d3' : decide (m < ss.length + 1) = true := decide_eq_true hll
        have d3'' : decide ((m : Int) < (ss.length : Int) + 1) = true := decide_eq_true (by omega)
        clear h1 hN hKK hdr hs hro2 hk
        go_upto_region 4 with fail
        go_region
        obtain ⟨hM2', hF2'⟩ := HM1.out.putO (Fr.refl _ wr) HRO2.out (.inl (own_same _ _ _ _))
        have FD : Fr No (wr.setCell ⟨q, 1, none⟩ (.slice bso K capo)) (wr.setCell ⟨q, 1, none⟩ (.slice bso K capo)).drew := (Fr.refl No _).drew
        have hM2 := hM2'.no' FD
        have HF2 : Hid (Fr (fun k => (Value.slice bso N capo).ownBlock = some k ∨ k = q) wr (wr.setCell ⟨q, 1, none⟩ (.slice bso K capo)).drew) := hF2'.trans FD (fun _ _ e => e.elim)
        have hF2 := HF2.out
        generalize (wr.setCell ⟨q, 1, none⟩ (.slice bso K capo)).drew = W2 at *
        clear c1 c2 z1 cl hsl hM2' hF2' FD
        have c2 := cell_of 2 hM2.top rfl
        have z2 := frozen_of 2 hM2.top
        have hsl := run_head95 hM2.rl (k := ss.length) (by omega)
        have hrl2 := owns_head hM2.rl (k := ss.length) (by omega)
        have HTL : Hid ((lenM (s :: ss)).take (ss.length * 1) = lenM ss) := by
          show _ = _
          rw [lenM_cons, Nat.mul_one, ← lenM_len ss, List.take_left]
        rw [HTL.out] at hrl2
        obtain ⟨hM3', hF3'⟩ := hM2.putL (Fr.refl _ W2) hrl2
        have HM3 : Hid (MR (W2.setCell ⟨q, 2, none⟩ (.slice (some ⟨gl, 0, none⟩) ss.length capl)) b0 q (.slice bsn ns.length capn) (.slice bso K capo) (.slice (some ⟨gl, 0, none⟩) ss.length capl) ns.length (nodesM 0 ns) K (oldM ss) ss.length (lenM ss)) := hM3'
        have HF3 : Hid (Fr (fun k => (sl gl (ss.length + 1) capl).ownBlock = some k ∨ k = q) W2 (W2.setCell ⟨q, 2, none⟩ (.slice (some ⟨gl, 0, none⟩) ss.length capl))) := hF3'
        clear hM3' hF3' hrl2 hM2
        go_upto_region 5 with fail
        go_region
        go_wp2_with fail
        go_roundg (saved.length + 1 - (j + 1))
        case measure => omega
        case rel =>
          have FD : Fr No (W2.setCell ⟨q, 2, none⟩ (.slice (some ⟨gl, 0, none⟩) ss.length capl)) (W2.setCell ⟨q, 2, none⟩ (.slice (some ⟨gl, 0, none⟩) ss.length capl)).drew := (Fr.refl No _).drew
          refine ⟨j + 1, by omega, rfl, ?_, (hF.trans HF2.out (fun k _ e => e.elim (fun e => .inr (.inr (.inl (by rw [← HO1.out]; exact e)))) .inl)).trans (HF3.out.trans FD (fun _ _ e => e.elim)) (fun k _ e => e.elim (fun e => .inr (.inr (.inr (by rw [← HL1.out]; exact e)))) .inl)⟩
          have hm := HM3.out.no' FD
          have e := HKK.out
          subst e
          rw [HSS.out]
          exact ⟨_, _, hm.mat, by rw [← HO1.out]; exact own_same _ _ _ _, by rw [← HL1.out]; rfl⟩
end
end Go.Proofs.Qxb6500301a
