import Derived.Test.Qxb6500301aMod10
import Derived.Test.Qxb6500301aPrn3
namespace Go.Proofs.Qxb6500301a
open Go.RowKit
set_option linter.unusedSimpArgs false
set_option linter.unusedVariables false
attribute [local go_sem ↓] Go.wp_at_zero Go.wp_at_succ
attribute [-go_sem] Go.run_string_add_if Go.run_index_string Go.run_slice_string_if Go.run_slice_any Go.run_slice_l Go.run_slice_h Go.run_slice_lh

theorem old_seg {saved : List (List Nd)} {j : Nat} {s : List Nd} (h : saved[j]? = some s) : ∃ post, oldM saved = oldM (saved.drop (j + 1)) ++ nodesM 0 s ++ post := by
  have hlt := (List.getElem?_eq_some_iff.1 h).1
  have h2 := (List.getElem?_eq_some_iff.1 h).2
  have e : saved = saved.take j ++ s :: saved.drop (j + 1) := by
    rw [← h2, ← List.drop_eq_getElem_cons hlt, List.take_append_drop]
  refine ⟨oldM (saved.take j), ?_⟩
  conv => lhs; rw [e]
  unfold oldM
  rw [List.reverse_append, List.reverse_cons, List.flatMap_append, List.flatMap_append]
  simp
theorem oldN_drop {saved : List (List Nd)} {j : Nat} {s : List Nd} (h : saved[j]? = some s) : oldN (saved.drop j) = oldN (saved.drop (j + 1)) + s.length := by
  have hlt := (List.getElem?_eq_some_iff.1 h).1
  have h2 := (List.getElem?_eq_some_iff.1 h).2
  rw [List.drop_eq_getElem_cons hlt, h2, oldN_cons]
theorem len_at {saved : List (List Nd)} {j k : Nat} {s : List Nd} (h : saved[j]? = some s) (hk : k + 1 + j = saved.length) : (lenM saved)[k]? = some (.int .i64 (s.length : Int)) := by
  unfold lenM
  rw [List.getElem?_map, List.getElem?_reverse (by omega), show saved.length - 1 - k = j by omega, h]
  rfl
/-- A window of a row of nodes. -/
theorem run_mid {w : World} {b0 N cap lo hi bb : Nat} {bs : Option Addr} {xs pre post : List Value} {s : List Nd} (h : w.ownsRow b0 111 6 (.slice bs N cap) N xs) (hl : hi = lo + s.length) (hN : hi ≤ N) (hxs : xs = pre ++ nodesM 0 s ++ post) (hpre : pre.length = lo * 6) (hbb : ∀ k, (Value.slice bs N cap).ownBlock = some k → k < bb) :
    ∃ x, (∀ w', (Instr.slice 94 (.slice bs N cap) (some (.int .i64 (lo : Int))) (some (.int .i64 (hi : Int))) none).run Try.prog w' = .ok x w') ∧ RowAt w bb x s := by
  have hc : N ≤ cap := by rcases owns_bs h with ⟨_, h1, h2, _⟩ | ⟨g, _, hc⟩ <;> omega
  refine ⟨sliced bs lo hi cap 6, fun w' => ?_, ?_⟩
  · rw [run_slice_lh (P := Try.prog) w' 94 bs N cap und94 .i64 .i64 (lo : Int) (hi : Int) (by omega) (by omega) (by omega), size111]
    simp [Result.andThen]
  · unfold sliced
    have hd : hi - lo = s.length := by omega
    rw [hd]
    by_cases hs : s = []
    · subst hs
      exact .inl ⟨rfl, _, _, rfl⟩
    · have hsl : 0 < s.length := List.length_pos_iff.2 hs
      rcases owns_bs h with ⟨_, h1, _, _⟩ | ⟨g, rfl, _⟩
      · omega
      · rw [if_neg (by omega), Option.map_some, add_zero_addr]
        refine .inr ⟨g, lo * 6, cap - lo, rfl, hbb g rfl, ?_⟩
        have key : ∀ (i j : Nat) (y : Nd), s[i]? = some y → j < 6 → w.cell? ⟨g, lo * 6 + i * 6 + j, none⟩ = (ndM i y)[j]? := by
          intro i j y hy hj
          have hi2 := lt_of_some hy
          rw [h.cellAt _ (by omega), hxs, List.append_assoc, List.getElem?_append_right (by omega), hpre, show lo * 6 + i * 6 + j - lo * 6 = i * 6 + j by omega, List.getElem?_append_left (by rw [nodesM_len]; omega), nodesM_get hy j hj, Nat.zero_add]
        intro i y hy
        refine ⟨key i 0 y hy (by omega), key i 1 y hy (by omega), fun j hj => ?_⟩
        have := key i (2 + j) y hy (by omega)
        rw [← Nat.add_assoc] at this
        rw [this]
        match j, hj with
        | 0, _ => rfl
        | 1, _ => rfl
        | 2, _ => rfl
        | 3, _ => rfl
theorem RowAt.keep {w w' : World} {bb : Nat} {x : Value} {ns : List Nd} (h : RowAt w bb x ns) (hf : Fr (fun k => bb ≤ k) w w') : RowAt w' bb x ns := by
  rcases h with h | ⟨g, off, c, hx, hg, hc⟩
  · exact .inl h
  · refine .inr ⟨g, off, c, hx, hg, fun i y hy => ?_⟩
    obtain ⟨k1, k2, k3⟩ := hc i y hy
    exact ⟨hf.cellAt k1 (by simp only; omega), hf.cellAt k2 (by simp only; omega), fun j hj => hf.cellAt (k3 j hj) (by simp only; omega)⟩
theorem RowAt.of {w : World} {b0 bb : Nat} {v : Value} {ns : List Nd} (h : w.ownsRow b0 111 6 v ns.length (nodesM 0 ns)) (hbb : ∀ k, v.ownBlock = some k → k < bb) : RowAt w bb v ns := by
  by_cases hn : ns = []
  · subst hn
    obtain ⟨bs, cap, rfl⟩ := owns_slice h
    exact .inl ⟨rfl, bs, cap, rfl⟩
  · obtain ⟨g, cap, rfl, _, _, _⟩ := owns_ptr h (List.length_pos_iff.2 hn)
    refine .inr ⟨g, 0, cap, rfl, hbb g rfl, fun i y hy => ?_⟩
    simp only [Nat.zero_add]
    exact nd_cells h hy
section
variable {w : World} {b0 q : Nat} {vn vo vl : Value} {ns : List Nd} {saved : List (List Nd)}
set_option maxRecDepth 40000 in
set_option maxHeartbeats 8000000 in
theorem mShow_any (h : MAt w b0 q vn vo vl ns saved) (ok : OkS ns saved) : Calls Try.prog 38 #[.pointer (some ⟨q, 0, none⟩)] w fun e w' => e = .returned (.string (S (showL ns saved))) ∧ Fr No w w' := by
  have hw := ok.wf
  have hs := ok.small
  have hm := ok.marks
  have hold := ok.old
  have hoN := oldN_le (fun s hs => (hold s hs).2)
  obtain ⟨i5, hi5, hz5, hs5, hy5⟩ := info_parts Try.info5p
  obtain ⟨bsl, capl, rfl⟩ := owns_slice h.rl
  obtain ⟨bso, capo, rfl⟩ := owns_slice h.ro
  obtain ⟨bsn, capn, rfl⟩ := owns_slice h.rn
  have c0 := cell_of 0 h.top rfl
  have hqs := lt_of_heap h.top
  have hRow0 := RowAt.of h.rn (bb := w.heap.size) (fun k hk => (h.rn.lt k hk).2)
  have hcv : (convert 53 53 (.slice (some ⟨w.heap.size, 0, none⟩) 1 1)).run Try.prog (w.alloc (.cells #[.int .u8 72] 5)) = .ok (.slice (some ⟨w.heap.size, 0, none⟩) 1 1) (w.alloc (.cells #[.int .u8 72] 5 (1, 2))) := Go.Lib.run_convert_bytes_const w 53 5 #[.int .u8 72] 1 1 Try.underlying53 Try.underlying5
  have FA : Fr No w (w.alloc (.cells #[.int .u8 72] 5 (1, 2))) := (Fr.refl No w).alloc _
  have hB1 : BufX w.heap.size (w.alloc (.cells #[.int .u8 72] 5 (1, 2))) (.slice (some ⟨w.heap.size, 0, none⟩) 1 1) [72] := BufX.lit 72 (1, 2)
  have ca0 := FA.cellNo c0
  have HR1 : Hid (Calls Try.prog 59 #[.slice (some ⟨w.heap.size, 0, none⟩) 1 1, .slice bsn ns.length capn] (w.alloc (.cells #[.int .u8 72] 5 (1, 2))) (RowPost w.heap.size ([72] ++ rowL ns) (w.alloc (.cells #[.int .u8 72] 5 (1, 2))))) := mRow_any (L := [72]) FA.size hB1 (hRow0.keep (FA.mono (fun _ _ e => e.elim))) hw hs (by simp)
  have HC : Hid (∀ w', Fr (fun k => w.heap.size ≤ k) w w' → w'.cell? ⟨q, 1, none⟩ = some (.slice bso (oldN saved) capo) ∧ w'.cell? ⟨q, 2, none⟩ = some (.slice bsl saved.length capl)) := by
    intro w' hf
    exact ⟨hf.cellAt (cell_of 1 h.top rfl) (by simp only; omega), hf.cellAt (cell_of 2 h.top rfl) (by simp only; omega)⟩
  have HSG : Hid (∀ j s, saved[j]? = some s → ∃ g x, bsl = some ⟨g, 0, none⟩ ∧ g < w.heap.size ∧ WfN s ∧ s.length ≤ 64 ∧ (∀ k, k + 1 + j = saved.length → w.cell? ⟨g, k, none⟩ = some (.int .i64 (s.length : Int))) ∧ (∀ w', (Instr.slice 94 (.slice bso (oldN saved) capo) (some (.int .i64 (oldN (saved.drop (j + 1)) : Int))) (some (.int .i64 (oldN (saved.drop j) : Int))) none).run Try.prog w' = .ok x w') ∧ RowAt w w.heap.size x s ∧ oldN (saved.drop j) = oldN (saved.drop (j + 1)) + s.length ∧ oldN (saved.drop j) ≤ oldN saved) := by
    intro j s hj
    have hjl := (List.getElem?_eq_some_iff.1 hj).1
    obtain ⟨g, cap, heq, _, hgl, _⟩ := owns_ptr h.rl (by omega)
    injection heq with q1 q2 q3
    subst q1 q3
    obtain ⟨post, hpost⟩ := old_seg hj
    have hdr := oldN_drop hj
    have hlen : oldN (saved.drop j) ≤ oldN saved := by
      have : oldN saved = oldN (saved.take j) + oldN (saved.drop j) := by
        unfold oldN
        rw [← List.sum_append, ← List.map_append, List.take_append_drop]
      omega
    obtain ⟨x, hx1, hx2⟩ := run_mid (lo := oldN (saved.drop (j + 1))) (hi := oldN (saved.drop j)) (bb := w.heap.size) h.ro hdr hlen hpost (oldM_len _) (fun k hk => (h.ro.lt k hk).2)
    refine ⟨g, x, rfl, hgl, (hold s (List.mem_of_getElem? hj)).1, (hold s (List.mem_of_getElem? hj)).2, fun k hk => ?_, hx1, hx2, hdr, hlen⟩
    have h2 := h.rl.cellAt k (by omega)
    rw [len_at hj hk] at h2
    exact h2
  have hrl : (rowL ns).length ≤ 960 := by have := rowL_len hw; omega
  clear h hw hold hRow0 hB1
  go_enter Try.func38, Try.ntmps38
  go_wp2_with fail
  refine HR1.out.mono ?_
  rintro e w2 ⟨bs2, cap2, rfl, hB2, hF2⟩
  have hFw : Fr (fun k => w.heap.size ≤ k) w w2 := (FA.mono (fun _ _ e => e.elim)).trans hF2 (fun _ _ e => e)
  obtain ⟨k1, k2⟩ := HC.out w2 hFw
  have HB2 : Hid (BufX w.heap.size w2 (.slice bs2 ([72] ++ rowL ns).length cap2) ([72] ++ rowL ns)) := hB2
  have HF2 : Hid (Fr (fun k => w.heap.size ≤ k) w w2) := hFw
  have hl2 : ([72] ++ rowL ns).length ≤ 1000 := by simp; omega
  have HSH : Hid (∀ j, showL ns (saved.take j) = ([72] ++ rowL ns) ++ oldL (saved.take j)) := fun j => rfl
  have HSF : Hid (showL ns saved = ([72] ++ rowL ns) ++ oldL saved) := rfl
  generalize [72] ++ rowL ns = L0 at *
  clear hB2 hF2 hFw c0 ca0 FA
  go_wp2_with fail
  go_loopg [3, 4, 5] (saved.length + 1) (fun gk v3 v4 v5 wr => ∃ (j : Nat) (bs : Option Addr) (cap : Nat), j ≤ saved.length ∧ gk = saved.length + 1 - j ∧ v5 = .int .i64 ((saved.length : Int) - 1 - (j : Int)) ∧ v4 = .int .i64 (oldN (saved.drop j) : Int) ∧ v3 = .slice bs (L0 ++ oldL (saved.take j)).length cap ∧ (L0 ++ oldL (saved.take j)).length ≤ 1000 * (j + 1) ∧ BufX w.heap.size wr (.slice bs (L0 ++ oldL (saved.take j)).length cap) (L0 ++ oldL (saved.take j)) ∧ Fr (fun k => w.heap.size ≤ k) w wr)
  case atStart =>
    refine ⟨0, bs2, cap2, Nat.zero_le _, rfl, by simp, by simp, by simp [oldL], by simp [oldL]; omega, by simpa [oldL] using HB2.out, HF2.out⟩
  case round =>
    clear k1 k2
    obtain ⟨j, bs, cap, hj, hgk, rfl, rfl, rfl, hlen, hB, hF⟩ := hrel
    have hsz := hF.size
    have HB : Hid (BufX w.heap.size wr (.slice bs (L0 ++ oldL (saved.take j)).length cap) (L0 ++ oldL (saved.take j))) := hB
    have HNX : Hid (∀ s, saved[j]? = some s → L0 ++ oldL (saved.take (j + 1)) = ((L0 ++ oldL (saved.take j)) ++ [124]) ++ rowL s) := by
      intro s hs
      rw [oldL_snoc hs]; simp
    have HEN : Hid (j = saved.length → L0 ++ oldL saved = L0 ++ oldL (saved.take j)) := by intro e; rw [e, List.take_length]
    generalize L0 ++ oldL (saved.take j) = L1 at *
    clear hB
    by_cases hjl : j < saved.length
    case neg =>
      have em : (saved.length : Int) - 1 - (j : Int) = -1 := by omega
      have HE2 : Hid (L0 ++ oldL saved = L1) := HEN.out (by omega)
      have hstr := HB.out.str
      rw [em]
      clear HEN HNX em
      go_wp2_with fail
      go_ret
      rw [HSF.out, HE2.out]
      exact ⟨rfl, hF.mono (fun k hk e => by omega)⟩
    case pos =>
      obtain ⟨s, hsj⟩ : ∃ s, saved[j]? = some s := ⟨_, List.getElem?_eq_getElem hjl⟩
      obtain ⟨g, x, rfl, hgw, hws, hss64, hcl, hsl, hrw, hdr, hle⟩ := HSG.out j s hsj
      obtain ⟨K, hK⟩ : ∃ K : Nat, (saved.length : Int) - 1 - (j : Int) = (K : Int) := ⟨saved.length - 1 - j, by omega⟩
      rw [hK]
      have hKl : K < saved.length := by omega
      have hck := hcl K (by omega)
      obtain ⟨k1, k2⟩ := HC.out wr hF
      have k3 := hF.cellAt hck (by simp only; omega)
      have HN : Hid (L0 ++ oldL (saved.take (j + 1)) = (L1 ++ [124]) ++ rowL s) := HNX.out s hsj
      have hrs : (rowL s).length ≤ 960 := by have := rowL_len hws; omega
      have HNK : Hid ((saved.length : Int) - 1 - ((j + 1 : Nat) : Int) = (K : Int) - 1) := by show _ = _; omega
      have HRW : Hid (∀ w' bs L cap, Fr (fun k => w.heap.size ≤ k) w w' → BufX w.heap.size w' (.slice bs L.length cap) L → L.length ≤ 100000 → Calls Try.prog 59 #[.slice bs L.length cap, x] w' (RowPost w.heap.size (L ++ rowL s) w')) := fun w' bs L cap hf hb hl => mRow_any hf.size hb (hrw.keep hf) hws hss64 hl
      have HSL : Hid (∀ w', (Instr.slice 94 (.slice bso (oldN saved) capo) (some (.int .i64 (oldN (saved.drop (j + 1)) : Int))) (some (.int .i64 (oldN (saved.drop j) : Int))) none).run Try.prog w' = .ok x w') := hsl
      have hck0 := hck
      clear hcl hck hsl hrw HSG HNX HEN hsj
      generalize oldN (saved.drop j) = hi at *
      generalize hLO : oldN (saved.drop (j + 1)) = lo at *
      have HLO : Hid (oldN (saved.drop (j + 1)) = lo) := hLO
      clear hLO
      have hhi : hi ≤ 64 * 26 := by omega
      have hlo : (hi : Int) - (s.length : Int) = (lo : Int) := by omega
      have hlow : IntKind.i64.wrap (lo : Int) = (lo : Int) := by rw [IntKind.wrap_i64]; omega
      clear hdr
      have hbf := HB.out
      have hrow6 : BufX w.heap.size (wr.alloc (.cells #[.int .u8 124] 5)) (.slice bs L1.length cap) L1 := hbf.no ((Fr.refl No wr).alloc _)
      have hnb6 : (wr.alloc (.cells #[.int .u8 124] 5)).heap[wr.heap.size]? = some (.cells #[.int .u8 124] 5) := heap_alloc_same _ _
      go_upto_region 7 with (at_builtin; refine wpList_bx_one (by rfl) _ _ (by rfl) (by rfl) hrow6 124 wr.heap.size (by rfl) hnb6 (by omega) (by simp; omega) ?_; intro bg6 cap6 w6 hbx6 hfx6)
      have F6 : Fr (fun k => w.heap.size ≤ k) wr w6 := ((Fr.refl _ wr).alloc _).trans hfx6 (fun _ _ e => e)
      have HB6 : Hid (BufX w.heap.size w6 (.slice bg6 (L1 ++ [124]).length cap6) (L1 ++ [124])) := by
        show BufX _ _ _ _
        rw [List.length_append]
        exact hbx6
      have hsz6 := F6.size
      have HF6 : Hid (Fr (fun k => w.heap.size ≤ k) w w6) := hF.trans F6 (fun _ _ e => e)
      have e6 : (L1 ++ [124]).length = L1.length + 1 := by simp
      clear hbx6 hfx6 hrow6 hnb6 hbf k1 k2
      obtain ⟨k1, k2⟩ := HC.out w6 HF6.out
      have k36 := F6.cellAt k3 (by simp only; omega)
      clear k3 F6
      rw [← e6]
      obtain ⟨L6, hL6⟩ : ∃ L6, L1 ++ [124] = L6 := ⟨_, rfl⟩
      rw [hL6] at HB6 e6 HN ⊢
      have hl6 : L6.length ≤ 1000 * (j + 1) + 1 := by omega
      clear hL6 e6
      go_cut [3] from 24 to 56 (fun v3 wx => ∃ bs7 cap7, v3 = .slice bs7 (L6 ++ rowL s).length cap7 ∧ BufX w.heap.size wx (.slice bs7 (L6 ++ rowL s).length cap7) (L6 ++ rowL s) ∧ Fr (fun k => w.heap.size ≤ k) w wx)
      case first =>
        have hsl := HSL.out
        go_region_law (first
          | (go_simp; refine (HRW.out _ _ _ _ ((HF6.out).drew) (HB6.out.no ((Fr.refl No w6).drew)) (by omega)).mono ?_; rintro e w8 ⟨bs8, cap8, rfl, hb8, F8⟩; go_wp2_with fail)
          | fail)
        all_goals (go_wp2_with fail)
        all_goals go_meet
        all_goals (exact ⟨bs8, cap8, by rw [List.length_append], hb8, HF6.out.trans (S' := fun k => w.heap.size ≤ k) ⟨F8.os, F8.tape, F8.output, F8.size, F8.block⟩ (fun _ _ e => e)⟩)
      case rest =>
        obtain ⟨bs7, cap7, rfl, hb7, hF7⟩ := hcut
        rw [← HN.out] at hb7 ⊢
        have HB7 : Hid (BufX w.heap.size wc (.slice bs7 (L0 ++ oldL (saved.take (j + 1))).length cap7) (L0 ++ oldL (saved.take (j + 1)))) := hb7
        have HL7 : Hid ((L0 ++ oldL (saved.take (j + 1))).length ≤ 1000 * (j + 1 + 1)) := by
          show _ ≤ _
          rw [HN.out, List.length_append]; omega
        have HF7 : Hid (Fr (fun k => w.heap.size ≤ k) w wc) := hF7
        have k37 := hF7.cellAt hck0 (by simp only; omega)
        clear k1 k2 k36
        obtain ⟨k1, k2⟩ := HC.out wc hF7
        have hKw : IntKind.i64.wrap ((K : Int) - 1) = (K : Int) - 1 := by rw [IntKind.wrap_i64]; omega
        clear hb7 hF7
        go_wp2_with fail
        go_roundg (saved.length + 1 - (j + 1))
        case measure => omega
        case rel => exact ⟨j + 1, bs7, cap7, by omega, rfl, by rw [HNK.out], by rw [HLO.out], rfl, HL7.out, HB7.out, HF7.out⟩
end
end Go.Proofs.Qxb6500301a
