import Derived.Test.Qxb6500301aMod7
namespace Go.Proofs.Qxb6500301a
open Go.RowKit
set_option linter.unusedSimpArgs false
set_option linter.unusedVariables false
attribute [local go_sem ↓] Go.wp_at_zero Go.wp_at_succ
attribute [-go_sem] Go.run_string_add_if Go.run_index_string Go.run_slice_string_if Go.run_slice_any Go.run_slice_l Go.run_slice_h

theorem Try.elem94 : Try.prog.elem 94 = 111 := by kernel_rfl
theorem Try.elem95 : Try.prog.elem 95 = 3 := by kernel_rfl
theorem size111 (w : World) : (sizeOf (Try.prog.elem 94)).run Try.prog w = .ok 6 w := by
  obtain ⟨i, hi, _, hz1, _⟩ := info_parts Try.info111
  rw [Try.elem94]; simp [sizeOf, typeInfo, hi, hz1]
theorem size3 (w : World) : (sizeOf (Try.prog.elem 95)).run Try.prog w = .ok 1 w := by
  obtain ⟨i, hi, _, hz1, _⟩ := info_parts Try.info3
  rw [Try.elem95]; simp [sizeOf, typeInfo, hi, hz1]
theorem und94 : Try.prog.underlying 94 = some (.slice (Try.prog.elem 94)) := by rw [Try.elem94]; exact Try.underlying94
theorem und95 : Try.prog.underlying 95 = some (.slice (Try.prog.elem 95)) := by rw [Try.elem95]; exact Try.underlying95

theorem owns_bs {w : World} {b0 e sz N cap : Nat} {bs : Option Addr} {xs : List Value} (h : w.ownsRow b0 e sz (.slice bs N cap) N xs) : (bs = none ∧ N = 0 ∧ cap = 0 ∧ xs = []) ∨ (∃ g, bs = some ⟨g, 0, none⟩ ∧ N ≤ cap) := by
  rcases h.2 with ⟨hv, h0⟩ | ⟨g, cap', cur, hv, hb, hg, hn, hc, hs, ht⟩
  · injection hv with h1 h2 h3
    exact .inl ⟨h1, h0, h3, List.eq_nil_of_length_eq_zero (by rw [h.1, h0]; omega)⟩
  · injection hv with h1 h2 h3
    subst h1 h3
    exact .inr ⟨g, rfl, hn⟩
theorem run_tail {w : World} {b0 N cap k n : Nat} {bs : Option Addr} {xs : List Value} (h : w.ownsRow b0 111 6 (.slice bs N cap) N xs) (hk : k + n = N) :
    ∃ x, (∀ w', (Instr.slice 94 (.slice bs N cap) (some (.int .i64 (k : Int))) none none).run Try.prog w' = .ok x w') ∧ SrcAt w x n (xs.drop (k * 6)) := by
  refine ⟨sliced bs k N cap 6, fun w' => ?_, ?_⟩
  · rw [run_slice_l (P := Try.prog) w' 94 bs N cap und94 .i64 (k : Int) (by omega) (by omega), size111]
    simp [Result.andThen]
  · unfold sliced
    rcases owns_bs h with ⟨rfl, rfl, rfl, rfl⟩ | ⟨g, rfl, hc⟩
    · refine .inl ⟨?_, by omega, by simp⟩
      have : k = 0 := by omega
      subst this
      simp
    · have hl : (xs.drop (k * 6)).length = n * 6 := by rw [List.length_drop, h.1]; omega
      by_cases hck : cap = k
      · rw [if_pos hck]
        have hn0 : n = 0 := by omega
        subst hn0
        refine .inr ⟨⟨g, 0, none⟩, cap - k, ?_, hl, fun j u hj => ?_⟩
        · rw [show N - k = 0 by omega]
        · have := (List.getElem?_eq_some_iff.1 hj).1
          omega
      · rw [if_neg hck]
        refine .inr ⟨⟨g, k * 6, none⟩, cap - k, ?_, hl, fun j u hj => ?_⟩
        · rw [Option.map_some, add_zero_addr, show N - k = n by omega]
        · have hlt := (List.getElem?_eq_some_iff.1 hj).1
          rw [List.getElem?_drop] at hj
          have := h.cellAt (k * 6 + j) (by omega)
          rw [hj] at this
          rw [← this]
          congr 1
          by_cases h0 : j = 0
          · subst h0; rfl
          · simp [Addr.add, h0]
theorem owns_head {w : World} {b0 e sz N cap k : Nat} {bs : Option Addr} {xs : List Value} (h : w.ownsRow b0 e sz (.slice bs N cap) N xs) (hk : k ≤ N) : w.ownsRow b0 e sz (.slice bs k cap) k (xs.take (k * sz)) := by
  have hm : k * sz ≤ N * sz := Nat.mul_le_mul_right _ hk
  refine ⟨by rw [List.length_take, h.1]; omega, ?_⟩
  rcases h.2 with ⟨hv, h0⟩ | ⟨g, cap', cur, hv, hb, hg, hn, hc, hs, ht⟩
  · injection hv with h1 h2 h3
    subst h1 h3
    have : k = 0 := by omega
    subst this
    exact .inl ⟨rfl, rfl⟩
  · injection hv with h1 h2 h3
    subst h1 h3
    exact .inr ⟨g, cap, cur, rfl, hb, hg, by omega, hc, hs, by rw [← ht, List.take_take, Nat.min_eq_left hm]⟩
theorem run_head94 {w : World} {b0 N cap k : Nat} {bs : Option Addr} {xs : List Value} (h : w.ownsRow b0 111 6 (.slice bs N cap) N xs) (hk : k ≤ N) (w' : World) : (Instr.slice 94 (.slice bs N cap) none (some (.int .i64 (k : Int))) none).run Try.prog w' = .ok (.slice bs k cap) w' := by
  have hc : N ≤ cap := by rcases owns_bs h with ⟨_, h1, h2, _⟩ | ⟨g, _, hc⟩ <;> omega
  rw [run_slice_h (P := Try.prog) w' 94 bs N cap und94 .i64 (k : Int) (by omega) (by omega), size111]
  simp only [Result.andThen, sliced]
  rcases owns_bs h with ⟨rfl, rfl, rfl, rfl⟩ | ⟨g, rfl, hc⟩
  · simp
  · simp [Addr.add]
theorem run_head95 {w : World} {b0 N cap k : Nat} {bs : Option Addr} {xs : List Value} (h : w.ownsRow b0 3 1 (.slice bs N cap) N xs) (hk : k ≤ N) (w' : World) : (Instr.slice 95 (.slice bs N cap) none (some (.int .i64 (k : Int))) none).run Try.prog w' = .ok (.slice bs k cap) w' := by
  have hc : N ≤ cap := by rcases owns_bs h with ⟨_, h1, h2, _⟩ | ⟨g, _, hc⟩ <;> omega
  rw [run_slice_h (P := Try.prog) w' 95 bs N cap und95 .i64 (k : Int) (by omega) (by omega), size3]
  simp only [Result.andThen, sliced]
  rcases owns_bs h with ⟨rfl, rfl, rfl, rfl⟩ | ⟨g, rfl, hc⟩
  · simp
  · simp [Addr.add]

section
variable {w : World} {b0 q : Nat} {vn vo vl : Value} {nn no nl : Nat} {nc oc lc : List Value}
theorem MR.nilN (h : MR w b0 q vn vo vl nn nc no oc nl lc) : MR (w.setCell ⟨q, 0, none⟩ (.slice none 0 0)) b0 q (.slice none 0 0) vo vl 0 [] no oc nl lc ∧ Fr (fun k => k = q) w (w.setCell ⟨q, 0, none⟩ (.slice none 0 0)) :=
  ⟨⟨heap_setCell_same _ h.top, World.ownsRow_nil _ _ _ _, row_setCell h.ro (top_ne h.ro h.top (by decide)), row_setCell h.rl (top_ne h.rl h.top (by decide)), (fun k hk => by cases hk), h.qb⟩, Fr.setCell (S := fun k => k = q) (Fr.refl _ w) (fun _ => rfl) _⟩
end
theorem lens_last {w : World} {b0 g cap : Nat} {s : List Nd} {ss : List (List Nd)} (h : w.ownsRow b0 3 1 (sl g (s :: ss).length cap) (s :: ss).length (lenM (s :: ss))) : w.cell? ⟨g, ss.length, none⟩ = some (.int .i64 (s.length : Int)) := by
  rw [h.cellAt ss.length (by simp), lenM_cons, List.getElem?_append_right (by rw [lenM_len]; exact Nat.le_refl _), lenM_len]
  simp

section
variable {w : World} {b0 q : Nat} {vn vo vl : Value} {ns : List Nd} {saved : List (List Nd)}
theorem mUndo_idle (h : MAt w b0 q vn vo vl ns []) : Calls Try.prog 51 #[.pointer (some ⟨q, 0, none⟩)] w (MOne b0 q vn vo vl ns [] 3 w) := by
  obtain ⟨bs, cap, rfl⟩ := owns_slice h.rl
  have HM : Hid (ModAt w b0 q ns []) := ⟨vn, vo, _, h⟩
  have c0 := cell_of 2 h.top rfl
  clear h
  go_enter Try.func51, Try.ntmps51
  go_wp2_with fail
  go_ret
  exact ⟨rfl, HM.out, Fr.refl _ _⟩
set_option maxRecDepth 40000 in
set_option maxHeartbeats 4000000 in
theorem mUndo_any {s : List Nd} {ss : List (List Nd)} (hb0 : b0 ≤ w.heap.size) (h : MAt w b0 q vn vo vl ns (s :: ss)) (ok : OkS ns (s :: ss)) : Calls Try.prog 51 #[.pointer (some ⟨q, 0, none⟩)] w (MOne b0 q vn vo vl s (s :: ss) 0 w) := by
  have hs := (ok.old s (by simp)).2
  have hm := ok.marks
  have hol := oldN_le (fun s hs => (ok.old s hs).2)
  obtain ⟨gl, capl, rfl, hglb, hgll, hcapl⟩ := owns_ptr h.rl (by simp)
  obtain ⟨bso, capo, rfl⟩ := owns_slice h.ro
  obtain ⟨bsn, capn, rfl⟩ := owns_slice h.rn
  have c0 := cell_of 0 h.top rfl
  have c1 := cell_of 1 h.top rfl
  have c2 := cell_of 2 h.top rfl
  have z0 := frozen_of 0 h.top
  have cl := lens_last h.rl
  have HM : Hid (MR w b0 q (.slice bsn ns.length capn) (.slice bso (oldN (s :: ss)) capo) (sl gl (s :: ss).length capl) ns.length (nodesM 0 ns) (oldN (s :: ss)) (oldM (s :: ss)) (s :: ss).length (lenM (s :: ss))) := h.mr
  have hn1 := nodesM_one 0 s
  have hk : oldN ss + s.length = oldN (s :: ss) := (oldN_cons s ss).symm
  have HDR : Hid ((oldM (s :: ss)).drop (oldN ss * 6) = nodesM 0 s) := by
    show _ = _
    rw [oldM_cons, ← oldM_len, List.drop_left]
  rw [List.length_cons] at hm hol
  simp only [List.length_cons] at c2
  have hsub : ((ss.length + 1 : Nat) : Int) - 1 = (ss.length : Int) := by omega
  have hsub2 : ((ss.length : Int) + 1) - 1 = (ss.length : Int) := by omega
  generalize hN : oldN (s :: ss) = N at *
  generalize oldN ss = k at *
  have HN : Hid (oldN (s :: ss) = N) := hN
  clear h hN
  have hlo : (N : Int) - (s.length : Int) = (k : Int) := by omega
  have hlow : IntKind.i64.wrap (k : Int) = (k : Int) := by rw [IntKind.wrap_i64]; omega
  go_enter Try.func51, Try.ntmps51
  go_upto_region 3 with fail
  go_quiet (fail)
  generalize hW : World.drewN w _ = W2
  have F2 : Fr No w W2 := hW ▸ (Fr.refl No w).drewN _
  clear hW
  have hM2 := HM.out.no' F2
  have HF2 : Hid (Fr No w W2) := F2
  have hs2 := F2.size
  clear c0 c1 c2 cl z0
  have c0 := cell_of 0 hM2.top rfl
  have z0 := frozen_of 0 hM2.top
  have HM2 : Hid (MR W2 b0 q (.slice bsn ns.length capn) (.slice bso N capo) (sl gl (s :: ss).length capl) ns.length (nodesM 0 ns) N (oldM (s :: ss)) (s :: ss).length (lenM (s :: ss))) := hM2
  clear hM2 F2
  go_upto_region 5 with fail
  obtain ⟨hM3, hF3⟩ := HM2.out.nilN
  have hsz3 : (W2.setCell ⟨q, 0, none⟩ (.slice none 0 0)).heap.size = W2.heap.size := by simp [World.setCell]
  generalize (W2.setCell ⟨q, 0, none⟩ (.slice none 0 0)) = W3 at *
  have HF3 : Hid (Fr (Foot q (.slice bsn ns.length capn) (.slice bso N capo) (sl gl (s :: ss).length capl)) w W3) := (HF2.out.mono (fun _ _ e => e.elim)).trans hF3 (fun _ _ e => .inl e)
  have HM3 : Hid (MR W3 b0 q (.slice none 0 0) (.slice bso N capo) (sl gl (s :: ss).length capl) 0 [] N (oldM (s :: ss)) (s :: ss).length (lenM (s :: ss))) := hM3
  obtain ⟨x, hsl, hsrc⟩ := run_tail hM3.ro hk
  rw [HDR.out] at hsrc
  clear c0 z0 hF3
  have c0 := cell_of 0 hM3.top rfl
  have c1 := cell_of 1 hM3.top rfl
  have z0 := frozen_of 0 hM3.top
  clear hM3
  go_cut [] from 25 (fun wx => ∃ bs2 cap2, MR wx b0 q (.slice bs2 s.length cap2) (.slice bso N capo) (sl gl (s :: ss).length capl) s.length (nodesM 0 s) N (oldM (s :: ss)) (s :: ss).length (lenM (s :: ss)) ∧ Fr (Foot q (.slice bsn ns.length capn) (.slice bso N capo) (sl gl (s :: ss).length capl)) w wx)
  case first =>
    have FD : Fr No W3 W3.drew := (Fr.refl No W3).drew
    have hMD := HM3.out.no' FD
    have hrn := hMD.rn
    have hsrc2 := hsrc.no FD
    have hbd : b0 ≤ W3.drew.heap.size := by show b0 ≤ W3.heap.size; omega
    go_region_law
      ((refine step_spread (by rfl) _ _ (by rfl) (by rfl) (by rfl) hrn hsrc2 hn1 (by omega) hbd ?_; intro bs2 cap2 w2 hown2 hgrow2 hat2; simp only [Nat.zero_add, List.nil_append] at hown2 hat2; have G2 : Fr (fun k => (Value.slice none 0 0).ownBlock = some k) W3 w2 := Fr.grown (S := fun k => (Value.slice none 0 0).ownBlock = some k) (FD.mono (fun _ _ e => e.elim)) hgrow2 (fun k hk _ => hk); have hp2 := G2.keep HM3.out.top (fun e => by cases e); have cp2 := cell_of 0 hp2 rfl; have fp2 := frozen_of 0 hp2; have cp0 := cell_of 1 hp2 rfl))
    all_goals (go_wp2_with fail)
    all_goals go_meet
    all_goals (
      obtain ⟨k1, k2⟩ := HM3.out.putN G2 hown2 hat2
      exact ⟨bs2, cap2, k1, HF3.out.trans k2 (fun k _ e => e.elim (fun e => by cases e) .inl)⟩)
  case rest =>
    obtain ⟨bs2, cap2, hM4, hF4⟩ := hcut
    clear c0 c1 z0 hsl hsrc
    have HFIN : Hid (ModAt wc b0 q s (s :: ss)) := by
      have e := HN.out
      subst e
      exact ⟨_, _, _, hM4.mat⟩
    have HF4 : Hid (Fr (Foot q (.slice bsn ns.length capn) (.slice bso N capo) (sl gl (s :: ss).length capl)) w wc) := hF4
    clear hM4 hF4
    go_wp2_with fail
    go_ret
    exact ⟨rfl, HFIN.out, HF4.out⟩
end
end Go.Proofs.Qxb6500301a
