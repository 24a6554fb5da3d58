import Derived.Test.Qxb6500301aMod6
namespace Go.Proofs.Qxb6500301a
open Go.RowKit
set_option linter.unusedSimpArgs false
set_option linter.unusedVariables false
attribute [local go_sem ↓] Go.wp_at_zero Go.wp_at_succ
attribute [-go_sem] Go.run_string_add_if Go.run_index_string Go.run_slice_string_if

/-- The model's three rows, whatever they hold. -/
structure MR (w : World) (b0 q : Nat) (vn vo vl : Value) (nn : Nat) (nc : List Value) (no : Nat) (oc : List Value) (nl : Nat) (lc : List Value) : Prop where
  top : w.heap[q]? = some (.cells #[vn, vo, vl] 97)
  rn : w.ownsRow b0 111 6 vn nn nc
  ro : w.ownsRow b0 111 6 vo no oc
  rl : w.ownsRow b0 3 1 vl nl lc
  ap : ∀ k, vn.ownBlock = some k → vo.ownBlock ≠ some k
  qb : b0 ≤ q

section
variable {w w2 : World} {b0 q : Nat} {vn vo vl : Value} {nn no nl : Nat} {nc oc lc : List Value}
theorem MAt.mr {ns : List Nd} {saved : List (List Nd)} (h : MAt w b0 q vn vo vl ns saved) : MR w b0 q vn vo vl ns.length (nodesM 0 ns) (oldN saved) (oldM saved) saved.length (lenM saved) := ⟨h.top, h.rn, h.ro, h.rl, h.no, h.qb⟩
theorem MR.mat {ns : List Nd} {saved : List (List Nd)} (h : MR w b0 q vn vo vl ns.length (nodesM 0 ns) (oldN saved) (oldM saved) saved.length (lenM saved)) : MAt w b0 q vn vo vl ns saved := ⟨h.top, h.rn, h.ro, h.rl, h.ap, h.qb⟩
theorem MR.no' (h : MR w b0 q vn vo vl nn nc no oc nl lc) (hf : Fr No w w2) : MR w2 b0 q vn vo vl nn nc no oc nl lc :=
  ⟨hf.keep h.top (fun e => e), ownsRow_keep h.rn hf (fun _ _ e => e), ownsRow_keep h.ro hf (fun _ _ e => e), ownsRow_keep h.rl hf (fun _ _ e => e), h.ap, h.qb⟩
theorem MR.putN (h : MR w b0 q vn vo vl nn nc no oc nl lc) (F : Fr (fun k => vn.ownBlock = some k) w w2) {v2 : Value} {n2 : Nat} {c2 : List Value} (hr : w2.ownsRow b0 111 6 v2 n2 c2) (hat : v2.ownBlock = vn.ownBlock ∨ v2.ownBlock = some w.heap.size) :
    MR (w2.setCell ⟨q, 0, none⟩ v2) b0 q v2 vo vl n2 c2 no oc nl lc ∧ Fr (fun k => vn.ownBlock = some k ∨ k = q) w (w2.setCell ⟨q, 0, none⟩ v2) := by
  have ht := F.keep h.top (fun e => top_ne h.rn h.top (by decide) q e rfl)
  have ho := ownsRow_keep h.ro F (fun k hk e => h.ap k e hk)
  have hl := ownsRow_keep h.rl F (fun k hk e => owns_ne h.rn h.rl (by decide) k e hk)
  refine ⟨⟨heap_setCell_same _ ht, row_setCell hr (top_ne hr ht (by decide)), row_setCell ho (top_ne ho ht (by decide)), row_setCell hl (top_ne hl ht (by decide)), ?_, h.qb⟩, (F.mono (fun k _ e => .inl e)).setCell (fun _ => .inr rfl) _⟩
  intro k hk hk'
  rcases hat with e | e
  · exact h.ap k (by rw [← e]; exact hk) hk'
  · rw [e] at hk
    have := (h.ro.lt k hk').2
    have : w.heap.size = k := by simpa using hk
    omega
theorem MR.putO (h : MR w b0 q vn vo vl nn nc no oc nl lc) (F : Fr (fun k => vo.ownBlock = some k) w w2) {v2 : Value} {n2 : Nat} {c2 : List Value} (hr : w2.ownsRow b0 111 6 v2 n2 c2) (hat : v2.ownBlock = vo.ownBlock ∨ v2.ownBlock = some w.heap.size) :
    MR (w2.setCell ⟨q, 1, none⟩ v2) b0 q vn v2 vl nn nc n2 c2 nl lc ∧ Fr (fun k => vo.ownBlock = some k ∨ k = q) w (w2.setCell ⟨q, 1, none⟩ v2) := by
  have ht := F.keep h.top (fun e => top_ne h.ro h.top (by decide) q e rfl)
  have hn := ownsRow_keep h.rn F (fun k hk e => h.ap k hk e)
  have hl := ownsRow_keep h.rl F (fun k hk e => owns_ne h.ro h.rl (by decide) k e hk)
  refine ⟨⟨heap_setCell_same _ ht, row_setCell hn (top_ne hn ht (by decide)), row_setCell hr (top_ne hr ht (by decide)), row_setCell hl (top_ne hl ht (by decide)), ?_, h.qb⟩, (F.mono (fun k _ e => .inl e)).setCell (fun _ => .inr rfl) _⟩
  intro k hk hk'
  rcases hat with e | e
  · exact h.ap k hk (by rw [← e]; exact hk')
  · rw [e] at hk'
    have := (h.rn.lt k hk).2
    have : w.heap.size = k := by simpa using hk'
    omega
theorem MR.putL (h : MR w b0 q vn vo vl nn nc no oc nl lc) (F : Fr (fun k => vl.ownBlock = some k) w w2) {v2 : Value} {n2 : Nat} {c2 : List Value} (hr : w2.ownsRow b0 3 1 v2 n2 c2) :
    MR (w2.setCell ⟨q, 2, none⟩ v2) b0 q vn vo v2 nn nc no oc n2 c2 ∧ Fr (fun k => vl.ownBlock = some k ∨ k = q) w (w2.setCell ⟨q, 2, none⟩ v2) := by
  have ht := F.keep h.top (fun e => top_ne h.rl h.top (by decide) q e rfl)
  have hn := ownsRow_keep h.rn F (fun k hk e => owns_ne h.rn h.rl (by decide) k hk e)
  have ho := ownsRow_keep h.ro F (fun k hk e => owns_ne h.ro h.rl (by decide) k hk e)
  exact ⟨⟨heap_setCell_same _ ht, row_setCell hn (top_ne hn ht (by decide)), row_setCell ho (top_ne ho ht (by decide)), row_setCell hr (top_ne hr ht (by decide)), h.ap, h.qb⟩, (F.mono (fun k _ e => .inl e)).setCell (fun _ => .inr rfl) _⟩
end

theorem oldN_cons (s : List Nd) (saved : List (List Nd)) : oldN (s :: saved) = oldN saved + s.length := by unfold oldN; simp; omega
theorem oldM_cons (s : List Nd) (saved : List (List Nd)) : oldM (s :: saved) = oldM saved ++ nodesM 0 s := by unfold oldM; simp
theorem lenM_cons (s : List Nd) (saved : List (List Nd)) : lenM (s :: saved) = lenM saved ++ [.int .i64 (s.length : Int)] := by unfold lenM; simp
theorem oldM_len : ∀ (saved : List (List Nd)), (oldM saved).length = oldN saved * 6
  | [] => rfl
  | s :: r => by rw [oldM_cons, List.length_append, nodesM_len, oldM_len r, oldN_cons]; omega
theorem lenM_len (saved : List (List Nd)) : (lenM saved).length = saved.length := by unfold lenM; simp
theorem oldN_le : ∀ {saved : List (List Nd)}, (∀ s ∈ saved, s.length ≤ 64) → oldN saved ≤ 64 * saved.length
  | [], _ => Nat.le_refl _
  | s :: r, h => by
    have h1 := h s (by simp)
    have h2 := oldN_le (saved := r) (fun x hx => h x (by simp [hx]))
    rw [oldN_cons, List.length_cons]; omega

section
variable {w : World} {b0 q : Nat} {vn vo vl : Value} {ns : List Nd} {saved : List (List Nd)}
theorem mPush_full (h : MAt w b0 q vn vo vl ns saved) (hf : 26 ≤ saved.length) : Calls Try.prog 50 #[.pointer (some ⟨q, 0, none⟩)] w (MOne b0 q vn vo vl ns saved 6 w) := by
  obtain ⟨bs, cap, rfl⟩ := owns_slice h.rl
  have HM : Hid (ModAt w b0 q ns saved) := ⟨vn, vo, _, h⟩
  have c0 := cell_of 2 h.top rfl
  have d1 : decide ((26 : Int) ≤ (saved.length : Int)) = true := decide_eq_true (by omega)
  have d1' : decide (26 ≤ saved.length) = true := decide_eq_true (by omega)
  clear h
  go_enter Try.func50, Try.ntmps50
  go_wp2_with fail
  go_ret
  exact ⟨rfl, HM.out, Fr.refl _ _⟩
set_option maxRecDepth 40000 in
set_option maxHeartbeats 4000000 in
theorem mPush_any (hb0 : b0 ≤ w.heap.size) (h : MAt w b0 q vn vo vl ns saved) (ok : OkS ns saved) (hf : saved.length < 26) : Calls Try.prog 50 #[.pointer (some ⟨q, 0, none⟩)] w (MOne b0 q vn vo vl ns (ns :: saved) 0 w) := by
  have hs := ok.small
  have hol := oldN_le (fun s hs => (ok.old s hs).2)
  obtain ⟨bsl, capl, rfl⟩ := owns_slice h.rl
  obtain ⟨bso, capo, rfl⟩ := owns_slice h.ro
  obtain ⟨bsn, capn, rfl⟩ := owns_slice h.rn
  have c0 := cell_of 0 h.top rfl
  have c1 := cell_of 1 h.top rfl
  have c2 := cell_of 2 h.top rfl
  have z1 := frozen_of 1 h.top
  have d1 : decide ((26 : Int) ≤ (saved.length : Int)) = false := decide_eq_false (by omega)
  have d1' : decide (26 ≤ saved.length) = false := decide_eq_false (by omega)
  have HM : Hid (MR w b0 q (.slice bsn ns.length capn) (.slice bso (oldN saved) capo) (.slice bsl saved.length capl) ns.length (nodesM 0 ns) (oldN saved) (oldM saved) saved.length (lenM saved)) := h.mr
  have hn1 := nodesM_one 0 ns
  obtain ⟨i3, hi3, hz30, hz31, hz32⟩ := info_parts Try.info3
  clear h
  go_enter Try.func50, Try.ntmps50
  go_upto_region 3 with fail
  go_cut [] from 9 (fun wx => ∃ bs2 cap2, MR wx b0 q (.slice bsn ns.length capn) (.slice bs2 (oldN saved + ns.length) cap2) (.slice bsl saved.length capl) ns.length (nodesM 0 ns) (oldN saved + ns.length) (oldM saved ++ nodesM 0 ns) saved.length (lenM saved) ∧ Fr (Foot q (.slice bsn ns.length capn) (.slice bso (oldN saved) capo) (.slice bsl saved.length capl)) w wx)
  case first =>
    have FD : Fr No w w.drew := (Fr.refl No w).drew
    have hMD := HM.out.no' FD
    have hro := hMD.ro
    have hsrc := SrcAt.of hMD.rn
    have hbd : b0 ≤ w.drew.heap.size := hb0
    go_region_law
      ((refine step_spread (by rfl) _ _ (by rfl) (by rfl) (by rfl) hro hsrc hn1 (by omega) hbd ?_; intro bs2 cap2 w2 hown2 hgrow2 hat2; have G2 : Fr (fun k => (Value.slice bso (oldN saved) capo).ownBlock = some k) w w2 := Fr.grown (S := fun k => (Value.slice bso (oldN saved) capo).ownBlock = some k) (FD.mono (fun _ _ e => e.elim)) hgrow2 (fun k hk _ => hk); have hp2 := G2.keep HM.out.top (fun e => top_ne HM.out.ro HM.out.top (by decide) q e rfl); have cp2 := cell_of 1 hp2 rfl; have fp2 := frozen_of 1 hp2; have cp0 := cell_of 0 hp2 rfl))
    all_goals (go_wp2_with fail)
    all_goals go_meet
    all_goals (
      obtain ⟨k1, k2⟩ := HM.out.putO G2 hown2 hat2
      exact ⟨bs2, cap2, k1, k2.mono (fun k _ e => e.elim (fun e => .inr (.inr (.inl e))) .inl)⟩)
  case rest =>
    obtain ⟨bs2, cap2, hM2, hF2⟩ := hcut
    have HM2 : Hid (MR wc b0 q (.slice bsn ns.length capn) (.slice bs2 (oldN saved + ns.length) cap2) (.slice bsl saved.length capl) ns.length (nodesM 0 ns) (oldN saved + ns.length) (oldM saved ++ nodesM 0 ns) saved.length (lenM saved)) := hM2
    have HF2 : Hid (Fr (Foot q (.slice bsn ns.length capn) (.slice bso (oldN saved) capo) (.slice bsl saved.length capl)) w wc) := hF2
    have hs2 := hF2.size
    clear c0 c1 c2 z1
    have c0 := cell_of 0 hM2.top rfl
    have c2 := cell_of 2 hM2.top rfl
    have z2 := frozen_of 2 hM2.top
    clear hM2 hF2
    go_upto_region 4 with fail
    go_cut [] from 21 (fun wx => ∃ bs3 cap3, MR wx b0 q (.slice bsn ns.length capn) (.slice bs2 (oldN saved + ns.length) cap2) (.slice bs3 (saved.length + 1) cap3) ns.length (nodesM 0 ns) (oldN saved + ns.length) (oldM saved ++ nodesM 0 ns) (saved.length + 1) (lenM saved ++ [.int .i64 (ns.length : Int)]) ∧ Fr (Foot q (.slice bsn ns.length capn) (.slice bso (oldN saved) capo) (.slice bsl saved.length capl)) w wx)
    case first =>
      have FA : Fr No wc (wc.alloc (.cells #[.int .i64 (ns.length : Int)] 3)) := (Fr.refl No wc).alloc _
      have FD : Fr No wc (wc.alloc (.cells #[.int .i64 (ns.length : Int)] 3)).drew := ((Fr.refl No wc).alloc _).drew
      have ka0 := FA.cellNo c0
      have ka2 := FA.cellNo c2
      have n0 := World.new_ne wc _ c0
      have hMD := HM2.out.no' FD
      have hrl := hMD.rl
      have hnb : (wc.alloc (.cells #[.int .i64 (ns.length : Int)] 3)).drew.heap[wc.heap.size]? = some (.cells #[.int .i64 (ns.length : Int)] 3) := heap_alloc_same _ _
      go_region_law
        ((refine step_append_lies _ (by rfl) _ _ 95 (by rfl) b0 3 i3 (.int .i64 0) 1 8 Try.underlying95 hi3 hz30 hz31 hz32 rfl (by omega) (.slice bsl saved.length capl) saved.length (lenM saved) (by rfl) hrl ⟨wc.heap.size, 0, none⟩ 1 1 [.int .i64 (ns.length : Int)] (by rfl) (by rfl) (World.news_of_block (cs := #[.int .i64 (ns.length : Int)]) hnb) (by simp [Value.oneCell']) (by omega) (by unfold maxLen; omega) (by omega) (by simp; omega) (wc.heap.size + 1) (by simp) ?_; intro g3 cap3 w3 hown3 hgrow3 hat3 hlt3; have G3 : Fr (fun k => (Value.slice bsl saved.length capl).ownBlock = some k) wc w3 := Fr.grown (S := fun k => (Value.slice bsl saved.length capl).ownBlock = some k) (FD.mono (fun _ _ e => e.elim)) hgrow3 (fun k hk _ => hk); have hp3 := G3.keep HM2.out.top (fun e => top_ne HM2.out.rl HM2.out.top (by decide) q e rfl); have cp3 := cell_of 2 hp3 rfl; have fp3 := frozen_of 2 hp3; have cp0 := cell_of 0 hp3 rfl))
      all_goals (go_wp2_with fail)
      all_goals go_meet
      all_goals (
        obtain ⟨k1, k2⟩ := HM2.out.putL G3 hown3
        exact ⟨_, cap3, k1, HF2.out.trans k2 (fun k _ e => e.elim (fun e => .inr (.inr (.inr e))) .inl)⟩)
    case rest =>
      obtain ⟨bs3, cap3, hM3, hF3⟩ := hcut
      clear c0 c2 z2
      have HFIN : Hid (ModAt wc b0 q ns (ns :: saved)) := by
        rw [← oldN_cons, ← oldM_cons, ← lenM_cons, show saved.length + 1 = (ns :: saved).length from rfl] at hM3
        exact ⟨_, _, _, hM3.mat⟩
      have HF3 : Hid (Fr (Foot q (.slice bsn ns.length capn) (.slice bso (oldN saved) capo) (.slice bsl saved.length capl)) w wc) := hF3
      clear hM3 hF3
      go_wp2_with fail
      go_ret
      exact ⟨rfl, HFIN.out, HF3.out⟩
end
end Go.Proofs.Qxb6500301a
