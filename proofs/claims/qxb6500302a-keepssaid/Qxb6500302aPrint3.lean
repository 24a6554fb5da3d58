import Derived.Test.Qxb6500302aPrint2
namespace Go.Proofs.Qxb6500302a
open Go.RowKit
set_option linter.unusedSimpArgs false
set_option linter.unusedVariables false
attribute [local go_sem] ta106_106 ta106_112 ta106_80 ta112_106 ta112_112 ta112_80 ta80_106 ta80_112 ta80_80 ta80_80'

theorem commas_snoc (x : List UInt8) : ∀ (l : List (List UInt8)), l ≠ [] → commas (l ++ [x]) = commas l ++ 44 :: x
  | [], h => absurd rfl h
  | [y], _ => by simp [commas]
  | y :: z :: l, _ => by
    have := commas_snoc x (z :: l) (by simp)
    simp only [List.cons_append] at this ⊢
    simp only [commas, this]
    simp
theorem commas_len : ∀ (l : List (List UInt8)) (i : Nat), (commas (l.take i)).length ≤ (commas l).length
  | [], i => by simp
  | [y], i => by cases i <;> simp [commas]
  | y :: z :: l, 0 => by simp [commas]
  | y :: z :: l, 1 => by simp [commas]
  | y :: z :: l, i + 2 => by
    have := commas_len (z :: l) (i + 1)
    simp only [List.take_succ_cons, commas, List.length_append, List.length_cons] at this ⊢
    omega

/-- What stands behind a call's letter when i of its arguments are printed. -/
def partT (ts : List Tm) (i : Nat) : List UInt8 := if i = 0 then [] else 40 :: commas ((ts.take i).map textOf)
theorem partT_zero (ts : List Tm) : partT ts 0 = [] := rfl
theorem partT_one {ts : List Tm} {u : Tm} (h : ts[0]? = some u) : partT ts 1 = 40 :: textOf u := by
  cases ts with
  | nil => simp at h
  | cons t ts => simp at h; subst h; simp [partT, commas]
theorem partT_succ {ts : List Tm} {i : Nat} {u : Tm} (h : ts[i]? = some u) (hi : i ≠ 0) : partT ts (i + 1) = partT ts i ++ 44 :: textOf u := by
  unfold partT
  rw [if_neg (by omega), if_neg hi, List.take_add_one, h]
  simp only [Option.toList_some, List.map_append, List.map_cons, List.map_nil, List.cons_append]
  rw [commas_snoc]
  intro e
  have := congrArg List.length e
  have hlt := (List.getElem?_eq_some_iff.1 h).1
  simp at this
  rcases this with h | h
  · exact hi h
  · rw [h] at hlt; simp at hlt
theorem partT_len (ts : List Tm) (i : Nat) : (partT ts i).length ≤ 1 + (commas (ts.map textOf)).length := by
  unfold partT
  split
  · simp
  · have := commas_len (ts.map textOf) i
    simp; omega

set_option maxRecDepth 20000 in
set_option maxHeartbeats 2000000 in
theorem text_step {m : Nat} (ih : PrintSaid 43 textOf m) : PrintSaid 43 textOf (m + 1) := by
  intro w D g cap xs v t ht hb hD hlen
  have HI : Hid (PrintSaid 43 textOf m) := ih
  clear ih
  have hgl := hb.lt
  have htext : textOf t = if t.kind = 0 then [t.letter] else if t.kind = 1 then [33] else if t.kids.length = 0 then [t.letter] else t.letter :: 40 :: (commas (t.kids.map textOf) ++ [41]) := by
    obtain ⟨k, a, n, ts⟩ := t
    exact textOf_eq k a n ts
  rcases ht with ⟨hk, hks, hnum, hv⟩ | ⟨hk, hks, hv⟩ | ⟨hk, b, sl, ys, hv, hDb, hbk, hrow, hl1, hl2, hx⟩
  · rw [if_pos hk] at htext
    rw [htext] at hlen ⊢
    subst hv
    have hb1 : Buf (w.alloc (.cells #[.int .u8 (t.letter.toNat : Int), .int .i64 (t.num : Int)] 106)) g cap xs := hb.keep ((Fr.refl No w).alloc _) (fun h => h)
    have F1 : Fr No w (w.alloc (.cells #[.int .u8 (t.letter.toNat : Int), .int .i64 (t.num : Int)] 106)) := (Fr.refl No w).alloc _
    have hb2 := hb1.keep ((Fr.refl No _).alloc (.cells #[.int .u8 (t.letter.toNat : Int)] 5)) (fun h => h)
    have hnb : ((w.alloc (.cells #[.int .u8 (t.letter.toNat : Int), .int .i64 (t.num : Int)] 106)).alloc (.cells #[.int .u8 (t.letter.toNat : Int)] 5)).heap[w.heap.size + 1]? = some (.cells (u8s [t.letter]).toArray 5) := by
      have := heap_alloc_same (w.alloc (.cells #[.int .u8 (t.letter.toNat : Int), .int .i64 (t.num : Int)] 106)) (.cells #[.int .u8 (t.letter.toNat : Int)] 5)
      simp only [World.size_alloc] at this
      rw [this]
      rfl
    go_enter Try.func43, Try.ntmps43
    go_wp2_with (at_builtin; refine wpList_buf (by rfl) _ _ (by rfl) (by rfl) hb2 [t.letter] (by rfl) (by rfl) hnb (by simp) hlen (xs.length + 1) (by simp) ?_; intro g' cap' w' hb' hgr hat)
    go_ret
    refine ⟨g', cap', ret_buf (by simp), hb', ?_, ?_⟩
    · exact ((F1.alloc _).mono (S' := fun k => k = g) (fun _ _ h => h.elim)).grown hgr (fun k hk _ => (Option.some.inj hk).symm)
    · rcases hat with h | h
      · exact .inl h
      · right; simp at h; omega
  · rw [if_neg (by omega), if_pos hk] at htext
    rw [htext] at hlen ⊢
    subst hv
    have hb1 : Buf (w.alloc (.cells #[] 112)) g cap xs := hb.keep ((Fr.refl No w).alloc _) (fun h => h)
    have F1 : Fr No w (w.alloc (.cells #[] 112)) := (Fr.refl No w).alloc _
    have hb2 := hb1.keep ((Fr.refl No _).alloc (.cells #[.int .u8 33] 5)) (fun h => h)
    have hnb : ((w.alloc (.cells #[] 112)).alloc (.cells #[.int .u8 33] 5)).heap[w.heap.size + 1]? = some (.cells (u8s [33]).toArray 5) := by
      have := heap_alloc_same (w.alloc (.cells #[] 112)) (.cells #[.int .u8 33] 5)
      simp only [World.size_alloc] at this
      rw [this]
      rfl
    go_enter Try.func43, Try.ntmps43
    go_wp2_with (at_builtin; refine wpList_buf (by rfl) _ _ (by rfl) (by rfl) hb2 [33] (by rfl) (by rfl) hnb (by simp) hlen (xs.length + 1) (by simp) ?_; intro g' cap' w' hb' hgr hat)
    go_ret
    refine ⟨g', cap', ret_buf (by simp), hb', ?_, ?_⟩
    · exact ((F1.alloc _).mono (S' := fun k => k = g) (fun _ _ h => h.elim)).grown hgr (fun k hk _ => (Option.some.inj hk).symm)
    · rcases hat with h | h
      · exact .inl h
      · right; simp at h; omega
  · rw [if_neg (by omega), if_neg (by omega)] at htext
    subst hv
    have htl : (textOf t).length = if t.kids.length = 0 then 1 else 3 + (commas (t.kids.map textOf)).length := by
      rw [htext]; split <;> simp <;> omega
    have htl1 : 1 ≤ (textOf t).length := by rw [htl]; split <;> omega
    have HX : Hid (∀ (i : Nat) x u, ys[i]? = some x → t.kids[i]? = some u → TermN w D m x u) := hx
    clear hx
    have hDb' := hD b hDb
    have cb0 : w.cell? ⟨b, 0, none⟩ = some (.int .u8 (t.letter.toNat : Int)) := cell_of 0 hbk rfl
    obtain ⟨sa, scap, rfl, _, hwin⟩ := hrow.win (by omega)
    rw [hl1] at hbk
    have hb1 : Buf (w.alloc (.cells #[.int .u8 (t.letter.toNat : Int)] 5)) g cap xs := hb.keep ((Fr.refl No w).alloc _) (fun h => h)
    have hnb : (w.alloc (.cells #[.int .u8 (t.letter.toNat : Int)] 5)).heap[w.heap.size]? = some (.cells (u8s [t.letter]).toArray 5) := heap_alloc_same w (.cells #[.int .u8 (t.letter.toNat : Int)] 5)
    go_enter Try.func43, Try.ntmps43
    go_wp2_with (at_builtin; refine wpList_buf (by rfl) _ _ (by rfl) (by rfl) hb1 [t.letter] (by rfl) (by rfl) hnb (by simp) (by simp; omega) (xs.length + 1) (by simp) ?_; intro g2 cap2 w2 hb2 hgr2 hat2; have F2 : Fr (fun k => k = g) w w2 := ((((Fr.refl (fun k => k = g) w).alloc _))).grown hgr2 (fun k hk _ => (Option.some.inj hk).symm); have hbk2 := F2.keep hbk hDb'.2; have S2 : w2.cell? ⟨b, 1, none⟩ = some (.slice sa t.kids.length scap) := cell_of 1 hbk2 rfl)
    have HW : Hid (ys ≠ [] → _) := hwin
    clear hwin cb0 S2 hb hb1 hnb hgr2 hrow
    go_loopg [0, 40] (t.kids.length + 1) (fun gk v0 u wr => ∃ (i gi capi : Nat) (zs : List UInt8), v0 = .slice (some ⟨gi, 0, none⟩) zs.length capi ∧ u = .int .i64 (i : Int) ∧ i ≤ t.kids.length ∧ gk = t.kids.length + 1 - i ∧ Hid (zs = xs ++ t.letter :: partT t.kids i) ∧ Buf wr gi capi zs ∧ Fr (fun k => k = g) w wr ∧ (gi = g ∨ w.heap.size ≤ gi))
    case atStart =>
      refine ⟨0, g2, cap2, xs ++ [t.letter], slice_len (by simp), rfl, Nat.zero_le _, rfl, rfl, hb2, F2, ?_⟩
      rcases hat2 with h | h
      · exact .inl h
      · right; simp at h; omega
    case round =>
      clear hb2 F2 hat2 hbk2
      obtain ⟨i, gi, capi, zs, rfl, rfl, hi, hgk, HZ, hbz, hf, hgi⟩ := hrel
      have hbki := hf.keep hbk hDb'.2
      have cbi : wr.cell? ⟨b, 1, none⟩ = some (.slice sa t.kids.length scap) := cell_of 1 hbki rfl
      by_cases hlt : i < t.kids.length
      · have hne0 : ¬ t.kids.length = 0 := by omega
        rw [if_neg hne0] at htl
        obtain ⟨u, hu⟩ := kid_at hlt
        obtain ⟨x, hxi⟩ := val_at (l := ys) (i := i) (by omega)
        obtain ⟨rg, off, cur, rfl, hDr, hrg, hcur⟩ := HW.out (by intro e; rw [e] at hxi; simp at hxi)
        -- the separator
        obtain ⟨sep, hsep, hpart⟩ : ∃ sep : UInt8, sep = (if i = 0 then 40 else 44) ∧ partT t.kids (i + 1) = partT t.kids i ++ sep :: textOf u := by
          by_cases h0 : i = 0
          · subst h0; exact ⟨40, by simp, by rw [partT_one hu, partT_zero]; rfl⟩
          · exact ⟨44, by simp [h0], partT_succ hu h0⟩
        have HP : Hid (partT t.kids (i + 1) = partT t.kids i ++ sep :: textOf u) := hpart
        clear hpart
        have HL : Hid (zs.length + 1 + (textOf u).length ≤ 2000) := by
          show _ ≤ _
          have h2 := partT_len t.kids (i + 1)
          have h3 := congrArg List.length HZ.out
          have h4 := congrArg List.length HP.out
          simp only [List.length_append, List.length_cons, List.length_nil] at h3 h4
          omega
        have hl0 : zs.length + [sep].length ≤ 2000 := by have := HL.out; simp; omega
        have hbz1 : Buf (wr.alloc (.cells #[.int .u8 (sep.toNat : Int)] 5)) gi capi zs := hbz.keep ((Fr.refl No wr).alloc _) (fun h => h)
        have hnbz : (wr.alloc (.cells #[.int .u8 (sep.toNat : Int)] 5)).heap[wr.heap.size]? = some (.cells (u8s [sep]).toArray 5) := heap_alloc_same wr (.cells #[.int .u8 (sep.toNat : Int)] 5)
        have c2 : wr.cell? ⟨rg, off + i, none⟩ = some x := cell_of (off + i) (hf.keep hrg (hD rg hDr).2) (hcur i x hxi)
        have HT1 : Hid (TermN wr D m x u) := (HX.out i x u hxi hu).kept hf (fun k hk => (hD k hk).2)
        obtain ⟨T, vx, hxv⟩ := HT1.out.iface
        subst hxv
        have hgl2 := hbz.lt
        by_cases h0 : i = 0
        · have hq : ((i : Int) == 0) = true := by rw [h0]; rfl
          rw [if_pos h0] at hsep
          subst hsep
          clear h0
          go_wp2_with (at_builtin; refine wpList_buf (by rfl) _ _ (by rfl) (by rfl) hbz1 [40] (by rfl) (by rfl) hnbz (by simp) hl0 (zs.length + 1) (by simp) ?_; intro g3 cap3 w3 hb3 hgr3 hat3)
          have F3 : Fr (fun k => k = gi) wr w3 := ((Fr.refl (fun k => k = gi) wr).alloc _).grown hgr3 (fun k hk _ => (Option.some.inj hk).symm)
          have hg3 : g3 = gi ∨ wr.heap.size ≤ g3 := by
            rcases hat3 with h | h
            · exact .inl h
            · right; simp at h; omega
          have hsz := hf.size
          have hsz3 := F3.size
          have hDi : ∀ k, D k → k < wr.heap.size ∧ k ≠ gi := fun k hk => by
            have h1 := hD k hk
            refine ⟨by omega, ?_⟩
            rcases hgi with h | h
            · rw [h]; exact h1.2
            · omega
          have hD3 : ∀ k, D k → k < w3.heap.size ∧ k ≠ g3 := fun k hk => by
            have h1 := hDi k hk
            refine ⟨by omega, ?_⟩
            rcases hg3 with h | h
            · rw [h]; exact h1.2
            · omega
          have hlz : (zs ++ [40]).length + (textOf u).length ≤ 2000 := by have := HL.out; simp; omega
          have hcall := HI.out w3 D g3 cap3 (zs ++ [40]) _ u (HT1.out.kept F3 (fun k hk => (hDi k hk).2)) hb3 hD3 hlz
          rw [(by simp : (zs ++ [(40 : UInt8)]).length = zs.length + 1)] at hcall
          refine hcall.mono ?_
          rintro e w4 ⟨g4, cap4, rfl, hb4, hf4, hg4⟩
          go_wp2_with fail
          go_roundg (t.kids.length + 1 - (i + 1))
          case measure => omega
          case rel =>
            refine ⟨i + 1, g4, cap4, zs ++ [40] ++ textOf u, slice_len (by simp), by go_num, by omega, rfl, ?_, hb4, (hf.trans F3 ?_).trans hf4 ?_, ?_⟩
            · show _ = _
              rw [HP.out, HZ.out]
              simp
            · intro k hk e
              rcases hgi with h | h
              · rw [← h]; exact e
              · omega
            · intro k hk e
              rcases hg3 with h | h
              · rcases hgi with h' | h'
                · rw [← h', ← h]; exact e
                · omega
              · omega
            · rcases hg4 with h | h
              · rw [h]
                rcases hg3 with h | h
                · rw [h]; exact hgi
                · right; omega
              · right; omega
        · have hq : ((i : Int) == 0) = false := by simp; omega
          rw [if_neg h0] at hsep
          subst hsep
          clear h0
          go_wp2_with (at_builtin; refine wpList_buf (by rfl) _ _ (by rfl) (by rfl) hbz1 [44] (by rfl) (by rfl) hnbz (by simp) hl0 (zs.length + 1) (by simp) ?_; intro g3 cap3 w3 hb3 hgr3 hat3)
          have F3 : Fr (fun k => k = gi) wr w3 := ((Fr.refl (fun k => k = gi) wr).alloc _).grown hgr3 (fun k hk _ => (Option.some.inj hk).symm)
          have hg3 : g3 = gi ∨ wr.heap.size ≤ g3 := by
            rcases hat3 with h | h
            · exact .inl h
            · right; simp at h; omega
          have hsz := hf.size
          have hsz3 := F3.size
          have hDi : ∀ k, D k → k < wr.heap.size ∧ k ≠ gi := fun k hk => by
            have h1 := hD k hk
            refine ⟨by omega, ?_⟩
            rcases hgi with h | h
            · rw [h]; exact h1.2
            · omega
          have hD3 : ∀ k, D k → k < w3.heap.size ∧ k ≠ g3 := fun k hk => by
            have h1 := hDi k hk
            refine ⟨by omega, ?_⟩
            rcases hg3 with h | h
            · rw [h]; exact h1.2
            · omega
          have hlz : (zs ++ [44]).length + (textOf u).length ≤ 2000 := by have := HL.out; simp; omega
          have hcall := HI.out w3 D g3 cap3 (zs ++ [44]) _ u (HT1.out.kept F3 (fun k hk => (hDi k hk).2)) hb3 hD3 hlz
          rw [(by simp : (zs ++ [(44 : UInt8)]).length = zs.length + 1)] at hcall
          refine hcall.mono ?_
          rintro e w4 ⟨g4, cap4, rfl, hb4, hf4, hg4⟩
          go_wp2_with fail
          go_roundg (t.kids.length + 1 - (i + 1))
          case measure => omega
          case rel =>
            refine ⟨i + 1, g4, cap4, zs ++ [44] ++ textOf u, slice_len (by simp), by go_num, by omega, rfl, ?_, hb4, (hf.trans F3 ?_).trans hf4 ?_, ?_⟩
            · show _ = _
              rw [HP.out, HZ.out]
              simp
            · intro k hk e
              rcases hgi with h | h
              · rw [← h]; exact e
              · omega
            · intro k hk e
              rcases hg3 with h | h
              · rcases hgi with h' | h'
                · rw [← h', ← h]; exact e
                · omega
              · omega
            · rcases hg4 with h | h
              · rw [h]
                rcases hg3 with h | h
                · rw [h]; exact hgi
                · right; omega
              · right; omega
      · have hieq : i = t.kids.length := by omega
        by_cases h0 : t.kids.length = 0
        · have hq : decide ((0 : Int) < (t.kids.length : Int)) = false := decide_eq_false (by omega)
          rw [if_pos h0] at htext
          go_wp2_with fail
          go_ret
          have hz : zs = xs ++ textOf t := by
            rw [HZ.out, hieq, h0, htext]
            rfl
          exact ⟨gi, capi, ret_buf (by rw [hz]), by rw [← hz]; exact hbz, hf, hgi⟩
        · have hq : decide ((0 : Int) < (t.kids.length : Int)) = true := decide_eq_true (by omega)
          rw [if_neg h0] at htext htl
          have hbz1 : Buf (wr.alloc (.cells #[.int .u8 41] 5)) gi capi zs := hbz.keep ((Fr.refl No wr).alloc _) (fun h => h)
          have hnbz : (wr.alloc (.cells #[.int .u8 41] 5)).heap[wr.heap.size]? = some (.cells (u8s [41]).toArray 5) := heap_alloc_same wr (.cells #[.int .u8 41] 5)
          have hl0 : zs.length + [(41 : UInt8)].length ≤ 2000 := by
            have h2 := partT_len t.kids i
            have h3 := congrArg List.length HZ.out
            simp only [List.length_append, List.length_cons, List.length_nil] at h3 ⊢
            omega
          go_wp2_with (at_builtin; refine wpList_buf (by rfl) _ _ (by rfl) (by rfl) hbz1 [41] (by rfl) (by rfl) hnbz (by simp) hl0 (zs.length + 1) (by simp) ?_; intro g3 cap3 w3 hb3 hgr3 hat3)
          go_ret
          have hz : zs ++ [41] = xs ++ textOf t := by
            rw [HZ.out, hieq, htext]
            unfold partT
            rw [if_neg h0, List.take_length]
            simp
          have hsz := hf.size
          refine ⟨g3, cap3, ret_buf (by rw [← hz]; simp), by rw [← hz]; exact hb3, (hf.alloc _).grown hgr3 ?_, ?_⟩
          · intro k hk hlt
            have := Option.some.inj hk
            rcases hgi with h | h
            · rw [← this]; exact h
            · omega
          · rcases hat3 with h | h
            · rw [h]; exact hgi
            · right; simp at h; omega

theorem text_print : ∀ m, PrintSaid 43 textOf m
  | 0 => by intro w D g cap xs v t ht; exact ht.elim
  | m + 1 => text_step (text_print m)
end Go.Proofs.Qxb6500302a
