import Derived.Test.Qxb6500302aPrint3
import Derived.Laws.IdiomStrings
namespace Go.Proofs.Qxb6500302a
open Go.RowKit
set_option linter.unusedSimpArgs false
set_option linter.unusedVariables false
attribute [local go_sem] ta106_106 ta106_112 ta106_80 ta112_106 ta112_112 ta112_80 ta80_106 ta80_112 ta80_80 ta80_80'

/-- The string of these bytes. -/
def S (l : List UInt8) : ByteArray := ⟨l.toArray⟩
theorem S_size (l : List UInt8) : (S l).size = l.length := by simp [S, ByteArray.size]
theorem S_list (l : List UInt8) : (S l).data.toList = l := by simp [S]
theorem S_of (s : ByteArray) : S s.data.toList = s := by cases s; rfl
theorem S_inj {a b : List UInt8} (h : S a = S b) : a = b := by have := congrArg (fun s => s.data.toList) h; simpa [S] using this

theorem Buf.str {w : World} {g cap : Nat} {xs : List UInt8} (h : Buf w g cap xs) : (convert 86 9 (.slice (some ⟨g, 0, none⟩) xs.length cap)).run Try.prog w = .ok (.string (S xs)) w := by
  refine run_convert_bytes_back (P := Try.prog) w 86 9 5 ⟨g, 0, none⟩ cap xs Try.underlying86 Try.underlying5 Try.underlying9 (fun j hj => ?_)
  exact owns_cell h j _ (by simp [u8s, hj])

set_option maxRecDepth 20000 in
theorem code_any {w : World} {D : Nat → Prop} {m : Nat} {v : Value} {t : Tm} (hc : ClauseN w D m v t) (hlen : (codeOf t).length ≤ 1900) :
    Calls Try.prog 30 #[v] w fun e w' => e = .returned (.string (S (codeOf t))) ∧ Fr No w w' := by
  have hc' := hc.clip
  obtain ⟨b, rb, rfl, hDb, hb, hT⟩ := hc'
  obtain ⟨i0, hi, hz0, hz1, hz2⟩ := info_parts Try.info5
  have hbl := lt_of_heap hb
  go_enter Try.func30, Try.ntmps30
  go_wp2_with (at_make; refine wpList_make_own _ (by rfl) _ _ 86 (by rfl) 0 5 i0 (.int .u8 0) 1 Try.underlying86 hi hz0 hz1 .i64 .i64 48 48 (by rfl) (by rfl) (by rfl) (by omega) (by unfold maxLen; omega) (Nat.zero_le _) ?_; intro w1 hown1 hgr1; have F1 : Fr No w w1 := (Fr.refl No w).grown hgr1 (fun k e => by cases e); have cb := cell_of 0 (F1.keep hb (fun h => h)) rfl)
  have hb0 : Buf w1 w.heap.size 48 [] := hown1
  refine (code_print m w1 _ w.heap.size 48 [] _ t (hT.kept F1 (fun _ _ h => h)) hb0 (fun k hk => ⟨Nat.lt_of_lt_of_le hk.2 F1.size, by have := hk.2; omega⟩) (by simp; omega)).mono ?_
  rintro e w2 ⟨g2, cap2, rfl, hb2, hf2, _⟩
  rw [List.nil_append] at hb2 ⊢
  have hstr := hb2.str
  go_wp2_with fail
  go_ret
  exact ⟨rfl, F1.trans hf2 (fun k hk e => by omega)⟩

set_option maxRecDepth 20000 in
set_option maxHeartbeats 2000000 in
theorem text_any {w : World} {D : Nat → Prop} {m : Nat} {v : Value} {h : Tm} {ts : List Tm} (hc : ClauseN w D m v (tCall 58 (h :: ts))) (hlen : (clauseText (tCall 58 (h :: ts))).length ≤ 1900) :
    Calls Try.prog 22 #[v] w fun e w' => e = .returned (.string (S (clauseText (tCall 58 (h :: ts))))) ∧ Fr No w w' := by
  have hc' := hc.clip
  obtain ⟨b, rb, sl, xs, m', rfl, hDb, hDr, hb, hr, hrow, hl1, hl2, hm', hx, hT⟩ := hc'.root
  have hct : clauseText (tCall 58 (h :: ts)) = textOf h ++ (if ts.length = 0 then [] else 58 :: 45 :: commas (ts.map textOf)) := by
    unfold clauseText
    simp [tCall]
  obtain ⟨x, xs', rfl⟩ : ∃ x xs', xs = x :: xs' := by
    cases xs with
    | nil => simp at hl1
    | cons x xs' => exact ⟨x, xs', rfl⟩
  have hlts : xs'.length = ts.length := by simpa using hl1
  have hts : ts.length ≤ 49 := by simp only [List.length_cons] at hl2; omega
  obtain ⟨i0, hi, hz0, hz1, hz2⟩ := info_parts Try.info5
  have hwin := hrow.win (by omega)
  obtain ⟨sa, scap, rfl, _, hwin'⟩ := hwin
  obtain ⟨rg, off, cur, rfl, hDg, hrg, hcur⟩ := hwin' (by simp)
  have hh := hx 0 x h rfl rfl
  have HX : Hid (∀ (i : Nat) x' u, xs'[i]? = some x' → ts[i]? = some u → TermN w (fun k => D k ∧ k < w.heap.size) m' x' u) := fun i x' u h1 h2 => hx (i + 1) x' u (by simpa using h1) (by simpa using h2)
  have hlenh : (textOf h).length ≤ 1900 := by rw [hct] at hlen; simp at hlen; omega
  obtain ⟨T, vx, hxv⟩ := hh.iface
  subst hxv
  go_enter Try.func22, Try.ntmps22
  go_wp2_with (at_make; refine wpList_make_own _ (by rfl) _ _ 86 (by rfl) 0 5 i0 (.int .u8 0) 1 Try.underlying86 hi hz0 hz1 .i64 .i64 40 40 (by rfl) (by rfl) (by rfl) (by omega) (by unfold maxLen; omega) (Nat.zero_le _) ?_; intro w1 hown1 hgr1; have F1 : Fr No w w1 := (Fr.refl No w).grown hgr1 (fun k e => by cases e); have hb1 := F1.keep hb (fun h => h); have hr1 := F1.keep hr (fun h => h); have hrg1 := F1.keep hrg (fun h => h))
  refine (goals_any (q := false) (ts := []) hb1 hr1 (D := fun k => D k ∧ k < w.heap.size) (xs := Value.iface T vx :: xs') ?_ (by omega) (by simp)).mono ?_
  · exact hrow.monoE (fun k o hk ho => ⟨hk, F1.keep ho (fun h => h)⟩)
  rintro e w2 ⟨sl', rfl, hwg, rfl⟩
  obtain ⟨ga, gcap, rfl, _, hgw⟩ := hwg
  simp only [Bool.false_eq_true, if_false, List.tail_cons] at hgw ⊢
  have cb := cell_of 0 hb1 rfl
  have cr0 := cell_of 0 hr1 rfl
  have cr1 := cell_of 1 hr1 rfl
  have cg : w2.cell? ⟨rg, off, none⟩ = some (.iface T vx) := cell_of off hrg1 (by have := hcur 0 _ rfl; simpa using this)
  rw [hlts]
  have hb0 : Buf w2 w.heap.size 40 [] := hown1
  go_wp2_with fail
  have hDk : ∀ k, (D k ∧ k < w.heap.size) → k < w2.heap.size ∧ k ≠ w.heap.size := fun k hk => ⟨Nat.lt_of_lt_of_le hk.2 F1.size, by have := hk.2; omega⟩
  refine (text_print m' w2 _ w.heap.size 40 [] _ h (hh.kept F1 (fun _ _ h => h)) hb0 hDk (by simp; omega)).mono ?_
  rintro e w3 ⟨g3, cap3, rfl, hb3, hf3, hg3⟩
  rw [List.nil_append] at hb3 ⊢
  have F3 : Fr No w w3 := F1.trans hf3 (fun k hk e => by omega)
  have hg3' : w.heap.size ≤ g3 := by
    rcases hg3 with h | h
    · omega
    · have := F1.size; omega
  clear hb1 hr1 hrg1 cb cr0 cr1 cg hb0 hown1 hgr1 hf3 hg3
  by_cases h0 : ts.length = 0
  · have hq : decide ((0 : Int) < (ts.length : Int)) = false := decide_eq_false (by omega)
    rw [if_pos h0, List.append_nil] at hct
    have hstr := hb3.str
    have h0' : (ts.length : Int) = 0 := by omega
    go_wp2_with fail
    go_loopg [3, 37] 1 (fun _ v0 u wr => v0 = .slice (some ⟨g3, 0, none⟩) (textOf h).length cap3 ∧ u = .int .i64 0 ∧ wr = w3)
    case atStart => exact ⟨rfl, rfl, rfl⟩
    case round =>
      obtain ⟨rfl, rfl, rfl⟩ := hrel
      go_wp2_with fail
      go_ret
      rw [hct]
      exact ⟨rfl, F3⟩
  · have hq : decide ((0 : Int) < (ts.length : Int)) = true := decide_eq_true (by omega)
    rw [if_neg h0] at hct
    have hctl := congrArg List.length hct
    simp only [List.length_append, List.length_cons] at hctl
    have hbz1 : Buf (w3.alloc (.cells #[.int .u8 58, .int .u8 45] 5)) g3 cap3 (textOf h) := hb3.keep ((Fr.refl No w3).alloc _) (fun h => h)
    have hnbz : (w3.alloc (.cells #[.int .u8 58, .int .u8 45] 5)).heap[w3.heap.size]? = some (.cells (u8s [58, 45]).toArray 5) := heap_alloc_same w3 (.cells #[.int .u8 58, .int .u8 45] 5)
    go_wp2_with (at_builtin; refine wpList_buf (by rfl) _ _ (by rfl) (by rfl) hbz1 [58, 45] (by rfl) (by rfl) hnbz (by simp) (by simp; omega) ((textOf h).length + 2) (by simp) ?_; intro g4 cap4 w4 hb4 hgr4 hat4)
    have F4 : Fr No w w4 := (F3.alloc _).grown hgr4 (fun k hk hlt => by have := Option.some.inj hk; omega)
    have hg4 : w.heap.size ≤ g4 := by
      rcases hat4 with h | h
      · omega
      · have := F3.size; simp at h; omega
    clear hbz1 hnbz hgr4 hat4 hb3 hg3' F3
    have HG : Hid (xs' ≠ [] → _) := hgw
    clear hgw
    go_loopg [3, 37] (ts.length + 1) (fun gk v0 u wr => ∃ (i gi capi : Nat) (zs : List UInt8), v0 = .slice (some ⟨gi, 0, none⟩) zs.length capi ∧ u = .int .i64 (i : Int) ∧ i ≤ ts.length ∧ gk = ts.length + 1 - i ∧ Hid (zs = textOf h ++ [58, 45] ++ commas ((ts.take i).map textOf)) ∧ Buf wr gi capi zs ∧ Fr No w wr ∧ w.heap.size ≤ gi)
    case atStart =>
      exact ⟨0, g4, cap4, textOf h ++ [58, 45], slice_len (by simp), rfl, Nat.zero_le _, rfl, by show _ = _; simp [commas], hb4, F4, hg4⟩
    case round =>
      clear hb4 F4 hg4
      obtain ⟨i, gi, capi, zs, rfl, rfl, hi, hgk, HZ, hbz, hf, hgi⟩ := hrel
      by_cases hlt : i < ts.length
      · obtain ⟨u, hu⟩ := kid_at hlt
        obtain ⟨y, hyi⟩ := val_at (l := xs') (i := i) (by omega)
        obtain ⟨yg, yoff, ycur, rfl, hDy, hyg, hycur⟩ := HG.out (by intro e; rw [e] at hyi; simp at hyi)
        have hyg' : wr.heap[yg]? = some (.cells ycur 95) := ((hf.block yg hDy.2 (fun h => h)).trans (F1.block yg hDy.2 (fun h => h)).symm).trans hyg
        have c2 : wr.cell? ⟨yg, yoff + i, none⟩ = some y := cell_of (yoff + i) hyg' (hycur i y hyi)
        have HT1 : Hid (TermN wr (fun k => D k ∧ k < w.heap.size) m' y u) := (HX.out i y u hyi hu).kept hf (fun _ _ h => h)
        obtain ⟨T', vy, hyv⟩ := HT1.out.iface
        subst hyv
        have hsz := hf.size
        have hDi : ∀ k, (D k ∧ k < w.heap.size) → k < wr.heap.size ∧ k ≠ gi := fun k hk => ⟨by have := hk.2; omega, by have := hk.2; omega⟩
        have htl : ((ts.take (i + 1)).map textOf).length = i + 1 := by simp; omega
        have hpl := commas_len (ts.map textOf) (i + 1)
        rw [← List.map_take] at hpl
        by_cases hi0 : i = 0
        · have hq2 : decide ((0 : Int) < (i : Int)) = false := decide_eq_false (by omega)
          have hpart : commas ((ts.take (i + 1)).map textOf) = textOf u := by
            subst hi0
            cases ts with
            | nil => simp at hu
            | cons t ts => simp at hu; subst hu; simp [commas]
          have hz2 : zs = textOf h ++ [58, 45] := by rw [HZ.out, hi0]; simp [commas]
          have hlz : zs.length + (textOf u).length ≤ 2000 := by
            rw [hpart] at hpl
            rw [hz2]; simp; omega
          have HZ2 : Hid (zs = textOf h ++ [58, 45]) := hz2
          have HP : Hid (commas ((ts.take (i + 1)).map textOf) = textOf u) := hpart
          have hq3 : decide (0 < i) = false := decide_eq_false (by omega)
          clear hi0 hpl htl hz2 hpart
          go_wp2_with fail
          refine (text_print m' wr _ gi capi zs _ u HT1.out hbz hDi hlz).mono ?_
          rintro e w5 ⟨g5, cap5, rfl, hb5, hf5, hg5⟩
          go_wp2_with fail
          go_roundg (ts.length + 1 - (i + 1))
          case measure => omega
          case rel =>
            refine ⟨i + 1, g5, cap5, zs ++ textOf u, slice_len (by simp), by go_num, by omega, rfl, ?_, hb5, hf.trans hf5 (fun k hk e => by omega), ?_⟩
            · show _ = _
              rw [HP.out, HZ2.out]
            · rcases hg5 with h | h
              · omega
              · omega
        · have hq2 : decide ((0 : Int) < (i : Int)) = true := decide_eq_true (by omega)
          have hpart : commas ((ts.take (i + 1)).map textOf) = commas ((ts.take i).map textOf) ++ 44 :: textOf u := by
            rw [List.take_add_one, hu]
            simp only [Option.toList_some, List.map_append, List.map_cons, List.map_nil]
            rw [commas_snoc]
            intro e
            have := congrArg List.length e
            simp at this
            rcases this with h | h
            · exact hi0 h
            · rw [h] at hlt; simp at hlt
          have h3 := congrArg List.length HZ.out
          have h4 := congrArg List.length hpart
          simp only [List.length_append, List.length_cons, List.length_nil] at h3 h4
          have hbz1 : Buf (wr.alloc (.cells #[.int .u8 44] 5)) gi capi zs := hbz.keep ((Fr.refl No wr).alloc _) (fun h => h)
          have hnbz : (wr.alloc (.cells #[.int .u8 44] 5)).heap[wr.heap.size]? = some (.cells (u8s [44]).toArray 5) := heap_alloc_same wr (.cells #[.int .u8 44] 5)
          have HP : Hid (commas ((ts.take (i + 1)).map textOf) = commas ((ts.take i).map textOf) ++ 44 :: textOf u) := hpart
          have hl44 : zs.length + [(44 : UInt8)].length ≤ 2000 := by simp; omega
          have hl45 : (zs ++ [(44 : UInt8)]).length + (textOf u).length ≤ 2000 := by simp; omega
          have hq3 : decide (0 < i) = true := decide_eq_true (by omega)
          clear hpart hi0 hpl htl h3 h4
          go_wp2_with (at_builtin; refine wpList_buf (by rfl) _ _ (by rfl) (by rfl) hbz1 [44] (by rfl) (by rfl) hnbz (by simp) hl44 (zs.length + 1) (by simp) ?_; intro g5 cap5 w5 hb5 hgr5 hat5)
          have F5 : Fr (fun k => k = gi) wr w5 := ((Fr.refl (fun k => k = gi) wr).alloc _).grown hgr5 (fun k hk _ => (Option.some.inj hk).symm)
          have hsz5 := F5.size
          have hg5 : w.heap.size ≤ g5 := by
            rcases hat5 with h | h
            · omega
            · simp at h; omega
          have hcall := text_print m' w5 _ g5 cap5 (zs ++ [44]) _ u (HT1.out.kept F5 (fun k hk => (hDi k hk).2)) hb5 (fun k hk => ⟨by have := hk.2; omega, by have := hk.2; omega⟩) hl45
          rw [(by simp : (zs ++ [(44 : UInt8)]).length = zs.length + 1)] at hcall
          refine hcall.mono ?_
          rintro e w6 ⟨g6, cap6, rfl, hb6, hf6, hg6⟩
          go_wp2_with fail
          go_roundg (ts.length + 1 - (i + 1))
          case measure => omega
          case rel =>
            refine ⟨i + 1, g6, cap6, zs ++ [44] ++ textOf u, slice_len (by simp), by go_num, by omega, rfl, ?_, hb6, (hf.trans F5 (fun k hk e => by omega)).trans hf6 (fun k hk e => by omega), ?_⟩
            · show _ = _
              rw [HP.out, HZ.out]; simp
            · rcases hg6 with h | h
              · omega
              · omega
      · have hieq : i = ts.length := by omega
        have hstr := hbz.str
        go_wp2_with fail
        go_ret
        have hz : zs = clauseText (tCall 58 (h :: ts)) := by
          rw [HZ.out, hieq, List.take_length, hct]; simp
        rw [hz]
        exact ⟨rfl, hf⟩
end Go.Proofs.Qxb6500302a
