import Derived.Test.Qxb6500302aChk5
namespace Go.Proofs.Qxb6500302a
open Go.RowKit
set_option linter.unusedSimpArgs false
set_option linter.unusedVariables false
attribute [local go_sem ↓] Go.wp_at_zero Go.wp_at_succ

set_option maxRecDepth 40000 in
set_option maxHeartbeats 8000000 in
theorem indexed_any {w : World} {own : Own} {D : Nat → Prop} {p : Nat} {cs : List Tm} (h : ProgAt w own D p cs) :
    Calls Try.prog 46 #[.pointer (some ⟨p, 0, none⟩)] w fun e w' => e = .returned (.bool true) ∧ Fr No w w' := by
  obtain ⟨ba, bo, bk, sl, xs, hp, h2, h3, h4, h5⟩ := h.main
  have hlen := h.len
  have hpl := lt_of_heap hp
  go_enter Try.func46, Try.ntmps46
  have F0 : Fr No w w := Fr.refl _ _
  have hp1 := F0.keep hp (fun h => h)
  obtain ⟨E1, clock1, hB10⟩ := (h4.keep F0 (fun _ _ _ h => h)).mA
  have hB1 : BMapE kv2 labA w own ba (fAll cs) E1 clock1 := hB10
  clear hB10
  have HR1 := run_rangeE (mt := 48) key2 hB1.1
  have cp1 : w.cell? ⟨p, 1, none⟩ = some (.map (some ba)) := cell_of 1 hp1 rfl
  go_wp2_with fail
  have hr1 : (w.alloc (.mapIter (some ba) clock1 #[] clock1)).heap[w.heap.size]? = some (.mapIter (some ba) clock1 #[] clock1) := heap_alloc_same _ _
  have FI1 := F0.alloc (.mapIter (some ba) clock1 #[] clock1)
  have hrs1 : w.heap.size ≤ w.heap.size := F0.size
  have hBk1 : ∀ wr, Fr No w wr → BMapE kv2 labA wr own ba (fAll cs) E1 clock1 := by
    intro wr hf
    have hBw : BMapE kv2 labA w own ba (fAll cs) E1 clock1 := by
      obtain ⟨a1, a2, a3, a4⟩ := hB1
      obtain ⟨E0, c0, b1, b2, b3, b4⟩ := h4.mA
      have hbl := h4.lt _ _ h4.oa
      refine ⟨by rw [← F0.block _ hbl (fun h => h)]; exact a1, a2, a3, fun k => ⟨(a4 k).1, fun ids hids => ?_⟩⟩
      obtain ⟨v, hv, hb⟩ := (a4 k).2 ids hids
      refine ⟨v, hv, ?_, hb.2⟩
      have hown := hb.1
      rcases hown.2 with e | ⟨g, cap, cur, hv', hb', hg, hr⟩
      · exact ⟨hown.1, .inl e⟩
      · refine ⟨hown.1, .inr ⟨g, cap, cur, hv', hb', ?_, hr⟩⟩
        have hgl := h4.lt _ _ (hb.2 g (by rw [hv']; rfl))
        rw [← F0.block g hgl (fun h => h)]; exact hg
    exact hBw.keep hf (fun h => h) (fun _ _ _ h => h) (fun _ _ h => h)
  have HB1 : Hid (∀ wr, Fr No w wr → BMapE kv2 labA wr own ba (fAll cs) E1 clock1) := hBk1
  have hne1 : w.heap.size ≠ ba := fun e => by have := h4.lt _ _ h4.oa; omega
  clear hBk1 hB1 HR1 cp1 hp1
  generalize (w.alloc (.mapIter (some ba) clock1 #[] clock1)) = V1 at *
  generalize hSS1 : stampsE E1 = SS1 at *
  go_loopg [] (leftS SS1 #[] + 1) (fun gk wr => ∃ (seen : Array Nat), leftS SS1 seen < gk ∧ wr.heap[w.heap.size]? = some (.mapIter (some ba) clock1 seen clock1) ∧ Fr No w wr)
  case atStart => exact ⟨#[], Nat.lt_succ_self _, hr1, FI1⟩
  case round =>
    clear hr1 FI1
    obtain ⟨seen, hgk, hri, hf⟩ := hrel
    by_cases hleft : leftS SS1 seen = 0
    · have HN := next_ty (iter_end (HB1.out wr hf) hri (by rw [hSS1]; exact hleft) 0).1
      clear hri hgk hleft
      have Fe1 := hf
      clear hf
      generalize wr = We1 at *
      have hp2 := Fe1.keep hp (fun h => h)
      obtain ⟨E2, clock2, hB20⟩ := (h4.keep Fe1 (fun _ _ _ h => h)).mO
      have hB2 : BMapE kv2 labO We1 own bo (fOpen cs) E2 clock2 := hB20
      clear hB20
      have HR2 := run_rangeE (mt := 48) key2 hB2.1
      have cp2 : We1.cell? ⟨p, 2, none⟩ = some (.map (some bo)) := cell_of 2 hp2 rfl
      go_wp2_with fail
      have hr2 : (We1.alloc (.mapIter (some bo) clock2 #[] clock2)).heap[We1.heap.size]? = some (.mapIter (some bo) clock2 #[] clock2) := heap_alloc_same _ _
      have FI2 := Fe1.alloc (.mapIter (some bo) clock2 #[] clock2)
      have hrs2 : w.heap.size ≤ We1.heap.size := Fe1.size
      have hBk2 : ∀ wr, Fr No w wr → BMapE kv2 labO wr own bo (fOpen cs) E2 clock2 := by
        intro wr hf
        have hBw : BMapE kv2 labO w own bo (fOpen cs) E2 clock2 := by
          obtain ⟨a1, a2, a3, a4⟩ := hB2
          obtain ⟨E0, c0, b1, b2, b3, b4⟩ := h4.mO
          have hbl := h4.lt _ _ h4.oo
          refine ⟨by rw [← Fe1.block _ hbl (fun h => h)]; exact a1, a2, a3, fun k => ⟨(a4 k).1, fun ids hids => ?_⟩⟩
          obtain ⟨v, hv, hb⟩ := (a4 k).2 ids hids
          refine ⟨v, hv, ?_, hb.2⟩
          have hown := hb.1
          rcases hown.2 with e | ⟨g, cap, cur, hv', hb', hg, hr⟩
          · exact ⟨hown.1, .inl e⟩
          · refine ⟨hown.1, .inr ⟨g, cap, cur, hv', hb', ?_, hr⟩⟩
            have hgl := h4.lt _ _ (hb.2 g (by rw [hv']; rfl))
            rw [← Fe1.block g hgl (fun h => h)]; exact hg
        exact hBw.keep hf (fun h => h) (fun _ _ _ h => h) (fun _ _ h => h)
      have HB2 : Hid (∀ wr, Fr No w wr → BMapE kv2 labO wr own bo (fOpen cs) E2 clock2) := hBk2
      have hne2 : We1.heap.size ≠ bo := fun e => by have := h4.lt _ _ h4.oo; omega
      clear hBk2 hB2 HR2 cp2 hp2
      generalize (We1.alloc (.mapIter (some bo) clock2 #[] clock2)) = V2 at *
      generalize We1.heap.size = rb2 at *
      generalize hSS2 : stampsE E2 = SS2 at *
      go_loopg [] (leftS SS2 #[] + 1) (fun gk wr => ∃ (seen : Array Nat), leftS SS2 seen < gk ∧ wr.heap[rb2]? = some (.mapIter (some bo) clock2 seen clock2) ∧ Fr No w wr)
      case atStart => exact ⟨#[], Nat.lt_succ_self _, hr2, FI2⟩
      case round =>
        clear hr2 FI2
        obtain ⟨seen, hgk, hri, hf⟩ := hrel
        by_cases hleft : leftS SS2 seen = 0
        · have HN := next_ty (iter_end (HB2.out wr hf) hri (by rw [hSS2]; exact hleft) 0).1
          clear hri hgk hleft
          have Fe2 := hf
          clear hf
          generalize wr = We2 at *
          have hp3 := Fe2.keep hp (fun h => h)
          obtain ⟨E3, clock3, hB30⟩ := (h4.keep Fe2 (fun _ _ _ h => h)).mK
          have hB3 : BMapE kv4 labK We2 own bk (fKey cs) E3 clock3 := hB30
          clear hB30
          have HR3 := run_rangeE (mt := 49) key4 hB3.1
          have cp3 : We2.cell? ⟨p, 3, none⟩ = some (.map (some bk)) := cell_of 3 hp3 rfl
          go_wp2_with fail
          have hr3 : (We2.alloc (.mapIter (some bk) clock3 #[] clock3)).heap[We2.heap.size]? = some (.mapIter (some bk) clock3 #[] clock3) := heap_alloc_same _ _
          have FI3 := Fe2.alloc (.mapIter (some bk) clock3 #[] clock3)
          have hrs3 : w.heap.size ≤ We2.heap.size := Fe2.size
          have hBk3 : ∀ wr, Fr No w wr → BMapE kv4 labK wr own bk (fKey cs) E3 clock3 := by
            intro wr hf
            have hBw : BMapE kv4 labK w own bk (fKey cs) E3 clock3 := by
              obtain ⟨a1, a2, a3, a4⟩ := hB3
              obtain ⟨E0, c0, b1, b2, b3, b4⟩ := h4.mK
              have hbl := h4.lt _ _ h4.ok
              refine ⟨by rw [← Fe2.block _ hbl (fun h => h)]; exact a1, a2, a3, fun k => ⟨(a4 k).1, fun ids hids => ?_⟩⟩
              obtain ⟨v, hv, hb⟩ := (a4 k).2 ids hids
              refine ⟨v, hv, ?_, hb.2⟩
              have hown := hb.1
              rcases hown.2 with e | ⟨g, cap, cur, hv', hb', hg, hr⟩
              · exact ⟨hown.1, .inl e⟩
              · refine ⟨hown.1, .inr ⟨g, cap, cur, hv', hb', ?_, hr⟩⟩
                have hgl := h4.lt _ _ (hb.2 g (by rw [hv']; rfl))
                rw [← Fe2.block g hgl (fun h => h)]; exact hg
            exact hBw.keep hf (fun h => h) (fun _ _ _ h => h) (fun _ _ h => h)
          have HB3 : Hid (∀ wr, Fr No w wr → BMapE kv4 labK wr own bk (fKey cs) E3 clock3) := hBk3
          have hne3 : We2.heap.size ≠ bk := fun e => by have := h4.lt _ _ h4.ok; omega
          clear hBk3 hB3 HR3 cp3 hp3
          generalize (We2.alloc (.mapIter (some bk) clock3 #[] clock3)) = V3 at *
          generalize We2.heap.size = rb3 at *
          generalize hSS3 : stampsE E3 = SS3 at *
          go_loopg [] (leftS SS3 #[] + 1) (fun gk wr => ∃ (seen : Array Nat), leftS SS3 seen < gk ∧ wr.heap[rb3]? = some (.mapIter (some bk) clock3 seen clock3) ∧ Fr No w wr)
          case atStart => exact ⟨#[], Nat.lt_succ_self _, hr3, FI3⟩
          case round =>
            clear hr3 FI3
            obtain ⟨seen, hgk, hri, hf⟩ := hrel
            by_cases hleft : leftS SS3 seen = 0
            · have HN := next_ty (iter_end (HB3.out wr hf) hri (by rw [hSS3]; exact hleft) 0).1
              clear hri hgk hleft
              have Fe3 := hf
              clear hf
              generalize wr = We3 at *
              obtain ⟨ba', bo', bk', rbs, rcap, hprow, hrow⟩ := h.row
              have hpe := Fe3.keep hprow (fun h => h)
              have cpe : We3.cell? ⟨p, 0, none⟩ = some (.slice rbs cs.length rcap) := cell_of 0 hpe rfl
              have HRR : Hid (∀ (i : Nat) (t : Tm), cs[i]? = some t → ∃ g v m, rbs = some ⟨g, 0, none⟩ ∧ w.cell? ⟨g, i, none⟩ = some (.pointer (some ⟨v, 0, none⟩)) ∧ ClauseN w D m (.pointer (some ⟨v, 0, none⟩)) t) := hrow
              clear hrow hpe hprow
              go_wp2_with fail
              go_loopg [91] (cs.length + 1) (fun gk u wr => ∃ i : Nat, u = .int .i64 (i : Int) ∧ i ≤ cs.length ∧ gk = cs.length + 1 - i ∧ Fr No w wr)
              case atStart => exact ⟨0, rfl, Nat.zero_le _, rfl, Fe3⟩
              case round =>
                clear cpe
                obtain ⟨i, rfl, hi, hgk, hf⟩ := hrel
                by_cases hlt : i < cs.length
                · obtain ⟨t, ht⟩ := kid_at hlt
                  obtain ⟨g, v, m, rfl, hcell, hc⟩ := HRR.out i t ht
                  have hcell' : wr.cell? ⟨g, i, none⟩ = some (.pointer (some ⟨v, 0, none⟩)) := hf.cellNo hcell
                  have hmem := List.mem_of_getElem? ht
                  obtain ⟨⟨hd, ts, ht2, hk2⟩, _, _⟩ := h.shape hmem
                  obtain ⟨hpr, hke⟩ := head_of ht2
                  rw [ht2] at hc
                  have HC : Hid (ClauseN wr D m (.pointer (some ⟨v, 0, none⟩)) (tCall 58 (hd :: ts))) := hc.kept hf (fun _ _ h => h)
                  have hsa := some_all hmem
                  rw [hpr] at hsa
                  clear hc hcell
                  go_wp2_with fail
                  refine (head_any HC.out hk2).mono ?_
                  rintro e w2 ⟨vh, mh, rfl, hh, rfl⟩
                  have HH : Hid (TermN w2 D mh (.iface 80 vh) hd) := hh
                  clear hh
                  go_wp2_with fail
                  have hcf := functor_any HH.out
                  unfold kv at hcf
                  refine hcf.mono ?_
                  rintro e w3 ⟨rfl, F3⟩
                  have hw4 : Fr No w (w3.alloc (.cells #[.int .u8 (hd.letter.toNat : Int), .int .u8 ((digit hd.kids.length).toNat : Int)] 59)) := (hf.trans F3 (fun _ _ h => h)).alloc _
                  have hT4 : (w3.alloc (.cells #[.int .u8 (hd.letter.toNat : Int), .int .u8 ((digit hd.kids.length).toNat : Int)] 59)).heap[w3.heap.size]? = _ := heap_alloc_same _ _
                  have HH4 : Hid (TermN (w3.alloc (.cells #[.int .u8 (hd.letter.toNat : Int), .int .u8 ((digit hd.kids.length).toNat : Int)] 59)) D mh (.iface 80 vh) hd) := HH.out.kept (F3.alloc _) (fun _ _ h => h)
                  go_upto_region 27 with fail
                  generalize (w3.alloc (.cells #[.int .u8 (hd.letter.toNat : Int), .int .u8 ((digit hd.kids.length).toNat : Int)] 59)) = W4 at *
                  generalize w3.heap.size = tb at *
                  have hp4 := hw4.keep hp (fun h => h)
                  have I4 := h4.keep hw4 (fun _ _ _ h => h)
                  obtain ⟨lb, lcap, L, _, _⟩ := look_any key2 I4.mA (hd.letter, digit hd.kids.length)
                  have L' := fun n => L (W4.drewN n) rfl
                  rw [kv2_eq, hsa] at L'
                  have c1 : W4.cell? ⟨p, 1, none⟩ = some (.map (some ba)) := cell_of 1 hp4 rfl
                  have t0 := cell_of 0 hT4 rfl
                  have t1 := cell_of 1 hT4 rfl
                  go_quiet (fail)
                  generalize hW5 : World.drewN W4 _ = W5
                  have F5 : Fr No W4 W5 := hW5 ▸ (Fr.refl No W4).drewN _
                  have HH5 : Hid (TermN W5 D mh (.iface 80 vh) hd) := HH4.out.kept F5 (fun _ _ h => h)
                  clear L L' c1 t0 t1
                  go_wp2_with fail
                  refine (ownKey_any HH5.out).mono ?_
                  rintro e w6 ⟨rfl, F6⟩
                  have hw6 : Fr No w w6 := (hw4.trans F5 (fun _ _ h => h)).trans F6 (fun _ _ h => h)
                  have hT6 := F6.keep (F5.keep hT4 (fun h => h)) (fun h => h)
                  cases hkey : ownKeyOf hd with
                  | none =>
                    have hso := some_open hmem (hke.trans hkey)
                    rw [hpr] at hso
                    simp only [keyPair, kv]
                    clear hkey
                    have hw7 : Fr No w (w6.alloc (.cells #[.int .u8 0, .int .u8 0] 59)) := hw6.alloc _
                    have hT7 : (w6.alloc (.cells #[.int .u8 0, .int .u8 0] 59)).heap[tb]? = _ := heap_alloc_keep hT6
                    go_upto_region 31 with fail
                    generalize (w6.alloc (.cells #[.int .u8 0, .int .u8 0] 59)) = W7 at *
                    have hp7 := hw7.keep hp (fun h => h)
                    have I7 := h4.keep hw7 (fun _ _ _ h => h)
                    obtain ⟨lb7, lcap7, L, _, _⟩ := look_any key2 I7.mO (hd.letter, digit hd.kids.length)
                    have L' := fun n => L (W7.drewN n) rfl
                    rw [kv2_eq, hso] at L'
                    have c1 : W7.cell? ⟨p, 2, none⟩ = some (.map (some bo)) := cell_of 2 hp7 rfl
                    have t0 := cell_of 0 hT7 rfl
                    have t1 := cell_of 1 hT7 rfl
                    go_wp2_with fail
                    go_quiet (fail)
                    go_wp2_with fail
                    go_roundg (cs.length + 1 - (i + 1))
                    case measure => omega
                    case rel => exact ⟨i + 1, by go_num, by omega, rfl, hw7.drewN _⟩
                  | some f =>
                    obtain ⟨f1, f2⟩ := f
                    have hsk := some_key hmem (hke.trans hkey)
                    rw [hpr] at hsk
                    simp only [keyPair, kv]
                    clear hkey
                    have hw7 : Fr No w (w6.alloc (.cells #[.int .u8 (f1.toNat : Int), .int .u8 (f2.toNat : Int)] 59)) := hw6.alloc _
                    have hT7 : (w6.alloc (.cells #[.int .u8 (f1.toNat : Int), .int .u8 (f2.toNat : Int)] 59)).heap[tb]? = _ := heap_alloc_keep hT6
                    have hO7 : (w6.alloc (.cells #[.int .u8 (f1.toNat : Int), .int .u8 (f2.toNat : Int)] 59)).heap[w6.heap.size]? = _ := heap_alloc_same _ _
                    go_upto_region 31 with fail
                    generalize (w6.alloc (.cells #[.int .u8 (f1.toNat : Int), .int .u8 (f2.toNat : Int)] 59)) = W7 at *
                    have hp7 := hw7.keep hp (fun h => h)
                    have I7 := h4.keep hw7 (fun _ _ _ h => h)
                    obtain ⟨lb7, lcap7, L, _, _⟩ := look_any key4 I7.mK ((hd.letter, digit hd.kids.length), (f1, f2))
                    have L' := fun n => L (W7.drewN n) rfl
                    rw [kv4_eq, hsk] at L'
                    have c1 : W7.cell? ⟨p, 3, none⟩ = some (.map (some bk)) := cell_of 3 hp7 rfl
                    have t0 := cell_of 0 hT7 rfl
                    have t1 := cell_of 1 hT7 rfl
                    have o0 := cell_of 0 hO7 rfl
                    have o1 := cell_of 1 hO7 rfl
                    go_wp2_with fail
                    go_quiet (fail)
                    go_wp2_with fail
                    go_roundg (cs.length + 1 - (i + 1))
                    case measure => omega
                    case rel => exact ⟨i + 1, by go_num, by omega, rfl, hw7.drewN _⟩
                · go_wp2_with fail
                  go_ret
                  exact ⟨rfl, hf⟩
            · obtain ⟨⟨⟨k1, k2⟩, k3, k4⟩, bs9, cap9, ids9, s, n, HN0, HE, hf9, hbk9, hget, hvis, hvp, hlt9⟩ := iter_step (HB3.out wr hf) hri hne3 (by rw [hSS3]; exact hleft) 0
              rw [hSS3] at hlt9
              rw [kv4_eq] at HN0 HE
              have HN := next_ty HN0
              have Fn : Fr (fun x => x = rb3) wr (put (wr.drewN n) rb3 (.mapIter (some bk) clock3 (seen.push s) clock3)) := Fr.put (S := fun x => x = rb3) ((Fr.refl _ wr).drewN n) (fun _ => rfl) _
              have hrn : (put (wr.drewN n) rb3 (.mapIter (some bk) clock3 (seen.push s) clock3)).heap[rb3]? = some (.mapIter (some bk) clock3 (seen.push s) clock3) := heap_put_same (w := wr.drewN n) _ hri
              generalize (put (wr.drewN n) rb3 (.mapIter (some bk) clock3 (seen.push s) clock3)) = wn at *
              have Fwn : Fr No w wn := hf.trans Fn (fun k hk e => by omega)
              obtain ⟨hfl, hlt10⟩ := filt_key hf9
              have hnei : ids9 ≠ [] := fun e => by rw [e] at hlt10; simp at hlt10
              have hbl9 : ids9.length ≤ 100 := by have := fKey_len cs ((k1, k2), (k3, k4)); rw [hf9] at this; simp at this; omega
              have hbkn := ownsRow_keep hbk9.1 Fn (fun g hg e => by have := h4.lt _ _ (hbk9.2 g hg); omega)
              have hw3 : Fr No w (wn.alloc (.cells #[.int .u8 (k1.toNat : Int), .int .u8 (k2.toNat : Int), .int .u8 (k3.toNat : Int), .int .u8 (k4.toNat : Int)] 61)) := Fwn.alloc _
              have hr3 : (wn.alloc (.cells #[.int .u8 (k1.toNat : Int), .int .u8 (k2.toNat : Int), .int .u8 (k3.toNat : Int), .int .u8 (k4.toNat : Int)] 61)).heap[rb3]? = _ := heap_alloc_keep hrn
              have hk3 : (wn.alloc (.cells #[.int .u8 (k1.toNat : Int), .int .u8 (k2.toNat : Int), .int .u8 (k3.toNat : Int), .int .u8 (k4.toNat : Int)] 61)).heap[wn.heap.size]? = _ := heap_alloc_same _ _
              have hbk3 := ownsRow_keep hbkn ((Fr.refl No wn).alloc (.cells #[.int .u8 (k1.toNat : Int), .int .u8 (k2.toNat : Int), .int .u8 (k3.toNat : Int), .int .u8 (k4.toNat : Int)] 61)) (fun _ _ h => h)
              clear hrn hbkn hbk9 HN0 hri
              go_wp2_with fail
              generalize (wn.alloc (.cells #[.int .u8 (k1.toNat : Int), .int .u8 (k2.toNat : Int), .int .u8 (k3.toNat : Int), .int .u8 (k4.toNat : Int)] 61)) = W3 at *
              generalize wn.heap.size = kb at *
              refine (filter_any (h.keep hw3 (fun _ _ h => h)) k1 k2 k3 k4 2 (by omega)).mono ?_
              rw [hfl]
              rintro e w4 ⟨bs4, cap4, rfl, hrow4, F4⟩
              go_wp2_with fail
              refine (same_any (ownsRow_keep hbk3 F4 (fun _ _ h => h)) hrow4 hnei hbl9).mono ?_
              rintro e w5 ⟨rfl, F5⟩
              have F35 : Fr No W3 w5 := F4.trans F5 (fun _ _ h => h)
              have hk5 := F35.keep hk3 (fun h => h)
              have d0 : w5.cell? ⟨kb, 0, none⟩ = some (.int .u8 (k1.toNat : Int)) := cell_of 0 hk5 rfl
              have d1 : w5.cell? ⟨kb, 1, none⟩ = some (.int .u8 (k2.toNat : Int)) := cell_of 1 hk5 rfl
              have d2 : w5.cell? ⟨kb, 2, none⟩ = some (.int .u8 (k3.toNat : Int)) := cell_of 2 hk5 rfl
              have d3 : w5.cell? ⟨kb, 3, none⟩ = some (.int .u8 (k4.toNat : Int)) := cell_of 3 hk5 rfl
              go_wp2_with fail
              refine (filter_any (h.keep (hw3.trans F35 (fun _ _ h => h)) (fun _ _ h => h)) k1 k2 k3 k4 1 (by omega)).mono ?_
              rintro e w6 ⟨bs6, cap6, rfl, hrow6, F6⟩
              have hq6 : (((filt cs ((k1, k2), (k3, k4)) 1).length : Int) == (ids9.length : Int)) = false := by simp; omega
              go_wp2_with fail
              go_roundg (leftS SS3 (seen.push s) + 1)
              case measure => omega
              case rel => exact ⟨seen.push s, Nat.lt_succ_self _, F6.keep (F35.keep hr3 (fun h => h)) (fun h => h), (hw3.trans F35 (fun _ _ h => h)).trans F6 (fun _ _ h => h)⟩
        · obtain ⟨⟨k1, k2⟩, bs9, cap9, ids9, s, n, HN0, HE, hf9, hbk9, hget, hvis, hvp, hlt9⟩ := iter_step (HB2.out wr hf) hri hne2 (by rw [hSS2]; exact hleft) 0
          rw [hSS2] at hlt9
          rw [kv2_eq] at HN0 HE
          have HN := next_ty HN0
          have Fn : Fr (fun x => x = rb2) wr (put (wr.drewN n) rb2 (.mapIter (some bo) clock2 (seen.push s) clock2)) := Fr.put (S := fun x => x = rb2) ((Fr.refl _ wr).drewN n) (fun _ => rfl) _
          have hrn : (put (wr.drewN n) rb2 (.mapIter (some bo) clock2 (seen.push s) clock2)).heap[rb2]? = some (.mapIter (some bo) clock2 (seen.push s) clock2) := heap_put_same (w := wr.drewN n) _ hri
          generalize (put (wr.drewN n) rb2 (.mapIter (some bo) clock2 (seen.push s) clock2)) = wn at *
          have Fwn : Fr No w wn := hf.trans Fn (fun k hk e => by omega)
          obtain ⟨hfl, hnei⟩ := filt_open (z := (0, 0)) hf9
          have hbl9 : ids9.length ≤ 100 := by have := fOpen_len cs (k1, k2); rw [hf9] at this; simp at this; omega
          have hbkn := ownsRow_keep hbk9.1 Fn (fun g hg e => by have := h4.lt _ _ (hbk9.2 g hg); omega)
          have hw3 : Fr No w (wn.alloc (.cells #[.int .u8 (k1.toNat : Int), .int .u8 (k2.toNat : Int)] 59)) := Fwn.alloc _
          have hr3 : (wn.alloc (.cells #[.int .u8 (k1.toNat : Int), .int .u8 (k2.toNat : Int)] 59)).heap[rb2]? = _ := heap_alloc_keep hrn
          have hbk3 := ownsRow_keep hbkn ((Fr.refl No wn).alloc (.cells #[.int .u8 (k1.toNat : Int), .int .u8 (k2.toNat : Int)] 59)) (fun _ _ h => h)
          clear hrn hbkn hbk9 HN0 hri
          go_wp2_with fail
          generalize (wn.alloc (.cells #[.int .u8 (k1.toNat : Int), .int .u8 (k2.toNat : Int)] 59)) = W3 at *
          refine (filter_any (h.keep hw3 (fun _ _ h => h)) k1 k2 0 0 1 (by omega)).mono ?_
          rw [hfl]
          rintro e w4 ⟨bs4, cap4, rfl, hrow4, F4⟩
          go_wp2_with fail
          refine (same_any (ownsRow_keep hbk3 F4 (fun _ _ h => h)) hrow4 hnei hbl9).mono ?_
          rintro e w5 ⟨rfl, F5⟩
          go_wp2_with fail
          go_roundg (leftS SS2 (seen.push s) + 1)
          case measure => omega
          case rel => exact ⟨seen.push s, Nat.lt_succ_self _, F5.keep (F4.keep hr3 (fun h => h)) (fun h => h), (hw3.trans F4 (fun _ _ h => h)).trans F5 (fun _ _ h => h)⟩
    · obtain ⟨⟨k1, k2⟩, bs9, cap9, ids9, s, n, HN0, HE, hf9, hbk9, hget, hvis, hvp, hlt9⟩ := iter_step (HB1.out wr hf) hri hne1 (by rw [hSS1]; exact hleft) 0
      rw [hSS1] at hlt9
      rw [kv2_eq] at HN0 HE
      have HN := next_ty HN0
      have Fn : Fr (fun x => x = w.heap.size) wr (put (wr.drewN n) w.heap.size (.mapIter (some ba) clock1 (seen.push s) clock1)) := Fr.put (S := fun x => x = w.heap.size) ((Fr.refl _ wr).drewN n) (fun _ => rfl) _
      have hrn : (put (wr.drewN n) w.heap.size (.mapIter (some ba) clock1 (seen.push s) clock1)).heap[w.heap.size]? = some (.mapIter (some ba) clock1 (seen.push s) clock1) := heap_put_same (w := wr.drewN n) _ hri
      generalize (put (wr.drewN n) w.heap.size (.mapIter (some ba) clock1 (seen.push s) clock1)) = wn at *
      have Fwn : Fr No w wn := hf.trans Fn (fun k hk e => by omega)
      obtain ⟨hfl, hnei⟩ := filt_all (z := (0, 0)) hf9
      have hbl9 : ids9.length ≤ 100 := by have := fAll_len cs (k1, k2); rw [hf9] at this; simp at this; omega
      have hbkn := ownsRow_keep hbk9.1 Fn (fun g hg e => by have := h4.lt _ _ (hbk9.2 g hg); omega)
      have hw3 : Fr No w (wn.alloc (.cells #[.int .u8 (k1.toNat : Int), .int .u8 (k2.toNat : Int)] 59)) := Fwn.alloc _
      have hr3 : (wn.alloc (.cells #[.int .u8 (k1.toNat : Int), .int .u8 (k2.toNat : Int)] 59)).heap[w.heap.size]? = _ := heap_alloc_keep hrn
      have hbk3 := ownsRow_keep hbkn ((Fr.refl No wn).alloc (.cells #[.int .u8 (k1.toNat : Int), .int .u8 (k2.toNat : Int)] 59)) (fun _ _ h => h)
      clear hrn hbkn hbk9 HN0 hri
      go_wp2_with fail
      generalize (wn.alloc (.cells #[.int .u8 (k1.toNat : Int), .int .u8 (k2.toNat : Int)] 59)) = W3 at *
      refine (filter_any (h.keep hw3 (fun _ _ h => h)) k1 k2 0 0 0 (by omega)).mono ?_
      rw [hfl]
      rintro e w4 ⟨bs4, cap4, rfl, hrow4, F4⟩
      go_wp2_with fail
      refine (same_any (ownsRow_keep hbk3 F4 (fun _ _ h => h)) hrow4 hnei hbl9).mono ?_
      rintro e w5 ⟨rfl, F5⟩
      go_wp2_with fail
      go_roundg (leftS SS1 (seen.push s) + 1)
      case measure => omega
      case rel => exact ⟨seen.push s, Nat.lt_succ_self _, F5.keep (F4.keep hr3 (fun h => h)) (fun h => h), (hw3.trans F4 (fun _ _ h => h)).trans F5 (fun _ _ h => h)⟩
end Go.Proofs.Qxb6500302a
