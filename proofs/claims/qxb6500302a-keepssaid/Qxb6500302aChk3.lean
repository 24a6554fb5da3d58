import Derived.Test.Qxb6500302aChk2
import Derived.Deep.CutRange
namespace Go.Proofs.Qxb6500302a
open Go.RowKit
set_option linter.unusedSimpArgs false
set_option linter.unusedVariables false
attribute [local go_sem] ta106_106 ta106_112 ta106_80 ta112_106 ta112_112 ta112_80 ta80_106 ta80_112 ta80_80 ta80_80' run_makeFunc
attribute [local go_sem ↓] Go.wp_at_zero Go.wp_at_succ

/-- Which clauses 'filter' takes. -/
def wantQ (k : K4) (want : Nat) (t : Tm) : Bool :=
  decide (predOf t = k.1) && (if want = 1 then decide (keyOf t = none) else if want = 2 then (decide (keyOf t = some k.2) || decide (keyOf t = none)) else true)
def filt (cs : List Tm) (k : K4) (want : Nat) : List Nat := idsF (wantQ k want) 0 cs

theorem idsF_take (q : Tm → Bool) {cs : List Tm} {i : Nat} {t : Tm} (h : cs[i]? = some t) : idsF q 0 (cs.take (i + 1)) = idsF q 0 (cs.take i) ++ if q t then [i] else [] := by
  rw [List.take_add_one, h]
  have hi : i < cs.length := (List.getElem?_eq_some_iff.1 h).1
  simp only [Option.toList_some]
  rw [idsF_snoc]
  simp [Nat.min_eq_left (Nat.le_of_lt hi)]

theorem head_of {t h : Tm} {ts : List Tm} (ht : t = tCall 58 (h :: ts)) : predOf t = (h.letter, digit h.kids.length) ∧ keyOf t = ownKeyOf h := by rw [ht]; exact ⟨rfl, rfl⟩

set_option maxRecDepth 40000 in
set_option maxHeartbeats 4000000 in
theorem filter_any {w : World} {own : Own} {D : Nat → Prop} {p : Nat} {cs : List Tm} (h : ProgAt w own D p cs) (k1 k2 k3 k4 : UInt8) (want : Nat) (hw : want ≤ 2) :
    Calls Try.prog 63 #[.pointer (some ⟨p, 0, none⟩), .agg #[.int .u8 (k1.toNat : Int), .int .u8 (k2.toNat : Int), .int .u8 (k3.toNat : Int), .int .u8 (k4.toNat : Int)], .int .i64 (want : Int)] w fun e w' =>
      ∃ bs cap, e = .returned (.slice bs (filt cs ((k1, k2), (k3, k4)) want).length cap) ∧ w'.ownsRow 0 32 1 (.slice bs (filt cs ((k1, k2), (k3, k4)) want).length cap) (filt cs ((k1, k2), (k3, k4)) want).length (i8s (filt cs ((k1, k2), (k3, k4)) want)) ∧ Fr No w w' := by
  obtain ⟨ba, bo, bk, bs, cap, h1, hrow⟩ := h.row
  have hlen := h.len
  have HR : Hid (∀ (i : Nat) (t : Tm), cs[i]? = some t → ∃ g v m, bs = some ⟨g, 0, none⟩ ∧ w.cell? ⟨g, i, none⟩ = some (.pointer (some ⟨v, 0, none⟩)) ∧ ClauseN w D m (.pointer (some ⟨v, 0, none⟩)) t) := hrow
  clear hrow
  have hp1 : (w.alloc (.cells #[.int .u8 (k1.toNat : Int), .int .u8 (k2.toNat : Int), .int .u8 (k3.toNat : Int), .int .u8 (k4.toNat : Int)] 61)).heap[p]? = _ := heap_alloc_keep h1
  have hK1 : (w.alloc (.cells #[.int .u8 (k1.toNat : Int), .int .u8 (k2.toNat : Int), .int .u8 (k3.toNat : Int), .int .u8 (k4.toNat : Int)] 61)).heap[w.heap.size]? = _ := heap_alloc_same _ _
  have F1 : Fr No w (w.alloc (.cells #[.int .u8 (k1.toNat : Int), .int .u8 (k2.toNat : Int), .int .u8 (k3.toNat : Int), .int .u8 (k4.toNat : Int)] 61)) := (Fr.refl No w).alloc _
  have cp : (w.alloc (.cells #[.int .u8 (k1.toNat : Int), .int .u8 (k2.toNat : Int), .int .u8 (k3.toNat : Int), .int .u8 (k4.toNat : Int)] 61)).cell? ⟨p, 0, none⟩ = some (.slice bs cs.length cap) := cell_of 0 hp1 rfl
  have hpl := lt_of_heap h1
  generalize hFI : filt cs ((k1, k2), (k3, k4)) want = FI
  have HFI : Hid (FI = idsF (wantQ ((k1, k2), (k3, k4)) want) 0 cs) := hFI.symm
  clear hFI
  obtain ⟨i0, hi0, hz0, hz1, hz2⟩ := info_parts Try.info32
  go_enter Try.func63, Try.ntmps63
  go_wp2_with fail
  generalize (w.alloc (.cells #[.int .u8 (k1.toNat : Int), .int .u8 (k2.toNat : Int), .int .u8 (k3.toNat : Int), .int .u8 (k4.toNat : Int)] 61)) = W1 at *
  go_loopg [7, 18] (cs.length + 1) (fun gk v7 u wr => ∃ (i : Nat) (bsi : Option Addr) (capi : Nat) (ids : List Nat), v7 = .slice bsi ids.length capi ∧ u = .int .i64 (i : Int) ∧ i ≤ cs.length ∧ gk = cs.length + 1 - i ∧ ids.length ≤ i ∧ Hid (ids = idsF (wantQ ((k1, k2), (k3, k4)) want) 0 (cs.take i)) ∧ wr.ownsRow 0 32 1 (.slice bsi ids.length capi) ids.length (i8s ids) ∧ (∀ g, (Value.slice bsi ids.length capi).ownBlock = some g → w.heap.size < g) ∧ wr.heap[w.heap.size]? = some (.cells #[.int .u8 (k1.toNat : Int), .int .u8 (k2.toNat : Int), .int .u8 (k3.toNat : Int), .int .u8 (k4.toNat : Int)] 61) ∧ Fr No w wr)
  case atStart => exact ⟨0, none, 0, [], rfl, rfl, Nat.zero_le _, rfl, Nat.zero_le _, rfl, World.ownsRow_nil _ _ _ _, fun g hg => by simp [Value.ownBlock] at hg, hK1, F1⟩
  case round =>
    clear hp1 hK1 F1 cp
    obtain ⟨i, bsi, capi, ids, rfl, rfl, hi, hgk, hil, HI, hrow, hfresh, hK, hf⟩ := hrel
    by_cases hlt : i < cs.length
    · obtain ⟨t, ht⟩ := kid_at hlt
      obtain ⟨g, v, m, rfl, hcell, hc⟩ := HR.out i t ht
      have hcell' : wr.cell? ⟨g, i, none⟩ = some (.pointer (some ⟨v, 0, none⟩)) := hf.cellNo hcell
      obtain ⟨⟨hd, ts, ht2, hk2⟩, _, _⟩ := h.shape (List.mem_of_getElem? ht)
      obtain ⟨hpr, hke⟩ := head_of ht2
      rw [ht2] at hc
      have HC : Hid (ClauseN wr D m (.pointer (some ⟨v, 0, none⟩)) (tCall 58 (hd :: ts))) := hc.kept hf (fun _ _ h => h)
      have HTk := idsF_take (wantQ ((k1, k2), (k3, k4)) want) ht
      have HT : Hid (idsF (wantQ ((k1, k2), (k3, k4)) want) 0 (cs.take (i + 1)) = ids ++ if wantQ ((k1, k2), (k3, k4)) want t then [i] else []) := by
        show _ = _
        rw [HTk, HI.out]
      clear HTk hc hcell
      have hwq : wantQ ((k1, k2), (k3, k4)) want t = (decide (predOf t = (k1, k2)) && (if want = 1 then decide (keyOf t = none) else if want = 2 then (decide (keyOf t = some (k3, k4)) || decide (keyOf t = none)) else true)) := rfl
      rw [hpr, hke] at hwq
      have HWQ : Hid _ := hwq
      go_wp2_with fail
      refine (head_any HC.out hk2).mono ?_
      rintro e w2 ⟨vh, mh, rfl, hh, rfl⟩
      have HH : Hid (TermN w2 D mh (.iface 80 vh) hd) := hh
      clear hh
      go_wp2_with fail
      have ck0 : w2.cell? ⟨w.heap.size, 0, none⟩ = some (.int .u8 (k1.toNat : Int)) := cell_of 0 hK rfl
      have ck1 : w2.cell? ⟨w.heap.size, 1, none⟩ = some (.int .u8 (k2.toNat : Int)) := cell_of 1 hK rfl
      have HQ : ∀ w, (Op.equalIn 10000 59 (.agg #[.int .u8 (hd.letter.toNat : Int), .int .u8 ((digit hd.kids.length).toNat : Int)]) (.agg #[.int .u8 (k1.toNat : Int), .int .u8 (k2.toNat : Int)])).run Try.prog w = _ := fun w => eq59 hd.letter (digit hd.kids.length) k1 k2 w
      cases hq : (decide (hd.letter = k1) && decide (digit hd.kids.length = k2)) with
      | false =>
        rw [hq] at HQ
        have HWF : Hid (wantQ ((k1, k2), (k3, k4)) want t = false) := by
          show _ = _
          rw [HWQ.out]
          have : ¬ ((hd.letter, digit hd.kids.length) = (k1, k2)) := fun e => by cases e; simp at hq
          simp [this]
        clear hq
        go_region_held3 (fun w' => w'.cell? ⟨w.heap.size, 0, none⟩ = some (.int .u8 (k1.toNat : Int)) ∧ w'.cell? ⟨w.heap.size, 1, none⟩ = some (.int .u8 (k2.toNat : Int)))
          (first | exact S3 | go_keep)
          (first | (go_at_call 40; have hcl3 := functor_any (HH.out.kept ((Fr.refl No w2).drew) (fun _ _ h => h)); unfold kv at hcl3; refine hcl3.mono ?_; rintro e w3 ⟨rfl, hf3⟩; have F3 : Fr No w2 w3 := ((Fr.refl No w2).drew).trans hf3 (fun _ _ h => h); have S3 : w3.cell? ⟨w.heap.size, 0, none⟩ = some (.int .u8 (k1.toNat : Int)) ∧ w3.cell? ⟨w.heap.size, 1, none⟩ = some (.int .u8 (k2.toNat : Int)) := ⟨F3.cellNo ck0, F3.cellNo ck1⟩))
        go_wp2_with fail
        go_roundg (cs.length + 1 - (i + 1))
        case measure => omega
        case rel =>
          refine ⟨i + 1, bsi, capi, ids, rfl, by go_num, by omega, rfl, by omega, ?_, ownsRow_keep hrow F3 (fun _ _ h => h), hfresh, F3.keep hK (fun h => h), hf.trans F3 (fun _ _ h => h)⟩
          show _ = _
          rw [HT.out, HWF.out]
          simp
      | true =>
        rw [hq] at HQ
        have HPE : Hid ((hd.letter, digit hd.kids.length) = (k1, k2)) := by
          show _ = _
          simp at hq
          rw [hq.1, hq.2]
        clear hq
        go_region_held3 (fun w' => w'.cell? ⟨w.heap.size, 0, none⟩ = some (.int .u8 (k1.toNat : Int)) ∧ w'.cell? ⟨w.heap.size, 1, none⟩ = some (.int .u8 (k2.toNat : Int)))
          (first | exact S3 | go_keep)
          (first | (go_at_call 40; have hcl3 := functor_any (HH.out.kept ((Fr.refl No w2).drew) (fun _ _ h => h)); unfold kv at hcl3; refine hcl3.mono ?_; rintro e w3 ⟨rfl, hf3⟩; have F3 : Fr No w2 w3 := ((Fr.refl No w2).drew).trans hf3 (fun _ _ h => h); have S3 : w3.cell? ⟨w.heap.size, 0, none⟩ = some (.int .u8 (k1.toNat : Int)) ∧ w3.cell? ⟨w.heap.size, 1, none⟩ = some (.int .u8 (k2.toNat : Int)) := ⟨F3.cellNo ck0, F3.cellNo ck1⟩))
        have hK3 := F3.keep hK (fun h => h)
        have hrow3 := ownsRow_keep hrow F3 (fun _ _ h => h)
        have hf3' := hf.trans F3 (fun _ _ h => h)
        have HH3 : Hid (TermN w3 D mh (.iface 80 vh) hd) := HH.out.kept F3 (fun _ _ h => h)
        go_wp2_with fail
        refine (ownKey_any HH3.out).mono ?_
        rintro e w4 ⟨rfl, hf4⟩
        cases hkey : ownKeyOf hd with
        | none =>
          simp only [keyPair, kv]
          have hK5 : (w4.alloc (.cells #[.int .u8 (0 : Int), .int .u8 (0 : Int)] 59)).heap[w.heap.size]? = _ := heap_alloc_keep (hf4.keep hK3 (fun h => h))
          have hrow5 := ownsRow_keep hrow3 (hf4.alloc (.cells #[.int .u8 (0 : Int), .int .u8 (0 : Int)] 59)) (fun _ _ h => h)
          have hf5 : Fr No w (w4.alloc (.cells #[.int .u8 (0 : Int), .int .u8 (0 : Int)] 59)) := (hf3'.trans hf4 (fun _ _ h => h)).alloc _
          have hO5 : (w4.alloc (.cells #[.int .u8 (0 : Int), .int .u8 (0 : Int)] 59)).heap[w4.heap.size]? = _ := heap_alloc_same _ _
          go_upto_region 8 with fail
          generalize (w4.alloc (.cells #[.int .u8 (0 : Int), .int .u8 (0 : Int)] 59)) = W5 at *
          have hrow6 := ownsRow_keep hrow5 ((Fr.refl No W5).alloc (.cells #[.int .i8 (i : Int)] 32)) (fun _ _ h => h)
          have hnb6 : (W5.alloc (.cells #[.int .i8 (i : Int)] 32)).heap[W5.heap.size]? = some (.cells #[.int .i8 (i : Int)] 32) := heap_alloc_same _ _
          have hw8 : IntKind.i8.wrap (i : Int) = (i : Int) := by
            have : ∀ n : Nat, n < 8 → IntKind.i8.wrap (n : Int) = (n : Int) := by decide
            exact this _ (by omega)
          rcases (by omega : want = 0 ∨ want = 1 ∨ want = 2) with rfl | rfl | rfl
          · have HWT : Hid (wantQ ((k1, k2), (k3, k4)) 0 t = true) := by
              show _ = _
              rw [HWQ.out, HPE.out, hkey]
              simp
            clear hkey
            go_wp2_with (at_builtin; refine wpList_append_lies _ (by rfl) _ _ 30 (by rfl) 0 32 i0 (.int .i8 0) 1 1 Try.underlying30 hi0 hz0 hz1 hz2 rfl (by omega) _ ids.length (i8s ids) (by rfl) hrow6 ⟨W5.heap.size, 0, none⟩ 1 1 [.int .i8 (i : Int)] (by rfl) (by rfl) (World.news_of_block (cs := #[.int .i8 (i : Int)]) hnb6) (by simp [Value.oneCell']) (by omega) (by unfold maxLen; omega) (by omega) (Nat.zero_le _) (W5.heap.size + 1) (by simp) ?_; intro g7 cap7 w7 hown7 hgrow7 hat7 hlt7)
            go_roundg (cs.length + 1 - (i + 1))
            case measure => omega
            case rel =>
              have hsz5 := lt_of_heap hK5
              have hK7 : w7.heap[w.heap.size]? = _ := heap_grown hgrow7 (heap_alloc_keep hK5) (fun e => by have := hfresh _ e; omega)
              refine ⟨i + 1, some ⟨g7, 0, none⟩, cap7, ids ++ [i], slice_len (by simp), by go_num, by omega, rfl, by simp; omega, ?_, ?_, ?_, hK7, (hf5.alloc _).grown hgrow7 (fun k hk hlt => by have := hfresh _ hk; omega)⟩
              · show _ = _
                rw [HT.out, HWT.out]
                simp
              · rw [i8s_snoc]
                simpa using hown7
              · intro g hg
                have : g7 = g := by simpa [Value.ownBlock] using hg
                subst this
                rcases hat7 with e | e
                · exact hfresh _ e
                · omega
          · have HWT : Hid (wantQ ((k1, k2), (k3, k4)) 1 t = true) := by
              show _ = _
              rw [HWQ.out, HPE.out, hkey]
              simp
            clear hkey
            go_wp2_with (at_builtin; refine wpList_append_lies _ (by rfl) _ _ 30 (by rfl) 0 32 i0 (.int .i8 0) 1 1 Try.underlying30 hi0 hz0 hz1 hz2 rfl (by omega) _ ids.length (i8s ids) (by rfl) hrow6 ⟨W5.heap.size, 0, none⟩ 1 1 [.int .i8 (i : Int)] (by rfl) (by rfl) (World.news_of_block (cs := #[.int .i8 (i : Int)]) hnb6) (by simp [Value.oneCell']) (by omega) (by unfold maxLen; omega) (by omega) (Nat.zero_le _) (W5.heap.size + 1) (by simp) ?_; intro g7 cap7 w7 hown7 hgrow7 hat7 hlt7)
            go_roundg (cs.length + 1 - (i + 1))
            case measure => omega
            case rel =>
              have hsz5 := lt_of_heap hK5
              have hK7 : w7.heap[w.heap.size]? = _ := heap_grown hgrow7 (heap_alloc_keep hK5) (fun e => by have := hfresh _ e; omega)
              refine ⟨i + 1, some ⟨g7, 0, none⟩, cap7, ids ++ [i], slice_len (by simp), by go_num, by omega, rfl, by simp; omega, ?_, ?_, ?_, hK7, (hf5.alloc _).grown hgrow7 (fun k hk hlt => by have := hfresh _ hk; omega)⟩
              · show _ = _
                rw [HT.out, HWT.out]
                simp
              · rw [i8s_snoc]
                simpa using hown7
              · intro g hg
                have : g7 = g := by simpa [Value.ownBlock] using hg
                subst this
                rcases hat7 with e | e
                · exact hfresh _ e
                · omega
          · have HWT : Hid (wantQ ((k1, k2), (k3, k4)) 2 t = true) := by
              show _ = _
              rw [HWQ.out, HPE.out, hkey]
              simp
            clear hkey
            go_wp2_with (at_builtin; refine wpList_append_lies _ (by rfl) _ _ 30 (by rfl) 0 32 i0 (.int .i8 0) 1 1 Try.underlying30 hi0 hz0 hz1 hz2 rfl (by omega) _ ids.length (i8s ids) (by rfl) hrow6 ⟨W5.heap.size, 0, none⟩ 1 1 [.int .i8 (i : Int)] (by rfl) (by rfl) (World.news_of_block (cs := #[.int .i8 (i : Int)]) hnb6) (by simp [Value.oneCell']) (by omega) (by unfold maxLen; omega) (by omega) (Nat.zero_le _) (W5.heap.size + 1) (by simp) ?_; intro g7 cap7 w7 hown7 hgrow7 hat7 hlt7)
            go_roundg (cs.length + 1 - (i + 1))
            case measure => omega
            case rel =>
              have hsz5 := lt_of_heap hK5
              have hK7 : w7.heap[w.heap.size]? = _ := heap_grown hgrow7 (heap_alloc_keep hK5) (fun e => by have := hfresh _ e; omega)
              refine ⟨i + 1, some ⟨g7, 0, none⟩, cap7, ids ++ [i], slice_len (by simp), by go_num, by omega, rfl, by simp; omega, ?_, ?_, ?_, hK7, (hf5.alloc _).grown hgrow7 (fun k hk hlt => by have := hfresh _ hk; omega)⟩
              · show _ = _
                rw [HT.out, HWT.out]
                simp
              · rw [i8s_snoc]
                simpa using hown7
              · intro g hg
                have : g7 = g := by simpa [Value.ownBlock] using hg
                subst this
                rcases hat7 with e | e
                · exact hfresh _ e
                · omega
        | some f =>
          obtain ⟨f1, f2⟩ := f
          simp only [keyPair, kv]
          have hK5 : (w4.alloc (.cells #[.int .u8 (f1.toNat : Int), .int .u8 (f2.toNat : Int)] 59)).heap[w.heap.size]? = _ := heap_alloc_keep (hf4.keep hK3 (fun h => h))
          have hrow5 := ownsRow_keep hrow3 (hf4.alloc (.cells #[.int .u8 (f1.toNat : Int), .int .u8 (f2.toNat : Int)] 59)) (fun _ _ h => h)
          have hf5 : Fr No w (w4.alloc (.cells #[.int .u8 (f1.toNat : Int), .int .u8 (f2.toNat : Int)] 59)) := (hf3'.trans hf4 (fun _ _ h => h)).alloc _
          have hO5 : (w4.alloc (.cells #[.int .u8 (f1.toNat : Int), .int .u8 (f2.toNat : Int)] 59)).heap[w4.heap.size]? = _ := heap_alloc_same _ _
          go_upto_region 8 with fail
          generalize (w4.alloc (.cells #[.int .u8 (f1.toNat : Int), .int .u8 (f2.toNat : Int)] 59)) = W5 at *
          have hrow6 := ownsRow_keep hrow5 ((Fr.refl No W5).alloc (.cells #[.int .i8 (i : Int)] 32)) (fun _ _ h => h)
          have hnb6 : (W5.alloc (.cells #[.int .i8 (i : Int)] 32)).heap[W5.heap.size]? = some (.cells #[.int .i8 (i : Int)] 32) := heap_alloc_same _ _
          have hw8 : IntKind.i8.wrap (i : Int) = (i : Int) := by
            have : ∀ n : Nat, n < 8 → IntKind.i8.wrap (n : Int) = (n : Int) := by decide
            exact this _ (by omega)
          have ck2 : W5.cell? ⟨w.heap.size, 2, none⟩ = some (.int .u8 (k3.toNat : Int)) := cell_of 2 hK5 rfl
          have ck3 : W5.cell? ⟨w.heap.size, 3, none⟩ = some (.int .u8 (k4.toNat : Int)) := cell_of 3 hK5 rfl
          have co0 : W5.cell? ⟨w4.heap.size, 0, none⟩ = some (.int .u8 (f1.toNat : Int)) := cell_of 0 hO5 rfl
          have co1 : W5.cell? ⟨w4.heap.size, 1, none⟩ = some (.int .u8 (f2.toNat : Int)) := cell_of 1 hO5 rfl
          rcases (by omega : want = 0 ∨ want = 1 ∨ want = 2) with rfl | rfl | rfl
          · have HWT : Hid (wantQ ((k1, k2), (k3, k4)) 0 t = true) := by
              show _ = _
              rw [HWQ.out, HPE.out, hkey]
              simp
            clear hkey
            go_wp2_with (at_builtin; refine wpList_append_lies _ (by rfl) _ _ 30 (by rfl) 0 32 i0 (.int .i8 0) 1 1 Try.underlying30 hi0 hz0 hz1 hz2 rfl (by omega) _ ids.length (i8s ids) (by rfl) hrow6 ⟨W5.heap.size, 0, none⟩ 1 1 [.int .i8 (i : Int)] (by rfl) (by rfl) (World.news_of_block (cs := #[.int .i8 (i : Int)]) hnb6) (by simp [Value.oneCell']) (by omega) (by unfold maxLen; omega) (by omega) (Nat.zero_le _) (W5.heap.size + 1) (by simp) ?_; intro g7 cap7 w7 hown7 hgrow7 hat7 hlt7)
            go_roundg (cs.length + 1 - (i + 1))
            case measure => omega
            case rel =>
              have hsz5 := lt_of_heap hK5
              have hK7 : w7.heap[w.heap.size]? = _ := heap_grown hgrow7 (heap_alloc_keep hK5) (fun e => by have := hfresh _ e; omega)
              refine ⟨i + 1, some ⟨g7, 0, none⟩, cap7, ids ++ [i], slice_len (by simp), by go_num, by omega, rfl, by simp; omega, ?_, ?_, ?_, hK7, (hf5.alloc _).grown hgrow7 (fun k hk hlt => by have := hfresh _ hk; omega)⟩
              · show _ = _
                rw [HT.out, HWT.out]
                simp
              · rw [i8s_snoc]
                simpa using hown7
              · intro g hg
                have : g7 = g := by simpa [Value.ownBlock] using hg
                subst this
                rcases hat7 with e | e
                · exact hfresh _ e
                · omega
          · have HWF : Hid (wantQ ((k1, k2), (k3, k4)) 1 t = false) := by
              show _ = _
              rw [HWQ.out, HPE.out, hkey]
              simp
            clear hkey
            go_wp2_with fail
            go_roundg (cs.length + 1 - (i + 1))
            case measure => omega
            case rel =>
              refine ⟨i + 1, bsi, capi, ids, rfl, by go_num, by omega, rfl, by omega, ?_, hrow5, hfresh, hK5, hf5⟩
              show _ = _
              rw [HT.out, HWF.out]
              simp
          · have HQ2 : ∀ w, (Op.equalIn 10000 59 (.agg #[.int .u8 (f1.toNat : Int), .int .u8 (f2.toNat : Int)]) (.agg #[.int .u8 (k3.toNat : Int), .int .u8 (k4.toNat : Int)])).run Try.prog w = _ := fun w => eq59 f1 f2 k3 k4 w
            cases hq2 : (decide (f1 = k3) && decide (f2 = k4)) with
            | false =>
              rw [hq2] at HQ2
              have hne : ¬ ((f1, f2) = (k3, k4)) := fun e => by cases e; simp at hq2
              have HWF : Hid (wantQ ((k1, k2), (k3, k4)) 2 t = false) := by
                show _ = _
                rw [HWQ.out, HPE.out, hkey]
                simp [hne]
              clear hkey hq2 hne
              go_wp2_with fail
              go_roundg (cs.length + 1 - (i + 1))
              case measure => omega
              case rel =>
                refine ⟨i + 1, bsi, capi, ids, rfl, by go_num, by omega, rfl, by omega, ?_, hrow5, hfresh, hK5, hf5⟩
                show _ = _
                rw [HT.out, HWF.out]
                simp
            | true =>
              rw [hq2] at HQ2
              have hne : (f1, f2) = (k3, k4) := by simp at hq2; rw [hq2.1, hq2.2]
              have HWT : Hid (wantQ ((k1, k2), (k3, k4)) 2 t = true) := by
                show _ = _
                rw [HWQ.out, HPE.out, hkey, hne]
                simp
              clear hkey hq2 hne
              go_wp2_with (at_builtin; refine wpList_append_lies _ (by rfl) _ _ 30 (by rfl) 0 32 i0 (.int .i8 0) 1 1 Try.underlying30 hi0 hz0 hz1 hz2 rfl (by omega) _ ids.length (i8s ids) (by rfl) hrow6 ⟨W5.heap.size, 0, none⟩ 1 1 [.int .i8 (i : Int)] (by rfl) (by rfl) (World.news_of_block (cs := #[.int .i8 (i : Int)]) hnb6) (by simp [Value.oneCell']) (by omega) (by unfold maxLen; omega) (by omega) (Nat.zero_le _) (W5.heap.size + 1) (by simp) ?_; intro g7 cap7 w7 hown7 hgrow7 hat7 hlt7)
              go_roundg (cs.length + 1 - (i + 1))
              case measure => omega
              case rel =>
                have hsz5 := lt_of_heap hK5
                have hK7 : w7.heap[w.heap.size]? = _ := heap_grown hgrow7 (heap_alloc_keep hK5) (fun e => by have := hfresh _ e; omega)
                refine ⟨i + 1, some ⟨g7, 0, none⟩, cap7, ids ++ [i], slice_len (by simp), by go_num, by omega, rfl, by simp; omega, ?_, ?_, ?_, hK7, (hf5.alloc _).grown hgrow7 (fun k hk hlt => by have := hfresh _ hk; omega)⟩
                · show _ = _
                  rw [HT.out, HWT.out]
                  simp
                · rw [i8s_snoc]
                  simpa using hown7
                · intro g hg
                  have : g7 = g := by simpa [Value.ownBlock] using hg
                  subst this
                  rcases hat7 with e | e
                  · exact hfresh _ e
                  · omega
    · have hieq : i = cs.length := by omega
      go_wp2_with fail
      go_ret
      have hids : ids = FI := by rw [HI.out, HFI.out, hieq, List.take_length]
      subst hids
      exact ⟨bsi, capi, rfl, hrow, hf⟩
end Go.Proofs.Qxb6500302a
