import Derived.Test.Qxb6500302aIdx4
namespace Go.Proofs.Qxb6500302a
open Go.RowKit
set_option linter.unusedSimpArgs false
set_option linter.unusedVariables false
attribute [local go_sem] ta106_106 ta106_112 ta106_80 ta112_106 ta112_112 ta112_80 ta80_106 ta80_112 ta80_80 ta80_80'
attribute [local go_sem ↓] Go.wp_at_zero Go.wp_at_succ

theorem Ix_of {own : Own} {g : Nat} {l : Lab} (h : own g = some l) (h0 : l.1 ≠ 0) (h4 : l.1 ≠ 4) : Ix own g := ⟨l, h, h0, h4⟩

theorem kv4_eq (a b c d : UInt8) : kv4 ((a, b), (c, d)) = .agg #[.int .u8 (a.toNat : Int), .int .u8 (b.toNat : Int), .int .u8 (c.toNat : Int), .int .u8 (d.toNat : Int)] := rfl

def EnterPost (own : Own) (ba bo bk : Nat) (fA fO : K2 → Option (List Nat)) (fK : K4 → Option (List Nat)) (w : World) (e : Ending) (w' : World) : Prop :=
  e = .returned (.tuple #[]) ∧ ∃ own' : Own, Idx w' own' ba bo bk fA fO fK ∧ Fr (Ix own) w w' ∧ Ext own own' w.heap.size

set_option maxRecDepth 40000 in
set_option maxHeartbeats 8000000 in
theorem enter_keyed {w : World} {p ba bo bk m : Nat} {own : Own} {D : Nat → Prop} {vc : Value} {h : Tm} {ts : List Tm} {id : Nat} {sl : Value} {fA fO : K2 → Option (List Nat)} {fK : K4 → Option (List Nat)} {first : K2}
    (hp : w.heap[p]? = some (.cells #[sl, .map (some ba), .map (some bo), .map (some bk)] 52)) (hop : own p = some (0, z4)) (hid : id ≤ 100)
    (hc : ClauseN w D m vc (tCall 58 (h :: ts))) (hk : h.kind = 2) (hD : ∀ k, D k → own k = none) (hidx : Idx w own ba bo bk fA fO fK) (hlenA : ∀ k, ((fA k).getD []).length ≤ 100) (hlenO : ∀ k, ((fO k).getD []).length ≤ 100) (hlenK : ∀ k, ((fK k).getD []).length ≤ 100)
    (hkey : ownKeyOf h = some first) :
    Calls Try.prog 21 #[.pointer (some ⟨p, 0, none⟩), .int .i8 (id : Int), vc] w (EnterPost own ba bo bk (bump fA (h.letter, digit h.kids.length) id) fO (fun k' => if k' = ((h.letter, digit h.kids.length), first) then some ((fK ((h.letter, digit h.kids.length), first)).getD ((fO (h.letter, digit h.kids.length)).getD []) ++ [id]) else fK k') w) := by
  obtain ⟨f1, f2⟩ := first
  go_enter Try.func21, Try.ntmps21
  go_wp2_with fail
  refine (head_any hc hk).mono ?_
  rintro e w0 ⟨vh, mh, rfl, hh, rfl⟩
  go_wp2_with fail
  refine (functor_any hh).mono ?_
  rintro e w1 ⟨rfl, hf1⟩
  unfold kv
  go_wp2_with fail
  have hfr : Fr No w0 (w1.alloc (.cells #[.int .u8 (h.letter.toNat : Int), .int .u8 ((digit h.kids.length).toNat : Int)] 59)) := hf1.alloc _
  have hT : (w1.alloc (.cells #[.int .u8 (h.letter.toNat : Int), .int .u8 ((digit h.kids.length).toNat : Int)] 59)).heap[w1.heap.size]? = some (.cells #[.int .u8 (h.letter.toNat : Int), .int .u8 ((digit h.kids.length).toNat : Int)] 59) := heap_alloc_same _ _
  have htb : w0.heap.size ≤ w1.heap.size := hf1.size
  generalize (w1.alloc (.cells #[.int .u8 (h.letter.toNat : Int), .int .u8 ((digit h.kids.length).toNat : Int)] 59)) = W at *
  generalize w1.heap.size = tb at *
  have hpW := hfr.keep hp (fun h => h)
  have hidW := hidx.keep hfr (fun _ _ _ h => h)
  have hhW := hh.kept hfr (fun _ _ h => h)
  have hotb : own tb = none := by
    cases e : own tb with
    | none => rfl
    | some l => have := hidx.lt tb l e; omega
  -- p.all[pred] = append(p.all[pred], id)
  obtain ⟨E1, clock1, bs, cap, W1, HE, hown1, hnb, hsz1, hfr1, HP⟩ := append_entry key2 labA_inj hidW.mA (h.letter, digit h.kids.length) id hidW.oa (fun k => by simp [labA]) hidW.lt
  obtain ⟨HP', _⟩ : Hid _ ∧ True := ⟨HP, trivial⟩
  clear HP
  rw [kv2_eq] at HE
  have cp : W.cell? ⟨p, 1, none⟩ = some (.map (some ba)) := cell_of 1 hpW rfl
  have ct0 := cell_of 0 hT rfl
  have ct1 := cell_of 1 hT rfl
  have hpl := lt_of_heap hpW
  have htl := lt_of_heap hT
  have hpb : ¬ p = ba := by intro e; subst e; rw [hidx.oa] at hop; simp at hop
  have htb' : ¬ tb = ba := by have := hidx.lt ba _ hidx.oa; omega
  obtain ⟨i0, hi, hz0, hz1, hz2⟩ := info_parts Try.info32
  have hlen0 := hlenA (h.letter, digit h.kids.length)
  generalize ((fA (h.letter, digit h.kids.length)).getD []) = ids0 at *
  have S1 : W1.cell? ⟨p, 1, none⟩ = some (.map (some ba)) ∧ W1.cell? ⟨tb, 0, none⟩ = some (.int .u8 (h.letter.toNat : Int)) ∧ W1.cell? ⟨tb, 1, none⟩ = some (.int .u8 ((digit h.kids.length).toNat : Int)) :=
    ⟨cell_of 1 (hfr1.keep hpW hpb) rfl, cell_of 0 (hfr1.keep hT htb') rfl, cell_of 1 (hfr1.keep hT htb') rfl⟩
  go_region_held3 (fun w' => w'.cell? ⟨p, 1, none⟩ = some (.map (some ba)) ∧ w'.cell? ⟨tb, 0, none⟩ = some (.int .u8 (h.letter.toNat : Int)) ∧ w'.cell? ⟨tb, 1, none⟩ = some (.int .u8 ((digit h.kids.length).toNat : Int)))
    (first | exact S1 | exact S2 | exact S3 | go_keep)
    ((refine step_append_lies _ (by rfl) _ _ 30 (by rfl) 0 32 i0 (.int .i8 0) 1 1 Try.underlying30 hi hz0 hz1 hz2 rfl (by omega) _ ids0.length (i8s ids0) (by rfl) hown1 ⟨W.heap.size, 0, none⟩ 1 1 [.int .i8 (id : Int)] (by rfl) (by rfl) (World.news_of_block (cs := #[.int .i8 (id : Int)]) hnb) (by simp [Value.oneCell']) (by omega) (by unfold maxLen; omega) (by omega) (Nat.zero_le _) (W.heap.size + 1) hsz1 ?_; intro g cap' w2 hown2 hgrow hat hlt; obtain ⟨own2, w3, HS, hm3, hfr2, hfr3, hox⟩ := HP'.out g cap' w2 hown2 hgrow hat hlt; have hpS : ¬ (p = ba ∨ own p = some (labA (h.letter, digit h.kids.length))) := (fun e => e.elim hpb (fun e => by rw [hop] at e; simp [labA] at e)); have htS : ¬ (tb = ba ∨ own tb = some (labA (h.letter, digit h.kids.length))) := (fun e => e.elim htb' (fun e => by rw [hotb] at e; simp at e)); have S2 : w2.cell? ⟨p, 1, none⟩ = some (.map (some ba)) ∧ w2.cell? ⟨tb, 0, none⟩ = some (.int .u8 (h.letter.toNat : Int)) ∧ w2.cell? ⟨tb, 1, none⟩ = some (.int .u8 ((digit h.kids.length).toNat : Int)) := ⟨cell_of 1 (hfr2.keep hpW hpS) rfl, cell_of 0 (hfr2.keep hT htS) rfl, cell_of 1 (hfr2.keep hT htS) rfl⟩; have S3 : w3.cell? ⟨p, 1, none⟩ = some (.map (some ba)) ∧ w3.cell? ⟨tb, 0, none⟩ = some (.int .u8 (h.letter.toNat : Int)) ∧ w3.cell? ⟨tb, 1, none⟩ = some (.int .u8 ((digit h.kids.length).toNat : Int)) := ⟨cell_of 1 (hfr3.keep hpW hpS) rfl, cell_of 0 (hfr3.keep hT htS) rfl, cell_of 1 (hfr3.keep hT htS) rfl⟩))
  have I3 := hidW.updA hm3 hfr3 hox
  have hp3 := hfr3.keep hpW hpS
  have hT3 := hfr3.keep hT htS
  have hDS : ∀ k, D k → ¬ (k = ba ∨ own k = some (labA (h.letter, digit h.kids.length))) := fun k hk e => e.elim (fun e => by have := hidx.oa; rw [← e, hD k hk] at this; simp at this) (fun e => by rw [hD k hk] at e; simp at e)
  have hh3 := hhW.kept hfr3 (fun k hk hs => hDS k hk hs)
  have hFr3 : Fr (Ix own) w0 w3 := (hfr.mono (fun _ _ h => h.elim)).trans hfr3 (fun k _ hk => hk.elim (fun e => e ▸ Ix_of hidx.oa (by simp) (by simp)) (fun e => Ix_of e (by simp [labA]) (by simp [labA])))
  have hop3 := hox.1 _ _ hop
  have hExt3 : Ext own own2 w0.heap.size := (hox.ext (by simp [labA]) (by simp [labA])).trans (Ext.refl _ _) (Nat.le_refl _) |> fun e => ⟨e.1, fun g l hg => (e.2 g l hg).elim .inl (fun h => .inr ⟨Nat.le_trans hfr.size h.1, h.2⟩)⟩
  have hot3 : ∀ l, own2 tb = some l → False := fun l hl => by
    rcases hox.2 tb l hl with h | h
    · rw [hotb] at h; simp at h
    · omega
  clear HS hm3 hfr3 hfr2 hgrow hown2 hat hlt HP' HE hown1 hnb hsz1 hfr1 S1 S2 S3 hpS htS hidW hpW hT hhW cp ct0 ct1
  go_wp2_with fail
  refine (ownKey_any hh3).mono ?_
  rintro e w4 ⟨rfl, hf4⟩
  rw [hkey]
  simp only [keyPair, kv]
  have hp4 := hf4.keep hp3 (fun h => h)
  have hT4 := hf4.keep hT3 (fun h => h)
  have htl4 := lt_of_heap hT4
  have hpl4 := lt_of_heap hp4
  have ct0 := cell_of 0 hT4 rfl
  have ct1 := cell_of 1 hT4 rfl
  go_wp2_with fail
  have I4 := (I3.keep hf4 (fun _ _ _ h => h)).keep (((Fr.refl No w4).alloc (.cells #[.int .u8 (f1.toNat : Int), .int .u8 (f2.toNat : Int)] 59)).alloc (.cells #[.int .u8 (h.letter.toNat : Int), .int .u8 ((digit h.kids.length).toNat : Int), .int .u8 (f1.toNat : Int), .int .u8 (f2.toNat : Int)] 61)) (fun _ _ _ h => h)
  have hq := heap_alloc_same (w4.alloc (.cells #[.int .u8 (f1.toNat : Int), .int .u8 (f2.toNat : Int)] 59)) (.cells #[.int .u8 (h.letter.toNat : Int), .int .u8 ((digit h.kids.length).toNat : Int), .int .u8 (f1.toNat : Int), .int .u8 (f2.toNat : Int)] 61)
  rw [show (w4.alloc (.cells #[.int .u8 (f1.toNat : Int), .int .u8 (f2.toNat : Int)] 59)).heap.size = w4.heap.size + 1 by simp] at hq
  have hFr5 : Fr No w3 ((w4.alloc (.cells #[.int .u8 (f1.toNat : Int), .int .u8 (f2.toNat : Int)] 59)).alloc (.cells #[.int .u8 (h.letter.toNat : Int), .int .u8 ((digit h.kids.length).toNat : Int), .int .u8 (f1.toNat : Int), .int .u8 (f2.toNat : Int)] 61)) := (hf4.alloc _).alloc _
  have hqs : w3.heap.size ≤ w4.heap.size + 1 := by have := hf4.size; omega
  generalize ((w4.alloc (.cells #[.int .u8 (f1.toNat : Int), .int .u8 (f2.toNat : Int)] 59)).alloc (.cells #[.int .u8 (h.letter.toNat : Int), .int .u8 ((digit h.kids.length).toNat : Int), .int .u8 (f1.toNat : Int), .int .u8 (f2.toNat : Int)] 61)) = W5 at *
  generalize w4.heap.size + 1 = qb at *
  have hp5 := hFr5.keep hp3 (fun h => h)
  have hT5 := hFr5.keep hT3 (fun h => h)
  clear hp4 hT4 hp3 hT3 ct0 ct1
  have cp3 : W5.cell? ⟨p, 3, none⟩ = some (.map (some bk)) := cell_of 3 hp5 rfl
  have cp2 : W5.cell? ⟨p, 2, none⟩ = some (.map (some bo)) := cell_of 2 hp5 rfl
  have ct0 := cell_of 0 hT5 rfl
  have ct1 := cell_of 1 hT5 rfl
  have cq0 := cell_of 0 hq rfl
  have cq1 := cell_of 1 hq rfl
  have cq2 := cell_of 2 hq rfl
  have cq3 := cell_of 3 hq rfl
  obtain ⟨bb, bcap, L1, _, hbk5⟩ := look_any key4 I4.mK ((h.letter, digit h.kids.length), (f1, f2))
  have L1' := fun n => L1 (W5.drewN n) rfl
  rw [kv4_eq] at L1'
  have hlenO0 := hlenO (h.letter, digit h.kids.length)
  have hlenK0 := hlenK ((h.letter, digit h.kids.length), (f1, f2))
  obtain ⟨ob, ocap, _, L2, hbo5⟩ := look_any key2 I4.mO (h.letter, digit h.kids.length)
  cases hfK : fK ((h.letter, digit h.kids.length), (f1, f2)) with
  | none =>
    rw [hfK] at L1'
    simp only [Option.isSome_none] at L1'
    go_quiet (fail)
    go_wp2_with fail
    generalize hW6 : World.drewN W5 _ = W6
    have F6 : Fr No W5 W6 := hW6 ▸ (Fr.refl No W5).drewN _
    have L2' := L2 W6.drew (by rw [← hW6]; rfl)
    have L2'' := L2 W6 (by rw [← hW6]; rfl)
    rw [kv2_eq] at L2' L2''
    have I6 := I4.keep F6 (fun _ _ _ h => h)
    have hp6 := F6.keep hp5 (fun h => h)
    have hT6 := F6.keep hT5 (fun h => h)
    have hq6 := F6.keep hq (fun h => h)
    have hbo6 := hbo5.keep F6 (fun _ _ h => h) (fun _ h => h)
    generalize hidsO : (fO (h.letter, digit h.kids.length)).getD [] = idsO at *
    have S6 : W6.cell? ⟨p, 2, none⟩ = some (.map (some bo)) ∧ W6.cell? ⟨tb, 0, none⟩ = some (.int .u8 (h.letter.toNat : Int)) ∧ W6.cell? ⟨tb, 1, none⟩ = some (.int .u8 ((digit h.kids.length).toNat : Int)) :=
      ⟨cell_of 2 hp6 rfl, cell_of 0 hT6 rfl, cell_of 1 hT6 rfl⟩
    obtain ⟨cp6, ct60, ct61⟩ := S6
    go_region_held3 (fun w' => w'.cell? ⟨p, 2, none⟩ = some (.map (some bo)) ∧ w'.cell? ⟨tb, 0, none⟩ = some (.int .u8 (h.letter.toNat : Int)) ∧ w'.cell? ⟨tb, 1, none⟩ = some (.int .u8 ((digit h.kids.length).toNat : Int)))
      (first | exact S6 | exact S7 | go_keep)
      ((refine step_copy (by rfl) _ _ (by rfl) (by rfl) (ids := idsO) (by rfl) hbo6.1 (by omega) ?_; intro bs7 cap7 w7 hown7 hgrow7 hat7; have F7 : Fr No W6 w7 := ((Fr.refl No W6).drew).grown hgrow7 (fun k e => by cases e); have S7 : w7.cell? ⟨p, 2, none⟩ = some (.map (some bo)) ∧ w7.cell? ⟨tb, 0, none⟩ = some (.int .u8 (h.letter.toNat : Int)) ∧ w7.cell? ⟨tb, 1, none⟩ = some (.int .u8 ((digit h.kids.length).toNat : Int)) := ⟨cell_of 2 (F7.keep hp6 (fun h => h)) rfl, cell_of 0 (F7.keep hT6 (fun h => h)) rfl, cell_of 1 (F7.keep hT6 (fun h => h)) rfl⟩))
    obtain ⟨own8, I8, X67, hbk8⟩ := I6.fresh ((h.letter, digit h.kids.length), (f1, f2)) F7 hown7 (fun g hg => ⟨by rw [(hat7 g hg).1]; exact Nat.le_refl _, (hat7 g hg).2⟩)
    have hp8 := F7.keep hp6 (fun h => h)
    have hq8 := F7.keep hq6 (fun h => h)
    have hF36 : Fr No w3 W6 := hFr5.trans F6 (fun _ _ h => h)
    have F8 : Fr (Ix own) w0 w7 := hFr3.trans ((hF36.trans F7 (fun _ _ h => h)).mono (S' := No) (fun _ _ h => h)) (fun _ _ h => h.elim)
    have X8 : Ext own own8 w0.heap.size := hExt3.trans X67 (Nat.le_trans hFr3.size hF36.size)
    have hop8 := X67.1 _ _ hop3
    have hql6 := lt_of_heap hq6
    have hoq8 : ∀ l, own8 qb = some l → False := fun l hl => by
      rcases X67.2 qb l hl with h | h
      · have := I3.lt _ _ h; omega
      · omega
    have hlenX : idsO.length ≤ 100 := hlenO0
    clear hbk5 L1' L1 L2 L2' L2'' hown7 hgrow7 hat7 cp3 cp2 ct0 ct1 cq0 cq1 cq2 cq3 S7 cp6 ct60 ct61 hbo6 I6 I4 hbo5
    generalize w7 = W8 at *
    generalize idsO = idsX at *
    go_wp2_with fail
    have hpS : ¬ (p = bk ∨ own8 p = some (labK ((h.letter, digit h.kids.length), (f1, f2)))) := (fun e => e.elim (fun e => by rw [e, I8.ok] at hop8; simp at hop8) (fun e => by rw [hop8] at e; simp [labK] at e))
    have hqS : ¬ (qb = bk ∨ own8 qb = some (labK ((h.letter, digit h.kids.length), (f1, f2)))) := (fun e => e.elim (fun e => by have := I8.ok; rw [← e] at this; exact hoq8 _ this) (fun e => hoq8 _ e))
    obtain ⟨hown9, HP9⟩ := append_update key4 labK_inj I8.mK ((h.letter, digit h.kids.length), (f1, f2)) id I8.ok (fun k => by simp [labK]) I8.lt hbk8 (((Fr.refl No W8).alloc (.cells #[.int .i8 (id : Int)] 32)).drew)
    obtain ⟨HP9', _⟩ : Hid _ ∧ True := ⟨HP9, trivial⟩
    clear HP9
    have hnb9 : (W8.alloc (.cells #[.int .i8 (id : Int)] 32)).drew.heap[W8.heap.size]? = some (.cells #[.int .i8 (id : Int)] 32) := heap_alloc_same _ _
    have cp83 : W8.cell? ⟨p, 3, none⟩ = some (.map (some bk)) := cell_of 3 hp8 rfl
    have cq80 := cell_of 0 hq8 rfl
    have cq81 := cell_of 1 hq8 rfl
    have cq82 := cell_of 2 hq8 rfl
    have cq83 := cell_of 3 hq8 rfl
    have hpl8 := lt_of_heap hp8
    have hql8 := lt_of_heap hq8
    have S8 : (W8.alloc (.cells #[.int .i8 (id : Int)] 32)).cell? ⟨p, 3, none⟩ = some (.map (some bk)) ∧ (W8.alloc (.cells #[.int .i8 (id : Int)] 32)).cell? ⟨qb, 0, none⟩ = some (.int .u8 (h.letter.toNat : Int)) ∧ (W8.alloc (.cells #[.int .i8 (id : Int)] 32)).cell? ⟨qb, 1, none⟩ = some (.int .u8 ((digit h.kids.length).toNat : Int)) ∧ (W8.alloc (.cells #[.int .i8 (id : Int)] 32)).cell? ⟨qb, 2, none⟩ = some (.int .u8 (f1.toNat : Int)) ∧ (W8.alloc (.cells #[.int .i8 (id : Int)] 32)).cell? ⟨qb, 3, none⟩ = some (.int .u8 (f2.toNat : Int)) :=
      ⟨cell_of 3 (heap_alloc_keep hp8) rfl, cell_of 0 (heap_alloc_keep hq8) rfl, cell_of 1 (heap_alloc_keep hq8) rfl, cell_of 2 (heap_alloc_keep hq8) rfl, cell_of 3 (heap_alloc_keep hq8) rfl⟩
    go_region_held3 (fun w' => w'.cell? ⟨p, 3, none⟩ = some (.map (some bk)) ∧ w'.cell? ⟨qb, 0, none⟩ = some (.int .u8 (h.letter.toNat : Int)) ∧ w'.cell? ⟨qb, 1, none⟩ = some (.int .u8 ((digit h.kids.length).toNat : Int)) ∧ w'.cell? ⟨qb, 2, none⟩ = some (.int .u8 (f1.toNat : Int)) ∧ w'.cell? ⟨qb, 3, none⟩ = some (.int .u8 (f2.toNat : Int)))
      (first | exact S8 | exact S9 | exact S10 | go_keep)
      ((refine step_append_lies _ (by rfl) _ _ 30 (by rfl) 0 32 i0 (.int .i8 0) 1 1 Try.underlying30 hi hz0 hz1 hz2 rfl (by omega) _ idsX.length (i8s idsX) (by rfl) hown9 ⟨W8.heap.size, 0, none⟩ 1 1 [.int .i8 (id : Int)] (by rfl) (by rfl) (World.news_of_block (cs := #[.int .i8 (id : Int)]) hnb9) (by simp [Value.oneCell']) (by omega) (by unfold maxLen; omega) (by omega) (Nat.zero_le _) (W8.heap.size + 1) (by simp) ?_; intro g9 cap9 w9 hown9' hgrow9 hat9 hlt9; obtain ⟨own9, w10, HS9, hm9, hfr9, hfr10, hox9⟩ := HP9'.out g9 cap9 _ w9 hown9' hgrow9 hat9 (by omega) hlt9; rw [kv4_eq] at HS9; have S9 : w9.cell? ⟨p, 3, none⟩ = some (.map (some bk)) ∧ w9.cell? ⟨qb, 0, none⟩ = some (.int .u8 (h.letter.toNat : Int)) ∧ w9.cell? ⟨qb, 1, none⟩ = some (.int .u8 ((digit h.kids.length).toNat : Int)) ∧ w9.cell? ⟨qb, 2, none⟩ = some (.int .u8 (f1.toNat : Int)) ∧ w9.cell? ⟨qb, 3, none⟩ = some (.int .u8 (f2.toNat : Int)) := ⟨cell_of 3 (hfr9.keep hp8 hpS) rfl, cell_of 0 (hfr9.keep hq8 hqS) rfl, cell_of 1 (hfr9.keep hq8 hqS) rfl, cell_of 2 (hfr9.keep hq8 hqS) rfl, cell_of 3 (hfr9.keep hq8 hqS) rfl⟩; have S10 : w10.cell? ⟨p, 3, none⟩ = some (.map (some bk)) ∧ w10.cell? ⟨qb, 0, none⟩ = some (.int .u8 (h.letter.toNat : Int)) ∧ w10.cell? ⟨qb, 1, none⟩ = some (.int .u8 ((digit h.kids.length).toNat : Int)) ∧ w10.cell? ⟨qb, 2, none⟩ = some (.int .u8 (f1.toNat : Int)) ∧ w10.cell? ⟨qb, 3, none⟩ = some (.int .u8 (f2.toNat : Int)) := ⟨cell_of 3 (hfr10.keep hp8 hpS) rfl, cell_of 0 (hfr10.keep hq8 hqS) rfl, cell_of 1 (hfr10.keep hq8 hqS) rfl, cell_of 2 (hfr10.keep hq8 hqS) rfl, cell_of 3 (hfr10.keep hq8 hqS) rfl⟩))
    have I10 := I8.updK hm9 hfr10 hox9
    have hF10 : Fr (Ix own) w0 w10 := F8.trans hfr10 (fun k hk hS => Ix.back X8 hk (hS.elim (fun e => e ▸ Ix_of I8.ok (by simp) (by simp)) (fun e => Ix_of e (by simp [labK]) (by simp [labK]))))
    have hX10 : Ext own own9 w0.heap.size := X8.trans (hox9.ext (by simp [labK]) (by simp [labK])) F8.size
    go_wp2_with fail
    refine bodyPost_ret (v := .tuple #[]) (by simp [results, Try.results21, go_sem]) rfl ?_
    refine ⟨rfl, own9, ?_, hF10, hX10⟩
    rw [hfK, Option.getD_none, hidsO]
    exact I10
  | some idsK =>
    rw [hfK] at L1' hbk5
    simp only [Option.isSome_some] at L1'
    go_quiet (fail)
    go_wp2_with fail
    generalize hW6 : World.drewN W5 _ = W8
    have F6 : Fr No W5 W8 := hW6 ▸ (Fr.refl No W5).drewN _
    have I8 := I4.keep F6 (fun _ _ _ h => h)
    have hp8 := F6.keep hp5 (fun h => h)
    have hq8 := F6.keep hq (fun h => h)
    have hbk8 := hbk5.keep F6 (fun _ _ h => h) (fun _ h => h)
    have F8 : Fr (Ix own) w0 W8 := hFr3.trans ((hFr5.trans F6 (fun _ _ h => h)).mono (S' := No) (fun _ _ h => h)) (fun _ _ h => h.elim)
    have X8 := hExt3
    have hop8 := hop3
    have hoq8 : ∀ l, own2 qb = some l → False := fun l hl => by have := I3.lt _ _ hl; omega
    rw [hfK, Option.getD_some] at hlenK0
    have hlenX : idsK.length ≤ 100 := hlenK0
    clear hbk5 L1' L1 L2 cp3 cp2 ct0 ct1 cq0 cq1 cq2 cq3 I4 hbo5
    simp only [Option.getD_some] at hbk8
    generalize idsK = idsX at *
    have hpS : ¬ (p = bk ∨ own2 p = some (labK ((h.letter, digit h.kids.length), (f1, f2)))) := (fun e => e.elim (fun e => by rw [e, I8.ok] at hop8; simp at hop8) (fun e => by rw [hop8] at e; simp [labK] at e))
    have hqS : ¬ (qb = bk ∨ own2 qb = some (labK ((h.letter, digit h.kids.length), (f1, f2)))) := (fun e => e.elim (fun e => by have := I8.ok; rw [← e] at this; exact hoq8 _ this) (fun e => hoq8 _ e))
    obtain ⟨hown9, HP9⟩ := append_update key4 labK_inj I8.mK ((h.letter, digit h.kids.length), (f1, f2)) id I8.ok (fun k => by simp [labK]) I8.lt hbk8 (((Fr.refl No W8).alloc (.cells #[.int .i8 (id : Int)] 32)).drew)
    obtain ⟨HP9', _⟩ : Hid _ ∧ True := ⟨HP9, trivial⟩
    clear HP9
    have hnb9 : (W8.alloc (.cells #[.int .i8 (id : Int)] 32)).drew.heap[W8.heap.size]? = some (.cells #[.int .i8 (id : Int)] 32) := heap_alloc_same _ _
    have cp83 : W8.cell? ⟨p, 3, none⟩ = some (.map (some bk)) := cell_of 3 hp8 rfl
    have cq80 := cell_of 0 hq8 rfl
    have cq81 := cell_of 1 hq8 rfl
    have cq82 := cell_of 2 hq8 rfl
    have cq83 := cell_of 3 hq8 rfl
    have hpl8 := lt_of_heap hp8
    have hql8 := lt_of_heap hq8
    have S8 : (W8.alloc (.cells #[.int .i8 (id : Int)] 32)).cell? ⟨p, 3, none⟩ = some (.map (some bk)) ∧ (W8.alloc (.cells #[.int .i8 (id : Int)] 32)).cell? ⟨qb, 0, none⟩ = some (.int .u8 (h.letter.toNat : Int)) ∧ (W8.alloc (.cells #[.int .i8 (id : Int)] 32)).cell? ⟨qb, 1, none⟩ = some (.int .u8 ((digit h.kids.length).toNat : Int)) ∧ (W8.alloc (.cells #[.int .i8 (id : Int)] 32)).cell? ⟨qb, 2, none⟩ = some (.int .u8 (f1.toNat : Int)) ∧ (W8.alloc (.cells #[.int .i8 (id : Int)] 32)).cell? ⟨qb, 3, none⟩ = some (.int .u8 (f2.toNat : Int)) :=
      ⟨cell_of 3 (heap_alloc_keep hp8) rfl, cell_of 0 (heap_alloc_keep hq8) rfl, cell_of 1 (heap_alloc_keep hq8) rfl, cell_of 2 (heap_alloc_keep hq8) rfl, cell_of 3 (heap_alloc_keep hq8) rfl⟩
    go_region_held3 (fun w' => w'.cell? ⟨p, 3, none⟩ = some (.map (some bk)) ∧ w'.cell? ⟨qb, 0, none⟩ = some (.int .u8 (h.letter.toNat : Int)) ∧ w'.cell? ⟨qb, 1, none⟩ = some (.int .u8 ((digit h.kids.length).toNat : Int)) ∧ w'.cell? ⟨qb, 2, none⟩ = some (.int .u8 (f1.toNat : Int)) ∧ w'.cell? ⟨qb, 3, none⟩ = some (.int .u8 (f2.toNat : Int)))
      (first | exact S8 | exact S9 | exact S10 | go_keep)
      ((refine step_append_lies _ (by rfl) _ _ 30 (by rfl) 0 32 i0 (.int .i8 0) 1 1 Try.underlying30 hi hz0 hz1 hz2 rfl (by omega) _ idsX.length (i8s idsX) (by rfl) hown9 ⟨W8.heap.size, 0, none⟩ 1 1 [.int .i8 (id : Int)] (by rfl) (by rfl) (World.news_of_block (cs := #[.int .i8 (id : Int)]) hnb9) (by simp [Value.oneCell']) (by omega) (by unfold maxLen; omega) (by omega) (Nat.zero_le _) (W8.heap.size + 1) (by simp) ?_; intro g9 cap9 w9 hown9' hgrow9 hat9 hlt9; obtain ⟨own9, w10, HS9, hm9, hfr9, hfr10, hox9⟩ := HP9'.out g9 cap9 _ w9 hown9' hgrow9 hat9 (by omega) hlt9; rw [kv4_eq] at HS9; have S9 : w9.cell? ⟨p, 3, none⟩ = some (.map (some bk)) ∧ w9.cell? ⟨qb, 0, none⟩ = some (.int .u8 (h.letter.toNat : Int)) ∧ w9.cell? ⟨qb, 1, none⟩ = some (.int .u8 ((digit h.kids.length).toNat : Int)) ∧ w9.cell? ⟨qb, 2, none⟩ = some (.int .u8 (f1.toNat : Int)) ∧ w9.cell? ⟨qb, 3, none⟩ = some (.int .u8 (f2.toNat : Int)) := ⟨cell_of 3 (hfr9.keep hp8 hpS) rfl, cell_of 0 (hfr9.keep hq8 hqS) rfl, cell_of 1 (hfr9.keep hq8 hqS) rfl, cell_of 2 (hfr9.keep hq8 hqS) rfl, cell_of 3 (hfr9.keep hq8 hqS) rfl⟩; have S10 : w10.cell? ⟨p, 3, none⟩ = some (.map (some bk)) ∧ w10.cell? ⟨qb, 0, none⟩ = some (.int .u8 (h.letter.toNat : Int)) ∧ w10.cell? ⟨qb, 1, none⟩ = some (.int .u8 ((digit h.kids.length).toNat : Int)) ∧ w10.cell? ⟨qb, 2, none⟩ = some (.int .u8 (f1.toNat : Int)) ∧ w10.cell? ⟨qb, 3, none⟩ = some (.int .u8 (f2.toNat : Int)) := ⟨cell_of 3 (hfr10.keep hp8 hpS) rfl, cell_of 0 (hfr10.keep hq8 hqS) rfl, cell_of 1 (hfr10.keep hq8 hqS) rfl, cell_of 2 (hfr10.keep hq8 hqS) rfl, cell_of 3 (hfr10.keep hq8 hqS) rfl⟩))
    have I10 := I8.updK hm9 hfr10 hox9
    have hF10 : Fr (Ix own) w0 w10 := F8.trans hfr10 (fun k hk hS => Ix.back X8 hk (hS.elim (fun e => e ▸ Ix_of I8.ok (by simp) (by simp)) (fun e => Ix_of e (by simp [labK]) (by simp [labK]))))
    have hX10 : Ext own own9 w0.heap.size := X8.trans (hox9.ext (by simp [labK]) (by simp [labK])) F8.size
    go_wp2_with fail
    refine bodyPost_ret (v := .tuple #[]) (by simp [results, Try.results21, go_sem]) rfl ?_
    refine ⟨rfl, own9, ?_, hF10, hX10⟩
    rw [hfK, Option.getD_some]
    exact I10

end Go.Proofs.Qxb6500302a
