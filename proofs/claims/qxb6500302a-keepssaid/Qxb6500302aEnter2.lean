import Derived.Test.Qxb6500302aIdx5
import Derived.Test.Qxb6500302aEnter1
namespace Go.Proofs.Qxb6500302a
open Go.RowKit
set_option linter.unusedSimpArgs false
set_option linter.unusedVariables false
attribute [local go_sem] ta106_106 ta106_112 ta106_80 ta112_106 ta112_112 ta112_80 ta80_106 ta80_112 ta80_80 ta80_80'
attribute [local go_sem ↓] Go.wp_at_zero Go.wp_at_succ

set_option maxRecDepth 40000 in
set_option maxHeartbeats 8000000 in
theorem enter_open {w : World} {p ba bo bk m : Nat} {own : Own} {D : Nat → Prop} {vc : Value} {h : Tm} {ts : List Tm} {id : Nat} {sl : Value} {fA fO : K2 → Option (List Nat)} {fK : K4 → Option (List Nat)}
    (hp : w.heap[p]? = some (.cells #[sl, .map (some ba), .map (some bo), .map (some bk)] 52)) (hop : own p = some (0, z4)) (hid : id ≤ 100)
    (hc : ClauseN w D m vc (tCall 58 (h :: ts))) (hk : h.kind = 2) (hD : ∀ k, D k → own k = none) (hidx : Idx w own ba bo bk fA fO fK) (hlenA : ∀ k, ((fA k).getD []).length ≤ 100) (hlenO : ∀ k, ((fO k).getD []).length ≤ 100) (hlenK : ∀ k, ((fK k).getD []).length ≤ 100)
    (hkey : ownKeyOf h = none) :
    Calls Try.prog 21 #[.pointer (some ⟨p, 0, none⟩), .int .i8 (id : Int), vc] w (EnterPost own ba bo bk (bump fA (h.letter, digit h.kids.length) id) (bump fO (h.letter, digit h.kids.length) id) (fun k' => if k'.1 = (h.letter, digit h.kids.length) then (fK k').map (· ++ [id]) else fK k') w) := by
  go_enter Try.func21, Try.ntmps21
  go_wp2_with fail
  refine (head_any hc hk).mono ?_
  rintro e w0 ⟨vh, mh, rfl, hh, rfl⟩
  go_wp2_with fail
  refine (functor_any hh).mono ?_
  rintro e w1 ⟨rfl, hf1⟩
  unfold kv
  go_wp2_with fail
  have hfr : Fr No w0 (w1.alloc (.cells #[.int .u8 (h.letter.toNat : Int), .int .u8 ((digit h.kids.length).toNat : Int)] 59)) := hf1.alloc _
  have hT : (w1.alloc (.cells #[.int .u8 (h.letter.toNat : Int), .int .u8 ((digit h.kids.length).toNat : Int)] 59)).heap[w1.heap.size]? = some (.cells #[.int .u8 (h.letter.toNat : Int), .int .u8 ((digit h.kids.length).toNat : Int)] 59) := heap_alloc_same _ _
  have htb : w0.heap.size ≤ w1.heap.size := hf1.size
  generalize (w1.alloc (.cells #[.int .u8 (h.letter.toNat : Int), .int .u8 ((digit h.kids.length).toNat : Int)] 59)) = W at *
  generalize w1.heap.size = tb at *
  have hpW := hfr.keep hp (fun h => h)
  have hidW := hidx.keep hfr (fun _ _ _ h => h)
  have hhW := hh.kept hfr (fun _ _ h => h)
  have hotb : own tb = none := by
    cases e : own tb with
    | none => rfl
    | some l => have := hidx.lt tb l e; omega
  -- p.all[pred] = append(p.all[pred], id)
  obtain ⟨E1, clock1, bs, cap, W1, HE, hown1, hnb, hsz1, hfr1, HP⟩ := append_entry key2 labA_inj hidW.mA (h.letter, digit h.kids.length) id hidW.oa (fun k => by simp [labA]) hidW.lt
  obtain ⟨HP', _⟩ : Hid _ ∧ True := ⟨HP, trivial⟩
  clear HP
  rw [kv2_eq] at HE
  have cp : W.cell? ⟨p, 1, none⟩ = some (.map (some ba)) := cell_of 1 hpW rfl
  have ct0 := cell_of 0 hT rfl
  have ct1 := cell_of 1 hT rfl
  have hpl := lt_of_heap hpW
  have htl := lt_of_heap hT
  have hpb : ¬ p = ba := by intro e; subst e; rw [hidx.oa] at hop; simp at hop
  have htb' : ¬ tb = ba := by have := hidx.lt ba _ hidx.oa; omega
  obtain ⟨i0, hi, hz0, hz1, hz2⟩ := info_parts Try.info32
  have hlen0 := hlenA (h.letter, digit h.kids.length)
  generalize ((fA (h.letter, digit h.kids.length)).getD []) = ids0 at *
  have S1 : W1.cell? ⟨p, 1, none⟩ = some (.map (some ba)) ∧ W1.cell? ⟨tb, 0, none⟩ = some (.int .u8 (h.letter.toNat : Int)) ∧ W1.cell? ⟨tb, 1, none⟩ = some (.int .u8 ((digit h.kids.length).toNat : Int)) :=
    ⟨cell_of 1 (hfr1.keep hpW hpb) rfl, cell_of 0 (hfr1.keep hT htb') rfl, cell_of 1 (hfr1.keep hT htb') rfl⟩
  go_region_held3 (fun w' => w'.cell? ⟨p, 1, none⟩ = some (.map (some ba)) ∧ w'.cell? ⟨tb, 0, none⟩ = some (.int .u8 (h.letter.toNat : Int)) ∧ w'.cell? ⟨tb, 1, none⟩ = some (.int .u8 ((digit h.kids.length).toNat : Int)))
    (first | exact S1 | exact S2 | exact S3 | go_keep)
    ((refine step_append_lies _ (by rfl) _ _ 30 (by rfl) 0 32 i0 (.int .i8 0) 1 1 Try.underlying30 hi hz0 hz1 hz2 rfl (by omega) _ ids0.length (i8s ids0) (by rfl) hown1 ⟨W.heap.size, 0, none⟩ 1 1 [.int .i8 (id : Int)] (by rfl) (by rfl) (World.news_of_block (cs := #[.int .i8 (id : Int)]) hnb) (by simp [Value.oneCell']) (by omega) (by unfold maxLen; omega) (by omega) (Nat.zero_le _) (W.heap.size + 1) hsz1 ?_; intro g cap' w2 hown2 hgrow hat hlt; obtain ⟨own2, w3, HS, hm3, hfr2, hfr3, hox⟩ := HP'.out g cap' w2 hown2 hgrow hat hlt; have hpS : ¬ (p = ba ∨ own p = some (labA (h.letter, digit h.kids.length))) := (fun e => e.elim hpb (fun e => by rw [hop] at e; simp [labA] at e)); have htS : ¬ (tb = ba ∨ own tb = some (labA (h.letter, digit h.kids.length))) := (fun e => e.elim htb' (fun e => by rw [hotb] at e; simp at e)); have S2 : w2.cell? ⟨p, 1, none⟩ = some (.map (some ba)) ∧ w2.cell? ⟨tb, 0, none⟩ = some (.int .u8 (h.letter.toNat : Int)) ∧ w2.cell? ⟨tb, 1, none⟩ = some (.int .u8 ((digit h.kids.length).toNat : Int)) := ⟨cell_of 1 (hfr2.keep hpW hpS) rfl, cell_of 0 (hfr2.keep hT htS) rfl, cell_of 1 (hfr2.keep hT htS) rfl⟩; have S3 : w3.cell? ⟨p, 1, none⟩ = some (.map (some ba)) ∧ w3.cell? ⟨tb, 0, none⟩ = some (.int .u8 (h.letter.toNat : Int)) ∧ w3.cell? ⟨tb, 1, none⟩ = some (.int .u8 ((digit h.kids.length).toNat : Int)) := ⟨cell_of 1 (hfr3.keep hpW hpS) rfl, cell_of 0 (hfr3.keep hT htS) rfl, cell_of 1 (hfr3.keep hT htS) rfl⟩))
  have I3 := hidW.updA hm3 hfr3 hox
  have hp3 := hfr3.keep hpW hpS
  have hT3 := hfr3.keep hT htS
  have hDS : ∀ k, D k → ¬ (k = ba ∨ own k = some (labA (h.letter, digit h.kids.length))) := fun k hk e => e.elim (fun e => by have := hidx.oa; rw [← e, hD k hk] at this; simp at this) (fun e => by rw [hD k hk] at e; simp at e)
  have hh3 := hhW.kept hfr3 (fun k hk hs => hDS k hk hs)
  have hFr3 : Fr (Ix own) w0 w3 := (hfr.mono (fun _ _ h => h.elim)).trans hfr3 (fun k _ hk => hk.elim (fun e => e ▸ Ix_of hidx.oa (by simp) (by simp)) (fun e => Ix_of e (by simp [labA]) (by simp [labA])))
  have hop3 := hox.1 _ _ hop
  have hExt3 : Ext own own2 w0.heap.size := (hox.ext (by simp [labA]) (by simp [labA])).trans (Ext.refl _ _) (Nat.le_refl _) |> fun e => ⟨e.1, fun g l hg => (e.2 g l hg).elim .inl (fun h => .inr ⟨Nat.le_trans hfr.size h.1, h.2⟩)⟩
  have hot3 : ∀ l, own2 tb = some l → False := fun l hl => by
    rcases hox.2 tb l hl with h | h
    · rw [hotb] at h; simp at h
    · omega
  clear HS hm3 hfr3 hfr2 hgrow hown2 hat hlt HP' HE hown1 hnb hsz1 hfr1 S1 S2 S3 hpS htS hidW hpW hT hhW cp ct0 ct1
  go_wp2_with fail
  refine (ownKey_any hh3).mono ?_
  rintro e w4 ⟨rfl, hf4⟩
  rw [hkey]
  simp only [keyPair, kv]
  have hp4 := hf4.keep hp3 (fun h => h)
  have hT4 := hf4.keep hT3 (fun h => h)
  have htl4 := lt_of_heap hT4
  have hpl4 := lt_of_heap hp4
  have ct0 := cell_of 0 hT4 rfl
  have ct1 := cell_of 1 hT4 rfl
  go_wp2_with fail
  have I4 := (I3.keep hf4 (fun _ _ _ h => h)).keep ((Fr.refl No w4).alloc (.cells #[.int .u8 0, .int .u8 0] 59)) (fun _ _ _ h => h)
  have hFr5 : Fr No w3 (w4.alloc (.cells #[.int .u8 0, .int .u8 0] 59)) := hf4.alloc _
  generalize (w4.alloc (.cells #[.int .u8 0, .int .u8 0] 59)) = W5 at *
  have hp5 := hFr5.keep hp3 (fun h => h)
  have hT5 := hFr5.keep hT3 (fun h => h)
  clear hp4 hT4 hp3 hT3 ct0 ct1
  -- p.open[pred] = append(p.open[pred], id)
  obtain ⟨E5, clock5, bs5, cap5, W6, HE, hown6, hnb6, hsz6, hfr6, HP⟩ := append_entry key2 labO_inj I4.mO (h.letter, digit h.kids.length) id I4.oo (fun k => by simp [labO]) I4.lt
  obtain ⟨HP', _⟩ : Hid _ ∧ True := ⟨HP, trivial⟩
  clear HP
  rw [kv2_eq] at HE
  have cp : W5.cell? ⟨p, 2, none⟩ = some (.map (some bo)) := cell_of 2 hp5 rfl
  have ct0 := cell_of 0 hT5 rfl
  have ct1 := cell_of 1 hT5 rfl
  have hpl5 := lt_of_heap hp5
  have htl5 := lt_of_heap hT5
  have hpb5 : ¬ p = bo := by intro e; subst e; rw [I4.oo] at hop3; simp at hop3
  have htb5 : ¬ tb = bo := by intro e; subst e; exact hot3 _ I4.oo
  have hlen5 := hlenO (h.letter, digit h.kids.length)
  generalize ((fO (h.letter, digit h.kids.length)).getD []) = ids5 at *
  have S1 : W6.cell? ⟨p, 2, none⟩ = some (.map (some bo)) ∧ W6.cell? ⟨tb, 0, none⟩ = some (.int .u8 (h.letter.toNat : Int)) ∧ W6.cell? ⟨tb, 1, none⟩ = some (.int .u8 ((digit h.kids.length).toNat : Int)) :=
    ⟨cell_of 2 (hfr6.keep hp5 hpb5) rfl, cell_of 0 (hfr6.keep hT5 htb5) rfl, cell_of 1 (hfr6.keep hT5 htb5) rfl⟩
  go_region_held3 (fun w' => w'.cell? ⟨p, 2, none⟩ = some (.map (some bo)) ∧ w'.cell? ⟨tb, 0, none⟩ = some (.int .u8 (h.letter.toNat : Int)) ∧ w'.cell? ⟨tb, 1, none⟩ = some (.int .u8 ((digit h.kids.length).toNat : Int)))
    (first | exact S1 | exact S2 | exact S3 | go_keep)
    ((refine step_append_lies _ (by rfl) _ _ 30 (by rfl) 0 32 i0 (.int .i8 0) 1 1 Try.underlying30 hi hz0 hz1 hz2 rfl (by omega) _ ids5.length (i8s ids5) (by rfl) hown6 ⟨W5.heap.size, 0, none⟩ 1 1 [.int .i8 (id : Int)] (by rfl) (by rfl) (World.news_of_block (cs := #[.int .i8 (id : Int)]) hnb6) (by simp [Value.oneCell']) (by omega) (by unfold maxLen; omega) (by omega) (Nat.zero_le _) (W5.heap.size + 1) hsz6 ?_; intro g7 cap7 w7 hown7 hgrow7 hat7 hlt7; obtain ⟨own7, w8, HS, hm8, hfr7, hfr8, hox8⟩ := HP'.out g7 cap7 w7 hown7 hgrow7 hat7 hlt7; have hpS : ¬ (p = bo ∨ own2 p = some (labO (h.letter, digit h.kids.length))) := (fun e => e.elim hpb5 (fun e => by rw [hop3] at e; simp [labO] at e)); have htS : ¬ (tb = bo ∨ own2 tb = some (labO (h.letter, digit h.kids.length))) := (fun e => e.elim htb5 (fun e => hot3 _ e)); have S2 : w7.cell? ⟨p, 2, none⟩ = some (.map (some bo)) ∧ w7.cell? ⟨tb, 0, none⟩ = some (.int .u8 (h.letter.toNat : Int)) ∧ w7.cell? ⟨tb, 1, none⟩ = some (.int .u8 ((digit h.kids.length).toNat : Int)) := ⟨cell_of 2 (hfr7.keep hp5 hpS) rfl, cell_of 0 (hfr7.keep hT5 htS) rfl, cell_of 1 (hfr7.keep hT5 htS) rfl⟩; have S3 : w8.cell? ⟨p, 2, none⟩ = some (.map (some bo)) ∧ w8.cell? ⟨tb, 0, none⟩ = some (.int .u8 (h.letter.toNat : Int)) ∧ w8.cell? ⟨tb, 1, none⟩ = some (.int .u8 ((digit h.kids.length).toNat : Int)) := ⟨cell_of 2 (hfr8.keep hp5 hpS) rfl, cell_of 0 (hfr8.keep hT5 htS) rfl, cell_of 1 (hfr8.keep hT5 htS) rfl⟩))
  have I8 := I4.updO hm8 hfr8 hox8
  have hp8 := hfr8.keep hp5 hpS
  have hT8 := hfr8.keep hT5 htS
  have F8 : Fr (Ix own) w0 w8 := (hFr3.trans hFr5 (fun _ _ h => h.elim)).trans hfr8 (fun k hk hS => Ix.back hExt3 hk (hS.elim (fun e => e ▸ Ix_of I4.oo (by simp) (by simp)) (fun e => Ix_of e (by simp [labO]) (by simp [labO]))))
  have X8 : Ext own own7 w0.heap.size := hExt3.trans (hox8.ext (by simp [labO]) (by simp [labO])) (Nat.le_trans hFr3.size hFr5.size)
  have hop8 := hox8.1 _ _ hop3
  have hot8 : ∀ l, own7 tb = some l → False := fun l hl => by
    rcases hox8.2 tb l hl with h | h
    · exact hot3 _ h
    · omega
  clear HS hm8 hfr8 hfr7 hgrow7 hown7 hat7 hlt7 HP' HE hown6 hnb6 hsz6 hfr6 S1 S2 S3 hpS htS cp ct0 ct1 I4 hidx hh3 hh hc
  -- the range over p.byKey
  obtain ⟨E0, clock, hB0⟩ := I8.mK
  have hB : BMapE kv4 labK w8 own7 bk fK E0 clock := hB0
  have HR := run_rangeE (mt := 49) key4 hB.1
  have cp8 : w8.cell? ⟨p, 3, none⟩ = some (.map (some bk)) := cell_of 3 hp8 rfl
  have hpl8 := lt_of_heap hp8
  have htl8 := lt_of_heap hT8
  go_wp2_with fail
  have hB8 := hB.keep ((Fr.refl No w8).alloc (.mapIter (some bk) clock #[] clock)) (fun h => h) (fun _ _ _ h => h) (fun _ _ h => h)
  have I8' := I8.keep ((Fr.refl No w8).alloc (.mapIter (some bk) clock #[] clock)) (fun _ _ _ h => h)
  have hr9 : (w8.alloc (.mapIter (some bk) clock #[] clock)).heap[w8.heap.size]? = some (.mapIter (some bk) clock #[] clock) := heap_alloc_same _ _
  have hp9 : (w8.alloc (.mapIter (some bk) clock #[] clock)).heap[p]? = _ := heap_alloc_keep hp8
  have hT9 : (w8.alloc (.mapIter (some bk) clock #[] clock)).heap[tb]? = _ := heap_alloc_keep hT8
  have F9 := F8.alloc (.mapIter (some bk) clock #[] clock)
  have hor8 : ∀ l, own7 w8.heap.size = some l → False := fun l hl => by have := I8.lt _ _ hl; omega
  have hr0 : w0.heap.size ≤ w8.heap.size := F8.size
  generalize (w8.alloc (.mapIter (some bk) clock #[] clock)) = W9 at *
  generalize w8.heap.size = rb at *
  have hrbk : rb ≠ bk := fun e => by subst e; exact hor8 _ I8.ok
  have hrp : p ≠ rb := fun e => by subst e; exact hor8 _ hop8
  have hrt : tb ≠ rb := fun e => by subst e; rw [hr9] at hT9; cases hT9
  clear hB0 hB HR cp8 hp8 hT8 I8
  generalize hSS : stampsE E0 = SS at *
  go_loopg [] (leftS SS #[] + 1) (fun gk wr => ∃ (own' : Own) (fKi : K4 → Option (List Nat)) (E : List (K4 × Value × Nat)) (seen : Array Nat), leftS SS seen < gk ∧ stampsE E = SS ∧ BMapE kv4 labK wr own' bk fKi E clock ∧ Idx wr own' ba bo bk (bump fA (h.letter, digit h.kids.length) id) (bump fO (h.letter, digit h.kids.length) id) fKi ∧ Hid (∀ k, fKi k = if k.1 = (h.letter, digit h.kids.length) ∧ vis SS seen k = true then (fK k).map (· ++ [id]) else fK k) ∧ wr.heap[rb]? = some (.mapIter (some bk) clock seen clock) ∧ wr.heap[p]? = some (.cells #[sl, .map (some ba), .map (some bo), .map (some bk)] 52) ∧ wr.heap[tb]? = some (.cells #[.int .u8 (h.letter.toNat : Int), .int .u8 ((digit h.kids.length).toNat : Int)] 59) ∧ Fr (Ix own) w0 wr ∧ Ext own own' w0.heap.size ∧ own' p = some (0, z4) ∧ (∀ l, own' tb = some l → False) ∧ (∀ l, own' rb = some l → False))
  case atStart =>
    refine ⟨own7, fK, E0, #[], Nat.lt_succ_self _, hSS, hB8, I8', ?_, hr9, hp9, hT9, F9, X8, hop8, hot8, hor8⟩
    intro k
    have : vis SS #[] k = false := by unfold vis; rw [List.any_eq_false]; intro e _; simp
    rw [this]; simp
  case round =>
    obtain ⟨own', fKi, E, seen, hgk, hE, hBi, Ii, HF, hri, hpi, hTi, Fi, Xi, hopi, hoti, hori⟩ := hrel
    clear hB8 I8' hr9 hp9 hT9 F9 X8
    have cpi : wr.cell? ⟨p, 3, none⟩ = some (.map (some bk)) := cell_of 3 hpi rfl
    by_cases hleft : leftS SS seen = 0
    · obtain ⟨HN0, hall⟩ := iter_end hBi hri (by rw [hE]; exact hleft) 0
      have HN : ∀ ty, (Instr.next (.pointer (some ⟨rb, 0, none⟩)) false ty).run Try.prog wr = .ok (.tuple #[.bool false]) wr := fun ty => HN0
      go_wp2_with fail
      refine bodyPost_ret (v := .tuple #[]) (by simp [results, Try.results21, go_sem]) rfl ?_
      refine ⟨rfl, own', ?_, Fi, Xi⟩
      have : fKi = fun k' => if k'.1 = (h.letter, digit h.kids.length) then (fK k').map (· ++ [id]) else fK k' := by
        funext k
        rw [HF.out k]
        cases hv : vis SS seen k with
        | true => simp
        | false =>
          have hk := HF.out k
          rw [hv] at hk
          simp at hk
          cases hf : fK k with
          | none => simp
          | some ids =>
            rw [hf] at hk
            have := hall k ids hk
            rw [hE, hv] at this; cases this
      rw [← this]; exact Ii
    · obtain ⟨⟨⟨k1, k2⟩, k3, k4⟩, bs9, cap9, ids9, s, n, HN0, HE, hf9, hbk9, hget, hvis, hvp, hlt9⟩ := iter_step hBi hri hrbk (by rw [hE]; exact hleft) 0
      rw [hE] at hvis hvp hlt9
      rw [kv4_eq] at HN0 HE
      have Fn : Fr (fun x => x = rb) wr (put (wr.drewN n) rb (.mapIter (some bk) clock (seen.push s) clock)) := Fr.put (S := fun x => x = rb) ((Fr.refl _ wr).drewN n) (fun _ => rfl) _
      have hrn : (put (wr.drewN n) rb (.mapIter (some bk) clock (seen.push s) clock)).heap[rb]? = some (.mapIter (some bk) clock (seen.push s) clock) := heap_put_same (w := wr.drewN n) _ hri
      generalize (put (wr.drewN n) rb (.mapIter (some bk) clock (seen.push s) clock)) = wn at *
      have HN : ∀ ty, (Instr.next (.pointer (some ⟨rb, 0, none⟩)) false ty).run Try.prog wr = _ := fun ty => HN0
      have hBn := hBi.keep Fn (fun e => hrbk e.symm) (fun g k hg e => by subst e; exact hori _ hg) (fun _ _ h => h)
      have In := Ii.keep Fn (fun g l hg e => by subst e; exact hori _ hg)
      have hpn := Fn.keep hpi hrp
      have hTn := Fn.keep hTi hrt
      have hbkn := hbk9.keep Fn (fun g hg e => by subst e; exact hori _ hg) (fun _ h => h)
      have Fwn : Fr (Ix own) w0 wn := Fi.trans Fn (fun k hk e => by omega)
      have hpln := lt_of_heap hpn
      have htln := lt_of_heap hTn
      have ctn0 := cell_of 0 hTn rfl
      have ctn1 := cell_of 1 hTn rfl
      have HQ : ∀ w, (Op.equalIn 10000 59 (.agg #[.int .u8 (k1.toNat : Int), .int .u8 (k2.toNat : Int)]) (.agg #[.int .u8 (h.letter.toNat : Int), .int .u8 ((digit h.kids.length).toNat : Int)])).run Try.prog w = _ := fun w => eq59 k1 k2 h.letter (digit h.kids.length) w
      clear HN0 hBi Ii hri hpi hTi hbk9
      cases hq : (decide (k1 = h.letter) && decide (k2 = digit h.kids.length)) with
      | false =>
        rw [hq] at HQ
        go_wp2_with fail
        go_roundg (leftS SS (seen.push s) + 1)
        case measure => omega
        case rel =>
          refine ⟨own', fKi, E, seen.push s, Nat.lt_succ_self _, hE, hBn.keep ((Fr.refl No wn).alloc _) (fun h => h) (fun _ _ _ h => h) (fun _ _ h => h), In.keep ((Fr.refl No wn).alloc _) (fun _ _ _ h => h), ?_, heap_alloc_keep hrn, heap_alloc_keep hpn, heap_alloc_keep hTn, Fwn.alloc _, Xi, hopi, hoti, hori⟩
          intro k
          rw [HF.out k, hvp]
          by_cases hk : k = ((k1, k2), k3, k4)
          · subst hk
            have : ¬ (k1, k2) = (h.letter, digit h.kids.length) := fun e => by cases e; simp at hq
            simp [this]
          · simp [hk]
      | true =>
        rw [hq] at HQ
        have HQ2 : Hid (k1 = h.letter ∧ k2 = digit h.kids.length) := by
          simp only [Bool.and_eq_true, decide_eq_true_eq] at hq
          exact hq
        clear hq
        go_wp2_with fail
        have F10 : Fr No wn (wn.alloc (.cells #[.int .u8 (k1.toNat : Int), .int .u8 (k2.toNat : Int), .int .u8 (k3.toNat : Int), .int .u8 (k4.toNat : Int)] 61)) := (Fr.refl No wn).alloc _
        have hq8 : (wn.alloc (.cells #[.int .u8 (k1.toNat : Int), .int .u8 (k2.toNat : Int), .int .u8 (k3.toNat : Int), .int .u8 (k4.toNat : Int)] 61)).heap[wn.heap.size]? = some (.cells #[.int .u8 (k1.toNat : Int), .int .u8 (k2.toNat : Int), .int .u8 (k3.toNat : Int), .int .u8 (k4.toNat : Int)] 61) := heap_alloc_same _ _
        have hoq8 : ∀ l, own' wn.heap.size = some l → False := fun l hl => by have := In.lt _ _ hl; omega
        generalize (wn.alloc (.cells #[.int .u8 (k1.toNat : Int), .int .u8 (k2.toNat : Int), .int .u8 (k3.toNat : Int), .int .u8 (k4.toNat : Int)] 61)) = W8 at *
        generalize wn.heap.size = qb at *
        have hB8 := hBn.keep F10 (fun h => h) (fun _ _ _ h => h) (fun _ _ h => h)
        have I8 := In.keep F10 (fun _ _ _ h => h)
        have hbk8 := hbkn.keep F10 (fun _ _ h => h) (fun _ h => h)
        have hp8 := F10.keep hpn (fun h => h)
        have hT8 := F10.keep hTn (fun h => h)
        have hr8 := F10.keep hrn (fun h => h)
        have F8' : Fr (Ix own) w0 W8 := Fwn.trans F10 (fun _ _ h => h.elim)
        have hlen9 : ids9.length ≤ 100 := by
          have := hlenK ((k1, k2), k3, k4)
          have h2 := HF.out ((k1, k2), k3, k4)
          rw [hvis, hf9] at h2
          simp at h2
          rw [← h2] at this
          simpa using this
        have hpS : ¬ (p = bk ∨ own' p = some (labK ((k1, k2), k3, k4))) := (fun e => e.elim (fun e => by rw [e, I8.ok] at hopi; simp at hopi) (fun e => by rw [hopi] at e; simp [labK] at e))
        have hqS : ¬ (qb = bk ∨ own' qb = some (labK ((k1, k2), k3, k4))) := (fun e => e.elim (fun e => by have := I8.ok; rw [← e] at this; exact hoq8 _ this) (fun e => hoq8 _ e))
        have htS : ¬ (tb = bk ∨ own' tb = some (labK ((k1, k2), k3, k4))) := (fun e => e.elim (fun e => by have := I8.ok; rw [← e] at this; exact hoti _ this) (fun e => hoti _ e))
        have hrS : ¬ (rb = bk ∨ own' rb = some (labK ((k1, k2), k3, k4))) := (fun e => e.elim hrbk (fun e => hori _ e))
        obtain ⟨hown9, HP9⟩ := append_updateE key4 labK_inj hB8 ((k1, k2), k3, k4) id I8.ok (fun k => by simp [labK]) I8.lt hbk8 hget (((Fr.refl No W8).alloc (.cells #[.int .i8 (id : Int)] 32)).drew)
        obtain ⟨HP9', _⟩ : Hid _ ∧ True := ⟨HP9, trivial⟩
        clear HP9 ctn0 ctn1 cpi HQ HN HE
        have hnb9 : (W8.alloc (.cells #[.int .i8 (id : Int)] 32)).drew.heap[W8.heap.size]? = some (.cells #[.int .i8 (id : Int)] 32) := heap_alloc_same _ _
        have cp83 : W8.cell? ⟨p, 3, none⟩ = some (.map (some bk)) := cell_of 3 hp8 rfl
        have cq80 := cell_of 0 hq8 rfl
        have cq81 := cell_of 1 hq8 rfl
        have cq82 := cell_of 2 hq8 rfl
        have cq83 := cell_of 3 hq8 rfl
        have hpl8 := lt_of_heap hp8
        have hql8 := lt_of_heap hq8
        have S8 : (W8.alloc (.cells #[.int .i8 (id : Int)] 32)).cell? ⟨p, 3, none⟩ = some (.map (some bk)) ∧ (W8.alloc (.cells #[.int .i8 (id : Int)] 32)).cell? ⟨qb, 0, none⟩ = some (.int .u8 (k1.toNat : Int)) ∧ (W8.alloc (.cells #[.int .i8 (id : Int)] 32)).cell? ⟨qb, 1, none⟩ = some (.int .u8 (k2.toNat : Int)) ∧ (W8.alloc (.cells #[.int .i8 (id : Int)] 32)).cell? ⟨qb, 2, none⟩ = some (.int .u8 (k3.toNat : Int)) ∧ (W8.alloc (.cells #[.int .i8 (id : Int)] 32)).cell? ⟨qb, 3, none⟩ = some (.int .u8 (k4.toNat : Int)) :=
          ⟨cell_of 3 (heap_alloc_keep hp8) rfl, cell_of 0 (heap_alloc_keep hq8) rfl, cell_of 1 (heap_alloc_keep hq8) rfl, cell_of 2 (heap_alloc_keep hq8) rfl, cell_of 3 (heap_alloc_keep hq8) rfl⟩
        go_region_held3 (fun w' => w'.cell? ⟨p, 3, none⟩ = some (.map (some bk)) ∧ w'.cell? ⟨qb, 0, none⟩ = some (.int .u8 (k1.toNat : Int)) ∧ w'.cell? ⟨qb, 1, none⟩ = some (.int .u8 (k2.toNat : Int)) ∧ w'.cell? ⟨qb, 2, none⟩ = some (.int .u8 (k3.toNat : Int)) ∧ w'.cell? ⟨qb, 3, none⟩ = some (.int .u8 (k4.toNat : Int)))
          (first | exact S8 | exact S9 | exact S10 | go_keep)
          ((refine step_append_lies _ (by rfl) _ _ 30 (by rfl) 0 32 i0 (.int .i8 0) 1 1 Try.underlying30 hi hz0 hz1 hz2 rfl (by omega) _ ids9.length (i8s ids9) (by rfl) hown9 ⟨W8.heap.size, 0, none⟩ 1 1 [.int .i8 (id : Int)] (by rfl) (by rfl) (World.news_of_block (cs := #[.int .i8 (id : Int)]) hnb9) (by simp [Value.oneCell']) (by omega) (by unfold maxLen; omega) (by omega) (Nat.zero_le _) (W8.heap.size + 1) (by simp) ?_; intro g9 cap9 w9 hown9' hgrow9 hat9 hlt9; obtain ⟨own9, w10, E10, HS9, hB10, hE10, hfr9, hfr10, hox9⟩ := HP9'.out g9 cap9 _ w9 hown9' hgrow9 hat9 (by omega) hlt9; rw [kv4_eq] at HS9; have S9 : w9.cell? ⟨p, 3, none⟩ = some (.map (some bk)) ∧ w9.cell? ⟨qb, 0, none⟩ = some (.int .u8 (k1.toNat : Int)) ∧ w9.cell? ⟨qb, 1, none⟩ = some (.int .u8 (k2.toNat : Int)) ∧ w9.cell? ⟨qb, 2, none⟩ = some (.int .u8 (k3.toNat : Int)) ∧ w9.cell? ⟨qb, 3, none⟩ = some (.int .u8 (k4.toNat : Int)) := ⟨cell_of 3 (hfr9.keep hp8 hpS) rfl, cell_of 0 (hfr9.keep hq8 hqS) rfl, cell_of 1 (hfr9.keep hq8 hqS) rfl, cell_of 2 (hfr9.keep hq8 hqS) rfl, cell_of 3 (hfr9.keep hq8 hqS) rfl⟩; have S10 : w10.cell? ⟨p, 3, none⟩ = some (.map (some bk)) ∧ w10.cell? ⟨qb, 0, none⟩ = some (.int .u8 (k1.toNat : Int)) ∧ w10.cell? ⟨qb, 1, none⟩ = some (.int .u8 (k2.toNat : Int)) ∧ w10.cell? ⟨qb, 2, none⟩ = some (.int .u8 (k3.toNat : Int)) ∧ w10.cell? ⟨qb, 3, none⟩ = some (.int .u8 (k4.toNat : Int)) := ⟨cell_of 3 (hfr10.keep hp8 hpS) rfl, cell_of 0 (hfr10.keep hq8 hqS) rfl, cell_of 1 (hfr10.keep hq8 hqS) rfl, cell_of 2 (hfr10.keep hq8 hqS) rfl, cell_of 3 (hfr10.keep hq8 hqS) rfl⟩))
        have I10 := I8.updK hB10.bm hfr10 hox9
        have hF10 : Fr (Ix own) w0 w10 := F8'.trans hfr10 (fun k hk hS => Ix.back Xi hk (hS.elim (fun e => e ▸ Ix_of I8.ok (by simp) (by simp)) (fun e => Ix_of e (by simp [labK]) (by simp [labK]))))
        have hX10 : Ext own own9 w0.heap.size := Xi.trans (hox9.ext (by simp [labK]) (by simp [labK])) F8'.size
        have hr10 := hfr10.keep hr8 hrS
        have hp10 := hfr10.keep hp8 hpS
        have hT10 := hfr10.keep hT8 htS
        have htl10 := lt_of_heap hT8
        have hrl10 := lt_of_heap hr8
        go_wp2_with fail
        go_roundg (leftS SS (seen.push s) + 1)
        case measure => omega
        case rel =>
          refine ⟨own9, _, E10, seen.push s, Nat.lt_succ_self _, hE10.trans hE, hB10, I10, ?_, hr10, hp10, hT10, hF10, hX10, hox9.1 _ _ hopi, fun l hl => (hox9.2 _ l hl).elim (fun h => hoti _ h) (fun h => by omega), fun l hl => (hox9.2 _ l hl).elim (fun h => hori _ h) (fun h => by omega)⟩
          intro k
          have h2 := HF.out ((k1, k2), k3, k4)
          rw [hvis, hf9] at h2
          simp at h2
          rw [HF.out k, hvp]
          by_cases hk : k = ((k1, k2), k3, k4)
          · subst hk
            have : (k1, k2) = (h.letter, digit h.kids.length) := by rw [HQ2.out.1, HQ2.out.2]
            rw [if_pos rfl, if_pos ⟨this, by simp⟩, ← h2]
            rfl
          · simp [hk]
end Go.Proofs.Qxb6500302a
