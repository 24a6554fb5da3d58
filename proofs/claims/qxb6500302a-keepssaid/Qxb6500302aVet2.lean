import Derived.Test.Qxb6500302aVet1
namespace Go.Proofs.Qxb6500302a
open Go.RowKit
set_option linter.unusedSimpArgs false
set_option linter.unusedVariables false
attribute [local go_sem] ta106_106 ta106_112 ta106_80 ta112_106 ta112_112 ta112_80 ta80_106 ta80_112 ta80_80 ta80_80'

/-- A row's cells, for the walk. -/
theorem RowIn.cases {w : World} {D : Nat → Prop} {e : TypeId} {sl : Value} {xs : List Value} (h : RowIn w D e sl xs) :
    (sl = .slice none 0 0 ∧ xs = []) ∨ ∃ g cap, sl = .slice (some ⟨g, 0, none⟩) xs.length cap ∧ D g ∧ xs.length ≤ cap ∧ cap ≤ maxLen ∧ ∃ cur : Array Value, w.heap[g]? = some (.cells cur e) ∧ ∀ (i : Nat) x, xs[i]? = some x → cur[i]? = some x := by
  rcases h with h | ⟨g, cap, cur, h1, h2, h3, h4, h5, h6, h7⟩
  · exact .inl h
  · refine .inr ⟨g, cap, h1, h2, h4, h5, cur, h3, fun i x hx => ?_⟩
    rw [← h7, List.getElem?_take] at hx
    split at hx
    · simpa using hx
    · cases hx

def WalkSaid (fid nb : Nat) (nxt : Nat → Tm → Nat) (ok : Nat → Tm → Bool) (m : Nat) : Prop :=
  ∀ (w : World) (D : Nat → Prop) (v : Value) (t : Tm) (st : Nat), TermN w D m v t → (∀ k, D k → k ≠ nb) → w.heap[nb]? = some (.cells #[.int .i64 (st : Int)] 3) → st ≤ 41 →
    Calls Try.prog 61 #[v, .func (.func fid) #[] #[.pointer (some ⟨nb, 0, none⟩)]] w fun e w' => e = .returned (.bool (walkS nxt ok m st t).2) ∧ w'.heap[nb]? = some (.cells #[.int .i64 ((walkS nxt ok m st t).1 : Int)] 3) ∧ Fr (fun k => k = nb) w w'

set_option maxRecDepth 20000 in
set_option maxHeartbeats 2000000 in
theorem walk_step {fid nb m : Nat} {nxt : Nat → Tm → Nat} {ok : Nat → Tm → Bool} (hfid : fid = 60 ∨ fid = 62) (hvis : VisitSaid fid nb nxt ok) (hok : ∀ st t, ok st t = true → nxt st t ≤ 41)
    (ih : WalkSaid fid nb nxt ok m) : WalkSaid fid nb nxt ok (m + 1) := by
  intro w D v t st ht hDn hn hst
  have HV : Hid (VisitSaid fid nb nxt ok) := hvis
  have HI : Hid (WalkSaid fid nb nxt ok m) := ih
  have HT : Hid (TermN w D (m + 1) v t) := ht
  clear hvis ih
  by_cases hb : ok st t = true
  case neg =>
    have e1 : walkS nxt ok (m + 1) st t = (nxt st t, false) := by rw [walkS, if_neg hb]
    rw [e1]
    have hb' : ok st t = false := by simpa using hb
    clear ht e1 hb
    rcases hfid with rfl | rfl
    all_goals
      go_enter Try.func61, Try.ntmps61
      go_wp2_with fail
      refine (HV.out w D (m + 1) v t st HT.out hn hst).mono ?_
      rw [hb']
      rintro e w' ⟨rfl, hn', hf⟩
      go_wp2_with fail
      go_ret
      exact ⟨rfl, hn', hf⟩
  case pos =>
    have e1 : walkS nxt ok (m + 1) st t = walkL (walkS nxt ok m) (nxt st t) t.kids := by rw [walkS, if_pos hb]
    rw [e1]
    clear e1
    have hst1 := hok st t hb
    rcases ht with ⟨hk, hks, hnum, hv⟩ | ⟨hk, hks, hv⟩ | ⟨hk, b, sl, xs, hv, hD, hbk, hrow, hl1, hl2, hx⟩
    · rw [hks]
      subst hv
      rcases hfid with rfl | rfl
      all_goals
        go_enter Try.func61, Try.ntmps61
        go_wp2_with fail
        refine (HV.out w D (m + 1) _ t st HT.out hn hst).mono ?_
        rw [hb]
        rintro e w' ⟨rfl, hn', hf⟩
        go_wp2_with fail
        go_ret
        exact ⟨rfl, hn', hf⟩
    · rw [hks]
      subst hv
      rcases hfid with rfl | rfl
      all_goals
        go_enter Try.func61, Try.ntmps61
        go_wp2_with fail
        refine (HV.out w D (m + 1) _ t st HT.out hn hst).mono ?_
        rw [hb]
        rintro e w' ⟨rfl, hn', hf⟩
        go_wp2_with fail
        go_ret
        exact ⟨rfl, hn', hf⟩
    · subst hv
      generalize hRES : walkL (walkS nxt ok m) (nxt st t) t.kids = RES
      have HRES : Hid (RES = walkL (walkS nxt ok m) (nxt st t) t.kids) := hRES.symm
      clear hRES
      have HX : Hid (∀ (i : Nat) x u, xs[i]? = some x → t.kids[i]? = some u → TermN w D m x u) := hx
      clear hx
      have hbn := hDn b hD
      rcases hrow.cases with ⟨rfl, rfl⟩ | ⟨g, cap, rfl, hDg, hlc, hcm, cur, hg, hcur⟩
      case inl =>
        have hk0 : t.kids = [] := List.eq_nil_of_length_eq_zero (by simpa using hl1.symm)
        rcases hfid with rfl | rfl
        all_goals
          go_enter Try.func61, Try.ntmps61
          go_wp2_with fail
          refine (HV.out w D (m + 1) _ t st HT.out hn hst).mono ?_
          rw [hb]
          rintro e w1 ⟨rfl, hn', hf⟩
          have hb1 := hf.keep hbk hbn
          have c1 : w1.cell? ⟨b, 1, none⟩ = some (.slice none 0 0) := cell_of 1 hb1 rfl
          go_wp2_with fail
          go_loopg [22] 1 (fun _ u wr => u = .int .i64 0 ∧ wr = w1)
          case atStart => exact ⟨rfl, rfl⟩
          case round =>
            obtain ⟨rfl, rfl⟩ := hrel
            go_wp2_with fail
            go_ret
            rw [HRES.out, hk0]
            exact ⟨rfl, hn', hf⟩
      case inr =>
        have hgn := hDn g hDg
        rw [hl1] at hlc
        unfold maxLen at hcm
        rcases hfid with rfl | rfl
        all_goals
          go_enter Try.func61, Try.ntmps61
          go_wp2_with fail
          refine (HV.out w D (m + 1) _ t st HT.out hn hst).mono ?_
          rw [hb]
          rintro e w1 ⟨rfl, hn', hf⟩
          have hb1 := hf.keep hbk hbn
          have c1 : w1.cell? ⟨b, 1, none⟩ = some (.slice (some ⟨g, 0, none⟩) xs.length cap) := cell_of 1 hb1 rfl
          rw [hl1] at c1
          go_wp2_with fail
          go_loopg [22] (t.kids.length + 1) (fun gk u wr => ∃ i st' : Nat, u = .int .i64 (i : Int) ∧ i ≤ t.kids.length ∧ gk = t.kids.length + 1 - i ∧ wr.heap[nb]? = some (.cells #[.int .i64 (st' : Int)] 3) ∧ st' ≤ 41 ∧ Fr (fun k => k = nb) w wr ∧ Hid (RES = walkL (walkS nxt ok m) st' (t.kids.drop i)))
          case atStart => exact ⟨0, nxt st t, rfl, Nat.zero_le _, rfl, hn', hst1, hf, HRES.out⟩
          case round =>
            clear hn' hf hb1 c1
            obtain ⟨i, st', rfl, hi, hgk, hn', hst', hf, HR⟩ := hrel
            by_cases hlt : i < t.kids.length
            · obtain ⟨u, hu⟩ : ∃ u, t.kids[i]? = some u := ⟨_, List.getElem?_eq_getElem hlt⟩
              obtain ⟨x, hxi⟩ : ∃ x, xs[i]? = some x := ⟨_, List.getElem?_eq_getElem (by omega)⟩
              have hT := HX.out i x u hxi hu
              have hg1 := hf.keep hg hgn
              have c2 : wr.cell? ⟨g, i, none⟩ = some x := cell_of i hg1 (hcur i x hxi)
              have hdrop : t.kids.drop i = u :: t.kids.drop (i + 1) := by
                rw [List.drop_eq_getElem_cons hlt]
                congr 1
                rw [List.getElem?_eq_getElem hlt] at hu
                exact Option.some.inj hu
              have HT1 : Hid (TermN wr D m x u) := hT.kept hf hDn
              obtain ⟨T, vx, hxv⟩ := hT.iface
              subst hxv
              clear hT hg1 hxi hu
              by_cases hr : (walkS nxt ok m st' u).2 = true
              · go_wp2_with fail
                refine (HI.out wr D _ u st' HT1.out hDn hn' hst').mono ?_
                rw [hr]
                rintro e w2 ⟨rfl, hn2, hf2⟩
                go_wp2_with fail
                go_roundg (t.kids.length + 1 - (i + 1))
                case measure => omega
                case rel =>
                  refine ⟨i + 1, _, by go_num, by omega, rfl, hn2, walkS_le hok m st' u hst' hr, hf.trans hf2 (fun _ _ h => h), ?_⟩
                  show RES = _
                  rw [HR.out, hdrop, walkL, if_pos hr]
              · have hr' : (walkS nxt ok m st' u).2 = false := by simpa using hr
                go_wp2_with fail
                refine (HI.out wr D _ u st' HT1.out hDn hn' hst').mono ?_
                rw [hr']
                rintro e w2 ⟨rfl, hn2, hf2⟩
                go_wp2_with fail
                go_ret
                rw [HR.out, hdrop, walkL, if_neg hr]
                exact ⟨rfl, hn2, hf.trans hf2 (fun _ _ h => h)⟩
            · have hieq : i = t.kids.length := by omega
              go_wp2_with fail
              go_ret
              rw [HR.out, hieq, List.drop_length]
              exact ⟨rfl, hn', hf⟩

theorem walk_any {fid nb : Nat} {nxt : Nat → Tm → Nat} {ok : Nat → Tm → Bool} (hfid : fid = 60 ∨ fid = 62) (hvis : VisitSaid fid nb nxt ok) (hok : ∀ st t, ok st t = true → nxt st t ≤ 41) : ∀ m, WalkSaid fid nb nxt ok m
  | 0 => by intro w D v t st ht; exact ht.elim
  | m + 1 => walk_step hfid hvis hok (walk_any hfid hvis hok m)
end Go.Proofs.Qxb6500302a
