import Derived.Test.Qxb6500302aObs5
namespace Go.Proofs.Qxb6500302a
open Go.RowKit
set_option linter.unusedSimpArgs false
set_option linter.unusedVariables false
attribute [local go_sem] ta106_106 ta106_112 ta106_80 ta112_106 ta112_112 ta112_80 ta80_106 ta80_112 ta80_80 ta80_80' run_makeFunc
attribute [local go_sem ↓] Go.wp_at_zero Go.wp_at_succ

/-- What the visitor of 'sound' makes of its count. -/
def sndNext (st : Nat) (_ : Tm) : Nat := st + 1
def sndOk (st : Nat) (_ : Tm) : Bool := decide (st + 1 ≤ 41)

theorem nodes_kids (t : Tm) : nodesOf t = 1 + (t.kids.map nodesOf).sum := by
  obtain ⟨k, a, n, ts⟩ := t
  exact nodesOf_eq k a n ts

theorem walkL_snd {rec : Nat → Tm → Nat × Bool} : ∀ (ts : List Tm) (st : Nat), (∀ u ∈ ts, ∀ st, st + nodesOf u ≤ 41 → rec st u = (st + nodesOf u, true)) → st + (ts.map nodesOf).sum ≤ 41 → walkL rec st ts = (st + (ts.map nodesOf).sum, true)
  | [], st, _, hst => by simp [walkL]
  | t :: ts, st, h, hst => by
    simp only [List.map_cons, List.sum_cons] at hst ⊢
    rw [walkL, h t (by simp) st (by omega)]
    simp only [if_true]
    rw [walkL_snd ts _ (fun u hu => h u (by simp [hu])) (by omega)]
    congr 1
    omega
theorem walkS_snd : ∀ (m st : Nat) (t : Tm), Wf m t → st + nodesOf t ≤ 41 → walkS sndNext sndOk m st t = (st + nodesOf t, true)
  | 0, st, t, h, _ => h.elim
  | m + 1, st, t, h, hst => by
    have hn := nodes_kids t
    rw [walkS]
    have hok : sndOk st t = true := by simp [sndOk]; omega
    rw [if_pos hok]
    have hk : ∀ u ∈ t.kids, Wf m u := by
      rcases h with ⟨_, h2, _⟩ | ⟨_, h2⟩ | ⟨_, _, h3⟩
      · rw [h2]; simp
      · rw [h2]; simp
      · exact h3
    rw [walkL_snd t.kids (sndNext st t) (fun u hu st hs => walkS_snd m st u (hk u hu) hs) (by unfold sndNext; omega)]
    unfold sndNext
    congr 1
    omega

theorem sum_le0 {f g : Tm → Nat} : ∀ {ts : List Tm}, (∀ t ∈ ts, f t ≤ g t) → (ts.map f).sum ≤ (ts.map g).sum
  | [], _ => by simp
  | t :: ts, h => by
    have h1 := h t (by simp)
    have h2 := sum_le0 (ts := ts) (fun u hu => h u (by simp [hu]))
    simp only [List.map_cons, List.sum_cons]
    omega
theorem nodes_text : ∀ (m : Nat) (t : Tm), Wf m t → nodesOf t ≤ (textOf t).length
  | 0, t, h => h.elim
  | m + 1, t, h => by
    have hn := nodes_kids t
    have ht : textOf t = if t.kind = 0 then [t.letter] else if t.kind = 1 then [33] else if t.kids.length = 0 then [t.letter] else t.letter :: 40 :: (commas (t.kids.map textOf) ++ [41]) := by
      obtain ⟨k, a, n, ts⟩ := t
      exact textOf_eq k a n ts
    rcases h with ⟨h1, h2, _⟩ | ⟨h1, h2⟩ | ⟨h1, _, h3⟩
    · rw [ht, if_pos h1, hn, h2]; simp
    · rw [ht, if_neg (by omega), if_pos h1, hn, h2]; simp
    · rw [ht, if_neg (by omega), if_neg (by omega)]
      split
      · rename_i h0
        have : t.kids = [] := List.length_eq_zero_iff.1 h0
        rw [hn, this]; simp
      · rename_i h0
        have hne : t.kids ≠ [] := fun e => h0 (by rw [e]; rfl)
        have h4 := commas_text t.kids hne
        have h5 := sum_le0 (f := nodesOf) (g := fun t => (textOf t).length) (fun u hu => nodes_text m u (h3 u hu))
        simp only [List.length_cons, List.length_append, List.length_nil]
        omega
theorem nodes_clause {m : Nat} {h : Tm} {ts : List Tm} (hw : Wf m (tCall 58 (h :: ts))) : nodesOf (tCall 58 (h :: ts)) ≤ 1 + (clauseText (tCall 58 (h :: ts))).length := by
  cases m with
  | zero => exact hw.elim
  | succ m =>
    rcases hw with ⟨h1, _⟩ | ⟨h1, _⟩ | ⟨_, _, h3⟩
    · simp [tCall] at h1
    · simp [tCall] at h1
    · have hn := nodes_kids (tCall 58 (h :: ts))
      have h3' : ∀ u ∈ h :: ts, Wf m u := h3
      have h5 := sum_le0 (ts := ts) (f := nodesOf) (g := fun t => (textOf t).length) (fun u hu => nodes_text m u (h3' u (by simp [hu])))
      have h6 := nodes_text m h (h3' h (by simp))
      have hct : clauseText (tCall 58 (h :: ts)) = textOf h ++ (if ts.length = 0 then [] else 58 :: 45 :: commas (ts.map textOf)) := by
        unfold clauseText
        simp [tCall]
      have hk : (tCall 58 (h :: ts)).kids = h :: ts := rfl
      rw [hk, List.map_cons, List.sum_cons] at hn
      rw [hct, List.length_append]
      by_cases h0 : ts = []
      · subst h0; simp at hn ⊢; omega
      · have h7 := commas_text ts h0
        have : ¬ ts.length = 0 := fun e => h0 (List.length_eq_zero_iff.1 e)
        rw [if_neg this]
        simp only [List.length_cons]
        have : 1 ≤ ts.length := by omega
        omega

set_option maxRecDepth 20000 in
theorem visit_snd (nb : Nat) : VisitSaid 62 nb sndNext sndOk := by
  intro w D m v t st ht hn hst
  have c1 : w.cell? ⟨nb, 0, none⟩ = some (.int .i64 (st : Int)) := cell_of 0 hn rfl
  have f1 : w.frozen? ⟨nb, 0, none⟩ = false := frozen_of 0 hn
  have hlt := lt_of_heap hn
  have hs1 : (w.setCell ⟨nb, 0, none⟩ (.int .i64 ((st : Int) + 1))).heap[nb]? = some (.cells #[.int .i64 (sndNext st t : Int)] 3) := by rw [heap_setCell_same _ hn]; simp [sndNext]
  have hF : Fr (fun k => k = nb) w (w.setCell ⟨nb, 0, none⟩ (.int .i64 ((st : Int) + 1))) := Fr.setCell (S := fun k => k = nb) (Fr.refl _ _) (fun _ => rfl) _
  cases m with
  | zero => exact ht.elim
  | succ m =>
  by_cases hge : st + 1 ≤ 41
  · have hok : sndOk st t = true := by simp [sndOk]; omega
    rw [hok]
    have t1 : decide ((41 : Int) < (st : Int) + 1) = false := decide_eq_false (by omega)
    rcases ht with ⟨hk, hks, hnum, hv⟩ | ⟨hk, hks, hv⟩ | ⟨hk, b, sl, xs, hv, hD, hb, hrow, hl1, hl2, hx⟩
    all_goals
      subst hv
      go_enter Try.func62, Try.ntmps62
      go_wp2
      go_ret
      exact ⟨rfl, hs1, hF⟩
  · have hok : sndOk st t = false := by simp [sndOk]; omega
    rw [hok]
    have t1 : decide ((41 : Int) < (st : Int) + 1) = true := decide_eq_true (by omega)
    rcases ht with ⟨hk, hks, hnum, hv⟩ | ⟨hk, hks, hv⟩ | ⟨hk, b, sl, xs, hv, hD, hb, hrow, hl1, hl2, hx⟩
    all_goals
      subst hv
      go_enter Try.func62, Try.ntmps62
      go_wp2
      go_ret
      exact ⟨rfl, hs1, hF⟩
end Go.Proofs.Qxb6500302a
