import Derived.Test.Qxb6500302aVet3
import Derived.Test.Qxb6500302aPlain2
namespace Go.Proofs.Qxb6500302a
open Go.RowKit
set_option linter.unusedSimpArgs false
set_option linter.unusedVariables false
attribute [local go_sem] ta106_106 ta106_112 ta106_80 ta112_106 ta112_112 ta112_80 ta80_106 ta80_112 ta80_80 ta80_80'

theorem TermN.clip {w : World} {D : Nat → Prop} {m : Nat} {v : Value} {t : Tm} (h : TermN w D m v t) : TermN w (fun k => D k ∧ k < w.heap.size) m v t :=
  h.monoE fun k o hk ho => ⟨⟨hk, lt_of_heap ho⟩, ho⟩
theorem ClauseN.clip {w : World} {D : Nat → Prop} {m : Nat} {v : Value} {t : Tm} (h : ClauseN w D m v t) : ClauseN w (fun k => D k ∧ k < w.heap.size) m v t := by
  obtain ⟨b, rb, h1, h2, h3, h4⟩ := h
  exact ⟨b, rb, h1, ⟨h2, lt_of_heap h3⟩, h3, h4.clip⟩

/-- A clause's root, laid open. -/
theorem ClauseN.root {w : World} {D : Nat → Prop} {m : Nat} {v : Value} {F : UInt8} {ts : List Tm} (h : ClauseN w D m v (tCall F ts)) :
    ∃ b rb sl xs m', v = .pointer (some ⟨b, 0, none⟩) ∧ D b ∧ D rb ∧ w.heap[b]? = some (.cells #[.pointer (some ⟨rb, 0, none⟩)] 92) ∧ w.heap[rb]? = some (.cells #[.int .u8 (F.toNat : Int), sl] 90) ∧ RowIn w D 95 sl xs ∧ xs.length = ts.length ∧ ts.length ≤ 50 ∧
      m = m' + 1 ∧ (∀ (i : Nat) x u, xs[i]? = some x → ts[i]? = some u → TermN w D m' x u) ∧ TermN w D m (.iface 80 (.pointer (some ⟨rb, 0, none⟩))) (tCall F ts) := by
  obtain ⟨b, rb, rfl, h2, h3, h4⟩ := h
  cases m with
  | zero => exact h4.elim
  | succ m =>
    have h4' := h4
    rcases h4 with h | h | ⟨h1, b', sl, xs, hv, hDb, hb, hr, hl, hl2, hx⟩
    · have := h.1; simp [tCall] at this
    · have := h.1; simp [tCall] at this
    · simp at hv
      subst hv
      exact ⟨b, rb, sl, xs, m, rfl, h2, hDb, h3, hb, hr, hl, hl2, rfl, hx, h4'⟩

def goalsIn (q : Bool) (ts : List Tm) : List Tm := if q then ts else ts.tail

/-- 'goals', for a clause or a query. -/
theorem goals_any {w : World} {D : Nat → Prop} {q : Bool} {ts : List Tm} {b rb : Nat} {sl : Value} {xs : List Value} (hb : w.heap[b]? = some (.cells #[.pointer (some ⟨rb, 0, none⟩)] 92)) (hr : w.heap[rb]? = some (.cells #[.int .u8 ((rootOf q).toNat : Int), sl] 90))
    (hrow : RowIn w D 95 sl xs) (hl : xs.length ≤ 50) (hne : q = false → xs ≠ []) :
    Calls Try.prog 42 #[.pointer (some ⟨b, 0, none⟩)] w fun e w' => ∃ sl', e = .returned sl' ∧ WinIn w D sl' (if q then xs else xs.tail) ∧ w' = w := by
  cases q with
  | true => exact goals_query hb hr hrow hl
  | false =>
    cases xs with
    | nil => exact absurd rfl (hne rfl)
    | cons x xs =>
      show Calls Try.prog 42 #[.pointer (some ⟨b, 0, none⟩)] w fun e w' => ∃ sl', e = .returned sl' ∧ WinIn w D sl' xs ∧ w' = w
      exact goals_clause (D := D) hb hr hrow (by simp at hl; omega)

theorem run_makeFunc (fn : Fn) (first cap : Array Value) (w : World) : (Instr.makeFunc fn first cap).run Try.prog w = .ok (.func fn first cap) w := rfl
attribute [local go_sem] run_makeFunc

def vetFine (q : Bool) (ts : List Tm) : Bool := decide ((goalsIn q ts).length ≤ 3) && decide (topVar (tCall (rootOf q) ts) ≤ 6)

set_option maxRecDepth 20000 in
set_option maxHeartbeats 1000000 in
theorem vet_any {w : World} {D : Nat → Prop} {m : Nat} {v : Value} {q : Bool} {ts : List Tm} (h0 : ClauseN w D m v (tCall (rootOf q) ts)) (hne : q = false → ts ≠ []) :
    Calls Try.prog 38 #[v] w fun e w' => (if vetFine q ts then e = .returned .nilIface else ∃ b, e = .returned (.iface 72 (.pointer (some ⟨b, 0, none⟩)))) ∧ Fr No w w' := by
  obtain ⟨b, rb, sl, xs, m', rfl, hDb, hDr, hb, hr, hrow, hl1, hl2, hm', hx, hT⟩ := h0.root
  have hne' : q = false → xs ≠ [] := fun hq e => hne hq (List.eq_nil_of_length_eq_zero (by rw [← hl1, e]; rfl))
  have hgl : (if q then xs else xs.tail).length = (goalsIn q ts).length := by cases q <;> simp [goalsIn, hl1]
  have c0 : w.cell? ⟨b, 0, none⟩ = some (.pointer (some ⟨rb, 0, none⟩)) := cell_of 0 hb rfl
  have hbs := lt_of_heap hb
  by_cases h3 : (goalsIn q ts).length ≤ 3
  case neg =>
    have e1 : vetFine q ts = false := by simp [vetFine, h3]
    rw [e1]
    go_enter Try.func38, Try.ntmps38
    go_wp2_with fail
    refine (goals_any (ts := ts) hb hr hrow (by omega) hne').mono ?_
    rintro e w' ⟨sl', rfl, ⟨a, cap, rfl, _, _⟩, rfl⟩
    rw [hgl]
    have t1 : (3 : Int) < ((goalsIn q ts).length : Int) := by omega
    go_wp2_with fail
    go_ret
    exact ⟨⟨_, rfl⟩, (Fr.refl _ _).alloc _⟩
  case pos =>
    have hwalk := walkS_vet0 hT.wf
    have HW : Hid ((walkS vetNext vetOk m 0 (tCall (rootOf q) ts)).2 = decide (topVar (tCall (rootOf q) ts) ≤ 6)) := hwalk
    clear hwalk
    have HT : Hid (TermN (w.alloc (.cells #[.int .i64 0] 3)) (fun k => D k ∧ k < w.heap.size) m (.iface 80 (.pointer (some ⟨rb, 0, none⟩))) (tCall (rootOf q) ts)) :=
      hT.clip.kept ((Fr.refl No w).alloc _) (fun _ _ h => h)
    clear hT hx h0
    have HN : Hid ((w.alloc (.cells #[.int .i64 0] 3)).heap[w.heap.size]? = some (.cells #[.int .i64 ((0 : Nat) : Int)] 3)) := heap_alloc_same w _
    have HF : Hid (Fr No w (w.alloc (.cells #[.int .i64 0] 3))) := (Fr.refl _ _).alloc _
    have HK : Hid (∀ st t, vetOk st t = true → vetNext st t ≤ 41) := fun st t h => by simp [vetOk] at h; omega
    have HS : Hid (∀ w' w2 : World, w' = w.alloc (.cells #[.int .i64 0] 3) → Fr (fun k => k = w.heap.size) w' w2 → Fr No w w2) := fun w' w2 e h => by
      subst e; exact HF.out.trans h (fun k hk e => by omega)
    by_cases h6 : topVar (tCall (rootOf q) ts) ≤ 6
    case pos =>
      have e1 : vetFine q ts = true := by simp [vetFine, h3, h6]
      rw [e1]
      go_enter Try.func38, Try.ntmps38
      go_wp2_with fail
      refine (goals_any (ts := ts) hb hr hrow (by omega) hne').mono ?_
      rintro e w' ⟨sl', rfl, ⟨a, cap, rfl, _, _⟩, hw'⟩
      subst hw'
      rw [hgl]
      have t1 : ¬ ((3 : Int) < ((goalsIn q ts).length : Int)) := by omega
      go_wp2_with fail
      refine (walk_any (.inl rfl) (visit_vet _) HK.out m _ _ _ _ 0 HT.out (fun k hk => by omega) HN.out (by omega)).mono ?_
      rw [HW.out, decide_eq_true h6]
      rintro e w2 ⟨rfl, _, hf⟩
      have hff := HS.out _ _ rfl hf
      go_wp2_with fail
      go_ret
      exact ⟨rfl, hff⟩
    case neg =>
      have e1 : vetFine q ts = false := by simp [vetFine, h3, h6]
      rw [e1]
      go_enter Try.func38, Try.ntmps38
      go_wp2_with fail
      refine (goals_any (ts := ts) hb hr hrow (by omega) hne').mono ?_
      rintro e w' ⟨sl', rfl, ⟨a, cap, rfl, _, _⟩, hw'⟩
      subst hw'
      rw [hgl]
      have t1 : ¬ ((3 : Int) < ((goalsIn q ts).length : Int)) := by omega
      go_wp2_with fail
      refine (walk_any (.inl rfl) (visit_vet _) HK.out m _ _ _ _ 0 HT.out (fun k hk => by omega) HN.out (by omega)).mono ?_
      rw [HW.out, decide_eq_false h6]
      rintro e w2 ⟨rfl, _, hf⟩
      have hff := HS.out _ _ rfl hf
      go_wp2_with fail
      go_ret
      exact ⟨⟨_, rfl⟩, hff.alloc _⟩
end Go.Proofs.Qxb6500302a
