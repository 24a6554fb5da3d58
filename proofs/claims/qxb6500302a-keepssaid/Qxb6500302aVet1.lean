import Derived.Test.Qxb6500302aRead8
namespace Go.Proofs.Qxb6500302a
open Go.RowKit
set_option linter.unusedSimpArgs false
set_option linter.unusedVariables false

theorem RowIn.monoE {w w' : World} {D D' : Nat → Prop} {e : TypeId} {sl : Value} {xs : List Value} (h : RowIn w D e sl xs) (hk : ∀ k o, D k → w.heap[k]? = some o → D' k ∧ w'.heap[k]? = some o) : RowIn w' D' e sl xs := by
  rcases h with h | ⟨g, cap, cur, h1, h2, h3, h4⟩
  · exact .inl h
  · exact .inr ⟨g, cap, cur, h1, (hk g _ h2 h3).1, (hk g _ h2 h3).2, h4⟩

theorem TermN.monoE {w w' : World} {D D' : Nat → Prop} (hk : ∀ k o, D k → w.heap[k]? = some o → D' k ∧ w'.heap[k]? = some o) : ∀ {n : Nat} {v : Value} {t : Tm}, TermN w D n v t → TermN w' D' n v t
  | 0, _, _, h => h.elim
  | n + 1, v, t, h => by
    rcases h with h | h | ⟨h1, b, sl, xs, h2, h3, h4, h5, h6, h6', h7⟩
    · exact .inl h
    · exact .inr (.inl h)
    · exact .inr (.inr ⟨h1, b, sl, xs, h2, (hk b _ h3 h4).1, (hk b _ h3 h4).2, h5.monoE hk, h6, h6', fun i x u hx hu => TermN.monoE hk (h7 i x u hx hu)⟩)

/-- Behind a change that turns none of D. -/
theorem TermN.kept {S : Nat → Prop} {w w' : World} {D : Nat → Prop} (hf : Fr S w w') (hD : ∀ k, D k → ¬ S k) {n : Nat} {v : Value} {t : Tm} (h : TermN w D n v t) : TermN w' D n v t :=
  h.monoE fun k o hk ho => ⟨hk, hf.keep ho (hD k hk)⟩
theorem ClauseN.kept {S : Nat → Prop} {w w' : World} {D : Nat → Prop} (hf : Fr S w w') (hD : ∀ k, D k → ¬ S k) {n : Nat} {v : Value} {t : Tm} (h : ClauseN w D n v t) : ClauseN w' D n v t := by
  obtain ⟨b, rb, h1, h2, h3, h4⟩ := h
  exact ⟨b, rb, h1, h2, hf.keep h3 (hD b h2), h4.kept hf hD⟩

/-! ### Type assertions over Term: a hit hands the value on, a miss the zero value. -/
theorem ta106_106 (x : Value) (w : World) : (Instr.typeAssert (.iface 106 x) 95 106 true).run Try.prog w = .ok (.tuple #[x, .bool true]) w := by kernel_rfl
theorem ta106_112 (x : Value) (w : World) : (Instr.typeAssert (.iface 112 x) 95 106 true).run Try.prog w = .ok (.tuple #[.agg #[.int .u8 0, .int .i64 0], .bool false]) w := by kernel_rfl
theorem ta106_80 (x : Value) (w : World) : (Instr.typeAssert (.iface 80 x) 95 106 true).run Try.prog w = .ok (.tuple #[.agg #[.int .u8 0, .int .i64 0], .bool false]) w := by kernel_rfl
theorem ta112_106 (x : Value) (w : World) : (Instr.typeAssert (.iface 106 x) 95 112 true).run Try.prog w = .ok (.tuple #[.agg #[], .bool false]) w := by kernel_rfl
theorem ta112_112 (x : Value) (w : World) : (Instr.typeAssert (.iface 112 x) 95 112 true).run Try.prog w = .ok (.tuple #[x, .bool true]) w := by kernel_rfl
theorem ta112_80 (x : Value) (w : World) : (Instr.typeAssert (.iface 80 x) 95 112 true).run Try.prog w = .ok (.tuple #[.agg #[], .bool false]) w := by kernel_rfl
theorem ta80_106 (x : Value) (w : World) : (Instr.typeAssert (.iface 106 x) 95 80 true).run Try.prog w = .ok (.tuple #[.pointer none, .bool false]) w := by kernel_rfl
theorem ta80_112 (x : Value) (w : World) : (Instr.typeAssert (.iface 112 x) 95 80 true).run Try.prog w = .ok (.tuple #[.pointer none, .bool false]) w := by kernel_rfl
theorem ta80_80 (x : Value) (w : World) : (Instr.typeAssert (.iface 80 x) 95 80 true).run Try.prog w = .ok (.tuple #[x, .bool true]) w := by kernel_rfl
theorem ta80_80' (x : Value) (w : World) : (Instr.typeAssert (.iface 80 x) 95 80 false).run Try.prog w = .ok x w := by kernel_rfl
attribute [local go_sem] ta106_106 ta106_112 ta106_80 ta112_106 ta112_112 ta112_80 ta80_106 ta80_112 ta80_80 ta80_80'

/-- What the visitor of 'vet' makes of its count. -/
def vetNext (st : Nat) (t : Tm) : Nat := if t.kind = 0 ∧ st ≤ t.num then t.num + 1 else st
def vetOk (st : Nat) (t : Tm) : Bool := decide (vetNext st t ≤ 6)

theorem ret_bool {a b : Bool} (h : a = b) : Ending.returned (.bool a) = .returned (.bool b) := by rw [h]

def VisitSaid (fid nb : Nat) (nxt : Nat → Tm → Nat) (ok : Nat → Tm → Bool) : Prop :=
  ∀ (w : World) (D : Nat → Prop) (m : Nat) (v : Value) (t : Tm) (st : Nat), TermN w D m v t → w.heap[nb]? = some (.cells #[.int .i64 (st : Int)] 3) → st ≤ 41 →
    Calls Try.prog fid #[v, .pointer (some ⟨nb, 0, none⟩)] w fun e w' => e = .returned (.bool (ok st t)) ∧ w'.heap[nb]? = some (.cells #[.int .i64 (nxt st t : Int)] 3) ∧ Fr (fun k => k = nb) w w'

set_option maxRecDepth 20000 in
theorem visit_vet (nb : Nat) : VisitSaid 60 nb vetNext vetOk := by
  intro w D m v t st ht hn hst
  have c1 : w.cell? ⟨nb, 0, none⟩ = some (.int .i64 (st : Int)) := cell_of 0 hn rfl
  have f1 : w.frozen? ⟨nb, 0, none⟩ = false := frozen_of 0 hn
  have hlt := lt_of_heap hn
  cases m with
  | zero => exact ht.elim
  | succ m =>
  rcases ht with ⟨hk, hks, hnum, hv⟩ | ⟨hk, hks, hv⟩ | ⟨hk, b, sl, xs, hv, hD, hb, hrow, hl1, hl2, hx⟩
  · subst hv
    by_cases hge : st ≤ t.num
    · have e1 : vetNext st t = t.num + 1 := by simp [vetNext, hk, hge]
      rw [vetOk, e1]
      clear e1
      have t1 : (st : Int) ≤ (t.num : Int) := by omega
      go_enter Try.func60, Try.ntmps60
      go_wp2
      go_ret
      exact ⟨ret_bool (by simp; omega), heap_alloc_keep (by rw [heap_setCell_same _ hn]; simp), Fr.alloc (Fr.setCell (S := fun k => k = nb) (Fr.refl _ _) (fun _ => rfl) _) _⟩
    · have e1 : vetNext st t = st := by simp [vetNext, hge]
      rw [vetOk, e1]
      clear e1
      have t1 : decide ((st : Int) ≤ (t.num : Int)) = false := by simp; omega
      go_enter Try.func60, Try.ntmps60
      go_wp2
      go_ret
      exact ⟨ret_bool (by simp; omega), heap_alloc_keep hn, Fr.alloc (Fr.refl _ _) _⟩
  · subst hv
    have e1 : vetNext st t = st := by simp [vetNext, hk]
    rw [vetOk, e1]
    clear e1
    go_enter Try.func60, Try.ntmps60
    go_wp2
    go_ret
    exact ⟨ret_bool (by simp; omega), heap_alloc_keep hn, Fr.alloc (Fr.refl _ _) _⟩
  · subst hv
    have e1 : vetNext st t = st := by simp [vetNext, hk]
    rw [vetOk, e1]
    clear e1
    go_enter Try.func60, Try.ntmps60
    go_wp2
    go_ret
    exact ⟨ret_bool (by simp; omega), heap_alloc_keep hn, Fr.alloc (Fr.refl _ _) _⟩

/-! ### The walk with a visitor, as a function. -/
def walkL (rec : Nat → Tm → Nat × Bool) : Nat → List Tm → Nat × Bool
  | st, [] => (st, true)
  | st, t :: ts => if (rec st t).2 then walkL rec (rec st t).1 ts else ((rec st t).1, false)
def walkS (nxt : Nat → Tm → Nat) (ok : Nat → Tm → Bool) : Nat → Nat → Tm → Nat × Bool
  | 0, st, _ => (st, false)
  | n + 1, st, t => if ok st t then walkL (walkS nxt ok n) (nxt st t) t.kids else (nxt st t, false)

theorem walkL_le {rec : Nat → Tm → Nat × Bool} (h : ∀ st t, st ≤ 41 → (rec st t).2 = true → (rec st t).1 ≤ 41) : ∀ (ts : List Tm) (st : Nat), st ≤ 41 → (walkL rec st ts).2 = true → (walkL rec st ts).1 ≤ 41
  | [], st, hst, _ => hst
  | t :: ts, st, hst, hr => by
    rw [walkL] at hr ⊢
    by_cases hb : (rec st t).2 = true
    · rw [if_pos hb] at hr ⊢; exact walkL_le h ts _ (h st t hst hb) hr
    · rw [if_neg hb] at hr; simp at hr
theorem walkS_le {nxt : Nat → Tm → Nat} {ok : Nat → Tm → Bool} (hok : ∀ st t, ok st t = true → nxt st t ≤ 41) : ∀ (n st : Nat) (t : Tm), st ≤ 41 → (walkS nxt ok n st t).2 = true → (walkS nxt ok n st t).1 ≤ 41
  | 0, st, t, hst, hr => hst
  | n + 1, st, t, hst, hr => by
    rw [walkS] at hr ⊢
    by_cases hb : ok st t = true
    · rw [if_pos hb] at hr ⊢; exact walkL_le (fun st t h1 h2 => walkS_le hok n st t h1 h2) _ _ (hok st t hb) hr
    · rw [if_neg hb] at hr; simp at hr
end Go.Proofs.Qxb6500302a
