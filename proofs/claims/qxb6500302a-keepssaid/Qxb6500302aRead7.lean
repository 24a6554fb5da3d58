import Derived.Test.Qxb6500302aRead6
namespace Go.Proofs.Qxb6500302a
open Go.RowKit
set_option linter.unusedSimpArgs false
set_option linter.unusedVariables false

theorem goal_any {n : Nat} {r mb : Nat} {s : ByteArray} {pre rest vs : List UInt8} {w : World} (h : RdAt w r mb s pre rest vs) (hn : rest.length < n) :
    Calls Try.prog 57 #[.pointer (some ⟨r, 0, none⟩)] w (ReadPost asIs (rGoal n rest vs) r mb s w) := by
  by_cases h33 : hd rest = 33
  · obtain ⟨rest, rfl⟩ : ∃ rest2, rest = 33 :: rest2 := ⟨_, hd_cons h33 (by decide)⟩
    have e : rGoal n (33 :: rest) vs = some (tCut, rest, vs) := by simp [rGoal, hd]
    rw [e]
    clear e
    have c1 : w.cell? ⟨r, 1, none⟩ = some (.int .i64 (pre.length : Int)) := cell_of 1 h.rd rfl
    have f1 : w.frozen? ⟨r, 1, none⟩ = false := frozen_of 1 h.rd
    have hl := h.lens
    have hm := h.len
    go_enter Try.func57, Try.ntmps57
    go_wp2_with fail
    refine (peek_any h (c := 33) rfl).mono ?_
    rintro e w' ⟨rfl, k, rfl⟩
    have h1 := (h.drewN k).step
    go_wp2_with fail
    go_ret
    exact ⟨_, _, 1, No, rfl, .inr (.inl ⟨rfl, rfl, rfl⟩), h1, Fr.setCell (S := RM r mb) ((Fr.refl _ _).drewN k) (fun _ => .inl rfl) _, fun _ hk => hk.elim⟩
  · have e : rGoal n rest vs = rCall n rest vs := by simp [rGoal, h33]
    rw [e]
    clear e
    have t1 : (((hd rest).toNat : Int) == 33) = false := by
      have := neq_of h33
      simp only [bne_iff_ne, ne_eq] at this
      simpa using this
    cases hres : rCall n rest vs with
    | none =>
      have HR : Hid (rCall n rest vs = none) := hres
      clear hres
      go_enter Try.func57, Try.ntmps57
      go_wp2_with fail
      refine (peek_any h rfl).mono ?_
      rintro e w' ⟨rfl, k, rfl⟩
      go_wp2_with fail
      refine (call_any n (h.drewN k) hn).mono ?_
      rw [HR.out]
      rintro e w' ⟨⟨b, rfl⟩, hf⟩
      go_wp2_with fail
      exact ⟨rfl, ⟨_, rfl⟩, ((Fr.refl _ _).drewN k).trans hf (fun _ _ h => h)⟩
    | some x =>
      obtain ⟨t, rest', vs'⟩ := x
      have HR : Hid (rCall n rest vs = some (t, rest', vs')) := hres
      clear hres
      go_enter Try.func57, Try.ntmps57
      go_wp2_with fail
      refine (peek_any h rfl).mono ?_
      rintro e w' ⟨rfl, k, rfl⟩
      go_wp2_with fail
      refine (call_any n (h.drewN k) hn).mono ?_
      rw [HR.out]
      rintro e w' ⟨v, pre', m, D, rfl, ht, hr, hf, hD⟩
      go_wp2_with fail
      go_ret
      exact ⟨_, pre', m, D, rfl, ht, hr, ((Fr.refl _ _).drewN k).trans hf (fun _ _ h => h), hD⟩

/-- A pointer to a clause's block, which leads to the tree t. -/
def ClauseN (w : World) (D : Nat → Prop) (m : Nat) (v : Value) (t : Tm) : Prop :=
  ∃ b rb, v = .pointer (some ⟨b, 0, none⟩) ∧ D b ∧ w.heap[b]? = some (.cells #[.pointer (some ⟨rb, 0, none⟩)] 92) ∧ TermN w D m (.iface 80 (.pointer (some ⟨rb, 0, none⟩))) t

theorem ClauseN.mono {w w' : World} {D D' : Nat → Prop} (hk : ∀ k, D k → D' k ∧ w'.heap[k]? = w.heap[k]?) {n : Nat} {v : Value} {t : Tm} (h : ClauseN w D n v t) : ClauseN w' D' n v t := by
  obtain ⟨b, rb, h1, h2, h3, h4⟩ := h
  exact ⟨b, rb, h1, (hk b h2).1, by rw [(hk b h2).2]; exact h3, h4.mono hk⟩

def TreePost (q : Bool) (res : Option (List Tm × List UInt8)) (r mb : Nat) (w : World) (e : Ending) (w' : World) : Prop :=
  match res with
  | none => Syn e ∧ Fr (RM r mb) w w'
  | some (ts, _) => ∃ (v : Value) (m : Nat) (D : Nat → Prop), e = .returned v ∧ ClauseN w' D m v (tCall (rootOf q) ts) ∧ Fr (RM r mb) w w' ∧ (∀ k, D k → w.heap.size ≤ k ∧ k < w'.heap.size)

def rEnd (acc : List Tm) : Rds → Option (List Tm × List UInt8)
  | some (ts, [], vs) => some (acc ++ ts, vs)
  | _ => none

theorem rEnd_snoc {n k : Nat} {acc : List Tm} {t : Tm} {s s1 vs vs1 : List UInt8} (ht : rGoal n s vs = some (t, s1, vs1)) (h44 : hd s1 = 44) :
    rEnd acc (rGoals n (k + 1) s vs) = rEnd (acc ++ [t]) (rGoals n k s1.tail vs1) := by
  rw [rGoals, ht]
  simp only [h44, if_true]
  cases hr : rGoals n k s1.tail vs1 with
  | none => rfl
  | some x =>
    obtain ⟨ts, s2, vs2⟩ := x
    cases s2 <;> simp [rEnd]
theorem rEnd_end {n k : Nat} {acc : List Tm} {t : Tm} {s vs vs1 : List UInt8} (ht : rGoal n s vs = some (t, [], vs1)) :
    rEnd acc (rGoals n (k + 1) s vs) = some (acc ++ [t], vs1) := by
  rw [rGoals, ht]; simp [hd, rEnd]
theorem rEnd_bad {n k : Nat} {acc : List Tm} {t : Tm} {s s1 vs vs1 : List UInt8} (ht : rGoal n s vs = some (t, s1, vs1)) (h44 : hd s1 ≠ 44) (h0 : s1 ≠ []) :
    rEnd acc (rGoals n (k + 1) s vs) = none := by
  rw [rGoals, ht]
  cases s1 with
  | nil => exact absurd rfl h0
  | cons c r => simp [h44, rEnd]
theorem rEnd_none {n k : Nat} {acc : List Tm} {s vs : List UInt8} (ht : rGoal n s vs = none) : rEnd acc (rGoals n k s vs) = none := by
  cases k with
  | zero => rfl
  | succ k => rw [rGoals, ht]; rfl
end Go.Proofs.Qxb6500302a
