import Derived.Test.Qxb6500302aRead2
namespace Go.Proofs.Qxb6500302a
open Go.RowKit
set_option linter.unusedSimpArgs false
set_option linter.unusedVariables false

/-- The reader's own two blocks. -/
def RM (r mb : Nat) (k : Nat) : Prop := k = r ∨ k = mb

/-- What 'term' and 'call' come to: 'wrap' makes the interface value of what is handed back. -/
def ReadPost (wrap : Value → Value) (res : Rd) (r mb : Nat) (s : ByteArray) (w : World) (e : Ending) (w' : World) : Prop :=
  match res with
  | none => Syn e ∧ Fr (RM r mb) w w'
  | some (t, rest', vs') => ∃ (v : Value) (pre' : List UInt8) (m : Nat) (D : Nat → Prop), e = .returned v ∧ TermN w' D m (wrap v) t ∧ RdAt w' r mb s pre' rest' vs' ∧ Fr (RM r mb) w w' ∧ (∀ k, D k → w.heap.size ≤ k ∧ k < w'.heap.size)

def asCall (v : Value) : Value := .iface 80 v
def asIs (v : Value) : Value := v

def CallSaid (n : Nat) : Prop := ∀ {r mb : Nat} {s : ByteArray} {pre rest vs : List UInt8} {w : World}, RdAt w r mb s pre rest vs → rest.length < n →
  Calls Try.prog 55 #[.pointer (some ⟨r, 0, none⟩)] w (ReadPost asCall (rCall n rest vs) r mb s w)

theorem cap_of {c : UInt8} (h : isCap c = true) : (65 : Int) ≤ (c.toNat : Int) ∧ (c.toNat : Int) ≤ 90 := by
  simp [isCap] at h; omega
theorem not_cap_of {c : UInt8} (h : isCap c = false) : (c.toNat : Int) < 65 ∨ (90 : Int) < (c.toNat : Int) := by
  simp [isCap] at h; omega

theorem RdAt.newVar {w : World} {r mb : Nat} {s : ByteArray} {pre rest vs : List UInt8} (h : RdAt w r mb s pre rest vs) (c : UInt8) (hfew : vs.length + 1 ≤ pre.length) :
    RdAt (put w mb (.map (varEnts (vs ++ [c])) (vs.length + 1))) r mb s pre rest (vs ++ [c]) :=
  ⟨by rw [heap_put_other _ h.ne.symm]; exact h.rd, by rw [heap_put_same _ h.mp]; simp, h.src, h.len, by simpa using hfew⟩

set_option maxRecDepth 20000 in
set_option maxHeartbeats 400000 in
theorem term_var {r mb : Nat} {s : ByteArray} {pre rest vs : List UInt8} {w : World} (n : Nat) (h : RdAt w r mb s pre rest vs) (hcap : isCap (hd rest) = true) :
    Calls Try.prog 66 #[.pointer (some ⟨r, 0, none⟩)] w (ReadPost asIs (rTerm (rCall n) rest vs) r mb s w) := by
  obtain ⟨c, rest, rfl⟩ : ∃ c rest', rest = c :: rest' := by
    cases rest with
    | nil => simp [hd, isCap] at hcap
    | cons c r => exact ⟨c, r, rfl⟩
  have e : rTerm (rCall n) (c :: rest) vs = some (tVar c (varIx vs c), rest, addVar vs c) := by rw [rTerm, if_pos hcap]; rfl
  rw [e]
  clear e
  have c1 : w.cell? ⟨r, 1, none⟩ = some (.int .i64 (pre.length : Int)) := cell_of 1 h.rd rfl
  have c2 : w.cell? ⟨r, 2, none⟩ = some (.map (some mb)) := cell_of 2 h.rd rfl
  have f1 : w.frozen? ⟨r, 1, none⟩ = false := frozen_of 1 h.rd
  have hl := h.lens
  have hm := h.len
  have hfew := h.few
  obtain ⟨q1, q2⟩ := cap_of hcap
  simp only [hd] at q1 q2
  have t1 : decide ((c.toNat : Int) < 65) = false := by simp; omega
  have t2 : decide ((90 : Int) < (c.toNat : Int)) = false := by simp; omega
  clear q1 q2
  by_cases hv : hasVar vs c = true
  · have hav : addVar vs c = vs := by simp [addVar, hasVar] at hv ⊢; omega
    rw [hav]
    clear hav
    go_enter Try.func66, Try.ntmps66
    go_wp2_with fail
    refine (peek_any h (c := c) rfl).mono ?_
    rintro e w' ⟨rfl, n, rfl⟩
    have h1 := (h.drewN n).step
    have hlook := run_lookup_vars h1.mp c
    rw [if_pos hv, hv] at hlook
    go_wp2_with fail
    go_ret
    exact ⟨_, _, 1, No, rfl, .inl ⟨rfl, rfl, by show varIx vs c ≤ 40; simp [hasVar] at hv; omega, rfl⟩, h1, Fr.setCell (S := RM r mb) ((Fr.refl _ _).drewN n) (fun _ => .inl rfl) _, fun _ hk => hk.elim⟩
  · have hv' : hasVar vs c = false := by simpa using hv
    have hav : addVar vs c = vs ++ [c] := by simp [addVar, hasVar] at hv' ⊢; omega
    have hix : varIx vs c = vs.length := by
      have hle : ∀ l : List UInt8, varIx l c ≤ l.length := by
        intro l; induction l with
        | nil => simp [varIx]
        | cons x r ih => simp only [varIx]; split <;> simp <;> omega
      have := hle vs
      simp [hasVar] at hv'; omega
    rw [hav, hix]
    clear hav hix hv
    go_enter Try.func66, Try.ntmps66
    go_wp2_with fail
    refine (peek_any h (c := c) rfl).mono ?_
    rintro e w' ⟨rfl, n, rfl⟩
    have h1 := (h.drewN n).step
    have hlook := run_lookup_vars h1.mp c
    rw [hv', if_neg (by simp)] at hlook
    have hlen := run_len_vars h1.mp 3
    have hupd := run_update_vars h1.mp c hv'
    go_wp2_with fail
    go_ret
    exact ⟨_, _, 1, No, rfl, .inl ⟨rfl, rfl, by show vs.length ≤ 40; omega, rfl⟩, h1.newVar c (by simpa using hfew), Fr.put (S := RM r mb) (Fr.setCell (S := RM r mb) ((Fr.refl _ _).drewN n) (fun _ => .inl rfl) _) (fun _ => .inr rfl) _, fun _ hk => hk.elim⟩

theorem term_any {n : Nat} (hcall : CallSaid n) {r mb : Nat} {s : ByteArray} {pre rest vs : List UInt8} {w : World} (h : RdAt w r mb s pre rest vs) (hn : rest.length < n) :
    Calls Try.prog 66 #[.pointer (some ⟨r, 0, none⟩)] w (ReadPost asIs (rTerm (rCall n) rest vs) r mb s w) := by
  by_cases hcap : isCap (hd rest) = true
  · exact term_var n h hcap
  have hcap' : isCap (hd rest) = false := by simpa using hcap
  have e : rTerm (rCall n) rest vs = rCall n rest vs := by simp [rTerm, hcap']
  rw [e]
  clear e
  have tt : (decide (((hd rest).toNat : Int) < 65) = true) ∨ (decide (((hd rest).toNat : Int) < 65) = false ∧ decide ((90 : Int) < ((hd rest).toNat : Int)) = true) := by
    rcases not_cap_of hcap' with h | h
    · exact .inl (by simpa using h)
    · by_cases h2 : ((hd rest).toNat : Int) < 65
      · exact .inl (by simpa using h2)
      · exact .inr ⟨by simpa using h2, by simpa using h⟩
  have HC : Hid (CallSaid n) := @hcall
  clear hcall
  rcases tt with t1 | ⟨t1, t2⟩
  all_goals
    cases hres : rCall n rest vs with
    | none =>
      have HR : Hid (rCall n rest vs = none) := hres
      clear hres
      go_enter Try.func66, Try.ntmps66
      go_wp2_with fail
      refine (peek_any h rfl).mono ?_
      rintro e w' ⟨rfl, k, rfl⟩
      go_wp2_with fail
      refine (HC.out (h.drewN k) hn).mono ?_
      rw [HR.out]
      rintro e w' ⟨⟨b, rfl⟩, hf⟩
      go_wp2_with fail
      exact ⟨rfl, ⟨_, rfl⟩, ((Fr.refl _ _).drewN k).trans hf (fun _ _ h => h)⟩
    | some x =>
      obtain ⟨t, rest', vs'⟩ := x
      have HR : Hid (rCall n rest vs = some (t, rest', vs')) := hres
      clear hres
      go_enter Try.func66, Try.ntmps66
      go_wp2_with fail
      refine (peek_any h rfl).mono ?_
      rintro e w' ⟨rfl, k, rfl⟩
      go_wp2_with fail
      refine (HC.out (h.drewN k) hn).mono ?_
      rw [HR.out]
      rintro e w' ⟨v, pre', m, D, rfl, ht, hr, hf, hD⟩
      go_wp2_with fail
      go_ret
      exact ⟨_, pre', m, D, rfl, ht, hr, ((Fr.refl _ _).drewN k).trans hf (fun _ _ h => h), hD⟩
end Go.Proofs.Qxb6500302a
