import Derived.Test.Qxb6500302aMod1
namespace Go.Proofs.Qxb6500302a.M
open Go.RowKit
set_option linter.unusedSimpArgs false
set_option linter.unusedVariables false
attribute [local go_sem ↓] Go.wp_at_zero Go.wp_at_succ
attribute [-go_sem] Go.run_string_add_if Go.run_index_string Go.run_slice_string_if

theorem varIx_ne : ∀ (vs : List UInt8) (c : UInt8) (k : Nat), k < varIx vs c → ∃ x, vs[k]? = some x ∧ x ≠ c
  | [], c, k, h => by simp [varIx] at h
  | y :: r, c, k, h => by
    simp only [varIx] at h
    split at h
    · omega
    · rename_i hne
      cases k with
      | zero => exact ⟨y, rfl, hne⟩
      | succ k => exact varIx_ne r c k (by omega)
theorem varIx_at : ∀ (vs : List UInt8) (c : UInt8), varIx vs c < vs.length → vs[varIx vs c]? = some c
  | [], c, h => by simp at h
  | y :: r, c, h => by
    by_cases e : y = c
    · simp [varIx, e]
    · simp only [varIx, e, if_false] at h ⊢
      exact varIx_at r c (by simpa using h)

/-- What a reading of the model leaves: the code; where it stands; or the flag. -/
def TermPost (n : Nat) (b : Nat) (s r0 : List UInt8) (R : Rd) (w : World) (e : Ending) (w' : World) : Prop :=
  ∃ (out : List UInt8) (p' : Nat) (vs' : List UInt8) (bad' : Bool), e = .returned (.string (S out)) ∧ RdAt w' b s p' vs' bad' ∧ Fr (fun k => k = b) w w' ∧ out.length ≤ 2 * r0.length + 2 ∧
    ((bad' = false ∧ p' ≤ s.length ∧ vs'.length ≤ 6 ∧ out.length + 2 * (s.drop p').length ≤ 2 * r0.length ∧ ∃ t, R = some (t, s.drop p', vs') ∧ out = codeOf t)
     ∨ (bad' = true ∧ p' ≤ s.length + n ∧ vs'.length ≤ 7 ∧ ∀ t r' v', R = some (t, r', v') → 6 < v'.length))

theorem codeOf_var (c : UInt8) (k : Nat) : codeOf (tVar c k) = [65 + k.toUInt8] := by unfold tVar; rw [codeOf_eq]; simp
theorem abc_at : ∀ k : Nat, k < 6 → ([65, 66, 67, 68, 69, 70] : List UInt8)[k]? = some (65 + k.toUInt8) := by decide
theorem abc_slice {k : Nat} (h : k < 6) (w : World) : (Instr.slice 9 (.string { data := #[65, 66, 67, 68, 69, 70] }) (some (.int .i64 (k : Int))) (some (.int .i64 ((k : Int) + 1))) none).run Try.prog w = .ok (.string (S [65 + k.toUInt8])) w :=
  slice_one (l := [65, 66, 67, 68, 69, 70]) (abc_at k h) w

theorem noB {b : Nat} {w w' : World} (h : Fr No w w') : Fr (fun k => k = b) w w' := h.mono (fun _ _ h => h.elim)
theorem setB {b : Nat} {w w' : World} (h : Fr (fun k => k = b) w w') (i : Nat) (v : Value) : Fr (fun k => k = b) w (w'.setCell ⟨b, i, none⟩ v) := h.setCell (fun _ => rfl) v

section
variable {w : World} {b p n : Nat} {s vs : List UInt8}

theorem cap_facts {c : UInt8} (h : isCap c = true) : 65 ≤ c.toNat ∧ c.toNat ≤ 90 := by simpa [isCap] using h
theorem low_facts {c : UInt8} (h : isLow c = true) : 97 ≤ c.toNat ∧ c.toNat ≤ 122 := by simpa [isLow] using h
theorem drop_lt {s : List UInt8} {p : Nat} {c : UInt8} (h : hd (s.drop p) = c) (hc : c ≠ 0) : p < s.length := by
  rcases Nat.lt_or_ge p s.length with h' | h'
  · exact h'
  · rw [List.drop_eq_nil_of_le h'] at h; exact absurd h.symm hc
theorem drop_next (s : List UInt8) (p : Nat) : s.drop (p + 1) = (s.drop p).tail := by simp [List.tail_drop]

set_option maxRecDepth 40000 in
set_option maxHeartbeats 4000000 in
theorem term_var (h : RdAt w b s p vs false) (hs : s.length ≤ 40) (hv : vs.length ≤ 6) (hn : 1 ≤ n) {c : UInt8} (hc : hd (s.drop p) = c) (hcap : isCap c = true) (rec : List UInt8 → List UInt8 → Rd) :
    Calls Try.prog 67 #[.pointer (some ⟨b, 0, none⟩), .bool false] w (TermPost n b s (s.drop p) (rTerm rec (s.drop p) vs) w) := by
  have hp : p < s.length := drop_lt hc (isCap_ne hcap)
  obtain ⟨g1, g2⟩ := cap_facts hcap
  have hR : rTerm rec (s.drop p) vs = some (tVar c (varIx vs c), s.drop (p + 1), addVar vs c) := by
    unfold rTerm; rw [hc, hcap, if_pos rfl, drop_next]
  have HR : Hid (rTerm rec (s.drop p) vs = some (tVar c (varIx vs c), s.drop (p + 1), addVar vs c)) := hR
  have hdl : (s.drop p).length = (s.drop (p + 1)).length + 1 := by simp; omega
  have HD : Hid ((s.drop p).length = (s.drop (p + 1)).length + 1) := hdl
  have d1 : decide ((65 : Int) ≤ (c.toNat : Int)) = true := decide_eq_true (by omega)
  have d1' : decide (65 ≤ c.toNat) = true := decide_eq_true (by omega)
  have d2 : decide ((c.toNat : Int) ≤ 90) = true := decide_eq_true (by omega)
  have d2' : decide (c.toNat ≤ 90) = true := decide_eq_true (by omega)
  have hix := varIx_le vs c
  have HNE : Hid (∀ k, k < varIx vs c → ∃ x, vs[k]? = some x ∧ x ≠ c) := varIx_ne vs c
  have HAT : Hid (varIx vs c < vs.length → vs[varIx vs c]? = some c) := varIx_at vs c
  have HP : Hid (∀ w', Fr No w w' → Calls Try.prog 68 #[.pointer (some ⟨b, 0, none⟩)] w' fun e w'' => e = .returned (.int .u8 (c.toNat : Int)) ∧ Fr No w' w'') := fun w' hf => by
    have := peek_any (h.keep hf (fun h => h)) (by omega) hs
    rw [hc] at this
    exact this
  have hsl := fun w => slice_one (l := s) (i := p) (c := c) (by rw [at_drop s p hp, hc]) w
  have hadd := fun w => add_S vs [c] (by simp; omega) w
  have hsv := S_size vs
  have HA : Hid (addVar vs c = if varIx vs c < vs.length then vs else vs ++ [c]) := rfl
  have HC : Hid (∀ k : Nat, codeOf (tVar c k) = [65 + k.toUInt8]) := fun k => codeOf_var c k
  clear hR hdl hc
  go_enter Try.func67, Try.ntmps67
  go_wp2_with fail
  refine (HP.out w (Fr.refl _ _)).mono ?_
  rintro e w1 ⟨rfl, F1⟩
  have h1 := h.keep F1 (fun h => h)
  have c0 := h1.c0
  have c1 := h1.c1
  have c2 := h1.c2
  have z1 := h1.z1
  have z2 := h1.z2
  have z3 := h1.z3
  go_wp2_with fail
  go_loopg [6] (vs.length + 1) (fun gk u wr => ∃ k : Nat, u = .int .i64 (k : Int) ∧ k ≤ varIx vs c ∧ gk = vs.length + 1 - k ∧ wr = w1)
  case atStart => exact ⟨0, rfl, Nat.zero_le _, rfl, rfl⟩
  case round =>
    obtain ⟨k, rfl, hk, hgk, rfl⟩ := hrel
    by_cases hlt : k < varIx vs c
    · obtain ⟨x, hx, hxc⟩ := HNE.out k hlt
      have xk := fun w => idx_Int (l := vs) (i := (k : Int)) (by omega) (c := x) (by rw [Int.toNat_natCast]; exact hx) w
      have e1 : decide ((k : Int) < ((S vs).size : Int)) = true := decide_eq_true (by omega)
      have e1' : decide (k < (S vs).size) = true := decide_eq_true (by omega)
      have hxc' : x.toNat ≠ c.toNat := fun e => hxc (UInt8.toNat.inj e)
      have e2 : ((x.toNat : Int) != (c.toNat : Int)) = true := by rw [bne_iff_ne]; omega
      have e2' : ((x.toNat : Int) == (c.toNat : Int)) = false := by rw [beq_eq_false_iff_ne]; omega
      clear hx hxc hxc'
      go_wp2_with fail
      go_roundg (vs.length + 1 - (k + 1))
      case measure => omega
      case rel => exact ⟨k + 1, by go_num, by omega, rfl, rfl⟩
    · have hk' : k = varIx vs c := by omega
      by_cases hin : k < vs.length
      · have hxk : vs[k]? = some c := by rw [hk']; exact HAT.out (by omega)
        have xk := fun w => idx_Int (l := vs) (i := (k : Int)) (by omega) (c := c) (by rw [Int.toNat_natCast]; exact hxk) w
        have e1 : decide ((k : Int) < ((S vs).size : Int)) = true := decide_eq_true (by omega)
        have e1' : decide (k < (S vs).size) = true := decide_eq_true (by omega)
        have e2 : ((c.toNat : Int) != (c.toNat : Int)) = false := by simp
        have e2' : ((c.toNat : Int) == (c.toNat : Int)) = true := by simp
        have e3 : ((k : Int) == ((S vs).size : Int)) = false := by rw [beq_eq_false_iff_ne]; omega
        have e4 : decide ((6 : Int) ≤ (k : Int)) = false := decide_eq_false (by omega)
        have e4' : decide (6 ≤ k) = false := decide_eq_false (by omega)
        have hab := fun w => abc_slice (k := k) (by omega) w
        have HK : Hid (k = varIx vs c) := hk'
        clear hxk hk'
        go_wp2_with fail
        go_ret
        refine ⟨_, p + 1, vs, false, rfl, h1.pos, setB (noB F1) _ _, by simp, .inl ⟨rfl, by omega, hv, by have := HD.out; simp at this ⊢; omega, _, ?_, (HC.out k).symm⟩⟩
        rw [HR.out, HA.out, if_pos (by have := HK.out; omega), HK.out]
      · have e1 : decide ((k : Int) < ((S vs).size : Int)) = false := decide_eq_false (by omega)
        have e1' : decide (k < (S vs).size) = false := decide_eq_false (by omega)
        have e3 : ((k : Int) == ((S vs).size : Int)) = true := by rw [beq_iff_eq]; omega
        have HK : Hid (k = varIx vs c) := hk'
        clear hk'
        go_upto_region 7 with fail
        go_region
        have h2 : RdAt (wr.setCell ⟨b, 2, none⟩ (.string (S (vs ++ [c])))).drew b s p (vs ++ [c]) false := h1.met _
        have F2 : Fr (fun k => k = b) w (wr.setCell ⟨b, 2, none⟩ (.string (S (vs ++ [c])))).drew := (setB (noB F1) _ _).drew
        generalize (wr.setCell ⟨b, 2, none⟩ (.string (S (vs ++ [c])))).drew = W2 at *
        have c21 := h2.c1
        have z21 := h2.z1
        have z23 := h2.z3
        have c23 := h2.c3
        by_cases h6 : vs.length < 6
        · have e4 : decide ((6 : Int) ≤ (k : Int)) = false := decide_eq_false (by omega)
          have e4' : decide (6 ≤ k) = false := decide_eq_false (by omega)
          have hab := fun w => abc_slice (k := k) (by omega) w
          go_wp2_with fail
          go_ret
          refine ⟨_, p + 1, vs ++ [c], false, rfl, h2.pos, setB F2 _ _, by simp, .inl ⟨rfl, by omega, by simp; omega, by have := HD.out; simp at this ⊢; omega, _, ?_, (HC.out k).symm⟩⟩
          rw [HR.out, HA.out, if_neg (by have := HK.out; omega), HK.out]
        · have e4 : decide ((6 : Int) ≤ (k : Int)) = true := decide_eq_true (by omega)
          have e4' : decide (6 ≤ k) = true := decide_eq_true (by omega)
          go_wp2_with fail
          go_ret
          refine ⟨[], p + 1, vs ++ [c], true, rfl, h2.pos.fail, setB (setB F2 _ _) _ _, by simp, .inr ⟨rfl, by omega, by simp; omega, ?_⟩⟩
          intro t r' v' e
          rw [HR.out, HA.out, if_neg (by have := HK.out; omega)] at e
          simp only [Option.some.injEq, Prod.mk.injEq] at e
          rw [← e.2.2]
          simp; omega
end
end Go.Proofs.Qxb6500302a.M
