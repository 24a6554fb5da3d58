import Derived.Test.Qxb6500301aLoad1
namespace Go.Proofs.Qxb6500301a
open Go.RowKit
set_option linter.unusedSimpArgs false
set_option linter.unusedVariables false
attribute [local go_sem ↓] Go.wp_at_zero Go.wp_at_succ
attribute [-go_sem] Go.run_string_add_if Go.run_index_string Go.run_slice_string_if

theorem scanL_zero (code : List UInt8) (seen : List Bool) (n : Nat) : scanL code 0 seen n = if code = [] then some n else none := by cases code <;> rfl
theorem scanL_nil (w : Nat) (seen : List Bool) (n : Nat) : scanL [] (w + 1) seen n = none := rfl
theorem scanL_var {c : UInt8} (h : isVarC c = true) (r : List UInt8) (w : Nat) (seen : List Bool) (n : Nat) : scanL (c :: r) (w + 1) seen n = scanL r w (seen.set (c.toNat - 65) true) (if seen.getD (c.toNat - 65) false then n else n + 1) := by
  cases r with
  | nil => simp [scanL, h]
  | cons d r => simp [scanL, h]
theorem scanL_bad {c : UInt8} (h : isVarC c = false) (hf : isFun c = false) (r : List UInt8) (w : Nat) (seen : List Bool) (n : Nat) : scanL (c :: r) (w + 1) seen n = none := by
  cases r with
  | nil => simp [scanL, h]
  | cons d r => simp [scanL, h, hf]
theorem scanL_end {c : UInt8} (h : isVarC c = false) (w : Nat) (seen : List Bool) (n : Nat) : scanL [c] (w + 1) seen n = none := by simp [scanL, h]
theorem scanL_dig {c d : UInt8} (h : isVarC c = false) (hd : okD d = false) (r : List UInt8) (w : Nat) (seen : List Bool) (n : Nat) : scanL (c :: d :: r) (w + 1) seen n = none := by simp [scanL, h, hd]
theorem scanL_fun {c d : UInt8} (h : isVarC c = false) (hf : isFun c = true) (hd : okD d = true) (r : List UInt8) (w : Nat) (seen : List Bool) (n : Nat) : scanL (c :: d :: r) (w + 1) seen n = scanL r (w + (d.toNat - 48)) seen (n + 1) := by simp [scanL, h, hf, hd]

def scanAns (code : List UInt8) : Int := match scanL code 1 (List.replicate 6 false) 0 with
  | some n => (n : Int)
  | none => -1

theorem mask_at {seen : List Bool} (h : seen.length = 6) {k : Nat} (hk : k < 6) : (bits BinOp.and IntKind.u8 (maskOf seen) (2 ^ k % 256) == 0) = !(seen.getD k false) ∧ bits BinOp.or IntKind.u8 (maskOf seen) (2 ^ k % 256) = maskOf (seen.set k true) := by
  match seen, h with
  | [b0, b1, b2, b3, b4, b5], _ => exact mask6 b0 b1 b2 b3 b4 b5 ⟨k, hk⟩

theorem drop_cons {s : List UInt8} {p : Nat} {c : UInt8} (h : s[p]? = some c) : s.drop p = c :: s.drop (p + 1) := by
  have hl := (List.getElem?_eq_some_iff.1 h).1
  rw [List.drop_eq_getElem_cons hl]
  congr 1
  exact (List.getElem?_eq_some_iff.1 h).2

section
variable {w : World}
set_option maxRecDepth 40000 in
set_option maxHeartbeats 4000000 in
theorem scan_any {code : List UInt8} (hl : code.length ≤ 48) : Calls Try.prog 40 #[.string (S code)] w fun e w' => e = .returned (.int .i64 (scanAns code)) ∧ w' = w := by
  have hsz := S_size code
  have HA : Hid (∀ r, scanL code 1 (List.replicate 6 false) 0 = r → scanAns code = match r with
    | some n => (n : Int)
    | none => -1) := fun r hr => by unfold scanAns; rw [hr]
  go_enter Try.func40, Try.ntmps40
  go_wp2_with fail
  go_loopg [3, 4, 5, 6] (code.length + 2) (fun gk v3 v4 v5 v6 wr => ∃ (seen : List Bool) (want n p : Nat), v3 = .int .u8 (maskOf seen) ∧ v4 = .int .i64 (want : Int) ∧ v5 = .int .i64 (n : Int) ∧ v6 = .int .i64 (p : Int) ∧ seen.length = 6 ∧ p ≤ code.length ∧ gk = code.length + 2 - p ∧ want ≤ 1 + 4 * p ∧ n ≤ p ∧ Hid (scanL code 1 (List.replicate 6 false) 0 = scanL (code.drop p) want seen n) ∧ wr = w)
  case atStart => exact ⟨List.replicate 6 false, 1, 0, 0, rfl, rfl, rfl, rfl, rfl, Nat.zero_le _, rfl, by omega, Nat.le_refl _, rfl, rfl⟩
  case round =>
    obtain ⟨seen, want, n, p, rfl, rfl, rfl, rfl, hse, hp, hgk, hwa, hn, HE, rfl⟩ := hrel
    cases want with
    | zero =>
      have hse0 : ((0 : Nat) : Int) = 0 := rfl
      by_cases hend : p = code.length
      · have HF : Hid (scanAns code = (n : Int)) := HA.out (some n) (by rw [HE.out, scanL_zero, if_pos (by rw [hend, List.drop_length])])
        have q1 : ((p : Int) != (code.length : Int)) = false := by rw [hend]; simp
        have q2 : ((p : Int) == (code.length : Int)) = true := by rw [hend]; simp
        clear hend
        go_wp2_with fail
        go_ret
        rw [HF.out]
        exact ⟨rfl, rfl⟩
      · have HF : Hid (scanAns code = -1) := HA.out none (by rw [HE.out, scanL_zero, if_neg (by rw [List.drop_eq_nil_iff]; omega)])
        have q1 : ((p : Int) != (code.length : Int)) = true := by rw [bne_iff_ne]; omega
        have q2 : ((p : Int) == (code.length : Int)) = false := by rw [beq_eq_false_iff_ne]; omega
        go_wp2_with fail
        go_ret
        rw [HF.out]
        exact ⟨rfl, rfl⟩
    | succ want =>
      by_cases hpl : p < code.length
      case neg =>
        have HF : Hid (scanAns code = -1) := HA.out none (by rw [HE.out, List.drop_eq_nil_of_le (by omega), scanL_nil])
        have d1 : decide ((code.length : Int) ≤ (p : Int)) = true := decide_eq_true (by omega)
        have d1' : decide (code.length ≤ p) = true := decide_eq_true (by omega)
        go_wp2_with fail
        go_ret
        rw [HF.out]
        exact ⟨rfl, rfl⟩
      case pos =>
        have d1 : decide ((code.length : Int) ≤ (p : Int)) = false := decide_eq_false (by omega)
        have d1' : decide (code.length ≤ p) = false := decide_eq_false (by omega)
        obtain ⟨c, hc⟩ : ∃ c, code[p]? = some c := ⟨_, List.getElem?_eq_getElem hpl⟩
        have xc := fun w => idx_Int (l := code) (i := (p : Int)) (by omega) (c := c) (by rw [Int.toNat_natCast]; exact hc) w
        have hdr := drop_cons hc
        have HV : Hid (∀ w : World, Calls Try.prog 60 #[.int .u8 (c.toNat : Int)] w fun e w' => e = .returned (.bool (isVarC c)) ∧ w' = w) := fun w => isVar_any c
        by_cases hv : isVarC c = true
        · have hcr : 65 ≤ c.toNat ∧ c.toNat ≤ 70 := by simpa [isVarC] using hv
          obtain ⟨m1, m2⟩ := mask_at hse (k := c.toNat - 65) (by omega)
          have HS : Hid (scanL (code.drop p) (want + 1) seen n = scanL (code.drop (p + 1)) want (seen.set (c.toNat - 65) true) (if seen.getD (c.toNat - 65) false then n else n + 1)) := by show _ = _; rw [hdr, scanL_var hv]
          rw [hv] at HV
          have hse2 : (seen.set (c.toNat - 65) true).length = 6 := by simp [hse]
          have esub : ((want + 1 : Nat) : Int) - 1 = (want : Int) := by omega
          have esub2 : ((want : Int) + 1) - 1 = (want : Int) := by omega
          clear hdr hc hv
          by_cases hs : seen.getD (c.toNat - 65) false = true
          · rw [hs] at m1
            have HS2 : Hid (scanL (code.drop p) (want + 1) seen n = scanL (code.drop (p + 1)) want (seen.set (c.toNat - 65) true) n) := by show _ = _; rw [HS.out, if_pos hs]
            clear hs
            go_wp2_with fail
            refine (HV.out _).mono ?_
            rintro e w1 ⟨rfl, rfl⟩
            go_wp2_with fail
            go_roundg (code.length + 2 - (p + 1))
            case measure => omega
            case rel => exact ⟨_, want, n, p + 1, rfl, rfl, rfl, by go_num, hse2, by omega, rfl, by omega, by omega, HE.out.trans HS2.out, rfl⟩
          · have hs' : seen.getD (c.toNat - 65) false = false := by simpa using hs
            rw [hs'] at m1
            have HS2 : Hid (scanL (code.drop p) (want + 1) seen n = scanL (code.drop (p + 1)) want (seen.set (c.toNat - 65) true) (n + 1)) := by show _ = _; rw [HS.out, if_neg hs]
            clear hs hs'
            go_wp2_with fail
            refine (HV.out _).mono ?_
            rintro e w1 ⟨rfl, rfl⟩
            go_wp2_with fail
            go_roundg (code.length + 2 - (p + 1))
            case measure => omega
            case rel => exact ⟨_, want, n + 1, p + 1, rfl, rfl, by go_num, by go_num, hse2, by omega, rfl, by omega, by omega, HE.out.trans HS2.out, rfl⟩
        · have hv' : isVarC c = false := by simpa using hv
          rw [hv'] at HV
          have HFu : Hid (∀ w : World, Calls Try.prog 61 #[.int .u8 (c.toNat : Int)] w fun e w' => e = .returned (.bool (isFun c)) ∧ w' = w) := fun w => isFun_any c
          by_cases hf : isFun c = true
          case neg =>
            have hf' : isFun c = false := by simpa using hf
            rw [hf'] at HFu
            have HF : Hid (scanAns code = -1) := HA.out none (by rw [HE.out, hdr, scanL_bad hv' hf'])
            clear hdr hc hv hv' hf hf'
            go_wp2_with fail
            refine (HV.out _).mono ?_
            rintro e w1 ⟨rfl, rfl⟩
            go_wp2_with fail
            refine (HFu.out _).mono ?_
            rintro e w2 ⟨rfl, rfl⟩
            go_wp2_with fail
            go_ret
            rw [HF.out]
            exact ⟨rfl, rfl⟩
          case pos =>
            rw [hf] at HFu
            by_cases hp1 : p + 1 < code.length
            case neg =>
              have hdn : code.drop (p + 1) = [] := List.drop_eq_nil_of_le (by omega)
              have HF : Hid (scanAns code = -1) := HA.out none (by rw [HE.out, hdr, hdn, scanL_end hv'])
              have d2 : decide ((code.length : Int) ≤ (p : Int) + 1) = true := decide_eq_true (by omega)
              have d2' : decide (code.length ≤ p + 1) = true := decide_eq_true (by omega)
              clear hdr hc hv hv' hf hdn
              go_wp2_with fail
              refine (HV.out _).mono ?_
              rintro e w1 ⟨rfl, rfl⟩
              go_wp2_with fail
              refine (HFu.out _).mono ?_
              rintro e w2 ⟨rfl, rfl⟩
              go_wp2_with fail
              go_ret
              rw [HF.out]
              exact ⟨rfl, rfl⟩
            case pos =>
              have d2 : decide ((code.length : Int) ≤ (p : Int) + 1) = false := decide_eq_false (by omega)
              have d2' : decide (code.length ≤ p + 1) = false := decide_eq_false (by omega)
              obtain ⟨d, hd⟩ : ∃ d, code[p + 1]? = some d := ⟨_, List.getElem?_eq_getElem hp1⟩
              have xd := fun w => idx_Int (l := code) (i := (p : Int) + 1) (by omega) (c := d) (by rw [show ((p : Int) + 1).toNat = p + 1 by omega]; exact hd) w
              have hdr2 := drop_cons hd
              by_cases h48 : d.toNat < 48
              · have d3 : decide ((d.toNat : Int) < 48) = true := decide_eq_true (by omega)
                have d3' : decide (d.toNat < 48) = true := decide_eq_true (by omega)
                have HF : Hid (scanAns code = -1) := HA.out none (by rw [HE.out, hdr, hdr2, scanL_dig hv' (by unfold okD; simp; omega)])
                clear hdr hc hv hv' hf hd hdr2
                go_wp2_with fail
                refine (HV.out _).mono ?_
                rintro e w1 ⟨rfl, rfl⟩
                go_wp2_with fail
                refine (HFu.out _).mono ?_
                rintro e w2 ⟨rfl, rfl⟩
                go_wp2_with fail
                go_ret
                rw [HF.out]
                exact ⟨rfl, rfl⟩
              · have d3 : decide ((d.toNat : Int) < 48) = false := decide_eq_false (by omega)
                have d3' : decide (d.toNat < 48) = false := decide_eq_false (by omega)
                by_cases h52 : 52 < d.toNat
                · have d4 : decide ((52 : Int) < (d.toNat : Int)) = true := decide_eq_true (by omega)
                  have d4' : decide (52 < d.toNat) = true := decide_eq_true (by omega)
                  have HF : Hid (scanAns code = -1) := HA.out none (by rw [HE.out, hdr, hdr2, scanL_dig hv' (by unfold okD; simp; omega)])
                  clear hdr hc hv hv' hf hd hdr2
                  go_wp2_with fail
                  refine (HV.out _).mono ?_
                  rintro e w1 ⟨rfl, rfl⟩
                  go_wp2_with fail
                  refine (HFu.out _).mono ?_
                  rintro e w2 ⟨rfl, rfl⟩
                  go_wp2_with fail
                  go_ret
                  rw [HF.out]
                  exact ⟨rfl, rfl⟩
                · have d4 : decide ((52 : Int) < (d.toNat : Int)) = false := decide_eq_false (by omega)
                  have d4' : decide (52 < d.toNat) = false := decide_eq_false (by omega)
                  have HS2 : Hid (scanL (code.drop p) (want + 1) seen n = scanL (code.drop (p + 2)) (want + (d.toNat - 48)) seen (n + 1)) := by
                    show _ = _
                    rw [hdr, hdr2, scanL_fun hv' hf (by unfold okD; simp; omega)]
                  have ew : ((want + 1 : Nat) : Int) + (((d.toNat : Int) - 48) - 1) = ((want + (d.toNat - 48) : Nat) : Int) := by omega
                  have ew2 : ((want : Int) + 1) + (((d.toNat : Int) - 48) - 1) = ((want + (d.toNat - 48) : Nat) : Int) := by omega
                  have hdd : 48 ≤ d.toNat ∧ d.toNat ≤ 52 := by omega
                  clear hdr hc hv hv' hf hd hdr2
                  go_wp2_with fail
                  refine (HV.out _).mono ?_
                  rintro e w1 ⟨rfl, rfl⟩
                  go_wp2_with fail
                  refine (HFu.out _).mono ?_
                  rintro e w2 ⟨rfl, rfl⟩
                  go_wp2_with fail
                  go_roundg (code.length + 2 - (p + 2))
                  case measure => omega
                  case rel => exact ⟨seen, want + (d.toNat - 48), n + 1, p + 2, rfl, by go_num, by go_num, by go_num, hse, by omega, rfl, by omega, by omega, HE.out.trans HS2.out, rfl⟩
end
end Go.Proofs.Qxb6500301a
