import Derived.Test.Qxb6500301aMod2
import Derived.Test.Qxb6500301aLoad2
namespace Go.Proofs.Qxb6500301a
open Go.RowKit
set_option linter.unusedSimpArgs false
set_option linter.unusedVariables false
attribute [local go_sem ↓] Go.wp_at_zero Go.wp_at_succ
attribute [-go_sem] Go.run_string_add_if Go.run_index_string Go.run_slice_string_if

def SeenAt (w : World) (g : Nat) (seen : List Bool) : Prop := w.heap[g]? = some (.cells (seen.map (fun b => Value.bool b)).toArray 112)
theorem SeenAt.cell {w : World} {g k : Nat} {seen : List Bool} (h : SeenAt w g seen) (hl : seen.length = 6) (hk : k < 6) : w.cell? ⟨g, k, none⟩ = some (.bool (seen.getD k false)) := by
  refine cell_of k h ?_
  have : k < seen.length := by omega
  simp [List.getD, this]
theorem SeenAt.set {w : World} {g : Nat} {seen : List Bool} (h : SeenAt w g seen) (k : Nat) : SeenAt (w.setCell ⟨g, k, none⟩ (.bool true)) g (seen.set k true) := by
  unfold SeenAt
  rw [heap_setCell_same _ h]
  congr 2
  simp
section
variable {w : World}
set_option maxRecDepth 40000 in
set_option maxHeartbeats 4000000 in
theorem mNeed_any {code : List UInt8} (hl : code.length ≤ 48) : Calls Try.prog 62 #[.string (S code)] w fun e w' => e = .returned (.int .i64 (scanAns code)) ∧ Fr No w w' := by
  have hsz := S_size code
  have HA : Hid (∀ r, scanL code 1 (List.replicate 6 false) 0 = r → scanAns code = match r with
    | some n => (n : Int)
    | none => -1) := fun r hr => by unfold scanAns; rw [hr]; cases r <;> rfl
  go_enter Try.func62, Try.ntmps62
  go_wp2_with fail
  go_loopg [4, 5, 6] (code.length + 2) (fun gk v4 v5 v6 wr => ∃ (seen : List Bool) (want n p : Nat), SeenAt wr w.heap.size seen ∧ v4 = .int .i64 (want : Int) ∧ v6 = .int .i64 (n : Int) ∧ v5 = .int .i64 (p : Int) ∧ seen.length = 6 ∧ p ≤ code.length ∧ gk = code.length + 2 - p ∧ want ≤ 1 + 4 * p ∧ n ≤ p ∧ Hid (scanL code 1 (List.replicate 6 false) 0 = scanL (code.drop p) want seen n) ∧ Hid (Fr No w wr))
  case atStart => exact ⟨List.replicate 6 false, 1, 0, 0, heap_alloc_same _ _, rfl, rfl, rfl, rfl, Nat.zero_le _, rfl, by omega, Nat.le_refl _, rfl, (Fr.refl No w).alloc _⟩
  case round =>
    obtain ⟨seen, want, n, p, hsa, rfl, rfl, rfl, hse, hp, hgk, hwa, hn, HE, HFR⟩ := hrel
    have HSA : Hid (SeenAt wr w.heap.size seen) := hsa
    clear hsa
    cases want with
    | zero =>
      have hse0 : ((0 : Nat) : Int) = 0 := rfl
      by_cases hend : p = code.length
      · have HF : Hid (scanAns code = (n : Int)) := HA.out (some n) (by rw [HE.out, scanL_zero, if_pos (by rw [hend, List.drop_length])])
        have q1 : ((p : Int) != (code.length : Int)) = false := by rw [hend]; simp
        have q2 : ((p : Int) == (code.length : Int)) = true := by rw [hend]; simp
        clear hend
        go_wp2_with fail
        go_ret
        rw [HF.out]
        exact ⟨rfl, HFR.out⟩
      · have HF : Hid (scanAns code = -1) := HA.out none (by rw [HE.out, scanL_zero, if_neg (by rw [List.drop_eq_nil_iff]; omega)])
        have q1 : ((p : Int) != (code.length : Int)) = true := by rw [bne_iff_ne]; omega
        have q2 : ((p : Int) == (code.length : Int)) = false := by rw [beq_eq_false_iff_ne]; omega
        go_wp2_with fail
        go_ret
        rw [HF.out]
        exact ⟨rfl, HFR.out⟩
    | succ want =>
      by_cases hpl : p < code.length
      case neg =>
        have HF : Hid (scanAns code = -1) := HA.out none (by rw [HE.out, List.drop_eq_nil_of_le (by omega), scanL_nil])
        have d1 : decide ((code.length : Int) ≤ (p : Int)) = true := decide_eq_true (by omega)
        have d1' : decide (code.length ≤ p) = true := decide_eq_true (by omega)
        go_wp2_with fail
        go_ret
        rw [HF.out]
        exact ⟨rfl, HFR.out⟩
      case pos =>
        have d1 : decide ((code.length : Int) ≤ (p : Int)) = false := decide_eq_false (by omega)
        have d1' : decide (code.length ≤ p) = false := decide_eq_false (by omega)
        obtain ⟨c, hc⟩ : ∃ c, code[p]? = some c := ⟨_, List.getElem?_eq_getElem hpl⟩
        have xc := fun w => idx_Int (l := code) (i := (p : Int)) (by omega) (c := c) (by rw [Int.toNat_natCast]; exact hc) w
        have hdr := drop_cons hc
        have HV : Hid (∀ w : World, Calls Try.prog 67 #[.int .u8 (c.toNat : Int)] w fun e w' => e = .returned (.bool (isVarC c)) ∧ w' = w) := fun w => mIsVar_any c
        by_cases hv : isVarC c = true
        · have hcr : 65 ≤ c.toNat ∧ c.toNat ≤ 70 := by simpa [isVarC] using hv
          have hc6 : c.toNat - 65 < 6 := by omega
          have esc : ((c.toNat : Int) - 65).toNat = c.toNat - 65 := by omega
          have m1 := HSA.out.cell hse hc6
          have m2 := frozen_of (c.toNat - 65) HSA.out
          have HSX : Hid (SeenAt (wr.setCell ⟨w.heap.size, c.toNat - 65, none⟩ (.bool true)) w.heap.size (seen.set (c.toNat - 65) true)) := HSA.out.set _
          have HFX : Hid (Fr No w (wr.setCell ⟨w.heap.size, c.toNat - 65, none⟩ (.bool true))) := HFR.out.setCell (fun h => absurd h (Nat.lt_irrefl _)) _
          have HS : Hid (scanL (code.drop p) (want + 1) seen n = scanL (code.drop (p + 1)) want (seen.set (c.toNat - 65) true) (if seen.getD (c.toNat - 65) false then n else n + 1)) := by show _ = _; rw [hdr, scanL_var hv]
          rw [hv] at HV
          have hse2 : (seen.set (c.toNat - 65) true).length = 6 := by simp [hse]
          have esub : ((want + 1 : Nat) : Int) - 1 = (want : Int) := by omega
          have esub2 : ((want : Int) + 1) - 1 = (want : Int) := by omega
          clear hdr hc hv
          by_cases hs : seen.getD (c.toNat - 65) false = true
          · rw [hs] at m1
            have HS2 : Hid (scanL (code.drop p) (want + 1) seen n = scanL (code.drop (p + 1)) want (seen.set (c.toNat - 65) true) n) := by show _ = _; rw [HS.out, if_pos hs]
            clear hs
            go_wp2_with fail
            refine (HV.out _).mono ?_
            rintro e w1 ⟨rfl, rfl⟩
            go_wp2_with fail
            go_roundg (code.length + 2 - (p + 1))
            case measure => omega
            case rel => exact ⟨_, want, n, p + 1, HSX.out, rfl, rfl, by go_num, hse2, by omega, rfl, by omega, by omega, HE.out.trans HS2.out, HFX.out⟩
          · have hs' : seen.getD (c.toNat - 65) false = false := by simpa using hs
            rw [hs'] at m1
            have HS2 : Hid (scanL (code.drop p) (want + 1) seen n = scanL (code.drop (p + 1)) want (seen.set (c.toNat - 65) true) (n + 1)) := by show _ = _; rw [HS.out, if_neg hs]
            clear hs hs'
            go_wp2_with fail
            refine (HV.out _).mono ?_
            rintro e w1 ⟨rfl, rfl⟩
            go_wp2_with fail
            go_roundg (code.length + 2 - (p + 1))
            case measure => omega
            case rel => exact ⟨_, want, n + 1, p + 1, HSX.out, rfl, by go_num, by go_num, hse2, by omega, rfl, by omega, by omega, HE.out.trans HS2.out, HFX.out⟩
        · have hv' : isVarC c = false := by simpa using hv
          rw [hv'] at HV
          clear hc
          go_wp2_with fail
          refine (HV.out _).mono ?_
          rintro e w1 ⟨rfl, rfl⟩
          go_upto_region 13 with fail
          go_cut [50] from 8 to 49 (fun v50 wx => v50 = .bool (!isFun c) ∧ wx = w1)
          case first =>
            have hc256 : c.toNat < 256 := c.toNat_lt
            have HIF : Hid (isFun c = ((decide (97 ≤ c.toNat) && decide (c.toNat ≤ 122)) || c.toNat == 33 || c.toNat == 58 || c.toNat == 63)) := rfl
            clear hdr xc HV HE HA
            by_cases h1 : c.toNat < 97
            · have b1 : decide ((c.toNat : Int) < 97) = true := decide_eq_true (by omega)
              have b1' : decide (c.toNat < 97) = true := decide_eq_true h1
              by_cases e1 : c.toNat = 33
              · have HX : Hid ((!isFun c) = false) := by show _ = _; rw [HIF.out, e1]; rfl
                have f1 : ((c.toNat : Int) == 33) = true := by simp; omega
                have f1' : ((c.toNat : Int) != 33) = false := by simp; omega
                have e1' : (c.toNat : Int) = 33 := by omega
                clear HIF e1
                go_wp2_with fail
                go_meet
                exact ⟨by rw [HX.out], rfl⟩
              · have f1 : ((c.toNat : Int) == 33) = false := by simp; omega
                have f1' : ((c.toNat : Int) != 33) = true := by simp; omega
                by_cases e2 : c.toNat = 58
                · have HX : Hid ((!isFun c) = false) := by show _ = _; rw [HIF.out, e2]; rfl
                  have f2 : ((c.toNat : Int) == 58) = true := by simp; omega
                  have f2' : ((c.toNat : Int) != 58) = false := by simp; omega
                  have e2' : (c.toNat : Int) = 58 := by omega
                  clear HIF e2
                  go_wp2_with fail
                  go_meet
                  exact ⟨by rw [HX.out], rfl⟩
                · have f2 : ((c.toNat : Int) == 58) = false := by simp; omega
                  have f2' : ((c.toNat : Int) != 58) = true := by simp; omega
                  by_cases e3 : c.toNat = 63
                  · have HX : Hid ((!isFun c) = false) := by show _ = _; rw [HIF.out, e3]; rfl
                    have f3 : ((c.toNat : Int) == 63) = true := by simp; omega
                    have f3' : ((c.toNat : Int) != 63) = false := by simp; omega
                    have e3' : (c.toNat : Int) = 63 := by omega
                    clear HIF e3
                    go_wp2_with fail
                    go_meet
                    exact ⟨by rw [HX.out], rfl⟩
                  · have f3 : ((c.toNat : Int) == 63) = false := by simp; omega
                    have f3' : ((c.toNat : Int) != 63) = true := by simp; omega
                    have HX : Hid ((!isFun c) = true) := by
                      show _ = _
                      rw [HIF.out, decide_eq_false (by omega), beq_eq_false_iff_ne.2 e1, beq_eq_false_iff_ne.2 e2, beq_eq_false_iff_ne.2 e3]; rfl
                    clear HIF
                    go_wp2_with fail
                    go_meet
                    exact ⟨by rw [HX.out], rfl⟩
            · have b1 : decide ((c.toNat : Int) < 97) = false := decide_eq_false (by omega)
              have b1' : decide (c.toNat < 97) = false := decide_eq_false h1
              by_cases h2 : 122 < c.toNat
              · have b2 : decide ((122 : Int) < (c.toNat : Int)) = true := decide_eq_true (by omega)
                have b2' : decide (122 < c.toNat) = true := decide_eq_true h2
                have f1 : ((c.toNat : Int) == 33) = false := by simp; omega
                have f1' : ((c.toNat : Int) != 33) = true := by simp; omega
                have f2 : ((c.toNat : Int) == 58) = false := by simp; omega
                have f2' : ((c.toNat : Int) != 58) = true := by simp; omega
                have f3 : ((c.toNat : Int) == 63) = false := by simp; omega
                have f3' : ((c.toNat : Int) != 63) = true := by simp; omega
                have HX : Hid ((!isFun c) = true) := by
                  show _ = _
                  rw [HIF.out, decide_eq_true (show 97 ≤ c.toNat by omega), decide_eq_false (show ¬ c.toNat ≤ 122 by omega), beq_eq_false_iff_ne.2 (show c.toNat ≠ 33 by omega), beq_eq_false_iff_ne.2 (show c.toNat ≠ 58 by omega), beq_eq_false_iff_ne.2 (show c.toNat ≠ 63 by omega)]; rfl
                clear HIF
                go_wp2_with fail
                go_meet
                exact ⟨by rw [HX.out], rfl⟩
              · have b2 : decide ((122 : Int) < (c.toNat : Int)) = false := decide_eq_false (by omega)
                have b2' : decide (122 < c.toNat) = false := decide_eq_false h2
                have HX : Hid ((!isFun c) = false) := by
                  show _ = _
                  rw [HIF.out, decide_eq_true (show 97 ≤ c.toNat by omega), decide_eq_true (show c.toNat ≤ 122 by omega)]; rfl
                clear HIF
                go_wp2_with fail
                go_meet
                exact ⟨by rw [HX.out], rfl⟩
          case rest =>
          obtain ⟨rfl, hwc⟩ := hcut
          rw [hwc]
          clear hwc HV
          by_cases hf : isFun c = true
          case neg =>
            have hf' : isFun c = false := by simpa using hf
            rw [hf']
            have HF : Hid (scanAns code = -1) := HA.out none (by rw [HE.out, hdr, scanL_bad hv' hf'])
            clear hdr hv hv' hf hf'
            go_wp2_with fail
            go_ret
            rw [HF.out]
            exact ⟨rfl, HFR.out⟩
          case pos =>
            rw [hf]
            by_cases hp1 : p + 1 < code.length
            case neg =>
              have hdn : code.drop (p + 1) = [] := List.drop_eq_nil_of_le (by omega)
              have HF : Hid (scanAns code = -1) := HA.out none (by rw [HE.out, hdr, hdn, scanL_end hv'])
              have d2 : decide ((code.length : Int) ≤ (p : Int) + 1) = true := decide_eq_true (by omega)
              have d2' : decide (code.length ≤ p + 1) = true := decide_eq_true (by omega)
              clear hdr hv hv' hf hdn
              go_wp2_with fail
              go_ret
              rw [HF.out]
              exact ⟨rfl, HFR.out⟩
            case pos =>
              have d2 : decide ((code.length : Int) ≤ (p : Int) + 1) = false := decide_eq_false (by omega)
              have d2' : decide (code.length ≤ p + 1) = false := decide_eq_false (by omega)
              obtain ⟨d, hd⟩ : ∃ d, code[p + 1]? = some d := ⟨_, List.getElem?_eq_getElem hp1⟩
              have xd := fun w => idx_Int (l := code) (i := (p : Int) + 1) (by omega) (c := d) (by rw [show ((p : Int) + 1).toNat = p + 1 by omega]; exact hd) w
              have hdr2 := drop_cons hd
              by_cases h48 : d.toNat < 48
              · have d3 : decide ((d.toNat : Int) < 48) = true := decide_eq_true (by omega)
                have d3' : decide (d.toNat < 48) = true := decide_eq_true (by omega)
                have HF : Hid (scanAns code = -1) := HA.out none (by rw [HE.out, hdr, hdr2, scanL_dig hv' (by unfold okD; simp; omega)])
                clear hdr hv hv' hf hd hdr2
                go_wp2_with fail
                go_ret
                rw [HF.out]
                exact ⟨rfl, HFR.out⟩
              · have d3 : decide ((d.toNat : Int) < 48) = false := decide_eq_false (by omega)
                have d3' : decide (d.toNat < 48) = false := decide_eq_false (by omega)
                by_cases h52 : 52 < d.toNat
                · have d4 : decide ((52 : Int) < (d.toNat : Int)) = true := decide_eq_true (by omega)
                  have d4' : decide (52 < d.toNat) = true := decide_eq_true (by omega)
                  have HF : Hid (scanAns code = -1) := HA.out none (by rw [HE.out, hdr, hdr2, scanL_dig hv' (by unfold okD; simp; omega)])
                  clear hdr hv hv' hf hd hdr2
                  go_wp2_with fail
                  go_ret
                  rw [HF.out]
                  exact ⟨rfl, HFR.out⟩
                · have d4 : decide ((52 : Int) < (d.toNat : Int)) = false := decide_eq_false (by omega)
                  have d4' : decide (52 < d.toNat) = false := decide_eq_false (by omega)
                  have HS2 : Hid (scanL (code.drop p) (want + 1) seen n = scanL (code.drop (p + 2)) (want + (d.toNat - 48)) seen (n + 1)) := by
                    show _ = _
                    rw [hdr, hdr2, scanL_fun hv' hf (by unfold okD; simp; omega)]
                  have ew : ((want + 1 : Nat) : Int) + (((d.toNat : Int) - 48) - 1) = ((want + (d.toNat - 48) : Nat) : Int) := by omega
                  have ew2 : ((want : Int) + 1) + (((d.toNat : Int) - 48) - 1) = ((want + (d.toNat - 48) : Nat) : Int) := by omega
                  have hdd : 48 ≤ d.toNat ∧ d.toNat ≤ 52 := by omega
                  clear hdr hv hv' hf hd hdr2
                  go_wp2_with fail
                  go_roundg (code.length + 2 - (p + 2))
                  case measure => omega
                  case rel => exact ⟨seen, want + (d.toNat - 48), n + 1, p + 2, HSA.out, by go_num, by go_num, by go_num, hse, by omega, rfl, by omega, by omega, HE.out.trans HS2.out, HFR.out⟩
end
end Go.Proofs.Qxb6500301a
