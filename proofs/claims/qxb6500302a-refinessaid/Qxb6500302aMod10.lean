import Derived.Test.Qxb6500302aMod9
namespace Go.Proofs.Qxb6500302a.M
open Go.RowKit
set_option linter.unusedSimpArgs false
set_option linter.unusedVariables false
attribute [local go_sem ↓] Go.wp_at_zero Go.wp_at_succ
attribute [-go_sem] Go.run_string_add_if Go.run_index_string Go.run_slice_string_if

theorem dig8_at : ∀ k : Nat, k < 8 → ([48, 49, 50, 51, 52, 53, 54, 55] : List UInt8)[k]? = some (digit k) := by decide
theorem dig8_slice {k : Nat} (h : k < 8) (w : World) : (Instr.slice 9 (.string { data := #[48, 49, 50, 51, 52, 53, 54, 55] }) (some (.int .i64 (k : Int))) (some (.int .i64 ((k : Int) + 1))) none).run Try.prog w = .ok (.string (S [digit k])) w :=
  slice_one (l := [48, 49, 50, 51, 52, 53, 54, 55]) (dig8_at k h) w

set_option maxRecDepth 40000 in
set_option maxHeartbeats 4000000 in
theorem matchM {w : World} {O : Nat → Prop} {m : Nat} {cs : List Tm} (h : MAt w O m cs) (P F : List UInt8) :
    Calls Try.prog 53 #[.pointer (some ⟨m, 0, none⟩), .string (S P), .string (S F)] w fun e w' => e = .returned (.string (S (matchOf cs P F))) ∧ w' = w := by
  obtain ⟨bt, bc, ct, cc, h1, hrow⟩ := h.row
  have cm : w.cell? ⟨m, 1, none⟩ = some (.slice bc cs.length cc) := cell_of 1 h1 rfl
  have hlen := h.len
  rw [match_want]
  have HT : Hid (idsF (wantP P F) 0 (cs.take cs.length) = idsF (wantP P F) 0 cs) := by show _ = _; rw [List.take_length]
  go_enter Try.func53, Try.ntmps53
  go_wp2_with fail
  go_loopg [7, 8] (cs.length + 1) (fun gk u v wr => ∃ (i : Nat) (out : List UInt8), u = .string (S out) ∧ v = .int .i64 (i : Int) ∧ i ≤ cs.length ∧ gk = cs.length + 1 - i ∧ out.length ≤ i ∧ Hid (out = spellOf (idsF (wantP P F) 0 (cs.take i))) ∧ wr = w)
  case atStart => exact ⟨0, [], rfl, rfl, Nat.zero_le _, rfl, by simp, by show _ = _; simp [idsF, spellOf], rfl⟩
  case round =>
    obtain ⟨i, out, rfl, rfl, hi, hgk, hol, HO, rfl⟩ := hrel
    by_cases hlt : i < cs.length
    case neg =>
      have hieq : i = cs.length := by omega
      have d1 : decide ((i : Int) < (cs.length : Int)) = false := decide_eq_false (by omega)
      have d2 : decide (i < cs.length) = false := decide_eq_false (by omega)
      have HF : Hid (out = spellOf (idsF (wantP P F) 0 cs)) := by show _ = _; rw [HO.out, hieq, HT.out]
      clear hieq
      go_wp2_with fail
      go_ret
      rw [HF.out]
      exact ⟨rfl, rfl⟩
    case pos =>
      obtain ⟨t, ht⟩ := kid_at hlt
      obtain ⟨_, g, rfl, hcell⟩ := hrow i t ht
      obtain ⟨s, hs, hp⟩ := h.fine t (List.mem_of_getElem? ht)
      have hcl := parse_code hp
      obtain ⟨m4, m3, mk, msl, mor⟩ := code_match hp
      have d1 : decide ((i : Int) < (cs.length : Int)) = true := decide_eq_true (by omega)
      have d2 : decide (i < cs.length) = true := decide_eq_true (by omega)
      have s24 := slice_Int (l := codeOf t) (m := keyList (predOf t)) (i := 2) (j := 4) (by omega) (by omega) (by omega) msl
      have x3 := idx_Int (l := codeOf t) (i := 3) (by omega) m3
      have hd3 := digit_toNat (n := (headOf t).kids.length) (by omega)
      have HI : Hid (idsF (wantP P F) 0 (cs.take (i + 1)) = idsF (wantP P F) 0 (cs.take i) ++ if wantP P F t then [i] else []) := idsF_take _ ht
      have HTake : Hid (wantP P F t = true → out ++ [digit i] = spellOf (idsF (wantP P F) 0 (cs.take (i + 1)))) := fun hq => by rw [HI.out, if_pos hq, HO.out]; simp [spellOf]
      have HSkip : Hid (wantP P F t = false → out = spellOf (idsF (wantP P F) 0 (cs.take (i + 1)))) := fun hq => by rw [HI.out, if_neg (by rw [hq]; simp), HO.out]; simp [spellOf]
      have dg := fun w => dig8_slice (k := i) (by omega) w
      have a1 := fun w => add_S out [digit i] (by simp; omega) w
      have e0 : ((ByteArray.toList { data := #[] }) == ByteArray.toList { data := #[] }) = true := beq_self_eq_true _
      clear ht
      rcases mor with ⟨hk0, hk1⟩ | ⟨hk0, x, hx, ⟨hxl, hk1⟩ | ⟨hxl, kk, hk1, hsl, h6⟩⟩
      · have n1 : (((digit (headOf t).kids.length).toNat : Int) != 48) = false := by rw [hd3, hk0]; rfl
        have n2 : (((digit (headOf t).kids.length).toNat : Int) == 48) = true := by rw [hd3, hk0]; rfl
        clear hk0
        by_cases hkp : keyList (predOf t) = P
        · have e1 : ((S (keyList (predOf t))).toList == (S P).toList) = true := by rw [hkp]; simp
          have HQ : Hid (wantP P F t = true) := by show _ = _; unfold wantP; rw [hk1]; simp [hkp]
          by_cases hF : F = []
          · have e2 : ((S F).toList == ByteArray.toList { data := #[] }) = true := by rw [ByteArray.toList_eq, ByteArray.toList_eq, S_list, hF]; rfl
            have e2' : ((S F).toList == []) = true := by rw [ByteArray.toList_eq, S_list, hF]; rfl
            clear hF hkp hd3 hk1
            go_wp2_with fail
            go_roundg (cs.length + 1 - (i + 1))
            case measure => omega
            case rel => exact ⟨i + 1, out ++ [digit i], rfl, by go_num, by omega, rfl, by simp; omega, HTake.out HQ.out, rfl⟩
          · have e2 : ((S F).toList == ByteArray.toList { data := #[] }) = false := by rw [ByteArray.toList_eq, ByteArray.toList_eq, S_list]; exact beq_eq_false_iff_ne.2 hF
            have e2' : ((S F).toList == []) = false := by rw [ByteArray.toList_eq, S_list]; exact beq_eq_false_iff_ne.2 hF
            clear hF hkp hd3 hk1
            go_wp2_with fail
            go_roundg (cs.length + 1 - (i + 1))
            case measure => omega
            case rel => exact ⟨i + 1, out ++ [digit i], rfl, by go_num, by omega, rfl, by simp; omega, HTake.out HQ.out, rfl⟩
        · have e1 : ((S (keyList (predOf t))).toList == (S P).toList) = false := by rw [ByteArray.toList_eq, ByteArray.toList_eq, S_list, S_list]; exact beq_eq_false_iff_ne.2 hkp
          have HQ : Hid (wantP P F t = false) := by show _ = _; unfold wantP; simp [hkp]
          clear hkp hd3 hk1
          go_wp2_with fail
          go_roundg (cs.length + 1 - (i + 1))
          case measure => omega
          case rel => exact ⟨i + 1, out, rfl, by go_num, by omega, rfl, by omega, HSkip.out HQ.out, rfl⟩
      · have n1 : (((digit (headOf t).kids.length).toNat : Int) != 48) = true := by rw [hd3]; simp; omega
        have n2 : (((digit (headOf t).kids.length).toNat : Int) == 48) = false := by rw [hd3]; simp; omega
        have x4 := idx_Int (l := codeOf t) (i := 4) (by omega) hx
        have dx : decide ((97 : Int) ≤ (x.toNat : Int)) = false := decide_eq_false (by omega)
        have dx' : decide (97 ≤ x.toNat) = false := decide_eq_false (by omega)
        clear hk0
        by_cases hkp : keyList (predOf t) = P
        · have e1 : ((S (keyList (predOf t))).toList == (S P).toList) = true := by rw [hkp]; simp
          have HQ : Hid (wantP P F t = true) := by show _ = _; unfold wantP; rw [hk1]; simp [hkp]
          by_cases hF : F = []
          · have e2 : ((S F).toList == ByteArray.toList { data := #[] }) = true := by rw [ByteArray.toList_eq, ByteArray.toList_eq, S_list, hF]; rfl
            have e2' : ((S F).toList == []) = true := by rw [ByteArray.toList_eq, S_list, hF]; rfl
            clear hF hkp hd3 hk1
            go_wp2_with fail
            go_roundg (cs.length + 1 - (i + 1))
            case measure => omega
            case rel => exact ⟨i + 1, out ++ [digit i], rfl, by go_num, by omega, rfl, by simp; omega, HTake.out HQ.out, rfl⟩
          · have e2 : ((S F).toList == ByteArray.toList { data := #[] }) = false := by rw [ByteArray.toList_eq, ByteArray.toList_eq, S_list]; exact beq_eq_false_iff_ne.2 hF
            have e2' : ((S F).toList == []) = false := by rw [ByteArray.toList_eq, S_list]; exact beq_eq_false_iff_ne.2 hF
            clear hF hkp hd3 hk1
            go_wp2_with fail
            go_roundg (cs.length + 1 - (i + 1))
            case measure => omega
            case rel => exact ⟨i + 1, out ++ [digit i], rfl, by go_num, by omega, rfl, by simp; omega, HTake.out HQ.out, rfl⟩
        · have e1 : ((S (keyList (predOf t))).toList == (S P).toList) = false := by rw [ByteArray.toList_eq, ByteArray.toList_eq, S_list, S_list]; exact beq_eq_false_iff_ne.2 hkp
          have HQ : Hid (wantP P F t = false) := by show _ = _; unfold wantP; simp [hkp]
          clear hkp hd3 hk1
          go_wp2_with fail
          go_roundg (cs.length + 1 - (i + 1))
          case measure => omega
          case rel => exact ⟨i + 1, out, rfl, by go_num, by omega, rfl, by omega, HSkip.out HQ.out, rfl⟩
      · have n1 : (((digit (headOf t).kids.length).toNat : Int) != 48) = true := by rw [hd3]; simp; omega
        have n2 : (((digit (headOf t).kids.length).toNat : Int) == 48) = false := by rw [hd3]; simp; omega
        have x4 := idx_Int (l := codeOf t) (i := 4) (by omega) hx
        have dx : decide ((97 : Int) ≤ (x.toNat : Int)) = true := decide_eq_true (by omega)
        have dx' : decide (97 ≤ x.toNat) = true := decide_eq_true (by omega)
        have s46 := slice_Int (l := codeOf t) (m := keyList kk) (i := 4) (j := 6) (by omega) (by omega) (by omega) hsl
        have e4 : ((S (keyList kk)).toList == ByteArray.toList { data := #[] }) = false := by rw [ByteArray.toList_eq, ByteArray.toList_eq, S_list]; exact beq_eq_false_iff_ne.2 (by simp [keyList])
        have e4' : ((S (keyList kk)).toList == []) = false := by rw [ByteArray.toList_eq, S_list]; exact beq_eq_false_iff_ne.2 (by simp [keyList])
        clear hk0
        by_cases hkp : keyList (predOf t) = P
        · have e1 : ((S (keyList (predOf t))).toList == (S P).toList) = true := by rw [hkp]; simp
          by_cases hF : F = []
          · have e2 : ((S F).toList == ByteArray.toList { data := #[] }) = true := by rw [ByteArray.toList_eq, ByteArray.toList_eq, S_list, hF]; rfl
            have e2' : ((S F).toList == []) = true := by rw [ByteArray.toList_eq, S_list, hF]; rfl
            have HQ : Hid (wantP P F t = true) := by show _ = _; unfold wantP; rw [hk1]; simp [hkp, hF]
            clear hF hkp hd3 hk1
            go_wp2_with fail
            go_roundg (cs.length + 1 - (i + 1))
            case measure => omega
            case rel => exact ⟨i + 1, out ++ [digit i], rfl, by go_num, by omega, rfl, by simp; omega, HTake.out HQ.out, rfl⟩
          · have e2 : ((S F).toList == ByteArray.toList { data := #[] }) = false := by rw [ByteArray.toList_eq, ByteArray.toList_eq, S_list]; exact beq_eq_false_iff_ne.2 hF
            have e2' : ((S F).toList == []) = false := by rw [ByteArray.toList_eq, S_list]; exact beq_eq_false_iff_ne.2 hF
            by_cases hkf : keyList kk = F
            · have e3 : ((S (keyList kk)).toList == (S F).toList) = true := by rw [hkf]; simp
              have HQ : Hid (wantP P F t = true) := by show _ = _; unfold wantP; rw [hk1]; simp [hkp, hkf]
              clear hF hkp hd3 hk1 hkf
              go_wp2_with fail
              go_roundg (cs.length + 1 - (i + 1))
              case measure => omega
              case rel => exact ⟨i + 1, out ++ [digit i], rfl, by go_num, by omega, rfl, by simp; omega, HTake.out HQ.out, rfl⟩
            · have e3 : ((S (keyList kk)).toList == (S F).toList) = false := by rw [ByteArray.toList_eq, ByteArray.toList_eq, S_list, S_list]; exact beq_eq_false_iff_ne.2 hkf
              have HQ : Hid (wantP P F t = false) := by show _ = _; unfold wantP; rw [hk1]; simp [hkp, hF, hkf]
              clear hF hkp hd3 hk1 hkf
              go_wp2_with fail
              go_roundg (cs.length + 1 - (i + 1))
              case measure => omega
              case rel => exact ⟨i + 1, out, rfl, by go_num, by omega, rfl, by omega, HSkip.out HQ.out, rfl⟩
        · have e1 : ((S (keyList (predOf t))).toList == (S P).toList) = false := by rw [ByteArray.toList_eq, ByteArray.toList_eq, S_list, S_list]; exact beq_eq_false_iff_ne.2 hkp
          have HQ : Hid (wantP P F t = false) := by show _ = _; unfold wantP; simp [hkp]
          clear hkp hd3 hk1
          go_wp2_with fail
          go_roundg (cs.length + 1 - (i + 1))
          case measure => omega
          case rel => exact ⟨i + 1, out, rfl, by go_num, by omega, rfl, by omega, HSkip.out HQ.out, rfl⟩
end Go.Proofs.Qxb6500302a.M
