import Derived.Test.Qxb6500302aMat2
namespace Go.Proofs.Qxb6500302a
open Go.RowKit
set_option linter.unusedSimpArgs false
set_option linter.unusedVariables false
attribute [local go_sem ↓] Go.wp_at_zero Go.wp_at_succ
attribute [-go_sem] Go.run_string_add_if Go.run_index_string Go.run_slice_string_if

theorem idsF_append (q : Tm → Bool) : ∀ (a b : List Tm) (i : Nat), idsF q i (a ++ b) = idsF q i a ++ idsF q (i + a.length) b
  | [], b, i => by simp [idsF]
  | x :: a, b, i => by
    have e : i + 1 + a.length = i + (x :: a).length := by simp; omega
    simp only [List.cons_append, idsF, idsF_append q a b (i + 1), e]
    split <;> simp

theorem idsF_at (q : Tm → Bool) {cs : List Tm} {i : Nat} {t : Tm} (h : cs[i]? = some t) (hq : q t = true) : (idsF q 0 cs)[(idsF q 0 (cs.take i)).length]? = some i := by
  have hi : i < cs.length := (List.getElem?_eq_some_iff.1 h).1
  have e : cs = cs.take i ++ t :: cs.drop (i + 1) := by
    have e0 := List.drop_eq_getElem_cons hi
    rw [(List.getElem?_eq_some_iff.1 h).2] at e0
    rw [← e0, List.take_append_drop]
  have e2 : idsF q 0 cs = idsF q 0 (cs.take i) ++ i :: idsF q (i + 1) (cs.drop (i + 1)) := by
    conv => lhs; rw [e]
    rw [idsF_append]
    have : 0 + (cs.take i).length = i := by simp; omega
    rw [this]
    simp only [idsF, hq, if_true]
  rw [e2]
  simp

set_option maxRecDepth 40000 in
set_option maxHeartbeats 4000000 in
theorem matches_any {w : World} {own : Own} {D : Nat → Prop} {p : Nat} {cs : List Tm} (h : ProgAt w own D p cs) (P F : List UInt8) :
    Calls Try.prog 17 #[.pointer (some ⟨p, 0, none⟩), .string (S P), .string (S F), .string (S (matchOf cs P F))] w fun e w' => e = .returned (.bool true) ∧ Fr No w w' := by
  have hlen := h.len
  rw [match_want]
  have HJ : Hid (∀ (i : Nat) (t : Tm), cs[i]? = some t → wantP P F t = true → (idsF (wantP P F) 0 cs)[(idsF (wantP P F) 0 (cs.take i)).length]? = some i) := fun i t => idsF_at (wantP P F)
  have hJl := idsF_length (wantP P F) cs 0
  have HT : Hid (idsF (wantP P F) 0 (cs.take cs.length) = idsF (wantP P F) 0 cs) := by show _ = _; rw [List.take_length]
  have hsz : (S (spellOf (idsF (wantP P F) 0 cs))).size = (idsF (wantP P F) 0 cs).length := by rw [S_size]; simp [spellOf]
  go_enter Try.func17, Try.ntmps17
  go_wp2_with fail
  refine (len_any h).mono ?_
  rintro e w1 ⟨rfl, rfl⟩
  go_wp2_with fail
  go_loopg [10, 11] (cs.length + 1) (fun gk u v wr => ∃ (i k : Nat), u = .int .i64 (k : Int) ∧ v = .int .i64 (i : Int) ∧ i ≤ cs.length ∧ gk = cs.length + 1 - i ∧ Hid (k = (idsF (wantP P F) 0 (cs.take i)).length) ∧ Fr No w1 wr)
  case atStart => exact ⟨0, 0, rfl, rfl, Nat.zero_le _, rfl, by show _ = _; simp [idsF], Fr.refl _ _⟩
  case round =>
    obtain ⟨i, k, rfl, rfl, hi, hgk, HK, hf⟩ := hrel
    by_cases hlt : i < cs.length
    case neg =>
      have hieq : i = cs.length := by omega
      have hk : k = (idsF (wantP P F) 0 cs).length := by rw [HK.out, hieq, HT.out]
      have d1 : decide ((i : Int) < (cs.length : Int)) = false := decide_eq_false (by omega)
      have d2 : decide (i < cs.length) = false := decide_eq_false (by omega)
      have q1 : ((k : Int) == ((S (spellOf (idsF (wantP P F) 0 cs))).size : Int)) = true := by rw [hsz, hk]; simp
      have q2 : ((k : Int) == ((idsF (wantP P F) 0 cs).length : Int)) = true := by rw [hk]; simp
      clear hk hieq
      go_wp2_with fail
      go_ret
      exact ⟨rfl, hf⟩
    case pos =>
      obtain ⟨t, ht⟩ := kid_at hlt
      obtain ⟨s, hs, hp⟩ := h.fine t (List.mem_of_getElem? ht)
      have hcl := parse_code hp
      obtain ⟨m4, m3, mk, msl, mor⟩ := code_match hp
      have ha : codeAns cs (i : Int) = (codeOf t, 0) := by
        unfold codeAns
        rw [if_neg (by omega), Int.toNat_natCast, ht]
      have d1 : decide ((i : Int) < (cs.length : Int)) = true := decide_eq_true (by omega)
      have d2 : decide (i < cs.length) = true := decide_eq_true (by omega)
      have hcs := S_size (codeOf t)
      have d3 : decide (((S (codeOf t)).size : Int) < 4) = false := decide_eq_false (by omega)
      have s24 := slice_Int (l := codeOf t) (m := keyList (predOf t)) (i := 2) (j := 4) (by omega) (by omega) (by omega) msl
      have x3 := idx_Int (l := codeOf t) (i := 3) (by omega) m3
      have hd3 := digit_toNat (n := (headOf t).kids.length) (by omega)
      have HC : Hid (∀ w', Fr No w1 w' → Calls Try.prog 15 #[.pointer (some ⟨p, 0, none⟩), .int .i64 (i : Int)] w' fun e w'' => e = .returned (.tuple #[.string (S (codeOf t)), .int .i64 0]) ∧ Fr No w' w'') := fun w' hw' => by
        have := Code_any (h.keep hw' (fun _ _ h => h)) (i : Int)
        rw [ha] at this
        exact this
      have HI : Hid (idsF (wantP P F) 0 (cs.take (i + 1)) = idsF (wantP P F) 0 (cs.take i) ++ if wantP P F t then [i] else []) := idsF_take _ ht
      have HA : Hid (wantP P F t = true → (idsF (wantP P F) 0 cs)[(idsF (wantP P F) 0 (cs.take i)).length]? = some i) := fun hq => HJ.out i t ht hq
      clear ha
      by_cases hq : wantP P F t = true
      · have hat : (idsF (wantP P F) 0 cs)[k]? = some i := by rw [HK.out]; exact HA.out hq
        have hkl : k < (idsF (wantP P F) 0 cs).length := (List.getElem?_eq_some_iff.1 hat).1
        have dk : decide ((((S (spellOf (idsF (wantP P F) 0 cs))).size : Nat) : Int) ≤ (k : Int)) = false := decide_eq_false (by omega)
        have dk' : decide ((S (spellOf (idsF (wantP P F) 0 cs))).size ≤ k) = false := decide_eq_false (by omega)
        have dk2 : decide ((((idsF (wantP P F) 0 cs).length : Nat) : Int) ≤ (k : Int)) = false := decide_eq_false (by omega)
        have dk2' : decide ((idsF (wantP P F) 0 cs).length ≤ k) = false := decide_eq_false (by omega)
        have xk := idx_Int (l := spellOf (idsF (wantP P F) 0 cs)) (i := (k : Int)) (by omega) (c := digit i) (by rw [Int.toNat_natCast]; simp [spellOf, hat])
        have hdi := digit_toNat (n := i) (by omega)
        have hsub : ((48 : Int) + (i : Int)) - 48 = (i : Int) := by omega
        have hrel' : ∃ (i' k' : Nat), Value.int .i64 ((k : Int) + 1) = .int .i64 (k' : Int) ∧ Value.int .i64 ((i : Int) + 1) = .int .i64 (i' : Int) ∧ i' ≤ cs.length ∧ cs.length + 1 - (i + 1) = cs.length + 1 - i' ∧ Hid (k' = (idsF (wantP P F) 0 (cs.take i')).length) := by
          refine ⟨i + 1, k + 1, by go_num, by go_num, by omega, rfl, ?_⟩
          show _ = _
          rw [HI.out, hq, HK.out]
          simp
        have HR : Hid _ := hrel'
        clear hrel' hat
        have hkp : keyList (predOf t) = P := by
          unfold wantP at hq
          rw [Bool.and_eq_true] at hq
          exact of_decide_eq_true hq.1
        have e1 : ((S (keyList (predOf t))).toList == (S P).toList) = true := by rw [hkp]; simp
        by_cases hF : F = []
        · have e2 : ((S F).toList == ByteArray.toList { data := #[] }) = true := by rw [ByteArray.toList_eq, ByteArray.toList_eq, S_list, hF]; rfl
          have e2' : ((S F).toList == []) = true := by rw [ByteArray.toList_eq, S_list, hF]; rfl
          clear hF hkp hq mor hd3
          go_wp2_with fail
          refine (HC.out wr hf).mono ?_
          rintro e w2 ⟨rfl, F2⟩
          go_wp2_with fail
          go_roundg (cs.length + 1 - (i + 1))
          case measure => omega
          case rel => obtain ⟨i', k', a1, a2, a3, a4, a5⟩ := HR.out; exact ⟨i', k', a1, a2, a3, a4, a5, hf.trans F2 (fun _ _ h => h)⟩
        · have e2 : ((S F).toList == ByteArray.toList { data := #[] }) = false := by rw [ByteArray.toList_eq, ByteArray.toList_eq, S_list]; exact beq_eq_false_iff_ne.2 hF
          have e2' : ((S F).toList == []) = false := by rw [ByteArray.toList_eq, S_list]; exact beq_eq_false_iff_ne.2 hF
          rcases mor with ⟨hk0, hk1⟩ | ⟨hk0, x, hx, ⟨hxl, hk1⟩ | ⟨hxl, kk, hk1, hsl, h6⟩⟩
          · have n1 : (((digit (headOf t).kids.length).toNat : Int) != 48) = false := by rw [hd3, hk0]; rfl
            have n2 : (((digit (headOf t).kids.length).toNat : Int) == 48) = true := by rw [hd3, hk0]; rfl
            clear hF hkp hq hd3 hk0 hk1
            go_wp2_with fail
            refine (HC.out wr hf).mono ?_
            rintro e w2 ⟨rfl, F2⟩
            go_wp2_with fail
            go_roundg (cs.length + 1 - (i + 1))
            case measure => omega
            case rel => obtain ⟨i', k', a1, a2, a3, a4, a5⟩ := HR.out; exact ⟨i', k', a1, a2, a3, a4, a5, hf.trans F2 (fun _ _ h => h)⟩
          · have n1 : (((digit (headOf t).kids.length).toNat : Int) != 48) = true := by rw [hd3]; simp; omega
            have n2 : (((digit (headOf t).kids.length).toNat : Int) == 48) = false := by rw [hd3]; simp; omega
            have x4 := idx_Int (l := codeOf t) (i := 4) (by omega) hx
            have dx : decide ((97 : Int) ≤ (x.toNat : Int)) = false := decide_eq_false (by omega)
            have dx' : decide (97 ≤ x.toNat) = false := decide_eq_false (by omega)
            clear hF hkp hq hd3 hk0 hk1
            go_wp2_with fail
            refine (HC.out wr hf).mono ?_
            rintro e w2 ⟨rfl, F2⟩
            go_wp2_with fail
            go_roundg (cs.length + 1 - (i + 1))
            case measure => omega
            case rel => obtain ⟨i', k', a1, a2, a3, a4, a5⟩ := HR.out; exact ⟨i', k', a1, a2, a3, a4, a5, hf.trans F2 (fun _ _ h => h)⟩
          · have n1 : (((digit (headOf t).kids.length).toNat : Int) != 48) = true := by rw [hd3]; simp; omega
            have n2 : (((digit (headOf t).kids.length).toNat : Int) == 48) = false := by rw [hd3]; simp; omega
            have x4 := idx_Int (l := codeOf t) (i := 4) (by omega) hx
            have dx : decide ((97 : Int) ≤ (x.toNat : Int)) = true := decide_eq_true (by omega)
            have dx' : decide (97 ≤ x.toNat) = true := decide_eq_true (by omega)
            have s46 := slice_Int (l := codeOf t) (m := keyList kk) (i := 4) (j := 6) (by omega) (by omega) (by omega) hsl
            have hkf : keyList kk = F := by
              unfold wantP at hq
              rw [hk1] at hq
              simpa [hF, hkp] using hq
            have e3 : ((S (keyList kk)).toList == (S F).toList) = true := by rw [hkf]; simp
            clear hF hkp hq hd3 hk0 hk1 hkf
            go_wp2_with fail
            refine (HC.out wr hf).mono ?_
            rintro e w2 ⟨rfl, F2⟩
            go_wp2_with fail
            go_roundg (cs.length + 1 - (i + 1))
            case measure => omega
            case rel => obtain ⟨i', k', a1, a2, a3, a4, a5⟩ := HR.out; exact ⟨i', k', a1, a2, a3, a4, a5, hf.trans F2 (fun _ _ h => h)⟩
      · have hrel' : ∃ (i' k' : Nat), Value.int .i64 (k : Int) = .int .i64 (k' : Int) ∧ Value.int .i64 ((i : Int) + 1) = .int .i64 (i' : Int) ∧ i' ≤ cs.length ∧ cs.length + 1 - (i + 1) = cs.length + 1 - i' ∧ Hid (k' = (idsF (wantP P F) 0 (cs.take i')).length) := by
          refine ⟨i + 1, k, rfl, by go_num, by omega, rfl, ?_⟩
          show _ = _
          rw [HI.out, if_neg hq, HK.out]
          simp
        have HR : Hid _ := hrel'
        clear hrel'
        by_cases hkp : keyList (predOf t) = P
        · have e1 : ((S (keyList (predOf t))).toList == (S P).toList) = true := by rw [hkp]; simp
          have hF : ¬ F = [] := fun e => hq (by unfold wantP; simp [hkp, e])
          have e2 : ((S F).toList == ByteArray.toList { data := #[] }) = false := by rw [ByteArray.toList_eq, ByteArray.toList_eq, S_list]; exact beq_eq_false_iff_ne.2 hF
          have e2' : ((S F).toList == []) = false := by rw [ByteArray.toList_eq, S_list]; exact beq_eq_false_iff_ne.2 hF
          rcases mor with ⟨hk0, hk1⟩ | ⟨hk0, x, hx, ⟨hxl, hk1⟩ | ⟨hxl, kk, hk1, hsl, h6⟩⟩
          · exact absurd (by unfold wantP; simp [hkp, hk1]) hq
          · exact absurd (by unfold wantP; simp [hkp, hk1]) hq
          · have n1 : (((digit (headOf t).kids.length).toNat : Int) != 48) = true := by rw [hd3]; simp; omega
            have n2 : (((digit (headOf t).kids.length).toNat : Int) == 48) = false := by rw [hd3]; simp; omega
            have x4 := idx_Int (l := codeOf t) (i := 4) (by omega) hx
            have dx : decide ((97 : Int) ≤ (x.toNat : Int)) = true := decide_eq_true (by omega)
            have dx' : decide (97 ≤ x.toNat) = true := decide_eq_true (by omega)
            have s46 := slice_Int (l := codeOf t) (m := keyList kk) (i := 4) (j := 6) (by omega) (by omega) (by omega) hsl
            have hkf : ¬ keyList kk = F := fun e => hq (by unfold wantP; simp [hkp, hk1, e])
            have e3 : ((S (keyList kk)).toList == (S F).toList) = false := by rw [ByteArray.toList_eq, ByteArray.toList_eq, S_list, S_list]; exact beq_eq_false_iff_ne.2 hkf
            clear hF hkp hq hd3 hk0 hk1 hkf
            go_wp2_with fail
            refine (HC.out wr hf).mono ?_
            rintro e w2 ⟨rfl, F2⟩
            go_wp2_with fail
            go_roundg (cs.length + 1 - (i + 1))
            case measure => omega
            case rel => obtain ⟨i', k', a1, a2, a3, a4, a5⟩ := HR.out; exact ⟨i', k', a1, a2, a3, a4, a5, hf.trans F2 (fun _ _ h => h)⟩
        · have e1 : ((S (keyList (predOf t))).toList == (S P).toList) = false := by rw [ByteArray.toList_eq, ByteArray.toList_eq, S_list, S_list]; exact beq_eq_false_iff_ne.2 hkp
          clear hkp hq mor hd3
          go_wp2_with fail
          refine (HC.out wr hf).mono ?_
          rintro e w2 ⟨rfl, F2⟩
          go_wp2_with fail
          go_roundg (cs.length + 1 - (i + 1))
          case measure => omega
          case rel => obtain ⟨i', k', a1, a2, a3, a4, a5⟩ := HR.out; exact ⟨i', k', a1, a2, a3, a4, a5, hf.trans F2 (fun _ _ h => h)⟩
end Go.Proofs.Qxb6500302a
