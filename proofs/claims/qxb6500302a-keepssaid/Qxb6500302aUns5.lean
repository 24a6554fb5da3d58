import Derived.Test.Qxb6500302aUns4
namespace Go.Proofs.Qxb6500302a
open Go.RowKit
set_option linter.unusedSimpArgs false
set_option linter.unusedVariables false
attribute [local go_sem ↓] Go.wp_at_zero Go.wp_at_succ
attribute [-go_sem] Go.run_string_add_if Go.run_index_string Go.run_slice_string_if

theorem sum_le4 {f g : Tm → Nat} : ∀ {ts : List Tm}, (∀ t ∈ ts, f t + 1 ≤ 4 * g t) → (ts.map f).sum + ts.length ≤ 4 * (ts.map g).sum
  | [], _ => by simp
  | t :: ts, h => by
    have h1 := h t (by simp)
    have h2 := sum_le4 (ts := ts) (fun u hu => h u (by simp [hu]))
    simp only [List.map_cons, List.sum_cons, List.length_cons, Nat.mul_add]
    omega
theorem text_code4 (n : Nat) : ∀ t : Tm, SizeOf.sizeOf t ≤ n → (textOf t).length + 1 ≤ 4 * (codeOf t).length := by
  induction n with
  | zero => intro t h; cases t; simp at h
  | succ n ih =>
    intro t h
    obtain ⟨k, a, m, ts⟩ := t
    rw [codeOf_eq, textOf_eq]
    split
    · simp
    · split
      · simp
      · have hk : ∀ u ∈ ts, (textOf u).length + 1 ≤ 4 * (codeOf u).length := fun u hu => ih u (by
          have := List.sizeOf_lt_of_mem hu
          simp at h; omega)
        have h1 := sum_le4 (f := fun t => (textOf t).length) (g := fun t => (codeOf t).length) hk
        simp only [List.length_cons, flat_length]
        split
        · simp; omega
        · rename_i h0
          have hne : ts ≠ [] := fun e => h0 (by rw [e]; rfl)
          have h2 := commas_text ts hne
          simp only [List.length_cons, List.length_append, List.length_nil]
          omega
theorem textN_len (t : Tm) : (textN t).length + 1 ≤ 4 * (codeOf t).length := by
  rw [textN_le _ t (Nat.le_refl _)]; exact text_code4 _ t (Nat.le_refl _)

def partN (ts : List Tm) (i : Nat) : List UInt8 := if i = 0 then [] else 40 :: commas ((ts.take i).map textN)

set_option maxRecDepth 20000 in
set_option maxHeartbeats 2000000 in
theorem uns_call {t : Tm} (hk : t.kind = 2) (hlow : isLow t.letter = true) (hkl : t.kids.length ≤ 3) (hkids : ∀ u ∈ t.kids, UnsSaid textN u) : UnsSaid textN t := by
  have hc : codeOf t = t.letter :: digit t.kids.length :: (t.kids.map codeOf).flatten := by
    obtain ⟨k, a, n, ts⟩ := t; simp only at hk; rw [codeOf_eq, if_neg (by omega), if_neg (by omega)]; rfl
  have hx : textN t = t.letter :: (if t.kids.length = 0 then [] else 40 :: (commas (t.kids.map textN) ++ [41])) := by
    obtain ⟨k, a, n, ts⟩ := t; simp only at hk; rw [textN_eq, if_neg (by omega), if_neg (by omega)]; split <;> simp [*]
  have htl := textN_len t
  intro w pre post hl
  have hlow' : 97 ≤ t.letter.toNat ∧ t.letter.toNat ≤ 122 := by simpa [isLow] using hlow
  have HPC : Hid (∀ i u, t.kids[i]? = some u → pre ++ codeOf t ++ post = (pre ++ t.letter :: digit t.kids.length :: ((t.kids.take i).map codeOf).flatten) ++ codeOf u ++ (((t.kids.drop (i + 1)).map codeOf).flatten ++ post)) := by
    intro i u hu
    rw [hc]
    exact code_part hu pre post _ _
  have hL : pre ++ codeOf t ++ post = pre ++ t.letter :: digit t.kids.length :: ((t.kids.map codeOf).flatten ++ post) := by rw [hc]; simp
  have hg : (pre ++ codeOf t ++ post)[pre.length]? = some t.letter := by rw [hL]; exact at_pre _ _ _
  have hg1 : (pre ++ codeOf t ++ post)[pre.length + 1]? = some (digit t.kids.length) := by rw [hL]; exact at_pre1 _ _ _ _
  have hcl : (codeOf t).length = 2 + ((t.kids.map codeOf).flatten).length := by rw [hc]; simp; omega
  have hsz : ((S (pre ++ codeOf t ++ post)).size : Int) = (pre.length : Int) + ((codeOf t).length : Int) + (post.length : Int) := by rw [S_size]; simp; omega
  generalize hLL : pre ++ codeOf t ++ post = L at *
  have hdg := digit_toNat (n := t.kids.length) (by omega)
  have d1 : decide ((pre.length : Int) < 0) = false := decide_eq_false (by omega)
  have d2 : decide (((S L).size : Int) ≤ (pre.length : Int)) = false := decide_eq_false (by omega)
  have d2' : decide ((S L).size ≤ pre.length) = false := decide_eq_false (by omega)
  have d3 : decide (((S L).size : Int) ≤ (pre.length : Int) + 1) = false := decide_eq_false (by omega)
  have d4 : decide ((65 : Int) ≤ (t.letter.toNat : Int)) = true := decide_eq_true (by omega)
  have d5 : decide ((t.letter.toNat : Int) < 71) = false := decide_eq_false (by omega)
  have d6 : ((t.letter.toNat : Int) == 58) = false := beq_eq_false_iff_ne.2 (by omega)
  have d7 : ((t.letter.toNat : Int) == 63) = false := beq_eq_false_iff_ne.2 (by omega)
  have d8 : decide ((t.letter.toNat : Int) < 97) = false := decide_eq_false (by omega)
  have d9 : decide ((122 : Int) < (t.letter.toNat : Int)) = false := decide_eq_false (by omega)
  have d10 : decide ((t.kids.length : Int) < 0) = false := decide_eq_false (by omega)
  have d11 : decide ((4 : Int) < (t.kids.length : Int)) = false := decide_eq_false (by omega)
  have i1 := idx_Int (l := L) (i := (pre.length : Int)) (by omega) (by simpa using hg)
  have i2 := idx_Int (l := L) (i := (pre.length : Int) + 1) (by omega) (by rw [show ((pre.length : Int) + 1).toNat = pre.length + 1 by omega]; exact hg1)
  rw [hdg] at i2
  have s1 := slice_one hg
  have HX : Hid _ := hx
  have HC : Hid _ := hc
  have HK : Hid (∀ u ∈ t.kids, UnsSaid textN u) := hkids
  have HCL : Hid ((codeOf t).length = 2 + ((t.kids.map codeOf).flatten).length) := hcl
  have HTL : Hid ((textN t).length + 1 ≤ 4 * (codeOf t).length) := htl
  have HL : Hid (pre.length + (codeOf t).length + post.length ≤ 100) := hl
  have hpl : pre.length ≤ 100 := by omega
  have hsub : (48 + (t.kids.length : Int) - 48) = (t.kids.length : Int) := by omega
  clear hx hc hkids hL hg hg1 hdg hlow hsz hcl htl hl
  go_enter Try.func31, Try.ntmps31
  go_wp2_with fail
  go_loopg [1, 9, 10] (t.kids.length + 1) (fun gk v1 v9 u wr => ∃ (i q : Nat) (ys : List UInt8), v1 = .int .i64 (q : Int) ∧ v9 = .string (S ys) ∧ u = .int .i64 (i : Int) ∧ i ≤ t.kids.length ∧ gk = t.kids.length + 1 - i ∧ Hid (q = (pre ++ t.letter :: digit t.kids.length :: ((t.kids.take i).map codeOf).flatten).length) ∧ Hid (ys = t.letter :: partN t.kids i) ∧ wr = w)
  case atStart => exact ⟨0, pre.length + 2, [t.letter], by simp, rfl, rfl, Nat.zero_le _, rfl, by show _ = _; simp, rfl, rfl⟩
  case round =>
    obtain ⟨i, q, ys, rfl, rfl, rfl, hi, hgk, HQ, HY, rfl⟩ := hrel
    have d20 : decide ((0 : Int) ≤ (q : Int)) = true := decide_eq_true (by omega)
    by_cases hlt : i < t.kids.length
    · obtain ⟨u, hu⟩ := kid_at hlt
      have hum := List.mem_of_getElem? hu
      have hpart := HPC.out i u hu
      have hll := congrArg List.length (hLL.trans hpart)
      have HB : Hid ((pre ++ t.letter :: digit t.kids.length :: ((t.kids.take i).map codeOf).flatten).length + (codeOf u).length + (((t.kids.drop (i + 1)).map codeOf).flatten ++ post).length ≤ 100) := by
        show _ ≤ _
        have := HL.out
        simp only [List.length_append, List.length_cons] at hll ⊢
        omega
      have hyl : ys.length ≤ 1000 := by
        have h1 := congrArg List.length HY.out
        have h2 : (partN t.kids i).length ≤ 1 + (commas (t.kids.map textN)).length := by
          unfold partN
          split
          · simp
          · have := commas_len (t.kids.map textN) i
            simp; omega
        have h3 := congrArg List.length HX.out
        have h4 := HTL.out
        have h5 := HL.out
        have h6 : ¬ t.kids.length = 0 := by omega
        rw [if_neg h6] at h3
        simp only [List.length_cons, List.length_append, List.length_nil] at h1 h3
        omega
      have hul : (textN u).length ≤ 1000 := by
        have h1 := textN_len u
        have h2 := HB.out
        omega
      have HQ2 : Hid (q + (codeOf u).length = (pre ++ t.letter :: digit t.kids.length :: ((t.kids.take (i + 1)).map codeOf).flatten).length) := by
        show _ = _
        rw [flat_take hu, HQ.out]
        simp only [List.length_append, List.length_cons]
        omega
      clear hll hpart
      by_cases h0 : i = 0
      · have q1 : ((i : Int) == 0) = true := by rw [h0]; rfl
        have q2 : ((i : Int) == 1) = false := by rw [h0]; rfl
        have q3 : decide ((0 : Int) < (i : Int)) = false := decide_eq_false (by omega)
        have q3' : decide (0 < i) = false := decide_eq_false (by omega)
        have HY2 : Hid (t.letter :: partN t.kids (i + 1) = t.letter :: partN t.kids i ++ 40 :: textN u) := by
          show _ = _
          subst h0
          unfold partN
          rw [if_neg (by omega), if_pos rfl, commas_zero hu]; rfl
        clear h0
        have A1 := add_S' ys (b := { data := #[40] }) [40] rfl (by simp; omega)
        have A2 := add_S (ys ++ [40]) (textN u) (by simp; omega)
        have hcall := HK.out u hum wr (pre ++ t.letter :: digit t.kids.length :: ((t.kids.take i).map codeOf).flatten) (((t.kids.drop (i + 1)).map codeOf).flatten ++ post) HB.out
        rw [← HPC.out i u hu, ← HQ.out] at hcall
        have HCALL : Hid (Calls Try.prog 31 #[.string (S L), .int .i64 (q : Int)] wr fun e w' => e = .returned (.tuple #[.string (S (textN u)), .int .i64 ((q : Int) + ((codeOf u).length : Int))]) ∧ w' = wr) := hcall
        clear hcall
        go_wp2_with fail
        refine HCALL.out.mono ?_
        rintro e w2 ⟨rfl, rfl⟩
        go_wp2_with fail
        go_roundg (t.kids.length + 1 - (i + 1))
        case measure => omega
        case rel =>
          refine ⟨i + 1, q + (codeOf u).length, ys ++ 40 :: textN u, by simp, by simp, by go_num, by omega, rfl, ?_, ?_, rfl⟩
          · show _ = _
            rw [HQ2.out]
          · show _ = _
            rw [HY2.out, HY.out]
      · have q1 : ((i : Int) == 0) = false := by simp; omega
        have q3 : decide ((0 : Int) < (i : Int)) = true := decide_eq_true (by omega)
        have q3' : decide (0 < i) = true := decide_eq_true (by omega)
        have HY2 : Hid (t.letter :: partN t.kids (i + 1) = t.letter :: partN t.kids i ++ 44 :: textN u) := by
          show _ = _
          unfold partN
          rw [if_neg (by omega), if_neg h0, commas_succ hu h0]; simp
        clear h0
        by_cases h1 : i = 1
        · have q2 : ((i : Int) == 1) = true := by rw [h1]; rfl
          clear h1
          have A1 := add_S' ys (b := { data := #[44] }) [44] rfl (by simp; omega)
          have A2 := add_S (ys ++ [44]) (textN u) (by simp; omega)
          have hcall := HK.out u hum wr (pre ++ t.letter :: digit t.kids.length :: ((t.kids.take i).map codeOf).flatten) (((t.kids.drop (i + 1)).map codeOf).flatten ++ post) HB.out
          rw [← HPC.out i u hu, ← HQ.out] at hcall
          have HCALL : Hid (Calls Try.prog 31 #[.string (S L), .int .i64 (q : Int)] wr fun e w' => e = .returned (.tuple #[.string (S (textN u)), .int .i64 ((q : Int) + ((codeOf u).length : Int))]) ∧ w' = wr) := hcall
          clear hcall
          go_wp2_with fail
          refine HCALL.out.mono ?_
          rintro e w2 ⟨rfl, rfl⟩
          go_wp2_with fail
          go_roundg (t.kids.length + 1 - (i + 1))
          case measure => omega
          case rel =>
            refine ⟨i + 1, q + (codeOf u).length, ys ++ 44 :: textN u, by simp, by simp, by go_num, by omega, rfl, ?_, ?_, rfl⟩
            · show _ = _
              rw [HQ2.out]
            · show _ = _
              rw [HY2.out, HY.out]
        · have q2 : ((i : Int) == 1) = false := by simp; omega
          clear h1
          have A1 := add_S' ys (b := { data := #[44] }) [44] rfl (by simp; omega)
          have A2 := add_S (ys ++ [44]) (textN u) (by simp; omega)
          have hcall := HK.out u hum wr (pre ++ t.letter :: digit t.kids.length :: ((t.kids.take i).map codeOf).flatten) (((t.kids.drop (i + 1)).map codeOf).flatten ++ post) HB.out
          rw [← HPC.out i u hu, ← HQ.out] at hcall
          have HCALL : Hid (Calls Try.prog 31 #[.string (S L), .int .i64 (q : Int)] wr fun e w' => e = .returned (.tuple #[.string (S (textN u)), .int .i64 ((q : Int) + ((codeOf u).length : Int))]) ∧ w' = wr) := hcall
          clear hcall
          go_wp2_with fail
          refine HCALL.out.mono ?_
          rintro e w2 ⟨rfl, rfl⟩
          go_wp2_with fail
          go_roundg (t.kids.length + 1 - (i + 1))
          case measure => omega
          case rel =>
            refine ⟨i + 1, q + (codeOf u).length, ys ++ 44 :: textN u, by simp, by simp, by go_num, by omega, rfl, ?_, ?_, rfl⟩
            · show _ = _
              rw [HQ2.out]
            · show _ = _
              rw [HY2.out, HY.out]
    · have hieq : i = t.kids.length := by omega
      have hqe : (q : Int) = (pre.length : Int) + ((codeOf t).length : Int) := by
        have h1 := HQ.out
        rw [hieq, List.take_length] at h1
        have h2 := HCL.out
        simp only [List.length_append, List.length_cons] at h1
        omega
      by_cases h0 : t.kids.length = 0
      · have q4 : decide ((0 : Int) < (t.kids.length : Int)) = false := decide_eq_false (by omega)
        have hy : ys = textN t := by
          rw [HY.out, HX.out, if_pos h0, hieq, h0]; rfl
        have HYT : Hid (ys = textN t) := hy
        have HQE : Hid _ := hqe
        clear hy hqe
        go_wp2_with fail
        go_ret2
        rw [HYT.out, HQE.out]
        exact ⟨rfl, rfl⟩
      · have q4 : decide ((0 : Int) < (t.kids.length : Int)) = true := decide_eq_true (by omega)
        have HYT : Hid (ys ++ [41] = textN t) := by
          show _ = _
          rw [HY.out, HX.out, if_neg h0, hieq]
          unfold partN
          rw [if_neg h0, List.take_length]
          simp
        have hyl : ys.length ≤ 1000 := by
          have h1 := congrArg List.length HYT.out
          have h2 := HTL.out
          have h3 := HL.out
          simp at h1
          omega
        have A1 := add_S' ys (b := { data := #[41] }) [41] rfl (by simp; omega)
        have HQE : Hid _ := hqe
        clear hqe
        go_wp2_with fail
        go_ret2
        rw [HYT.out, HQE.out]
        exact ⟨rfl, rfl⟩
end Go.Proofs.Qxb6500302a
