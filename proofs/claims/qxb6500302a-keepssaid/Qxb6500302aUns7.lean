import Derived.Test.Qxb6500302aUns6
namespace Go.Proofs.Qxb6500302a
open Go.RowKit
set_option linter.unusedSimpArgs false
set_option linter.unusedVariables false
attribute [local go_sem ↓] Go.wp_at_zero Go.wp_at_succ
attribute [-go_sem] Go.run_string_add_if Go.run_index_string Go.run_slice_string_if

theorem commasN_len (ts : List Tm) : (commas (ts.map textN)).length ≤ 4 * ((ts.map codeOf).flatten).length := by
  have h1 := sum_le4 (ts := ts) (f := fun t => (textN t).length) (g := fun t => (codeOf t).length) (fun u _ => textN_len u)
  rw [flat_length]
  rcases commas_length (ts.map textN) with h | h
  · rw [List.map_map, List.length_map] at h
    have e : (List.map (List.length ∘ textN) ts).sum = (List.map (fun t => (textN t).length) ts).sum := rfl
    rw [e] at h
    omega
  · rw [h]; simp [commas]

set_option maxRecDepth 20000 in
set_option maxHeartbeats 2000000 in
theorem uns_clause {ts : List Tm} (hne : ts ≠ []) (hkl : ts.length ≤ 4) (hkids : ∀ u ∈ ts, UnsSaid textN u) {C : List UInt8} (hC : codeOf (tCall 58 ts) = C) (hl : C.length ≤ 60) (w : World) :
    Calls Try.prog 31 #[.string (S C), .int .i64 0] w fun e w' => e = .returned (.tuple #[.string (S (clauseTextN (tCall 58 ts))), .int .i64 (C.length : Int)]) ∧ w' = w := by
  have hc : C = 58 :: digit ts.length :: (ts.map codeOf).flatten := by
    rw [← hC]; unfold tCall; rw [codeOf_eq, if_neg (by omega), if_neg (by omega)]; rfl
  have HPC : Hid (∀ i u, ts[i]? = some u → C = (58 :: digit ts.length :: ((ts.take i).map codeOf).flatten) ++ codeOf u ++ ((ts.drop (i + 1)).map codeOf).flatten) := by
    intro i u hu
    rw [hc]
    have := code_part hu [] [] 58 (digit ts.length)
    simpa using this
  have hg : C[0]? = some 58 := by rw [hc]; rfl
  have hg1 : C[1]? = some (digit ts.length) := by rw [hc]; rfl
  have hcl : C.length = 2 + ((ts.map codeOf).flatten).length := by rw [hc]; simp; omega
  have hpos : 0 < ts.length := List.length_pos_iff.2 hne
  have hsz : (S C).size = C.length := S_size C
  have hdg := digit_toNat (n := ts.length) (by omega)
  have hSZ : Hid (C.length = 2 + ((ts.map codeOf).flatten).length) := hcl
  have d2 : decide (((S C).size : Int) ≤ 0) = false := decide_eq_false (by omega)
  have d2' : decide ((S C).size ≤ 0) = false := decide_eq_false (by omega)
  have d2'' : decide ((S C).size = 0) = false := decide_eq_false (by omega)
  have d2e : ¬ S C = ByteArray.empty := fun e => by rw [e] at hsz; simp at hsz; omega
  have d3 : decide (((S C).size : Int) ≤ 1) = false := decide_eq_false (by omega)
  have d3' : decide ((S C).size ≤ 1) = false := decide_eq_false (by omega)
  have d10 : decide ((ts.length : Int) < 0) = false := decide_eq_false (by omega)
  have d11 : decide ((4 : Int) < (ts.length : Int)) = false := decide_eq_false (by omega)
  have i1 := idx_Int (l := C) (i := 0) (by omega) (by simpa using hg)
  have i2 := idx_Int (l := C) (i := 1) (by omega) (by simpa using hg1)
  rw [hdg] at i2
  have hsub : (48 + (ts.length : Int) - 48) = (ts.length : Int) := by omega
  have hb : (commas (ts.map textN)).length ≤ 1000 ∧ (textN (ts.headD tCut)).length ≤ 1000 ∧ (commas (ts.tail.map textN)).length ≤ 1000 := by
    have h1 := commasN_len ts
    refine ⟨by omega, ?_, ?_⟩
    · cases ts with
      | nil => exact absurd rfl hne
      | cons t ts =>
        have := textN_len t
        simp only [List.map_cons, List.flatten_cons, List.length_append] at hcl
        simp only [List.headD_cons]
        omega
    · cases ts with
      | nil => exact absurd rfl hne
      | cons t ts =>
        have := commasN_len ts
        simp only [List.map_cons, List.flatten_cons, List.length_append] at hcl
        simp only [List.tail_cons]
        omega
  have HC : Hid _ := hc
  have HK : Hid (∀ u ∈ ts, UnsSaid textN u) := hkids
  have HL : Hid (C.length ≤ 60) := hl
  clear hc hkids hg hg1 hdg hsz hcl hl hC
  go_enter Try.func31, Try.ntmps31
  go_wp2_with fail
  go_loopg [1, 9, 10] (ts.length + 1) (fun gk v1 v9 u wr => ∃ (i q : Nat) (ys : List UInt8), v1 = .int .i64 (q : Int) ∧ v9 = .string (S ys) ∧ u = .int .i64 (i : Int) ∧ i ≤ ts.length ∧ gk = ts.length + 1 - i ∧ Hid (q = ((58 : UInt8) :: digit ts.length :: ((ts.take i).map codeOf).flatten).length) ∧ Hid (ys = outC ts i) ∧ wr = w)
  case atStart => exact ⟨0, 2, [], rfl, rfl, rfl, Nat.zero_le _, rfl, by show _ = _; simp, rfl, rfl⟩
  case round =>
    obtain ⟨i, q, ys, rfl, rfl, rfl, hi, hgk, HQ, HY, rfl⟩ := hrel
    have d20 : decide ((0 : Int) ≤ (q : Int)) = true := decide_eq_true (by omega)
    have hyl : ys.length ≤ 4000 := by
      rw [HY.out]
      have := outC_len ts i; omega
    by_cases hlt : i < ts.length
    · obtain ⟨u, hu⟩ := kid_at hlt
      have hum := List.mem_of_getElem? hu
      have hpart := HPC.out i u hu
      have hll := congrArg List.length hpart
      have HB : Hid (((58 : UInt8) :: digit ts.length :: ((ts.take i).map codeOf).flatten).length + (codeOf u).length + (((ts.drop (i + 1)).map codeOf).flatten).length ≤ 100) := by
        show _ ≤ _
        have := HL.out
        simp only [List.length_append, List.length_cons] at hll ⊢
        omega
      have hul : (textN u).length ≤ 1000 := by
        have h1 := textN_len u
        have h2 := HB.out
        omega
      have HQ2 : Hid (q + (codeOf u).length = ((58 : UInt8) :: digit ts.length :: ((ts.take (i + 1)).map codeOf).flatten).length) := by
        show _ = _
        rw [flat_take hu, HQ.out]
        simp only [List.length_append, List.length_cons]
        omega
      have hcall := HK.out u hum wr (58 :: digit ts.length :: ((ts.take i).map codeOf).flatten) (((ts.drop (i + 1)).map codeOf).flatten) HB.out
      rw [← HPC.out i u hu, ← HQ.out] at hcall
      have HCALL : Hid (Calls Try.prog 31 #[.string (S C), .int .i64 (q : Int)] wr fun e w' => e = .returned (.tuple #[.string (S (textN u)), .int .i64 ((q : Int) + ((codeOf u).length : Int))]) ∧ w' = wr) := hcall
      clear hll hpart hcall
      by_cases h0 : i = 0
      · have q1 : ((i : Int) == 0) = true := by rw [h0]; rfl
        have q2 : ((i : Int) == 1) = false := by rw [h0]; rfl
        have q3 : decide ((0 : Int) < (i : Int)) = false := decide_eq_false (by omega)
        have q3' : decide (0 < i) = false := decide_eq_false (by omega)
        have HY2 : Hid (outC ts (i + 1) = outC ts i ++ textN u) := by
          show _ = _
          subst h0
          exact outC_zero hu
        clear h0
        have A2 := add_S ys (textN u) (by omega)
        go_wp2_with fail
        refine HCALL.out.mono ?_
        rintro e w2 ⟨rfl, rfl⟩
        go_wp2_with fail
        go_roundg (ts.length + 1 - (i + 1))
        case measure => omega
        case rel =>
          refine ⟨i + 1, q + (codeOf u).length, ys ++ textN u, by simp, by simp, by go_num, by omega, rfl, ?_, ?_, rfl⟩
          · show _ = _
            rw [HQ2.out]
          · show _ = _
            rw [HY2.out, HY.out]
      · have q1 : ((i : Int) == 0) = false := by simp; omega
        have q3 : decide ((0 : Int) < (i : Int)) = true := decide_eq_true (by omega)
        have q3' : decide (0 < i) = true := decide_eq_true (by omega)
        by_cases h1 : i = 1
        · have q2 : ((i : Int) == 1) = true := by rw [h1]; rfl
          have HY2 : Hid (outC ts (i + 1) = outC ts i ++ 58 :: 45 :: textN u) := by
            show _ = _
            subst h1; exact outC_one hu
          clear h0 h1
          have A1 := add_S' ys (b := { data := #[58, 45] }) [58, 45] rfl (by simp; omega)
          have A2 := add_S (ys ++ [58, 45]) (textN u) (by simp; omega)
          go_wp2_with fail
          refine HCALL.out.mono ?_
          rintro e w2 ⟨rfl, rfl⟩
          go_wp2_with fail
          go_roundg (ts.length + 1 - (i + 1))
          case measure => omega
          case rel =>
            refine ⟨i + 1, q + (codeOf u).length, ys ++ 58 :: 45 :: textN u, by simp, by simp, by go_num, by omega, rfl, ?_, ?_, rfl⟩
            · show _ = _
              rw [HQ2.out]
            · show _ = _
              rw [HY2.out, HY.out]
        · have q2 : ((i : Int) == 1) = false := by simp; omega
          have HY2 : Hid (outC ts (i + 1) = outC ts i ++ 44 :: textN u) := by
            show _ = _
            exact outC_succ hu h0 h1
          clear h0 h1
          have A1 := add_S' ys (b := { data := #[44] }) [44] rfl (by simp; omega)
          have A2 := add_S (ys ++ [44]) (textN u) (by simp; omega)
          go_wp2_with fail
          refine HCALL.out.mono ?_
          rintro e w2 ⟨rfl, rfl⟩
          go_wp2_with fail
          go_roundg (ts.length + 1 - (i + 1))
          case measure => omega
          case rel =>
            refine ⟨i + 1, q + (codeOf u).length, ys ++ 44 :: textN u, by simp, by simp, by go_num, by omega, rfl, ?_, ?_, rfl⟩
            · show _ = _
              rw [HQ2.out]
            · show _ = _
              rw [HY2.out, HY.out]
    · have hieq : i = ts.length := by omega
      have hqe : (q : Int) = (C.length : Int) := by
        have h1 := HQ.out
        rw [hieq, List.take_length] at h1
        have h2 := hSZ.out
        simp only [List.length_cons] at h1
        omega
      have HQE : Hid _ := hqe
      have HYT : Hid (ys = clauseTextN (tCall 58 ts)) := by
        show _ = _
        rw [HY.out, hieq]
        exact outC_all hne
      clear hqe
      go_wp2_with fail
      go_ret2
      rw [HYT.out, HQE.out]
      exact ⟨rfl, rfl⟩

set_option maxRecDepth 20000 in
set_option maxHeartbeats 2000000 in
theorem uns_query {ts : List Tm} (hne : ts ≠ []) (hkl : ts.length ≤ 4) (hkids : ∀ u ∈ ts, UnsSaid textN u) {C : List UInt8} (hC : codeOf (tCall 63 ts) = C) (hl : C.length ≤ 60) (w : World) :
    Calls Try.prog 31 #[.string (S C), .int .i64 0] w fun e w' => e = .returned (.tuple #[.string (S (clauseTextN (tCall 63 ts))), .int .i64 (C.length : Int)]) ∧ w' = w := by
  have hc : C = 63 :: digit ts.length :: (ts.map codeOf).flatten := by
    rw [← hC]; unfold tCall; rw [codeOf_eq, if_neg (by omega), if_neg (by omega)]; rfl
  have HPC : Hid (∀ i u, ts[i]? = some u → C = (63 :: digit ts.length :: ((ts.take i).map codeOf).flatten) ++ codeOf u ++ ((ts.drop (i + 1)).map codeOf).flatten) := by
    intro i u hu
    rw [hc]
    have := code_part hu [] [] 63 (digit ts.length)
    simpa using this
  have hg : C[0]? = some 63 := by rw [hc]; rfl
  have hg1 : C[1]? = some (digit ts.length) := by rw [hc]; rfl
  have hcl : C.length = 2 + ((ts.map codeOf).flatten).length := by rw [hc]; simp; omega
  have hpos : 0 < ts.length := List.length_pos_iff.2 hne
  have hsz : (S C).size = C.length := S_size C
  have hdg := digit_toNat (n := ts.length) (by omega)
  have hSZ : Hid (C.length = 2 + ((ts.map codeOf).flatten).length) := hcl
  have d2 : decide (((S C).size : Int) ≤ 0) = false := decide_eq_false (by omega)
  have d2' : decide ((S C).size ≤ 0) = false := decide_eq_false (by omega)
  have d2'' : decide ((S C).size = 0) = false := decide_eq_false (by omega)
  have d2e : ¬ S C = ByteArray.empty := fun e => by rw [e] at hsz; simp at hsz; omega
  have d3 : decide (((S C).size : Int) ≤ 1) = false := decide_eq_false (by omega)
  have d3' : decide ((S C).size ≤ 1) = false := decide_eq_false (by omega)
  have d10 : decide ((ts.length : Int) < 0) = false := decide_eq_false (by omega)
  have d11 : decide ((4 : Int) < (ts.length : Int)) = false := decide_eq_false (by omega)
  have i1 := idx_Int (l := C) (i := 0) (by omega) (by simpa using hg)
  have i2 := idx_Int (l := C) (i := 1) (by omega) (by simpa using hg1)
  rw [hdg] at i2
  have hsub : (48 + (ts.length : Int) - 48) = (ts.length : Int) := by omega
  have hb : (commas (ts.map textN)).length ≤ 1000 ∧ (textN (ts.headD tCut)).length ≤ 1000 ∧ (commas (ts.tail.map textN)).length ≤ 1000 := by
    have h1 := commasN_len ts
    refine ⟨by omega, ?_, ?_⟩
    · cases ts with
      | nil => exact absurd rfl hne
      | cons t ts =>
        have := textN_len t
        simp only [List.map_cons, List.flatten_cons, List.length_append] at hcl
        simp only [List.headD_cons]
        omega
    · cases ts with
      | nil => exact absurd rfl hne
      | cons t ts =>
        have := commasN_len ts
        simp only [List.map_cons, List.flatten_cons, List.length_append] at hcl
        simp only [List.tail_cons]
        omega
  have HC : Hid _ := hc
  have HK : Hid (∀ u ∈ ts, UnsSaid textN u) := hkids
  have HL : Hid (C.length ≤ 60) := hl
  clear hc hkids hg hg1 hdg hsz hcl hl hC
  go_enter Try.func31, Try.ntmps31
  go_wp2_with fail
  go_loopg [1, 9, 10] (ts.length + 1) (fun gk v1 v9 u wr => ∃ (i q : Nat) (ys : List UInt8), v1 = .int .i64 (q : Int) ∧ v9 = .string (S ys) ∧ u = .int .i64 (i : Int) ∧ i ≤ ts.length ∧ gk = ts.length + 1 - i ∧ Hid (q = ((63 : UInt8) :: digit ts.length :: ((ts.take i).map codeOf).flatten).length) ∧ Hid (ys = outQ ts i) ∧ wr = w)
  case atStart => exact ⟨0, 2, [], rfl, rfl, rfl, Nat.zero_le _, rfl, by show _ = _; simp, rfl, rfl⟩
  case round =>
    obtain ⟨i, q, ys, rfl, rfl, rfl, hi, hgk, HQ, HY, rfl⟩ := hrel
    have d20 : decide ((0 : Int) ≤ (q : Int)) = true := decide_eq_true (by omega)
    have hyl : ys.length ≤ 4000 := by
      rw [HY.out]
      unfold outQ; have := commas_len (ts.map textN) i; rw [← List.map_take] at this; omega
    by_cases hlt : i < ts.length
    · obtain ⟨u, hu⟩ := kid_at hlt
      have hum := List.mem_of_getElem? hu
      have hpart := HPC.out i u hu
      have hll := congrArg List.length hpart
      have HB : Hid (((63 : UInt8) :: digit ts.length :: ((ts.take i).map codeOf).flatten).length + (codeOf u).length + (((ts.drop (i + 1)).map codeOf).flatten).length ≤ 100) := by
        show _ ≤ _
        have := HL.out
        simp only [List.length_append, List.length_cons] at hll ⊢
        omega
      have hul : (textN u).length ≤ 1000 := by
        have h1 := textN_len u
        have h2 := HB.out
        omega
      have HQ2 : Hid (q + (codeOf u).length = ((63 : UInt8) :: digit ts.length :: ((ts.take (i + 1)).map codeOf).flatten).length) := by
        show _ = _
        rw [flat_take hu, HQ.out]
        simp only [List.length_append, List.length_cons]
        omega
      have hcall := HK.out u hum wr (63 :: digit ts.length :: ((ts.take i).map codeOf).flatten) (((ts.drop (i + 1)).map codeOf).flatten) HB.out
      rw [← HPC.out i u hu, ← HQ.out] at hcall
      have HCALL : Hid (Calls Try.prog 31 #[.string (S C), .int .i64 (q : Int)] wr fun e w' => e = .returned (.tuple #[.string (S (textN u)), .int .i64 ((q : Int) + ((codeOf u).length : Int))]) ∧ w' = wr) := hcall
      clear hll hpart hcall
      by_cases h0 : i = 0
      · have q1 : ((i : Int) == 0) = true := by rw [h0]; rfl
        have q2 : ((i : Int) == 1) = false := by rw [h0]; rfl
        have q3 : decide ((0 : Int) < (i : Int)) = false := decide_eq_false (by omega)
        have q3' : decide (0 < i) = false := decide_eq_false (by omega)
        have HY2 : Hid (outQ ts (i + 1) = outQ ts i ++ textN u) := by
          show _ = _
          subst h0
          exact outQ_zero hu
        clear h0
        have A2 := add_S ys (textN u) (by omega)
        go_wp2_with fail
        refine HCALL.out.mono ?_
        rintro e w2 ⟨rfl, rfl⟩
        go_wp2_with fail
        go_roundg (ts.length + 1 - (i + 1))
        case measure => omega
        case rel =>
          refine ⟨i + 1, q + (codeOf u).length, ys ++ textN u, by simp, by simp, by go_num, by omega, rfl, ?_, ?_, rfl⟩
          · show _ = _
            rw [HQ2.out]
          · show _ = _
            rw [HY2.out, HY.out]
      · have q1 : ((i : Int) == 0) = false := by simp; omega
        have q3 : decide ((0 : Int) < (i : Int)) = true := decide_eq_true (by omega)
        have q3' : decide (0 < i) = true := decide_eq_true (by omega)
        by_cases h1 : i = 1
        · have q2 : ((i : Int) == 1) = true := by rw [h1]; rfl
          have HY2 : Hid (outQ ts (i + 1) = outQ ts i ++ 44 :: textN u) := by
            show _ = _
            exact outQ_succ hu h0
          clear h0 h1
          have A1 := add_S' ys (b := { data := #[44] }) [44] rfl (by simp; omega)
          have A2 := add_S (ys ++ [44]) (textN u) (by simp; omega)
          go_wp2_with fail
          refine HCALL.out.mono ?_
          rintro e w2 ⟨rfl, rfl⟩
          go_wp2_with fail
          go_roundg (ts.length + 1 - (i + 1))
          case measure => omega
          case rel =>
            refine ⟨i + 1, q + (codeOf u).length, ys ++ 44 :: textN u, by simp, by simp, by go_num, by omega, rfl, ?_, ?_, rfl⟩
            · show _ = _
              rw [HQ2.out]
            · show _ = _
              rw [HY2.out, HY.out]
        · have q2 : ((i : Int) == 1) = false := by simp; omega
          have HY2 : Hid (outQ ts (i + 1) = outQ ts i ++ 44 :: textN u) := by
            show _ = _
            exact outQ_succ hu h0
          clear h0 h1
          have A1 := add_S' ys (b := { data := #[44] }) [44] rfl (by simp; omega)
          have A2 := add_S (ys ++ [44]) (textN u) (by simp; omega)
          go_wp2_with fail
          refine HCALL.out.mono ?_
          rintro e w2 ⟨rfl, rfl⟩
          go_wp2_with fail
          go_roundg (ts.length + 1 - (i + 1))
          case measure => omega
          case rel =>
            refine ⟨i + 1, q + (codeOf u).length, ys ++ 44 :: textN u, by simp, by simp, by go_num, by omega, rfl, ?_, ?_, rfl⟩
            · show _ = _
              rw [HQ2.out]
            · show _ = _
              rw [HY2.out, HY.out]
    · have hieq : i = ts.length := by omega
      have hqe : (q : Int) = (C.length : Int) := by
        have h1 := HQ.out
        rw [hieq, List.take_length] at h1
        have h2 := hSZ.out
        simp only [List.length_cons] at h1
        omega
      have HQE : Hid _ := hqe
      have HYT : Hid (ys = clauseTextN (tCall 63 ts)) := by
        show _ = _
        rw [HY.out, hieq]
        exact outQ_all
      clear hqe
      go_wp2_with fail
      go_ret2
      rw [HYT.out, HQE.out]
      exact ⟨rfl, rfl⟩
end Go.Proofs.Qxb6500302a
