import Derived.Test.Qxb6500301aMod16
import Derived.Test.Qxb6500301aLoad6
namespace Go.Proofs.Qxb6500301a
open Go.RowKit
set_option linter.unusedSimpArgs false
set_option linter.unusedVariables false
attribute [local go_sem ↓] Go.wp_at_zero Go.wp_at_succ
attribute [-go_sem] Go.run_string_add_if Go.run_index_string Go.run_slice_string_if

theorem K1_root {code : List UInt8} {len : Nat} {x : List Nat × List UInt8 × List Nd × At} (h : K 1 code len (List.replicate 6 none) = some x) : x.1 = [len] := by
  cases code with
  | nil => rw [K_nil] at h; cases h
  | cons c r =>
    by_cases hv : isVarC c = true
    · rw [K_new hv (getD_none _), K_zero] at h
      simp only [Option.map_some, Option.some.injEq] at h
      subst h
      rfl
    · have hv' : isVarC c = false := by simpa using hv
      cases r with
      | nil => rw [K_one hv'] at h; cases h
      | cons d r =>
        by_cases hf : (isFun c && okD d) = true
        · rw [K_fun hv' hf] at h
          cases hK : K (d.toNat - 48) r (len + 1) (List.replicate 6 none) with
          | none => rw [hK] at h; cases h
          | some y =>
            rw [hK, Option.bind_some, K_zero] at h
            simp only [Option.map_some, Option.some.injEq] at h
            subst h
            rfl
        · rw [K_bad hv' (by simpa using hf)] at h
          cases h

section
variable {w : World} {b0 q : Nat} {vn vo vl : Value} {ns : List Nd} {saved : List (List Nd)}
set_option maxRecDepth 40000 in
set_option maxHeartbeats 4000000 in
theorem mLoad_any (hb0 : b0 ≤ w.heap.size) (h : MAt w b0 q vn vo vl ns saved) (ok : OkS ns saved) (code : List UInt8) : Calls Try.prog 48 #[.pointer (some ⟨q, 0, none⟩), .string (S code)] w (MPost b0 q vn vo vl saved (loadAns ns code) w) := by
  have hs := ok.small
  obtain ⟨bsn, capn, rfl⟩ := owns_slice h.rn
  have HM : Hid (MAt w b0 q (.slice bsn ns.length capn) vo vl ns saved) := h
  have c0 := cell_of 0 h.top rfl
  have hsz := S_size code
  by_cases hl : 48 < code.length
  · have d1 : decide ((48 : Int) < (code.length : Int)) = true := decide_eq_true (by omega)
    have d1' : decide (48 < code.length) = true := decide_eq_true (by omega)
    have HA : Hid (loadAns ns code = (-1, 1, ns)) := by show _ = _; unfold loadAns; rw [if_pos hl]
    clear h
    go_enter Try.func48, Try.ntmps48
    go_wp2_with fail
    go_ret2
    unfold MPost
    rw [HA.out]
    exact ⟨rfl, ⟨_, _, _, HM.out⟩, Fr.refl _ _⟩
  · have d1 : decide ((48 : Int) < (code.length : Int)) = false := decide_eq_false (by omega)
    have d1' : decide (48 < code.length) = false := decide_eq_false (by omega)
    have HS : Hid (∀ w, Calls Try.prog 62 #[.string (S code)] w fun e w' => e = .returned (.int .i64 (scanAns code)) ∧ Fr No w w') := fun w => mNeed_any (by omega)
    cases hsc : scanL code 1 (List.replicate 6 false) 0 with
    | none =>
      have HA : Hid (loadAns ns code = (-1, 5, ns)) := by show _ = _; unfold loadAns; rw [if_neg hl, hsc]
      have hsa : scanAns code = -1 := by unfold scanAns; rw [hsc]
      rw [hsa] at HS
      clear h hsc hsa hl
      go_enter Try.func48, Try.ntmps48
      go_wp2_with fail
      refine (HS.out _).mono ?_
      rintro e w1 ⟨rfl, F1⟩
      have HF1 : Hid (Fr No w w1) := F1
      clear F1
      go_wp2_with fail
      go_ret2
      unfold MPost
      rw [HA.out]
      exact ⟨rfl, ⟨_, _, _, HM.out.no' HF1.out⟩, HF1.out.mono (fun _ _ e => e.elim)⟩
    | some n =>
      have hsa : scanAns code = (n : Int) := by unfold scanAns; rw [hsc]
      rw [hsa] at HS
      obtain ⟨ks, news, at', hk, hN⟩ := scan_kids _ code 1 (List.replicate 6 false) 0 ns.length (List.replicate 6 none) n (Nat.le_refl _) ⟨rfl, rfl, fun k hk => by rw [getD_none]; rw [List.getD_eq_getElem?_getD, List.getElem?_replicate]; split <;> rfl⟩ hsc
      have hN' : n = news.length := by omega
      by_cases hf : 64 < ns.length + n
      · have d2 : decide ((64 : Int) < (ns.length : Int) + (n : Int)) = true := decide_eq_true (by omega)
        have d2' : decide (64 < ns.length + n) = true := decide_eq_true (by omega)
        have HA : Hid (loadAns ns code = (-1, 6, ns)) := by show _ = _; unfold loadAns; rw [if_neg hl, hsc]; simp only; rw [if_pos hf]
        have hnb : n ≤ 48 := by have := scanL_le _ _ _ _ _ _ (Nat.le_refl _) hsc; omega
        clear h hsc hsa hl hk hN hN' hf
        go_enter Try.func48, Try.ntmps48
        go_wp2_with fail
        refine (HS.out _).mono ?_
        rintro e w1 ⟨rfl, F1⟩
        have HF1 : Hid (Fr No w w1) := F1
        have c01 := F1.cellNo c0
        clear F1
        go_wp2_with fail
        go_ret2
        unfold MPost
        rw [HA.out]
        exact ⟨rfl, ⟨_, _, _, HM.out.no' HF1.out⟩, HF1.out.mono (fun _ _ e => e.elim)⟩
      · have d2 : decide ((64 : Int) < (ns.length : Int) + (n : Int)) = false := decide_eq_false (by omega)
        have d2' : decide (64 < ns.length + n) = false := decide_eq_false (by omega)
        have hF : ns.length + news.length ≤ 64 := by omega
        have HA : Hid (loadAns ns code = ((ns.length : Int), 0, ns ++ news)) := by
          show _ = _
          unfold loadAns newsOf
          rw [if_neg hl, hsc, hk]
          simp only
          rw [if_neg hf]
        have HKS : Hid (ks = [ns.length]) := K1_root hk
        have hnb : n ≤ 64 := by omega
        have HB : Hid (∀ w1 : World, Fr No w w1 → Calls Try.prog 63 #[.pointer (some ⟨q, 0, none⟩), .string (S code), .int .i64 0, .pointer (some ⟨w1.heap.size, 0, none⟩)] (w1.alloc (.cells #[.int .i64 (-1), .int .i64 (-1), .int .i64 (-1), .int .i64 (-1), .int .i64 (-1), .int .i64 (-1)] 101)) (BuildPost b0 q (.slice bsn ns.length capn) vo vl saved code w1.heap.size ns (ks, [], news, at') (w1.alloc (.cells #[.int .i64 (-1), .int .i64 (-1), .int .i64 (-1), .int .i64 (-1), .int .i64 (-1), .int .i64 (-1)] 101)))) := by
          intro w1 hf1
          have hs1 := hf1.size
          have FA : Fr No w1 (w1.alloc (.cells #[.int .i64 (-1), .int .i64 (-1), .int .i64 (-1), .int .i64 (-1), .int .i64 (-1), .int .i64 (-1)] 101)) := (Fr.refl No w1).alloc _
          have hsA := FA.size
          refine build_any (by omega) (by omega) code.length 0 _ _ ns (List.replicate 6 none) (ks, [], news, at') (by simp) (Nat.zero_le _) (by omega) (HM.out.no' (hf1.trans FA (fun _ _ e => e))) ⟨heap_alloc_same _ _, rfl⟩ (by simpa using hk) hF
        clear h hsc hsa hl hk hN hN' hf hF
        go_enter Try.func48, Try.ntmps48
        go_wp2_with fail
        refine (HS.out _).mono ?_
        rintro e w1 ⟨rfl, F1⟩
        have HF1 : Hid (Fr No w w1) := F1
        have c01 := F1.cellNo c0
        clear F1 c0
        go_wp2_with fail
        refine (HB.out w1 HF1.out).mono ?_
        rintro e w2 ⟨k, pe, vn2, rfl, hk2, -, -, hM2, -, hF2, -⟩
        have hkk : k = ns.length := by
          have h1 : ks = [k] := hk2
          rw [HKS.out] at h1
          simpa using h1.symm
        subst hkk
        have HM2 : Hid (MAt w2 b0 q vn2 vo vl (ns ++ news) saved) := hM2
        have hs1' := HF1.out.size
        have HF2 : Hid (Fr (Foot q (.slice bsn ns.length capn) vo vl) w w2) := (((HF1.out.alloc _).mono (fun _ _ e => e.elim)).trans hF2 (fun k hk e => by
          rcases e with e | e | e
          · exact .inr (.inl e)
          · exact .inl e
          · omega))
        clear hM2 hF2 hk2
        go_wp2_with fail
        go_ret2
        unfold MPost
        rw [HA.out]
        exact ⟨rfl, ⟨_, _, _, HM2.out⟩, HF2.out⟩
end
end Go.Proofs.Qxb6500301a
