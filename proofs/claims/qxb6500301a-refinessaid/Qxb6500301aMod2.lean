import Derived.Test.Qxb6500301aMod1
namespace Go.Proofs.Qxb6500301a
open Go.RowKit
set_option linter.unusedSimpArgs false
set_option linter.unusedVariables false
attribute [local go_sem ↓] Go.wp_at_zero Go.wp_at_succ
attribute [-go_sem] Go.run_string_add_if Go.run_index_string Go.run_slice_string_if

theorem e_nil : ((ByteArray.toList { data := #[] }) == ByteArray.toList { data := #[] }) = true := beq_self_eq_true _
theorem e_cd (c d : UInt8) : ((S [c, d]).toList == ByteArray.toList { data := #[] }) = false := by rw [ByteArray.toList_eq, ByteArray.toList_eq, S_list]; rfl
theorem e_cd' (c d : UInt8) : (S [c, d]).toList.isEmpty = false := by rw [ByteArray.toList_eq, S_list]; rfl

section
variable {w : World} {b0 q : Nat} {vn vo vl : Value} {ns : List Nd} {saved : List (List Nd)}
theorem mIsVar_any (c : UInt8) : Calls Try.prog 67 #[.int .u8 (c.toNat : Int)] w fun e w' => e = .returned (.bool (isVarC c)) ∧ w' = w := by
  have hc : c.toNat < 256 := c.toNat_lt
  have HV : Hid (isVarC c = (decide (65 ≤ c.toNat) && decide (c.toNat ≤ 70))) := rfl
  by_cases h1 : 65 ≤ c.toNat
  · have d1 : decide ((65 : Int) ≤ (c.toNat : Int)) = true := decide_eq_true (by omega)
    have d1' : decide (65 ≤ c.toNat) = true := decide_eq_true h1
    by_cases h2 : c.toNat < 71
    · have d2 : decide ((c.toNat : Int) < 71) = true := decide_eq_true (by omega)
      have d2' : decide (c.toNat < 71) = true := decide_eq_true h2
      have HV2 : Hid (isVarC c = true) := by show _ = _; rw [HV.out, d1', decide_eq_true (by omega)]; rfl
      go_enter Try.func67, Try.ntmps67
      go_wp2_with fail
      go_ret
      rw [HV2.out]; exact ⟨rfl, rfl⟩
    · have d2 : decide ((c.toNat : Int) < 71) = false := decide_eq_false (by omega)
      have d2' : decide (c.toNat < 71) = false := decide_eq_false h2
      have HV2 : Hid (isVarC c = false) := by show _ = _; rw [HV.out, d1', decide_eq_false (by omega)]; rfl
      go_enter Try.func67, Try.ntmps67
      go_wp2_with fail
      go_ret
      rw [HV2.out]; exact ⟨rfl, rfl⟩
  · have d1 : decide ((65 : Int) ≤ (c.toNat : Int)) = false := decide_eq_false (by omega)
    have d1' : decide (65 ≤ c.toNat) = false := decide_eq_false h1
    have HV2 : Hid (isVarC c = false) := by show _ = _; rw [HV.out, d1']; rfl
    go_enter Try.func67, Try.ntmps67
    go_wp2_with fail
    go_ret
    rw [HV2.out]; exact ⟨rfl, rfl⟩
theorem arity_nil : Calls Try.prog 66 #[.string { data := #[] }] w fun e w' => e = .returned (.int .i64 0) ∧ w' = w := by
  have e0 := e_nil
  go_enter Try.func66, Try.ntmps66
  go_wp2_with fail
  go_ret
  exact ⟨rfl, rfl⟩
theorem arity_cd (c d : UInt8) (h1 : 48 ≤ d.toNat) : Calls Try.prog 66 #[.string (S [c, d])] w fun e w' => e = .returned (.int .i64 ((d.toNat - 48 : Nat) : Int)) ∧ w' = w := by
  have e0 := e_cd c d
  have e0' := e_cd' c d
  have hd : d.toNat < 256 := d.toNat_lt
  have hi := idx_Int (l := [c, d]) (i := 1) (c := d) (by omega) rfl
  have HE : Hid (((d.toNat - 48 : Nat) : Int) = (d.toNat : Int) - 48) := by show _ = _; omega
  go_enter Try.func66, Try.ntmps66
  go_wp2_with fail
  go_ret
  rw [HE.out]
  exact ⟨rfl, rfl⟩
theorem arity_nd (hw : WfN ns) {i : Nat} {x : Nd} (hx : ns[i]? = some x) (w : World) : Calls Try.prog 66 #[.string (hdS x)] w fun e w' => e = .returned (.int .i64 ((argsOf x).length : Int)) ∧ w' = w := by
  cases x with
  | v r => exact arity_nil
  | s c d es =>
    have h := hw.arg i c d es hx
    have := arity_cd (w := w) c d h.1
    rw [← h.2.2.1] at this
    exact this

set_option maxRecDepth 20000 in
theorem mDeref_any (h : MAt w b0 q vn vo vl ns saved) (hw : WfN ns) (hs : ns.length ≤ 64) (a : Int) : Calls Try.prog 54 #[.pointer (some ⟨q, 0, none⟩), .int .i64 a] w fun e w' => e = .returned (.int .i64 (derefAns ns a)) ∧ w' = w := by
  have HD : Hid (derefAns ns a = if a < 0 ∨ (ns.length : Int) ≤ a then -1 else (deref ns a.toNat : Int)) := rfl
  by_cases hout : a < 0 ∨ (ns.length : Int) ≤ a
  · have HA : Hid (derefAns ns a = -1) := by show _ = _; rw [HD.out, if_pos hout]
    obtain ⟨bs, cap, rfl⟩ := owns_slice h.rn
    have c0 := cell_of 0 h.top rfl
    by_cases hneg : a < 0
    · have d1 : decide (a < 0) = true := decide_eq_true hneg
      clear HD
      go_enter Try.func54, Try.ntmps54
      go_wp2_with fail
      go_ret
      rw [HA.out]; exact ⟨rfl, rfl⟩
    · have d1 : decide (a < 0) = false := decide_eq_false hneg
      have d2 : decide ((ns.length : Int) ≤ a) = true := decide_eq_true (by omega)
      clear HD
      go_enter Try.func54, Try.ntmps54
      go_wp2_with fail
      go_ret
      rw [HA.out]; exact ⟨rfl, rfl⟩
  · obtain ⟨k, rfl⟩ : ∃ k : Nat, a = (k : Int) := ⟨a.toNat, by omega⟩
    have hk : k < ns.length := by omega
    have HA : Hid (derefAns ns (k : Int) = (deref ns k : Int)) := by show _ = _; rw [HD.out, if_neg hout, Int.toNat_natCast]
    have d1 : decide ((k : Int) < 0) = false := decide_eq_false (by omega)
    have d2 : decide ((ns.length : Int) ≤ (k : Int)) = false := decide_eq_false (by omega)
    have d2' : decide (ns.length ≤ k) = false := decide_eq_false (by omega)
    obtain ⟨g, cap, rfl, hgb, hgl, hcap⟩ := owns_ptr h.rn (by omega)
    have c0 := cell_of 0 h.top rfl
    have HB : Hid (∀ i r, ns[i]? = some (.v (some r)) → r < ns.length ∧ (∀ q, ns[r]? = some (Nd.v q) → r < i) ∧ deref ns i = deref ns r) := fun i r hi => ⟨(hw.ref i r hi).1, (hw.ref i r hi).2, deref_bound hw hi⟩
    have HT : Hid (∀ i x, ns[i]? = some x → w.cell? ⟨g, i * 6, none⟩ = some (.string (hdS x)) ∧ w.cell? ⟨g, i * 6 + 1, none⟩ = some (.int .i64 (refM i x : Int))) := fun i x hx => ⟨(nd_cells h.rn hx).1, (nd_cells h.rn hx).2.1⟩
    have HF : Hid (∀ a, (∀ r, ns[a]? ≠ some (.v (some r))) → deref ns a = a) := fun a => deref_free
    have e0 := e_nil
    clear h HD hout
    go_enter Try.func54, Try.ntmps54
    go_wp2_with fail
    go_loopg [1] (match ns[k]? with
      | some (.v _) => k + 1
      | _ => 0) (fun gk u wr => ∃ i : Nat, u = .int .i64 (i : Int) ∧ i < ns.length ∧ Hid (deref ns k = deref ns i) ∧ Hid (gk = match ns[i]? with
      | some (.v _) => i + 1
      | _ => 0) ∧ wr = w)
    case atStart =>
      exact ⟨k, rfl, hk, rfl, rfl, rfl⟩
    case round =>
      obtain ⟨i, rfl, hi, HD, HG, rfl⟩ := hrel
      cases hx : ns[i]? with
      | none => exact absurd (List.getElem?_eq_none_iff.1 hx) (by omega)
      | some x =>
        obtain ⟨ch, cr⟩ := HT.out i x hx
        cases x with
        | s c d es =>
          have HE : Hid (deref ns i = i) := HF.out i (fun r e => by rw [hx] at e; cases e)
          simp only [hdS, refM] at ch cr
          have e1 := e_cd c d
          have e1' := e_cd' c d
          clear hx
          go_wp2_with fail
          go_ret
          rw [HA.out, HD.out, HE.out]
          exact ⟨rfl, rfl⟩
        | v r0 =>
          cases r0 with
          | none =>
            have HE : Hid (deref ns i = i) := HF.out i (fun r e => by rw [hx] at e; cases e)
            simp only [hdS, refM] at ch cr
            clear hx
            go_wp2_with fail
            go_ret
            rw [HA.out, HD.out, HE.out]
            exact ⟨rfl, rfl⟩
          | some r =>
            obtain ⟨hr, hq, hde⟩ := HB.out i r hx
            have hgk : gk = i + 1 := by have := HG.out; rw [hx] at this; exact this
            have HN : Hid (deref ns k = deref ns r) := by show _ = _; rw [HD.out, hde]
            have hri : r ≠ i := by
              intro e
              subst e
              exact absurd (hq _ hx) (by omega)
            have n1 : ((r : Int) == (i : Int)) = false := by simp; omega
            have n2 : decide ((r : Int) = (i : Int)) = false := decide_eq_false (by omega)
            have HM : Hid ((match ns[r]? with
              | some (.v _) => r + 1
              | _ => 0) < gk) := by
              show _ < _
              rw [hgk]
              cases hy : ns[r]? with
              | none => exact Nat.succ_pos _
              | some y =>
                cases y with
                | v q' => exact Nat.succ_lt_succ (hq q' hy)
                | s c d es => exact Nat.succ_pos _
            simp only [hdS, refM] at ch cr
            clear hx hde hgk HG
            go_wp2_with fail
            go_roundg (match ns[r]? with
              | some (.v _) => r + 1
              | _ => 0)
            case measure => exact HM.out
            case rel => exact ⟨r, rfl, hr, HN.out, rfl, rfl⟩
theorem mderef_at (h : MAt w b0 q vn vo vl ns saved) (hw : WfN ns) (hs : ns.length ≤ 64) {a : Nat} (ha : a < ns.length) : Calls Try.prog 54 #[.pointer (some ⟨q, 0, none⟩), .int .i64 (a : Int)] w fun e w' => e = .returned (.int .i64 (deref ns a : Int)) ∧ w' = w := by
  have := mDeref_any h hw hs (a : Int)
  rw [show derefAns ns (a : Int) = (deref ns a : Int) by unfold derefAns; rw [if_neg (by omega), Int.toNat_natCast]] at this
  exact this
theorem mHead_any (h : MAt w b0 q vn vo vl ns saved) (hw : WfN ns) (hs : ns.length ≤ 64) (a : Int) : Calls Try.prog 55 #[.pointer (some ⟨q, 0, none⟩), .int .i64 a] w fun e w' => e = .returned (.string (S (headAns ns a))) ∧ w' = w := by
  have HD : Hid (Calls Try.prog 54 #[.pointer (some ⟨q, 0, none⟩), .int .i64 a] w fun e w' => e = .returned (.int .i64 (derefAns ns a)) ∧ w' = w) := mDeref_any h hw hs a
  by_cases hout : a < 0 ∨ (ns.length : Int) ≤ a
  · have HA : Hid (headAns ns a = []) := by show _ = _; unfold headAns; rw [if_pos hout]
    rw [show derefAns ns a = -1 by unfold derefAns; rw [if_pos hout]] at HD
    go_enter Try.func55, Try.ntmps55
    go_wp2_with fail
    refine HD.out.mono ?_
    rintro e w1 ⟨rfl, rfl⟩
    go_wp2_with fail
    go_ret
    rw [HA.out]; exact ⟨rfl, rfl⟩
  · obtain ⟨k, rfl⟩ : ∃ k : Nat, a = (k : Int) := ⟨a.toNat, by omega⟩
    have hk : k < ns.length := by omega
    rw [show derefAns ns (k : Int) = (deref ns k : Int) by unfold derefAns; rw [if_neg hout, Int.toNat_natCast]] at HD
    have hdl := (deref_end hw k hk).1
    obtain ⟨x, hx⟩ : ∃ x, ns[deref ns k]? = some x := ⟨_, List.getElem?_eq_getElem hdl⟩
    have HA : Hid (S (headAns ns (k : Int)) = hdS x) := by
      show _ = _
      unfold headAns
      rw [if_neg hout, Int.toNat_natCast, hx]
      cases x <;> rfl
    obtain ⟨g, cap, rfl, hgb, hgl, hcap⟩ := owns_ptr h.rn (by omega)
    have c0 := cell_of 0 h.top rfl
    have ch := (nd_cells h.rn hx).1
    generalize deref ns k = da at *
    clear h hx hout
    go_enter Try.func55, Try.ntmps55
    go_wp2_with fail
    refine HD.out.mono ?_
    rintro e w1 ⟨rfl, rfl⟩
    go_wp2_with fail
    go_ret
    rw [HA.out]; exact ⟨rfl, rfl⟩
theorem mArg_any (h : MAt w b0 q vn vo vl ns saved) (hw : WfN ns) (hs : ns.length ≤ 64) (a k : Int) : Calls Try.prog 56 #[.pointer (some ⟨q, 0, none⟩), .int .i64 a, .int .i64 k] w fun e w' => e = .returned (.int .i64 (argAns ns a k)) ∧ w' = w := by
  have HD : Hid (Calls Try.prog 54 #[.pointer (some ⟨q, 0, none⟩), .int .i64 a] w fun e w' => e = .returned (.int .i64 (derefAns ns a)) ∧ w' = w) := mDeref_any h hw hs a
  by_cases hout : a < 0 ∨ (ns.length : Int) ≤ a
  · have HA : Hid (argAns ns a k = -1) := by show _ = _; unfold argAns; rw [if_pos hout]
    rw [show derefAns ns a = -1 by unfold derefAns; rw [if_pos hout]] at HD
    go_enter Try.func56, Try.ntmps56
    go_wp2_with fail
    refine HD.out.mono ?_
    rintro e w1 ⟨rfl, rfl⟩
    go_wp2_with fail
    go_ret
    rw [HA.out]; exact ⟨rfl, rfl⟩
  · obtain ⟨m, rfl⟩ : ∃ k : Nat, a = (k : Int) := ⟨a.toNat, by omega⟩
    have hk : m < ns.length := by omega
    rw [show derefAns ns (m : Int) = (deref ns m : Int) by unfold derefAns; rw [if_neg hout, Int.toNat_natCast]] at HD
    have hdl := (deref_end hw m hk).1
    obtain ⟨x, hx⟩ : ∃ x, ns[deref ns m]? = some x := ⟨_, List.getElem?_eq_getElem hdl⟩
    have hkids : kidsOf ns (deref ns m) = argsOf x := by unfold kidsOf; rw [hx]; cases x <;> rfl
    have hl4 := kids_len hw (deref ns m)
    rw [hkids] at hl4
    obtain ⟨g, cap, rfl, hgb, hgl, hcap⟩ := owns_ptr h.rn (by omega)
    have c0 := cell_of 0 h.top rfl
    have ch := (nd_cells h.rn hx).1
    have HAR : Hid (∀ j, j < 4 → w.cell? ⟨g, deref ns m * 6 + 2 + j, none⟩ = some (.int .i64 (argM x j : Int))) := (nd_cells h.rn hx).2.2
    have HAY : Hid (∀ w, Calls Try.prog 66 #[.string (hdS x)] w fun e w' => e = .returned (.int .i64 ((argsOf x).length : Int)) ∧ w' = w) := fun w => arity_nd hw hx w
    by_cases hk0 : k < 0
    · have HA : Hid (argAns ns (m : Int) k = -1) := by show _ = _; unfold argAns; rw [if_neg hout, if_pos hk0]
      have d1 : decide (k < 0) = true := decide_eq_true hk0
      generalize deref ns m = da at *
      clear h hx hout
      go_enter Try.func56, Try.ntmps56
      go_wp2_with fail
      refine HD.out.mono ?_
      rintro e w1 ⟨rfl, rfl⟩
      go_wp2_with fail
      go_ret
      rw [HA.out]; exact ⟨rfl, rfl⟩
    · obtain ⟨j, rfl⟩ : ∃ j : Nat, k = (j : Int) := ⟨k.toNat, by omega⟩
      have d1 : decide ((j : Int) < 0) = false := decide_eq_false (by omega)
      have HA0 : Hid (argAns ns (m : Int) (j : Int) = match (argsOf x)[j]? with
        | some k => (k : Int)
        | none => -1) := by
        show _ = _
        unfold argAns
        rw [if_neg hout, if_neg hk0, Int.toNat_natCast, Int.toNat_natCast, hkids]
        cases (argsOf x)[j]? <;> rfl
      by_cases hj : j < (argsOf x).length
      · have HA : Hid (argAns ns (m : Int) (j : Int) = (argM x j : Int)) := by
          show _ = _
          rw [HA0.out, List.getElem?_eq_getElem hj, argM_at (List.getElem?_eq_getElem hj)]
        have d2 : decide (((argsOf x).length : Int) ≤ (j : Int)) = false := decide_eq_false (by omega)
        have d2' : decide ((argsOf x).length ≤ j) = false := decide_eq_false (by omega)
        have car := HAR.out j (by omega)
        generalize deref ns m = da at *
        clear h hx hout HAR HA0
        go_enter Try.func56, Try.ntmps56
        go_wp2_with fail
        refine HD.out.mono ?_
        rintro e w1 ⟨rfl, rfl⟩
        go_wp2_with fail
        refine (HAY.out _).mono ?_
        rintro e w1 ⟨rfl, rfl⟩
        go_wp2_with fail
        go_ret
        rw [HA.out]; exact ⟨rfl, rfl⟩
      · have HA : Hid (argAns ns (m : Int) (j : Int) = -1) := by
          show _ = _
          rw [HA0.out, List.getElem?_eq_none (by omega)]
        have d2 : decide (((argsOf x).length : Int) ≤ (j : Int)) = true := decide_eq_true (by omega)
        have d2' : decide ((argsOf x).length ≤ j) = true := decide_eq_true (by omega)
        generalize deref ns m = da at *
        clear h hx hout HAR HA0
        go_enter Try.func56, Try.ntmps56
        go_wp2_with fail
        refine HD.out.mono ?_
        rintro e w1 ⟨rfl, rfl⟩
        go_wp2_with fail
        refine (HAY.out _).mono ?_
        rintro e w1 ⟨rfl, rfl⟩
        go_wp2_with fail
        go_ret
        rw [HA.out]; exact ⟨rfl, rfl⟩
end
end Go.Proofs.Qxb6500301a
