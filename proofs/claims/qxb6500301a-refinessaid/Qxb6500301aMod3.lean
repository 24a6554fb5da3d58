import Derived.Test.Qxb6500301aMod2
namespace Go.Proofs.Qxb6500301a
open Go.RowKit
set_option linter.unusedSimpArgs false
set_option linter.unusedVariables false
attribute [local go_sem ↓] Go.wp_at_zero Go.wp_at_succ
attribute [-go_sem] Go.run_string_add_if Go.run_index_string Go.run_slice_string_if

def OccPost (r : Nat × Nat) (w : World) (e : Ending) (w' : World) : Prop :=
  w' = w ∧ ∃ n : Int, e = .returned (.tuple #[.int .i64 n, .int .i64 (r.2 : Int)]) ∧ (r.2 = 0 → n = 40 - (r.1 : Int))

section
variable {w : World} {b0 q : Nat} {vn vo vl : Value} {ns : List Nd} {saved : List (List Nd)}
set_option maxRecDepth 40000 in
set_option maxHeartbeats 4000000 in
theorem mOccurs_any (h : MAt w b0 q vn vo vl ns saved) (hw : WfN ns) (hs : ns.length ≤ 64) : ∀ (f : Nat), f ≤ 40 → ∀ (v t : Nat), t < ns.length → v < ns.length →
    Calls Try.prog 68 #[.pointer (some ⟨q, 0, none⟩), .int .i64 (v : Int), .int .i64 (t : Int), .int .i64 (40 - (f : Int))] w (OccPost (occ f ns v [t]) w) := by
  intro f
  induction f using Nat.strongRecOn with
  | _ f IH =>
    intro hf v t ht hv
    cases f with
    | zero =>
      rw [occ_zero]
      clear IH h
      go_enter Try.func68, Try.ntmps68
      go_wp2_with fail
      go_ret2
      exact ⟨rfl, _, rfl, fun e => by cases e⟩
    | succ f =>
      have d1 : decide ((40 : Int) < 40 - ((f + 1 : Nat) : Int) + 1) = false := decide_eq_false (by omega)
      have HD : Hid (∀ w', w' = w → Calls Try.prog 54 #[.pointer (some ⟨q, 0, none⟩), .int .i64 (t : Int)] w' fun e w'' => e = .returned (.int .i64 (deref ns t : Int)) ∧ w'' = w') := fun w' e => by subst e; exact mderef_at h hw hs ht
      have hdl := (deref_end hw t ht).1
      have hn1 : (40 : Int) - ((f + 1 : Nat) : Int) = 39 - (f : Int) := by omega
      rw [hn1]
      by_cases hm : deref ns t = v
      · rw [occ_met hm]
        clear IH h hn1
        have HM : Hid (deref ns t = v) := hm
        rw [HM.out] at HD hdl
        clear hm
        go_enter Try.func68, Try.ntmps68
        go_wp2_with fail
        refine (HD.out _ rfl).mono ?_
        rintro e w1 ⟨rfl, rfl⟩
        go_wp2_with fail
        go_ret2
        exact ⟨rfl, _, rfl, fun e => by cases e⟩
      · obtain ⟨x, hx⟩ : ∃ x, ns[deref ns t]? = some x := ⟨_, List.getElem?_eq_getElem hdl⟩
        have hkids : kidsOf ns (deref ns t) = argsOf x := by unfold kidsOf; rw [hx]; cases x <;> rfl
        have hl4 := kids_len hw (deref ns t)
        have hkl := kids_lt hw (deref ns t)
        rw [occ_on hm, hkids, List.append_nil]
        rw [hkids] at hl4 hkl
        obtain ⟨g, cap, rfl, hgb, hgl, hcap⟩ := owns_ptr h.rn (by omega)
        have c0 := cell_of 0 h.top rfl
        have ch := (nd_cells h.rn hx).1
        have HAR : Hid (∀ (j k : Nat), (argsOf x)[j]? = some k → w.cell? ⟨g, deref ns t * 6 + 2 + j, none⟩ = some (.int .i64 (k : Int))) := fun j k hjk => by
          have hj := (List.getElem?_eq_some_iff.1 hjk).1
          rw [(nd_cells h.rn hx).2.2 j (by omega), argM_at hjk]
        have HAY : Hid (∀ w, Calls Try.prog 66 #[.string (hdS x)] w fun e w' => e = .returned (.int .i64 ((argsOf x).length : Int)) ∧ w' = w) := fun w => arity_nd hw hx w
        have HIH : Hid (∀ m, m < f + 1 → m ≤ 40 → ∀ (v t : Nat), t < ns.length → v < ns.length → Calls Try.prog 68 #[.pointer (some ⟨q, 0, none⟩), .int .i64 (v : Int), .int .i64 (t : Int), .int .i64 (40 - (m : Int))] w (OccPost (occ m ns v [t]) w)) := IH
        have ne1 : ((deref ns t : Int) == (v : Int)) = false := by simp; omega
        have ne2 : decide ((deref ns t : Int) = (v : Int)) = false := decide_eq_false (by omega)
        have ne3 : deref ns t ≠ v := hm
        clear IH h hx hkids hn1 hm
        generalize deref ns t = da at *
        generalize hes : argsOf x = es at *
        clear hes
        have hfl : f ≤ 39 := by omega
        go_enter Try.func68, Try.ntmps68
        go_wp2_with fail
        refine (HD.out _ rfl).mono ?_
        rintro e w1 ⟨rfl, rfl⟩
        go_wp2_with fail
        go_loopg [3, 10, 11] (es.length + 1) (fun gk v3 v10 v11 wr => ∃ (i : Nat) (n : Int), i ≤ es.length ∧ gk = es.length + 1 - i ∧ v11 = .int .i64 (i : Int) ∧ v3 = .int .i64 n ∧ v10 = .int .i64 ((occ f ns v (es.take i)).2 : Int) ∧ Hid ((occ f ns v (es.take i)).2 = 0 → n = 40 - ((occ f ns v (es.take i)).1 : Int)) ∧ Hid ((occ f ns v (es.take i)).2 = 0 ∨ occ f ns v es = occ f ns v (es.take i)) ∧ wr = w1)
        case atStart =>
          refine ⟨0, 40 - (f : Int), Nat.zero_le _, rfl, rfl, by go_num, by rw [List.take_zero, occ_nil]; rfl, fun _ => by rw [List.take_zero, occ_nil], .inl (by rw [List.take_zero, occ_nil]), rfl⟩
        case round =>
          obtain ⟨i, n, hi, hgk, rfl, rfl, rfl, HN, HO, rfl⟩ := hrel
          have hoe := occ_err ns v f (es.take i)
          have hol := occ_le ns v f (es.take i)
          have HAP : Hid (∀ k, es[i]? = some k → (occ f ns v (es.take i)).2 = 0 → occ f ns v (es.take (i + 1)) = occ (occ f ns v (es.take i)).1 ns v [k]) := by
            intro k hk h0
            rw [List.take_add_one, hk, Option.toList_some, occ_append, if_pos h0]
          have HFU : Hid (i = es.length → occ f ns v es = occ f ns v (es.take i)) := by
            intro e; rw [e, List.take_length]
          generalize hr : occ f ns v (es.take i) = r at *
          clear hr
          obtain ⟨rf, re⟩ := r
          simp only at hoe hol HN HO HAP ⊢
          by_cases he : re = 0
          · subst he
            have hn := HN.out rfl
            by_cases hil : i < es.length
            · have d2 : decide ((i : Int) < (es.length : Int)) = true := decide_eq_true (by omega)
              have d2' : decide (i < es.length) = true := decide_eq_true hil
              obtain ⟨k, hk⟩ : ∃ k, es[i]? = some k := ⟨_, List.getElem?_eq_getElem hil⟩
              have ck := HAR.out i k hk
              have hkn := hkl k (List.mem_of_getElem? hk)
              have HC : Hid (Calls Try.prog 68 #[.pointer (some ⟨q, 0, none⟩), .int .i64 (v : Int), .int .i64 (k : Int), .int .i64 (40 - (rf : Int))] wr (OccPost (occ f ns v (es.take (i + 1))) wr)) := by
                show Calls _ _ _ _ _
                rw [HAP.out k hk rfl]
                exact HIH.out rf (by omega) (by omega) v k hkn hv
              clear HAP HFU HO HN hk
              subst hn
              go_wp2_with fail
              refine (HAY.out _).mono ?_
              rintro e w2 ⟨rfl, rfl⟩
              go_wp2_with fail
              refine HC.out.mono ?_
              rintro e w3 ⟨rfl, n3, rfl, h3⟩
              go_wp2_with fail
              go_roundg (es.length + 1 - (i + 1))
              case measure => omega
              case rel =>
                refine ⟨i + 1, n3, by omega, rfl, by go_num, rfl, rfl, h3, ?_, rfl⟩
                by_cases h0 : (occ f ns v (es.take (i + 1))).2 = 0
                · exact .inl h0
                · right
                  have := occ_append ns v f (es.take (i + 1)) (es.drop (i + 1))
                  rw [List.take_append_drop, if_neg h0] at this
                  exact this
            · have d2 : decide ((i : Int) < (es.length : Int)) = false := decide_eq_false (by omega)
              have d2' : decide (i < es.length) = false := decide_eq_false hil
              have HF2 : Hid (occ f ns v es = (rf, 0)) := HFU.out (by omega)
              clear HAP HFU HO HN
              subst hn
              go_wp2_with fail
              refine (HAY.out _).mono ?_
              rintro e w2 ⟨rfl, rfl⟩
              go_wp2_with fail
              go_ret2
              rw [HF2.out]
              exact ⟨rfl, _, rfl, fun _ => rfl⟩
          · have HF2 : Hid (occ f ns v es = (rf, re)) := by
              rcases HO.out with h0 | h0
              · exact absurd h0 he
              · exact h0
            have hfin : ∀ w : World, OccPost (occ f ns v es) w (.returned (.tuple #[.int .i64 n, .int .i64 (re : Int)])) w := fun w => by
              rw [HF2.out]; exact ⟨rfl, n, rfl, fun e => absurd e he⟩
            have HFIN : Hid (∀ w : World, OccPost (occ f ns v es) w (.returned (.tuple #[.int .i64 n, .int .i64 (re : Int)])) w) := hfin
            clear HAP HFU HO HN hfin
            have hre : re = 7 ∨ re = 8 := by omega
            by_cases hil : i < es.length
            · have d2 : decide ((i : Int) < (es.length : Int)) = true := decide_eq_true (by omega)
              have d2' : decide (i < es.length) = true := decide_eq_true hil
              rcases hre with rfl | rfl
              · go_wp2_with fail
                refine (HAY.out _).mono ?_
                rintro e w2 ⟨rfl, rfl⟩
                go_wp2_with fail
                go_ret2
                exact HFIN.out _
              · go_wp2_with fail
                refine (HAY.out _).mono ?_
                rintro e w2 ⟨rfl, rfl⟩
                go_wp2_with fail
                go_ret2
                exact HFIN.out _
            · have d2 : decide ((i : Int) < (es.length : Int)) = false := decide_eq_false (by omega)
              have d2' : decide (i < es.length) = false := decide_eq_false hil
              rcases hre with rfl | rfl
              · go_wp2_with fail
                refine (HAY.out _).mono ?_
                rintro e w2 ⟨rfl, rfl⟩
                go_wp2_with fail
                go_ret2
                exact HFIN.out _
              · go_wp2_with fail
                refine (HAY.out _).mono ?_
                rintro e w2 ⟨rfl, rfl⟩
                go_wp2_with fail
                go_ret2
                exact HFIN.out _
end
end Go.Proofs.Qxb6500301a
