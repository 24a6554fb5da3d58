import Derived.Test.Qxb6500302aMod12
import Derived.Test.Qxb6500302aLift2
namespace Go.Proofs.Qxb6500302a.M
open Go.RowKit
set_option linter.unusedSimpArgs false
set_option linter.unusedVariables false
attribute [local go_sem ↓] Go.wp_at_zero Go.wp_at_succ
attribute [-go_sem] Go.run_string_add_if Go.run_index_string Go.run_slice_string_if

set_option maxRecDepth 40000 in
set_option maxHeartbeats 4000000 in
theorem walk_any {w : World} {a : Option Addr} {cap : Nat} {ops : List Step} (hsc : ScriptAt w a ops) (hl : ops.length ≤ maxLen) (quiet : Bool) :
    Calls Try.prog 19 #[.slice a ops.length cap, .bool quiet] w fun e w' => ∃ n : Int, e = .returned (.tuple #[.int .i64 (-1), .int .i64 n]) ∧ Fr No w w' := by
  have hml : ops.length ≤ 9223372036854775807 := by unfold maxLen at hl; omega
  go_enter Try.func19, Try.ntmps19
  go_wp2_with fail
  refine new_any.mono ?_
  rintro e w1 ⟨own1, p, rfl, H1, F1, N1⟩
  go_wp2_with fail
  refine newM.mono ?_
  rintro e w2 ⟨m, rfl, M2, F2, N2⟩
  have HS : Hid (ScriptAt w a ops) := hsc
  go_wp2_with fail
  go_loopg [8] (ops.length + 1) (fun gk u wr => ∃ (i : Nat) (own : Own) (D O : Nat → Prop) (cs : List Tm), u = .int .i64 (i : Int) ∧ i ≤ ops.length ∧ i ≤ 4398046511104 ∧ gk = ops.length + 1 - i ∧ ProgAt wr own D p cs ∧ MAt wr O m cs ∧ Fr No w wr ∧
    (∀ k, Foot own D k → w.heap.size ≤ k) ∧ (∀ k, O k → w.heap.size ≤ k) ∧ (∀ k, Foot own D k → ¬ O k))
  case atStart =>
    refine ⟨0, own1, No, _, [], rfl, Nat.zero_le _, by omega, rfl, H1.keep F2 (fun _ _ h => h), M2, F1.trans F2 (fun _ _ h => h), N1, ?_, ?_⟩
    · intro k hk; subst hk; have := F1.size; omega
    · intro k hk e; subst e; have := H1.foot_lt hk; omega
  case round =>
    obtain ⟨i, own, D, O, cs, rfl, hi, hi2, hgk, HP, HM, hf, NP, NM, ND⟩ := hrel
    by_cases hlt : i < ops.length
    · by_cases h42 : i < 4398046511104
      · have d1 : decide ((i : Int) < (ops.length : Int)) = true := decide_eq_true (by omega)
        have d1' : decide (i < ops.length) = true := decide_eq_true (by omega)
        have d2 : decide ((i : Int) < 4398046511104) = true := decide_eq_true (by omega)
        have d2' : decide (i < 4398046511104) = true := decide_eq_true (by omega)
        obtain ⟨o, ho⟩ : ∃ o, ops[i]? = some o := ⟨_, List.getElem?_eq_getElem hlt⟩
        obtain ⟨blk, off, rfl, hst⟩ := HS.out i o ho
        have hst' := hst.keep hf (fun h => h)
        obtain ⟨k0, k1, k2, k3, k4, k5⟩ := hst'
        go_upto_region 7 with fail
        have F1' : Fr No wr (wr.alloc (.cells #[.int .i64 o.k, .int .i64 o.a, .int .i64 o.b, .int .i64 o.c, .string o.s, .string o.t] 36)) := (Fr.refl No wr).alloc _
        have hop : (wr.alloc (.cells #[.int .i64 o.k, .int .i64 o.a, .int .i64 o.b, .int .i64 o.c, .string o.s, .string o.t] 36)).heap[wr.heap.size]? = some (.cells #[.int .i64 o.k, .int .i64 o.a, .int .i64 o.b, .int .i64 o.c, .string o.s, .string o.t] 36) := heap_alloc_same _ _
        generalize (wr.alloc (.cells #[.int .i64 o.k, .int .i64 o.a, .int .i64 o.b, .int .i64 o.c, .string o.s, .string o.t] 36)) = W1 at *
        have HD := Do_any (HP.keep F1' (fun _ _ h => h)) o.k o.a o.b o.c o.s o.t
        have HDM := fun (W : World) (hW : MAt W O m cs) => DoM_any hW o.k o.a o.b o.c o.s o.t
        generalize doOf cs o.k o.a o.s.data.toList o.t.data.toList = r at HD HDM
        obtain ⟨cs', E, N, S'⟩ := r
        have HD' : Hid (Calls Try.prog 14 #[.pointer (some ⟨p, 0, none⟩), .agg #[.int .i64 o.k, .int .i64 o.a, .int .i64 o.b, .int .i64 o.c, .string o.s, .string o.t]] W1 (DoPost own D p (cs', E, N, S') W1)) := HD
        have HDM' : Hid (∀ W : World, MAt W O m cs → Calls Try.prog 34 #[.pointer (some ⟨m, 0, none⟩), .agg #[.int .i64 o.k, .int .i64 o.a, .int .i64 o.b, .int .i64 o.c, .string o.s, .string o.t]] W (DoMPost O m (cs', E, N, S') W)) := HDM
        clear HD HDM
        have c0 := cell_of 0 hop rfl
        have c1 := cell_of 1 hop rfl
        have c2 := cell_of 2 hop rfl
        have c3 := cell_of 3 hop rfl
        have c4 := cell_of 4 hop rfl
        have c5 := cell_of 5 hop rfl
        go_wp2_with fail
        refine HD'.out.mono ?_
        rintro e w3 ⟨rfl, own3, D3, P3, F3, N3⟩
        simp only [ansV]
        go_upto_region 8 with fail
        have nP : ∀ j, wr.heap.size ≤ j → ¬ Foot own D j := fun j hj hk => by have := HP.foot_lt hk; omega
        have nM : ∀ j, wr.heap.size ≤ j → ¬ O j := fun j hj hk => by have := HM.lt j hk; omega
        have sz1 := F1'.size
        have sz3 := F3.size
        have hop3 := heap_alloc_keep (o := (.cells #[.int .i64 E, .int .i64 N, .int .i64 0, .string (S S')] 39)) (F3.keep hop (nP _ (Nat.le_refl _)))
        have hA3 := heap_alloc_same w3 (.cells #[.int .i64 E, .int .i64 N, .int .i64 0, .string (S S')] 39)
        have F4 : Fr No w3 (w3.alloc (.cells #[.int .i64 E, .int .i64 N, .int .i64 0, .string (S S')] 39)) := (Fr.refl No w3).alloc _
        have P4 := P3.keep F4 (fun _ _ h => h)
        have M4 : MAt (w3.alloc (.cells #[.int .i64 E, .int .i64 N, .int .i64 0, .string (S S')] 39)) O m cs := ((HM.keep F1' (fun _ _ h => h)).keep F3 (fun k hk e => ND k e hk)).keep F4 (fun _ _ h => h)
        have szA : (w3.alloc (.cells #[.int .i64 E, .int .i64 N, .int .i64 0, .string (S S')] 39)).heap.size = w3.heap.size + 1 := by simp
        generalize (w3.alloc (.cells #[.int .i64 E, .int .i64 N, .int .i64 0, .string (S S')] 39)) = W4 at *
        clear c0 c1 c2 c3 c4 c5
        have c0 := cell_of 0 hop3 rfl
        have c1 := cell_of 1 hop3 rfl
        have c2 := cell_of 2 hop3 rfl
        have c3 := cell_of 3 hop3 rfl
        have c4 := cell_of 4 hop3 rfl
        have c5 := cell_of 5 hop3 rfl
        go_wp2_with fail
        refine (HDM'.out W4 M4).mono ?_
        rintro e w5 ⟨rfl, O5, M5, F5, N5⟩
        simp only [ansV]
        go_upto_region 9 with fail
        have sz5 := F5.size
        have hA5 := heap_alloc_keep (o := (.cells #[.int .i64 E, .int .i64 N, .int .i64 0, .string (S S')] 39)) (F5.keep hA3 (fun e => by have := nM _ (by omega) e; exact this))
        have hB5 := heap_alloc_same w5 (.cells #[.int .i64 E, .int .i64 N, .int .i64 0, .string (S S')] 39)
        have F6 : Fr No w5 (w5.alloc (.cells #[.int .i64 E, .int .i64 N, .int .i64 0, .string (S S')] 39)) := (Fr.refl No w5).alloc _
        have M6 := M5.keep F6 (fun _ _ h => h)
        have P5 : ProgAt w5 own3 D3 p cs' := P4.keep F5 (fun k hk e => by
          rcases N3 k hk with h' | h'
          · exact ND k h' e
          · exact nM k (by omega) e)
        have P6 := P5.keep F6 (fun _ _ h => h)
        have ND6 : ∀ k, Foot own3 D3 k → ¬ O5 k := fun k hk e => by
          rcases N5 k e with h' | h'
          · rcases N3 k hk with h'' | h''
            · exact ND k h'' h'
            · exact nM k (by omega) h'
          · have := P3.foot_lt hk; omega
        have NP6 : ∀ k, Foot own3 D3 k → w.heap.size ≤ k := fun k hk => by
          rcases N3 k hk with h' | h'
          · exact NP k h'
          · have := hf.size; omega
        have NM6 : ∀ k, O5 k → w.heap.size ≤ k := fun k hk => by
          rcases N5 k hk with h' | h'
          · exact NM k h'
          · have := hf.size; omega
        have FF : Fr No w (w5.alloc (.cells #[.int .i64 E, .int .i64 N, .int .i64 0, .string (S S')] 39)) := (((((hf.trans F1' (fun _ _ h => h)).trans F3 (fun k hk e => by have := NP k e; omega)).trans F4 (fun _ _ h => h)).trans F5 (fun k hk e => by have := NM k e; omega))).trans F6 (fun _ _ h => h)
        generalize (w5.alloc (.cells #[.int .i64 E, .int .i64 N, .int .i64 0, .string (S S')] 39)) = W6 at *
        have a0 := cell_of 0 hA5 rfl
        have a1 := cell_of 1 hA5 rfl
        have a2 := cell_of 2 hA5 rfl
        have a3 := cell_of 3 hA5 rfl
        have b0 := cell_of 0 hB5 rfl
        have b1 := cell_of 1 hB5 rfl
        have b2 := cell_of 2 hB5 rfl
        have b3 := cell_of 3 hB5 rfl
        clear c0 c1 c2 c3 c4 c5 k0 k1 k2 k3 k4 k5
        cases quiet with
        | true =>
          go_wp2_with fail
          go_roundg (ops.length + 1 - (i + 1))
          case measure => omega
          case rel => exact ⟨i + 1, own3, D3, O5, cs', by go_num, by omega, by omega, rfl, P6, M6, FF, NP6, NM6, ND6⟩
        | false =>
          go_wp2_with fail
          refine (Show_any P6).mono ?_
          rintro e w7 ⟨rfl, F7⟩
          have P7 := P6.keep F7 (fun _ _ h => h)
          have M7 := M6.keep F7 (fun _ _ h => h)
          go_wp2_with fail
          refine (showM M7).mono ?_
          rintro e w8 ⟨rfl, rfl⟩
          go_wp2_with fail
          refine (Check_any P7).mono ?_
          rintro e w9 ⟨rfl, F9⟩
          have P9 := P7.keep F9 (fun _ _ h => h)
          have M9 := M7.keep F9 (fun _ _ h => h)
          go_wp2_with fail
          go_roundg (ops.length + 1 - (i + 1))
          case measure => omega
          case rel => exact ⟨i + 1, own3, D3, O5, cs', by go_num, by omega, by omega, rfl, P9, M9, (FF.trans F7 (fun _ _ h => h)).trans F9 (fun _ _ h => h), NP6, NM6, ND6⟩
      · have d1 : decide ((i : Int) < (ops.length : Int)) = true := decide_eq_true (by omega)
        have d1' : decide (i < ops.length) = true := decide_eq_true (by omega)
        have d2 : decide ((i : Int) < 4398046511104) = false := decide_eq_false (by omega)
        have d2' : decide (i < 4398046511104) = false := decide_eq_false (by omega)
        have d3 : decide ((ops.length : Int) < 4398046511104) = false := decide_eq_false (by omega)
        have d3' : decide (ops.length < 4398046511104) = false := decide_eq_false (by omega)
        go_wp2_with fail
        go_ret2
        exact ⟨_, rfl, hf⟩
    · have d1 : decide ((i : Int) < (ops.length : Int)) = false := decide_eq_false (by omega)
      have d1' : decide (i < ops.length) = false := decide_eq_false (by omega)
      by_cases h42 : ops.length < 4398046511104
      · have d3 : decide ((ops.length : Int) < 4398046511104) = true := decide_eq_true (by omega)
        have d3' : decide (ops.length < 4398046511104) = true := decide_eq_true (by omega)
        go_wp2_with fail
        go_ret2
        exact ⟨_, rfl, hf⟩
      · have d3 : decide ((ops.length : Int) < 4398046511104) = false := decide_eq_false (by omega)
        have d3' : decide (ops.length < 4398046511104) = false := decide_eq_false (by omega)
        go_wp2_with fail
        go_ret2
        exact ⟨_, rfl, hf⟩

theorem refines_any {w : World} {a : Option Addr} {cap : Nat} {ops : List Step} (hsc : ScriptAt w a ops) (hl : ops.length ≤ maxLen) :
    Calls Try.prog 4 #[.slice a ops.length cap] w fun e w' => e = .returned (.bool true) ∧ Fr No w w' := by
  have H8 : Hid (Calls Try.prog 8 #[.slice a ops.length cap] w fun e w' => e = .returned (.int .i64 (-1)) ∧ Fr No w w') := by
    have H19 : Hid (Calls Try.prog 19 #[.slice a ops.length cap, .bool false] w fun e w' => ∃ n : Int, e = .returned (.tuple #[.int .i64 (-1), .int .i64 n]) ∧ Fr No w w') := walk_any hsc hl false
    show Calls _ _ _ _ _
    go_enter Try.func8, Try.ntmps8
    go_wp2_with fail
    refine H19.out.mono ?_
    rintro e w1 ⟨n, rfl, F1⟩
    go_wp2_with fail
    go_ret
    exact ⟨rfl, F1⟩
  go_enter Try.func4, Try.ntmps4
  go_wp2_with fail
  refine H8.out.mono ?_
  rintro e w1 ⟨rfl, F1⟩
  go_wp2_with fail
  go_ret
  exact ⟨rfl, F1⟩

theorem refinesQuiet_any {w : World} {a : Option Addr} {cap : Nat} {ops : List Step} (hsc : ScriptAt w a ops) (hl : ops.length ≤ maxLen) :
    Calls Try.prog 5 #[.slice a ops.length cap] w fun e w' => e = .returned (.bool true) ∧ Fr No w w' := by
  have H8 : Hid (Calls Try.prog 9 #[.slice a ops.length cap] w fun e w' => e = .returned (.int .i64 (-1)) ∧ Fr No w w') := by
    have H19 : Hid (Calls Try.prog 19 #[.slice a ops.length cap, .bool true] w fun e w' => ∃ n : Int, e = .returned (.tuple #[.int .i64 (-1), .int .i64 n]) ∧ Fr No w w') := walk_any hsc hl true
    show Calls _ _ _ _ _
    go_enter Try.func9, Try.ntmps9
    go_wp2_with fail
    refine H19.out.mono ?_
    rintro e w1 ⟨n, rfl, F1⟩
    go_wp2_with fail
    go_ret
    exact ⟨rfl, F1⟩
  go_enter Try.func5, Try.ntmps5
  go_wp2_with fail
  refine H8.out.mono ?_
  rintro e w1 ⟨rfl, F1⟩
  go_wp2_with fail
  go_ret
  exact ⟨rfl, F1⟩
end Go.Proofs.Qxb6500302a.M
