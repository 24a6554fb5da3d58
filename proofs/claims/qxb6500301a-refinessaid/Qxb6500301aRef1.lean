import Derived.Test.Qxb6500301aDo1
import Derived.Test.Qxb6500301aDo2
import Derived.Test.Qxb6500301aLift2
namespace Go.Proofs.Qxb6500301a
open Go.RowKit
set_option linter.unusedSimpArgs false
set_option linter.unusedVariables false
attribute [local go_sem ↓] Go.wp_at_zero Go.wp_at_succ
attribute [-go_sem] Go.run_string_add_if Go.run_index_string Go.run_slice_string_if

theorem Inv.saved : ∀ {ms : List (Nat × Nat)} {ns : List Nd} {tr : List Nat}, Inv ns tr ms → ∀ s ∈ savedOf ns tr ms, WfN s ∧ s.length ≤ 64
  | [], ns, tr, h, s, hs => by simp [savedOf] at hs
  | (top, tm) :: ms, ns, tr, h, s, hs => by
    obtain ⟨h1, h2, h3, h4⟩ := h
    simp only [savedOf, List.mem_cons] at hs
    rcases hs with rfl | hs
    · exact ⟨h4.wft.wf, h4.wft.small⟩
    · exact Inv.saved h4 s hs
theorem HeapAt.ok {w : World} {p : Nat} {B : Blks} {ns : List Nd} {saved : List (List Nd)} (h : HeapAt w p B ns saved) : OkS ns saved := by
  obtain ⟨hw, hs⟩ := h.wf
  obtain ⟨ws, tr, tms, h1, hinv, hsv, htm, hs26⟩ := h.main
  refine ⟨hw, hs, fun s hs => ?_, hs26⟩
  rw [hsv] at hs
  exact Inv.saved hinv s hs

set_option maxRecDepth 40000 in
set_option maxHeartbeats 8000000 in
theorem walk_any {w : World} {a : Option Addr} {cap : Nat} {ops : List Step} (hsc : ScriptAt w a ops) (hl : ops.length ≤ maxLen) (quiet : Bool) :
    Calls Try.prog 22 #[.slice a ops.length cap, .bool quiet] w fun e w' => ∃ n : Int, e = .returned (.tuple #[.int .i64 (-1), .int .i64 n]) ∧ Fr No w w' := by
  have hml : ops.length ≤ 9223372036854775807 := by unfold maxLen at hl; omega
  go_enter Try.func22, Try.ntmps22
  go_wp2_with fail
  refine New_any.mono ?_
  rintro e w1 ⟨p, B, rfl, H1, F1, N1⟩
  go_wp2_with fail
  refine (mNew_any (Nat.le_refl _)).mono ?_
  rintro e w2 ⟨rfl, M2, F2⟩
  have HS : Hid (ScriptAt w a ops) := hsc
  have HB1 : Hid (∀ k, B.Has p k → w.heap.size ≤ k ∧ k < w1.heap.size) := fun k hk => ⟨N1 k hk, H1.lt hk⟩
  have HH2 : Hid (HeapAt w2 p B [] []) := H1.keep F2 (fun _ _ h => h)
  have HF2 : Hid (Fr No w w2) := F1.trans F2 (fun _ _ h => h)
  have HM2 : Hid (ModAt w2 w1.heap.size w1.heap.size [] []) := M2
  have hb2 : w1.heap.size ≤ w2.heap.size := F2.size
  have hww1 : w.heap.size ≤ w1.heap.size := F1.size
  generalize hbb : w1.heap.size = bb at *
  clear H1 F1 N1 F2 M2 hbb hsc
  go_wp2_with fail
  go_loopg [8] (ops.length + 1) (fun gk u wr => ∃ (i : Nat) (ns : List Nd) (saved : List (List Nd)), u = .int .i64 (i : Int) ∧ i ≤ ops.length ∧ i ≤ 4398046511104 ∧ gk = ops.length + 1 - i ∧ HeapAt wr p B ns saved ∧ ModAt wr bb bb ns saved ∧ Fr No w wr ∧ bb ≤ wr.heap.size)
  case atStart => exact ⟨0, [], [], rfl, Nat.zero_le _, by omega, rfl, HH2.out, HM2.out, HF2.out, hb2⟩
  case round =>
    obtain ⟨i, ns, saved, rfl, hi, hi2, hgk, HP, ⟨vn, vo, vl, HM⟩, hf, hbr⟩ := hrel
    by_cases hlt : i < ops.length
    · by_cases h42 : i < 4398046511104
      · have d1 : decide ((i : Int) < (ops.length : Int)) = true := decide_eq_true (by omega)
        have d1' : decide (i < ops.length) = true := decide_eq_true (by omega)
        have d2 : decide ((i : Int) < 4398046511104) = true := decide_eq_true (by omega)
        have d2' : decide (i < 4398046511104) = true := decide_eq_true (by omega)
        obtain ⟨o, ho⟩ : ∃ o, ops[i]? = some o := ⟨_, List.getElem?_eq_getElem hlt⟩
        obtain ⟨blk, off, rfl, hst⟩ := HS.out i o ho
        have hst' := hst.keep hf (fun h => h)
        obtain ⟨k0, k1, k2, k3, k4, k5⟩ := hst'
        have HOK : Hid (OkS ns saved) := HP.ok
        have HPH : Hid (HeapAt wr p B ns saved) := HP
        have HMH : Hid (MAt wr bb bb vn vo vl ns saved) := HM
        have HFT : Hid (∀ k, Foot bb vn vo vl k → bb ≤ k ∧ k < wr.heap.size) := fun k hk => HM.foot hk
        have hfs := hf.size
        have HFH : Hid (Fr No w wr) := hf
        clear HP HM hst ho hf
        go_upto_region 7 with fail
        have F1' : Fr No wr (wr.alloc (.cells #[.int .i64 o.k, .int .i64 o.a, .int .i64 o.b, .int .i64 o.c, .string o.s, .string o.t] 29)) := (Fr.refl No wr).alloc _
        have hop : (wr.alloc (.cells #[.int .i64 o.k, .int .i64 o.a, .int .i64 o.b, .int .i64 o.c, .string o.s, .string o.t] 29)).heap[wr.heap.size]? = some (.cells #[.int .i64 o.k, .int .i64 o.a, .int .i64 o.b, .int .i64 o.c, .string o.s, .string o.t] 29) := heap_alloc_same _ _
        generalize (wr.alloc (.cells #[.int .i64 o.k, .int .i64 o.a, .int .i64 o.b, .int .i64 o.c, .string o.s, .string o.t] 29)) = W1 at *
        have HD := Do_any (HPH.out.keep F1' (fun _ _ h => h)) o.k o.a o.b o.c o.s o.t
        have HDM := fun (W : World) (hb : bb ≤ W.heap.size) (hW : MAt W bb bb vn vo vl ns saved) => DoM_any hb hW HOK.out o.k o.a o.b o.c o.s o.t
        generalize doOf ns saved o.k o.a o.b o.s.data.toList = r at HD HDM
        obtain ⟨⟨ns', saved'⟩, E, N, S'⟩ := r
        have HD' : Hid (Calls Try.prog 15 #[.pointer (some ⟨p, 0, none⟩), .agg #[.int .i64 o.k, .int .i64 o.a, .int .i64 o.b, .int .i64 o.c, .string o.s, .string o.t]] W1 (DoPost p B ((ns', saved'), E, N, S') W1)) := HD
        have HDM' : Hid (∀ W : World, bb ≤ W.heap.size → MAt W bb bb vn vo vl ns saved → Calls Try.prog 37 #[.pointer (some ⟨bb, 0, none⟩), .agg #[.int .i64 o.k, .int .i64 o.a, .int .i64 o.b, .int .i64 o.c, .string o.s, .string o.t]] W (MDoPost bb bb vn vo vl ((ns', saved'), E, N, S') W)) := HDM
        clear HD HDM
        have sz1 := F1'.size
        have c0 := cell_of 0 hop rfl
        have c1 := cell_of 1 hop rfl
        have c2 := cell_of 2 hop rfl
        have c3 := cell_of 3 hop rfl
        have c4 := cell_of 4 hop rfl
        have c5 := cell_of 5 hop rfl
        clear k0 k1 k2 k3 k4 k5
        go_wp2_with fail
        refine HD'.out.mono ?_
        rintro e w3 ⟨rfl, P3, F3⟩
        simp only [ansV]
        go_upto_region 8 with fail
        have sz3 := F3.size
        have nP : ∀ j, bb ≤ j → ¬ B.Has p j := fun j hj hk => by have := (HB1.out j hk).2; omega
        have hop3 := heap_alloc_keep (o := (.cells #[.int .i64 E, .int .i64 N, .int .i64 0, .string (S S')] 36)) (F3.keep hop (nP _ (by omega)))
        have hA3 := heap_alloc_same w3 (.cells #[.int .i64 E, .int .i64 N, .int .i64 0, .string (S S')] 36)
        have F4 : Fr No w3 (w3.alloc (.cells #[.int .i64 E, .int .i64 N, .int .i64 0, .string (S S')] 36)) := (Fr.refl No w3).alloc _
        have P4 := P3.keep F4 (fun _ _ h => h)
        have M4 : MAt (w3.alloc (.cells #[.int .i64 E, .int .i64 N, .int .i64 0, .string (S S')] 36)) bb bb vn vo vl ns saved := ((HMH.out.no' F1').keep F3 (fun k hk e => nP k hk e)).no' F4
        have szA : (w3.alloc (.cells #[.int .i64 E, .int .i64 N, .int .i64 0, .string (S S')] 36)).heap.size = w3.heap.size + 1 := by simp
        have hb4 : bb ≤ (w3.alloc (.cells #[.int .i64 E, .int .i64 N, .int .i64 0, .string (S S')] 36)).heap.size := by omega
        have sz4 : wr.heap.size ≤ (w3.alloc (.cells #[.int .i64 E, .int .i64 N, .int .i64 0, .string (S S')] 36)).heap.size := by omega
        clear szA
        generalize (w3.alloc (.cells #[.int .i64 E, .int .i64 N, .int .i64 0, .string (S S')] 36)) = W4 at *
        clear c0 c1 c2 c3 c4 c5
        have c0 := cell_of 0 hop3 rfl
        have c1 := cell_of 1 hop3 rfl
        have c2 := cell_of 2 hop3 rfl
        have c3 := cell_of 3 hop3 rfl
        have c4 := cell_of 4 hop3 rfl
        have c5 := cell_of 5 hop3 rfl
        have HP4 : Hid (HeapAt W4 p B ns' saved') := P4
        have HM4 : Hid (MAt W4 bb bb vn vo vl ns saved) := M4
        have HF4 : Hid (Fr No w W4) := ((HFH.out.trans F1' (fun _ _ h => h)).trans F3 (fun k hk e => by have := (HB1.out k e).1; omega)).trans F4 (fun _ _ h => h)
        clear P4 M4 F4 P3 F3 F1' hop hop3
        go_wp2_with fail
        refine (HDM'.out W4 hb4 HM4.out).mono ?_
        rintro e w5 ⟨rfl, M5, F5⟩
        simp only [ansV]
        go_upto_region 9 with fail
        have sz5 := F5.size
        have hA5 := heap_alloc_keep (o := (.cells #[.int .i64 E, .int .i64 N, .int .i64 0, .string (S S')] 36)) (F5.keep hA3 (fun e => by have := (HFT.out _ e).2; omega))
        have hB5 := heap_alloc_same w5 (.cells #[.int .i64 E, .int .i64 N, .int .i64 0, .string (S S')] 36)
        have F6 : Fr No w5 (w5.alloc (.cells #[.int .i64 E, .int .i64 N, .int .i64 0, .string (S S')] 36)) := (Fr.refl No w5).alloc _
        have M6 := M5.keep F6 (fun _ _ h => h)
        have P5 : HeapAt w5 p B ns' saved' := HP4.out.keep F5 (fun k hk e => by have := (HB1.out k hk).2; have := (HFT.out k e).1; omega)
        have P6 := P5.keep F6 (fun _ _ h => h)
        have FF : Fr No w (w5.alloc (.cells #[.int .i64 E, .int .i64 N, .int .i64 0, .string (S S')] 36)) := (HF4.out.trans F5 (fun k hk e => by have := (HFT.out k e).1; omega)).trans F6 (fun _ _ h => h)
        have sz6 := F6.size
        generalize (w5.alloc (.cells #[.int .i64 E, .int .i64 N, .int .i64 0, .string (S S')] 36)) = W6 at *
        have hb6 : bb ≤ W6.heap.size := by omega
        have HP6 : Hid (HeapAt W6 p B ns' saved') := P6
        have HM6 : Hid (ModAt W6 bb bb ns' saved') := M6
        have HFF : Hid (Fr No w W6) := FF
        have a0 := cell_of 0 hA5 rfl
        have a1 := cell_of 1 hA5 rfl
        have a2 := cell_of 2 hA5 rfl
        have a3 := cell_of 3 hA5 rfl
        have b0 := cell_of 0 hB5 rfl
        have b1 := cell_of 1 hB5 rfl
        have b2 := cell_of 2 hB5 rfl
        have b3 := cell_of 3 hB5 rfl
        clear c0 c1 c2 c3 c4 c5 P5 P6 M5 M6 FF F5 F6 hA3 hA5 hB5
        cases quiet with
        | true =>
          go_wp2_with fail
          go_roundg (ops.length + 1 - (i + 1))
          case measure => omega
          case rel => exact ⟨i + 1, ns', saved', by go_num, by omega, by omega, rfl, HP6.out, HM6.out, HFF.out, hb6⟩
        | false =>
          go_wp2_with fail
          refine (Show_any HP6.out).mono ?_
          rintro e w7 ⟨rfl, F7⟩
          have HF7 : Hid (Fr No W6 w7) := F7
          have HP7 : Hid (HeapAt w7 p B ns' saved') := HP6.out.keep F7 (fun _ _ h => h)
          have HSM : Hid (Calls Try.prog 38 #[.pointer (some ⟨bb, 0, none⟩)] w7 fun e w' => e = .returned (.string (S (showL ns' saved'))) ∧ Fr No w7 w') := by
            obtain ⟨a7, b7, c7, m7⟩ := HM6.out.keep F7 (fun _ _ h => h)
            exact mShow_any m7 HP7.out.ok
          clear F7 a0 a1 a2 a3 b0 b1 b2 b3
          go_wp2_with fail
          refine HSM.out.mono ?_
          rintro e w8 ⟨rfl, F8⟩
          have HF8 : Hid (Fr No W6 w8) := HF7.out.trans F8 (fun _ _ h => h)
          have HP8 : Hid (HeapAt w8 p B ns' saved') := HP7.out.keep F8 (fun _ _ h => h)
          clear F8
          go_wp2_with fail
          refine (Check_any HP8.out).mono ?_
          rintro e w9 ⟨rfl, F9⟩
          have HF9 : Hid (Fr No W6 w9) := HF8.out.trans F9 (fun _ _ h => h)
          clear F9
          go_wp2_with fail
          go_roundg (ops.length + 1 - (i + 1))
          case measure => omega
          case rel => exact ⟨i + 1, ns', saved', by go_num, by omega, by omega, rfl, HP6.out.keep HF9.out (fun _ _ h => h), HM6.out.keep HF9.out (fun _ _ h => h), HFF.out.trans HF9.out (fun _ _ h => h), Nat.le_trans hb6 HF9.out.size⟩
      · have d1 : decide ((i : Int) < (ops.length : Int)) = true := decide_eq_true (by omega)
        have d1' : decide (i < ops.length) = true := decide_eq_true (by omega)
        have d2 : decide ((i : Int) < 4398046511104) = false := decide_eq_false (by omega)
        have d2' : decide (i < 4398046511104) = false := decide_eq_false (by omega)
        have d3 : decide ((ops.length : Int) < 4398046511104) = false := decide_eq_false (by omega)
        have d3' : decide (ops.length < 4398046511104) = false := decide_eq_false (by omega)
        go_wp2_with fail
        go_ret2
        exact ⟨_, rfl, hf⟩
    · have d1 : decide ((i : Int) < (ops.length : Int)) = false := decide_eq_false (by omega)
      have d1' : decide (i < ops.length) = false := decide_eq_false (by omega)
      by_cases h42 : ops.length < 4398046511104
      · have d3 : decide ((ops.length : Int) < 4398046511104) = true := decide_eq_true (by omega)
        have d3' : decide (ops.length < 4398046511104) = true := decide_eq_true (by omega)
        go_wp2_with fail
        go_ret2
        exact ⟨_, rfl, hf⟩
      · have d3 : decide ((ops.length : Int) < 4398046511104) = false := decide_eq_false (by omega)
        have d3' : decide (ops.length < 4398046511104) = false := decide_eq_false (by omega)
        go_wp2_with fail
        go_ret2
        exact ⟨_, rfl, hf⟩

theorem refines_any {w : World} {a : Option Addr} {cap : Nat} {ops : List Step} (hsc : ScriptAt w a ops) (hl : ops.length ≤ maxLen) :
    Calls Try.prog 4 #[.slice a ops.length cap] w fun e w' => e = .returned (.bool true) ∧ Fr No w w' := by
  have H8 : Hid (Calls Try.prog 7 #[.slice a ops.length cap] w fun e w' => e = .returned (.int .i64 (-1)) ∧ Fr No w w') := by
    have H19 : Hid (Calls Try.prog 22 #[.slice a ops.length cap, .bool false] w fun e w' => ∃ n : Int, e = .returned (.tuple #[.int .i64 (-1), .int .i64 n]) ∧ Fr No w w') := walk_any hsc hl false
    show Calls _ _ _ _ _
    go_enter Try.func7, Try.ntmps7
    go_wp2_with fail
    refine H19.out.mono ?_
    rintro e w1 ⟨n, rfl, F1⟩
    go_wp2_with fail
    go_ret
    exact ⟨rfl, F1⟩
  go_enter Try.func4, Try.ntmps4
  go_wp2_with fail
  refine H8.out.mono ?_
  rintro e w1 ⟨rfl, F1⟩
  go_wp2_with fail
  go_ret
  exact ⟨rfl, F1⟩
end Go.Proofs.Qxb6500301a
