import Derived.Test.Qxb6500301aReal5
import Derived.Test.Qxb6500301aPlain4
import Derived.Lib.AppendStr
import Derived.Deep.RegionLaw
namespace Go.Proofs.Qxb6500301a
open Go.RowKit
set_option linter.unusedSimpArgs false
set_option linter.unusedVariables false
attribute [local go_sem ↓] Go.wp_at_zero Go.wp_at_succ
attribute [-go_sem] Go.run_string_add_if Go.run_index_string Go.run_slice_string_if

def u8v (b : UInt8) : Value := .int .u8 (b.toNat : Int)
theorem strCells_S (l : List UInt8) : Go.Lib.strCells (S l) = l.map u8v := by
  simp [Go.Lib.strCells, S, u8v]

/-! ### The map of names -/
def nmEnts (vs : List Nat) : Array MapEntry := (vs.mapIdx fun (i : Nat) (c : Nat) => (⟨.int .i32 (c : Int), .int .i64 (i : Int), i⟩ : MapEntry)).toArray
theorem nmEnts_snoc (vs : List Nat) (c : Nat) : nmEnts (vs ++ [c]) = (nmEnts vs).push ⟨.int .i32 (c : Int), .int .i64 (vs.length : Int), vs.length⟩ := by
  simp [nmEnts, List.mapIdx_append]
theorem nmEnts_size (vs : List Nat) : (nmEnts vs).size = vs.length := by simp [nmEnts]
theorem findNow_nm (vs : List Nat) (c : Nat) : ∀ (i j : Nat), Instr.findNow (.int .i32) (.int .i32 (c : Int)) (vs.mapIdx fun (k : Nat) (x : Nat) => (⟨.int .i32 (x : Int), .int .i64 ((k + i : Nat) : Int), k + i⟩ : MapEntry)) j =
    some (if ixOf vs c < vs.length then some (j + ixOf vs c, .int .i64 ((ixOf vs c + i : Nat) : Int)) else none) := by
  induction vs with
  | nil => intro i j; simp [Instr.findNow, ixOf]
  | cons x r ih =>
    intro i j
    simp only [List.mapIdx_cons, Instr.findNow, Instr.sameNow, if_true]
    by_cases hx : x = c
    · subst hx; simp [ixOf]
    · have hne : ((c : Int) == (x : Int)) = false := by
        simp only [beq_eq_false_iff_ne, ne_eq, Int.natCast_inj]
        exact fun e => hx e.symm
      have := ih (i + 1) (j + 1)
      simp only [hne, ixOf, if_neg hx, List.length_cons]
      have hfun : (fun (k : Nat) (x : Nat) => (⟨.int .i32 (x : Int), .int .i64 ((k + (i + 1) : Nat) : Int), k + (i + 1)⟩ : MapEntry)) = fun k x => ⟨.int .i32 (x : Int), .int .i64 ((k + 1 + i : Nat) : Int), k + 1 + i⟩ := by
        funext k x; rw [show k + (i + 1) = k + 1 + i by omega]
      rw [hfun] at this
      rw [this]
      by_cases hlt : ixOf r c < r.length
      · rw [if_pos hlt, if_pos (by omega)]
        congr 3
        · omega
        · congr 2; omega
      · rw [if_neg hlt, if_neg (by omega)]
theorem run_lookup_nm {w : World} {mb : Nat} {vs : List Nat} {n : Nat} (h : w.heap[mb]? = some (.map (nmEnts vs) n)) (c : Nat) :
    (Instr.lookup 73 (.map (some mb)) (.int .i32 (c : Int)) true).run Try.prog w =
      .ok (.tuple #[.int .i64 (if ixOf vs c < vs.length then (ixOf vs c : Int) else 0), .bool (decide (ixOf vs c < vs.length))]) w := by
  have h0 := findNow_nm vs c 0 0
  have hu : Try.prog.underlying 73 = some (.map 21 3) := Try.underlying73
  have hu5 : Try.prog.underlying 21 = some (.int .i32) := Try.underlying21
  simp only [Nat.add_zero, Nat.zero_add] at h0
  have hz : (zeroValue 3).run Try.prog w = .ok (.int .i64 0) w := by kernel_rfl
  have hk : MapKept.IsKey (.int .i32) (.int .i32 (c : Int)) := rfl
  unfold Instr.lookup
  simp only [Sem.run_bind, run_underlying hu, Result.andThen_ok, MapKept.run_getObj_map h, Sem.run_pure, MapKept.run_checkKey hu5 hk _ 9999]
  rw [MapKept.run_findKey hu5 (show Instr.findNow _ _ (nmEnts vs).toList 0 = _ from h0)]
  by_cases hlt : ixOf vs c < vs.length
  · simp [hlt]
  · simp [hlt, hz]
theorem run_len_nm {w : World} {mb : Nat} {vs : List Nat} {n : Nat} (h : w.heap[mb]? = some (.map (nmEnts vs) n)) (ty : TypeId) :
    (Builtin.len_ #[73] ty #[.map (some mb)]).run Try.prog w = .ok (.int .i64 (vs.length : Int)) w := by
  simp [Builtin.len_, run_underlying Try.underlying73, MapKept.run_getObj_map h, nmEnts_size, goInt]
theorem run_update_nm {w : World} {mb : Nat} {vs : List Nat} (h : w.heap[mb]? = some (.map (nmEnts vs) vs.length)) (c : Nat) (hlt : ¬ ixOf vs c < vs.length) :
    (Instr.mapUpdate 73 (.map (some mb)) (.int .i32 (c : Int)) (.int .i64 (vs.length : Int))).run Try.prog w =
      .ok () (put w mb (.map (nmEnts (vs ++ [c])) (vs.length + 1))) := by
  have h0 := findNow_nm vs c 0 0
  have hu : Try.prog.underlying 73 = some (.map 21 3) := Try.underlying73
  have hu5 : Try.prog.underlying 21 = some (.int .i32) := Try.underlying21
  simp only [Nat.add_zero, Nat.zero_add] at h0
  have hk : MapKept.IsKey (.int .i32) (.int .i32 (c : Int)) := rfl
  rw [if_neg hlt] at h0
  unfold Instr.mapUpdate
  simp only [Sem.run_bind, run_underlying hu, Result.andThen_ok, MapKept.run_getObj_map h, MapKept.run_checkKey hu5 hk _ 9999]
  rw [MapKept.run_findKey hu5 (show Instr.findNow _ _ (nmEnts vs).toList 0 = _ from h0)]
  simp only [Result.andThen_ok, MapKept.run_setObj_map _ h, nmEnts_snoc, List.length_append, List.length_cons, List.length_nil, Nat.zero_add, put]

/-! ### Itoa -/
section
variable {w : World}
theorem Try.info5p : (Try.prog.info? 5).map (fun i => (i.zero, i.size, i.bytes)) = some (some (.int .u8 0), 1, 1) := by kernel_rfl
set_option maxRecDepth 40000 in
theorem Itoa_zero : Calls Try.prog 34 #[.int .i64 0] w fun e w' => e = .returned (.string (S (itoaL 0))) ∧ Fr No w w' := by
  go_enter Try.func34, Try.ntmps34
  go_wp2_with fail
  go_ret
  exact ⟨rfl, Fr.refl _ _⟩
def digL (m : Nat) : List UInt8 := if m = 0 then [] else itoaL m
theorem digL_step {m : Nat} (h0 : m ≠ 0) (h : m < 100) : digL m = digL (m / 10) ++ [UInt8.ofNat (48 + m % 10)] := by
  unfold digL itoaL
  rw [if_neg h0]
  by_cases h1 : m < 10
  · rw [if_pos h1, Nat.div_eq_of_lt h1, if_pos rfl, Nat.mod_eq_of_lt h1]; rfl
  · rw [if_neg h1, if_neg (by omega), if_pos (by omega)]; rfl
theorem digL_len {m : Nat} : (digL m).length ≤ 2 := by
  unfold digL
  split
  · simp
  · exact (itoaL_len m).2
/-- The digits so far, at the array's end. -/
def DigAt (w : World) (g : Nat) (suf : List UInt8) : Prop := ∃ cs : Array Value, w.heap[g]? = some (.cells cs 92) ∧ cs.size = 20 ∧ (∀ (k : Nat), k < 20 → ∃ x : Int, cs[k]? = some (.int .u8 x)) ∧ ∀ (j : Nat) (b : UInt8), suf[j]? = some b → cs[20 - suf.length + j]? = some (u8v b)
theorem DigAt.put {w : World} {g : Nat} {suf : List UInt8} (h : DigAt w g suf) (hl : suf.length < 20) (b : UInt8) : DigAt (w.setCell ⟨g, 20 - suf.length - 1, none⟩ (u8v b)) g (b :: suf) := by
  obtain ⟨cs, h1, h2, h3, h4⟩ := h
  refine ⟨cs.setIfInBounds (20 - suf.length - 1) (u8v b), heap_setCell_same _ h1, by simp [h2], fun k hk => ?_, fun j c hj => ?_⟩
  · by_cases e : 20 - suf.length - 1 = k
    · exact ⟨(b.toNat : Int), by rw [e, Array.getElem?_setIfInBounds_self_of_lt (by omega)]; rfl⟩
    · obtain ⟨x, hx⟩ := h3 k hk
      exact ⟨x, by rw [Array.getElem?_setIfInBounds_ne e]; exact hx⟩
  · have hlen : (b :: suf).length = suf.length + 1 := rfl
    cases j with
    | zero =>
      simp at hj
      subst hj
      rw [hlen, show 20 - (suf.length + 1) + 0 = 20 - suf.length - 1 by omega, Array.getElem?_setIfInBounds_self_of_lt (by omega)]
    | succ j =>
      have hj' : suf[j]? = some c := by simpa using hj
      have := h4 j c hj'
      rw [hlen, show 20 - (suf.length + 1) + (j + 1) = 20 - suf.length + j by omega, Array.getElem?_setIfInBounds_ne (by omega)]
      exact this
set_option maxRecDepth 40000 in
set_option maxHeartbeats 2000000 in
theorem Itoa_any {n : Nat} (h : n < 100) : Calls Try.prog 34 #[.int .i64 (n : Int)] w fun e w' => e = .returned (.string (S (itoaL n))) ∧ Fr No w w' := by
  by_cases h0 : n = 0
  · subst h0; exact Itoa_zero
  have q0 : ((n : Int) == 0) = false := by rw [beq_eq_false_iff_ne]; omega
  have d0 : decide ((n : Int) < 0) = false := decide_eq_false (by omega)
  have HD0 : Hid (digL n = itoaL n) := by show _ = _; unfold digL; rw [if_neg h0]
  go_enter Try.func34, Try.ntmps34
  go_wp2_with fail
  have A0 : DigAt (w.alloc (.cells #[.int .u8 0, .int .u8 0, .int .u8 0, .int .u8 0, .int .u8 0, .int .u8 0, .int .u8 0, .int .u8 0, .int .u8 0, .int .u8 0, .int .u8 0, .int .u8 0, .int .u8 0, .int .u8 0, .int .u8 0, .int .u8 0, .int .u8 0, .int .u8 0, .int .u8 0, .int .u8 0] 92)) w.heap.size [] :=
    ⟨_, heap_alloc_same _ _, rfl, fun k hk => by
      match k, hk with
      | 0, _ => exact ⟨0, rfl⟩
      | 1, _ => exact ⟨0, rfl⟩
      | 2, _ => exact ⟨0, rfl⟩
      | 3, _ => exact ⟨0, rfl⟩
      | 4, _ => exact ⟨0, rfl⟩
      | 5, _ => exact ⟨0, rfl⟩
      | 6, _ => exact ⟨0, rfl⟩
      | 7, _ => exact ⟨0, rfl⟩
      | 8, _ => exact ⟨0, rfl⟩
      | 9, _ => exact ⟨0, rfl⟩
      | 10, _ => exact ⟨0, rfl⟩
      | 11, _ => exact ⟨0, rfl⟩
      | 12, _ => exact ⟨0, rfl⟩
      | 13, _ => exact ⟨0, rfl⟩
      | 14, _ => exact ⟨0, rfl⟩
      | 15, _ => exact ⟨0, rfl⟩
      | 16, _ => exact ⟨0, rfl⟩
      | 17, _ => exact ⟨0, rfl⟩
      | 18, _ => exact ⟨0, rfl⟩
      | 19, _ => exact ⟨0, rfl⟩
      | k + 20, hk => exact absurd hk (by omega), fun j b hb => by simp at hb⟩
  have F0 : Fr No w (w.alloc (.cells #[.int .u8 0, .int .u8 0, .int .u8 0, .int .u8 0, .int .u8 0, .int .u8 0, .int .u8 0, .int .u8 0, .int .u8 0, .int .u8 0, .int .u8 0, .int .u8 0, .int .u8 0, .int .u8 0, .int .u8 0, .int .u8 0, .int .u8 0, .int .u8 0, .int .u8 0, .int .u8 0] 92)) := (Fr.refl No w).alloc _
  generalize (w.alloc (.cells #[.int .u8 0, .int .u8 0, .int .u8 0, .int .u8 0, .int .u8 0, .int .u8 0, .int .u8 0, .int .u8 0, .int .u8 0, .int .u8 0, .int .u8 0, .int .u8 0, .int .u8 0, .int .u8 0, .int .u8 0, .int .u8 0, .int .u8 0, .int .u8 0, .int .u8 0, .int .u8 0] 92)) = W0 at *
  go_loopg [0, 4] n (fun gk v0 v4 wr => ∃ (m : Nat) (suf : List UInt8), v0 = .int .i64 (-(m : Int)) ∧ v4 = .int .i64 (20 - (suf.length : Int)) ∧ m < 100 ∧ gk = m ∧ Hid (digL m ++ suf = itoaL n) ∧ suf.length ≤ 2 ∧ DigAt wr w.heap.size suf ∧ Fr No w wr)
  case atStart => exact ⟨n, [], rfl, rfl, h, rfl, by show _ = _; rw [List.append_nil]; exact HD0.out, by simp, A0, F0⟩
  case round =>
    clear A0 F0
    obtain ⟨m, suf, rfl, rfl, hm, rfl, HS, hsl, hA, hF⟩ := hrel
    by_cases hm0 : gk = 0
    · subst hm0
      have HE : Hid (suf = itoaL n) := HS.out
      have hslen : 1 ≤ suf.length := by have := HE.out; rw [this]; exact (itoaL_len n).1
      obtain ⟨cs, a1, a2, a3, a4⟩ := hA
      have hstr := run_convert_bytes_back (P := Try.prog) wr 53 9 5 ⟨w.heap.size, 20 - suf.length, none⟩ suf.length suf Try.underlying53 Try.underlying5 Try.underlying9 (fun j hj => by
        have := cell_of (20 - suf.length + j) a1 (a4 j suf[j] (List.getElem?_eq_getElem hj))
        show _ = some (u8v suf[j])
        rw [← this]
        congr 1
        by_cases hj0 : j = 0
        · subst hj0; rfl
        · simp [Addr.add, hj0])
      have hstr' : (convert 53 9 (.slice (some ⟨w.heap.size, 20 - suf.length, none⟩) suf.length suf.length)).run Try.prog wr = .ok (.string (S suf)) wr := hstr
      clear a1 a3 a4 hstr
      have h12 : suf.length = 1 ∨ suf.length = 2 := by omega
      rcases h12 with hl1 | hl1
      · rw [hl1] at hstr' ⊢
        have hsa : (Instr.sliceAt 92 (.pointer (some ⟨w.heap.size, 0, none⟩)) (some (.int .i64 (20 - ((1 : Nat) : Int)))) none none).run Try.prog wr = .ok (.slice (some ⟨w.heap.size, 20 - 1, none⟩) 1 1) wr := by kernel_rfl
        clear hl1
        go_wp2_with fail
        go_ret
        rw [← HE.out]
        exact ⟨rfl, hF⟩
      · rw [hl1] at hstr' ⊢
        have hsa : (Instr.sliceAt 92 (.pointer (some ⟨w.heap.size, 0, none⟩)) (some (.int .i64 (20 - ((2 : Nat) : Int)))) none none).run Try.prog wr = .ok (.slice (some ⟨w.heap.size, 20 - 2, none⟩) 2 2) wr := by kernel_rfl
        clear hl1
        go_wp2_with fail
        go_ret
        rw [← HE.out]
        exact ⟨rfl, hF⟩
    · have q1 : (-(gk : Int) != 0) = true := by rw [bne_iff_ne]; omega
      have q1' : (-(gk : Int) == 0) = false := by rw [beq_eq_false_iff_ne]; omega
      have r1 : Int.tmod (-(gk : Int)) 10 = -((gk % 10 : Nat) : Int) := by rw [Int.neg_tmod, Int.tmod_eq_emod_of_nonneg (by omega)]; rfl
      have r2 : Int.tdiv (-(gk : Int)) 10 = -((gk / 10 : Nat) : Int) := by rw [Int.neg_tdiv, Int.tdiv_eq_ediv_of_nonneg (by omega)]; rfl
      have HS2 : Hid (digL (gk / 10) ++ (UInt8.ofNat (48 + gk % 10) :: suf) = itoaL n) := by
        have := HS.out
        rw [digL_step hm0 hm] at this
        show _ = _
        rw [← this]; simp
      have hA2 := hA.put (by omega) (UInt8.ofNat (48 + gk % 10))
      have hu : u8v (UInt8.ofNat (48 + gk % 10)) = .int .u8 (48 + ((gk % 10 : Nat) : Int)) := by
        unfold u8v
        have : (UInt8.ofNat (48 + gk % 10)).toNat = 48 + gk % 10 := Nat.mod_eq_of_lt (by omega)
        rw [this]
        rfl
      rw [hu] at hA2
      obtain ⟨cs, a1, a2, a3, a4⟩ := hA
      obtain ⟨x0, hx0⟩ := a3 (20 - suf.length - 1) (by omega)
      have cx := cell_of (20 - suf.length - 1) a1 hx0
      have zx := frozen_of (20 - suf.length - 1) a1
      have hm10 : gk % 10 < 10 := by omega
      have HSL : Hid (digL (gk / 10) ++ (UInt8.ofNat (48 + gk % 10) :: suf) = itoaL n) := HS2.out
      have hl2 : (UInt8.ofNat (48 + gk % 10) :: suf).length ≤ 2 := by
        have := congrArg List.length HS2.out
        rw [List.length_append] at this
        have := (itoaL_len n).2
        omega
      have hsub : (20 : Int) - (suf.length : Int) - 1 = 20 - ((UInt8.ofNat (48 + gk % 10) :: suf).length : Int) := by simp; omega
      have ht1 : ((20 : Int) - (suf.length : Int) - 1).toNat = 20 - suf.length - 1 := by omega
      have HSUB : Hid ((20 : Int) - (suf.length : Int) - 1 = 20 - ((UInt8.ofNat (48 + gk % 10) :: suf).length : Int)) := hsub
      have HA2 : Hid (DigAt (wr.setCell ⟨w.heap.size, 20 - suf.length - 1, none⟩ (.int .u8 (48 + ((gk % 10 : Nat) : Int)))) w.heap.size (UInt8.ofNat (48 + gk % 10) :: suf)) := hA2
      have hm1 : 48 - -((gk % 10 : Nat) : Int) = 48 + ((gk % 10 : Nat) : Int) := by omega
      generalize gk % 10 = r10 at *
      clear a1 a3 a4 hx0 hsub HS hA2 hu HS2
      go_wp2_with fail
      go_roundg (gk / 10)
      case measure => omega
      case rel => exact ⟨gk / 10, UInt8.ofNat (48 + r10) :: suf, by go_num, by rw [← HSUB.out], by omega, rfl, HSL.out, hl2, HA2.out, hF.setCell (fun e => absurd e (by simp)) _⟩
end
end Go.Proofs.Qxb6500301a
