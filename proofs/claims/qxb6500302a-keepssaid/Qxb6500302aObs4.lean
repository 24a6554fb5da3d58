import Derived.Test.Qxb6500302aObs3
import Derived.Test.Qxb6500302aEdge1
namespace Go.Proofs.Qxb6500302a
open Go.RowKit
set_option linter.unusedSimpArgs false
set_option linter.unusedVariables false
attribute [local go_sem ↓] Go.wp_at_zero Go.wp_at_succ

def pair (l : List UInt8) : K2 := (l.getD 0 0, l.getD 1 0)
theorem two_pair {s : ByteArray} (h : s.size = 2) : two s h = pair s.data.toList := by
  obtain ⟨⟨l⟩⟩ := s
  have hl : l.length = 2 := h
  match l, hl with
  | [a, b], _ => rfl

def matchOf (cs : List Tm) (p f : List UInt8) : List UInt8 :=
  if p.length ≠ 2 then [] else
  if f = [] then spellOf ((fAll cs (pair p)).getD []) else
  if f.length = 2 then spellOf ((fKey cs (pair p, pair f)).getD ((fOpen cs (pair p)).getD [])) else spellOf ((fOpen cs (pair p)).getD [])

theorem idsF_lt (q : Tm → Bool) : ∀ (cs : List Tm) (i : Nat), ∀ x ∈ idsF q i cs, x < i + cs.length
  | [], _, x, h => by simp [idsF] at h
  | t :: cs, i, x, h => by
    have ih := idsF_lt q cs (i + 1)
    simp only [idsF] at h
    split at h
    · rcases List.mem_cons.1 h with rfl | h
      · simp
      · have := ih x h; simp; omega
    · have := ih x h; simp; omega
theorem fAll_mem (cs : List Tm) (k : K2) : ∀ x ∈ (fAll cs k).getD [], x < cs.length := by
  unfold fAll; rw [optL_getD]; intro x h; have := idsF_lt _ _ _ x h; omega
theorem fOpen_mem (cs : List Tm) (k : K2) : ∀ x ∈ (fOpen cs k).getD [], x < cs.length := by
  unfold fOpen; rw [optL_getD]; intro x h; have := idsF_lt _ _ _ x h; omega
theorem fKey_mem (cs : List Tm) (k : K4) : ∀ x ∈ (fKey cs k).getD [], x < cs.length := by
  unfold fKey; split
  · intro x h; have := idsF_lt _ _ _ x h; omega
  · intro x h; simp at h

section
variable {w : World} {own : Own} {D : Nat → Prop} {p : Nat} {cs : List Tm}

set_option maxRecDepth 40000 in
set_option maxHeartbeats 4000000 in
theorem Match_any (h : ProgAt w own D p cs) (s1 s2 : ByteArray) : Calls Try.prog 26 #[.pointer (some ⟨p, 0, none⟩), .string s1, .string s2] w fun e w' =>
    e = .returned (.string (S (matchOf cs s1.data.toList s2.data.toList))) ∧ Fr No w w' := by
  have hsz1 : s1.data.toList.length = s1.size := by rw [Array.length_toList]; rfl
  have hsz2 : s2.data.toList.length = s2.size := by rw [Array.length_toList]; rfl
  have hlen := h.len
  by_cases h1 : s1.size = 2
  case neg =>
    have hq : ((s1.size : Int) != 2) = true := by simp; omega
    have ha : matchOf cs s1.data.toList s2.data.toList = [] := by unfold matchOf; rw [if_pos (by omega)]
    go_enter Try.func26, Try.ntmps26
    go_wp2_with fail
    go_ret
    rw [ha]
    exact ⟨rfl, Fr.refl _ _⟩
  case pos =>
    obtain ⟨ba, bo, bk, sl, xs, hp, h2, h3, h4, h5⟩ := h.main
    have hq : ((s1.size : Int) != 2) = false := by rw [h1]; rfl
    have i0 : (0 : Int) < (s1.size : Int) := by omega
    have i1 : (1 : Int) < (s1.size : Int) := by omega
    have htp := two_pair h1
    unfold two at htp
    have hpl := lt_of_heap hp
    generalize hk1 : (s1[0]'(by omega) : UInt8) = c0 at *
    generalize hk2 : (s1[1]'(by omega) : UInt8) = c1 at *
    have hpk : pair s1.data.toList = (c0, c1) := htp.symm
    by_cases h20 : s2.size = 0
    · have hs2 : s2 = { data := #[] } := by
        apply ByteArray.ext
        exact Array.eq_empty_of_size_eq_zero h20
      subst hs2
      have ha : matchOf cs s1.data.toList [] = spellOf ((fAll cs (c0, c1)).getD []) := by unfold matchOf; rw [if_neg (by omega), if_pos rfl, hpk]
      have hp1 : (w.alloc (.cells #[.int .u8 (c0.toNat : Int), .int .u8 (c1.toNat : Int)] 59)).drew.heap[p]? = _ := heap_alloc_keep hp
      have hT1 : (w.alloc (.cells #[.int .u8 (c0.toNat : Int), .int .u8 (c1.toNat : Int)] 59)).drew.heap[w.heap.size]? = _ := heap_alloc_same _ _
      have F1 : Fr No w (w.alloc (.cells #[.int .u8 (c0.toNat : Int), .int .u8 (c1.toNat : Int)] 59)).drew := ((Fr.refl No w).alloc _).drew
      have I1 := h4.keep F1 (fun _ _ _ h => h)
      go_enter Try.func26, Try.ntmps26
      go_wp2_with fail
      go_region
      go_wp2_with fail
      generalize (w.alloc (.cells #[.int .u8 (c0.toNat : Int), .int .u8 (c1.toNat : Int)] 59)).drew = W1 at *
      obtain ⟨bs, cap, _, L, hbk⟩ := look_any key2 I1.mA (c0, c1)
      have L1 := L W1 rfl
      have L2 := L W1.drew rfl
      rw [kv2_eq] at L1 L2
      have hml := fAll_len cs (c0, c1)
      have hmm := fAll_mem cs (c0, c1)
      generalize hids : (fAll cs (c0, c1)).getD [] = ids at *
      have HS : Hid (∀ w', Fr No W1 w' → Calls Try.prog 44 #[.slice bs ids.length cap] w' fun e w'' => e = .returned (.string (S (spellOf ids))) ∧ Fr No w' w'') := fun w' hw => spell_any (ownsRow_keep hbk.1 hw (fun _ _ h => h)) (by omega) (fun i hi => by have := hmm i hi; omega)
      clear L hbk
      have S0 : W1.cell? ⟨p, 1, none⟩ = some (.map (some ba)) ∧ W1.cell? ⟨w.heap.size, 0, none⟩ = some (.int .u8 (c0.toNat : Int)) ∧ W1.cell? ⟨w.heap.size, 1, none⟩ = some (.int .u8 (c1.toNat : Int)) := ⟨cell_of 1 hp1 rfl, cell_of 0 hT1 rfl, cell_of 1 hT1 rfl⟩
      obtain ⟨cpx, ctx0, ctx1⟩ := S0
      go_region_held3 (fun w' => w'.cell? ⟨p, 1, none⟩ = some (.map (some ba)) ∧ w'.cell? ⟨w.heap.size, 0, none⟩ = some (.int .u8 (c0.toNat : Int)) ∧ w'.cell? ⟨w.heap.size, 1, none⟩ = some (.int .u8 (c1.toNat : Int)))
        (first | exact S9 | go_keep)
        (first | (go_at_call 44; refine (HS.out _ (((Fr.refl No W1)).drew)).mono ?_; rintro e w9 ⟨rfl, hf9⟩; have F9 : Fr No W1 w9 := ((Fr.refl No W1).drew).trans hf9 (fun _ _ h => h); have S9 : w9.cell? ⟨p, 1, none⟩ = some (.map (some ba)) ∧ w9.cell? ⟨w.heap.size, 0, none⟩ = some (.int .u8 (c0.toNat : Int)) ∧ w9.cell? ⟨w.heap.size, 1, none⟩ = some (.int .u8 (c1.toNat : Int)) := ⟨F9.cellNo cpx, F9.cellNo ctx0, F9.cellNo ctx1⟩))
      go_wp2_with fail
      go_ret
      rw [ha]
      exact ⟨rfl, F1.trans F9 (fun _ _ h => h)⟩
    · have hs20 : ¬ s2.data.toList = [] := fun e => by rw [e] at hsz2; simp at hsz2; omega
      have hq2 : (s2.toList == ByteArray.toList { data := #[] }) = false := by
        rw [ByteArray.toList_eq, ByteArray.toList_eq]
        exact beq_eq_false_iff_ne.2 hs20
      have hq2' : (s2.toList == []) = false := by
        rw [ByteArray.toList_eq]
        exact beq_eq_false_iff_ne.2 hs20
      have hp1 : (w.alloc (.cells #[.int .u8 (c0.toNat : Int), .int .u8 (c1.toNat : Int)] 59)).drew.heap[p]? = _ := heap_alloc_keep hp
      have hT1 : (w.alloc (.cells #[.int .u8 (c0.toNat : Int), .int .u8 (c1.toNat : Int)] 59)).drew.heap[w.heap.size]? = _ := heap_alloc_same _ _
      have F1 : Fr No w (w.alloc (.cells #[.int .u8 (c0.toNat : Int), .int .u8 (c1.toNat : Int)] 59)).drew := ((Fr.refl No w).alloc _).drew
      have I1 := h4.keep F1 (fun _ _ _ h => h)
      by_cases h22 : s2.size = 2
      · have hq3 : ((s2.size : Int) == 2) = true := by rw [h22]; rfl
        have j0 : (0 : Int) < (s2.size : Int) := by omega
        have j1 : (1 : Int) < (s2.size : Int) := by omega
        have htp2 := two_pair h22
        unfold two at htp2
        generalize hk3 : (s2[0]'(by omega) : UInt8) = d0 at *
        generalize hk4 : (s2[1]'(by omega) : UInt8) = d1 at *
        have hpk2 : pair s2.data.toList = (d0, d1) := htp2.symm
        have ha0 : matchOf cs s1.data.toList s2.data.toList = spellOf ((fKey cs ((c0, c1), (d0, d1))).getD ((fOpen cs (c0, c1)).getD [])) := by unfold matchOf; rw [if_neg (by omega), if_neg hs20, if_pos (by omega), hpk, hpk2]
        obtain ⟨bb, bcap, Lk, _, hbkk⟩ := look_any key4 I1.mK ((c0, c1), (d0, d1))
        have hmlk := fKey_len cs ((c0, c1), (d0, d1))
        have hmmk := fKey_mem cs ((c0, c1), (d0, d1))
        go_enter Try.func26, Try.ntmps26
        go_wp2_with fail
        go_region
        go_wp2_with fail
        generalize (w.alloc (.cells #[.int .u8 (c0.toNat : Int), .int .u8 (c1.toNat : Int)] 59)).drew = W1 at *
        have Lk' := fun n => Lk (W1.drewN n) rfl
        rw [kv4_eq] at Lk'
        have cp1 : W1.cell? ⟨p, 3, none⟩ = some (.map (some bk)) := cell_of 3 hp1 rfl
        have ct10 := cell_of 0 hT1 rfl
        have ct11 := cell_of 1 hT1 rfl
        cases hfK : fKey cs ((c0, c1), (d0, d1)) with
        | some idsK =>
          rw [hfK] at Lk' ha0 hbkk hmlk hmmk
          simp only [Option.isSome_some, Option.getD_some] at Lk' ha0 hbkk hmlk hmmk
          go_quiet (fail)
          generalize hW2 : World.drewN W1 _ = W2
          have F2 : Fr No W1 W2 := hW2 ▸ (Fr.refl No W1).drewN _
          have HS : Hid (Calls Try.prog 44 #[.slice bb idsK.length bcap] W2 fun e w'' => e = .returned (.string (S (spellOf idsK))) ∧ Fr No W2 w'') := spell_any (ownsRow_keep hbkk.1 F2 (fun _ _ h => h)) (by omega) (fun i hi => by have := hmmk i hi; omega)
          go_wp2_with fail
          refine HS.out.mono ?_
          rintro e w9 ⟨rfl, hf9⟩
          go_wp2_with fail
          go_ret
          rw [ha0]
          exact ⟨rfl, (F1.trans F2 (fun _ _ h => h)).trans hf9 (fun _ _ h => h)⟩
        | none =>
          rw [hfK] at Lk' ha0
          simp only [Option.isSome_none, Option.getD_none] at Lk' ha0
          have ha := ha0
          go_quiet (fail)
          generalize hW2 : World.drewN W1 _ = W2
          have F2 : Fr No W1 W2 := hW2 ▸ (Fr.refl No W1).drewN _
          have F12 : Fr No w W2 := F1.trans F2 (fun _ _ h => h)
          have hp2 := F2.keep hp1 (fun h => h)
          have hT2 := F2.keep hT1 (fun h => h)
          have I2 := I1.keep F2 (fun _ _ _ h => h)
          go_wp2_with fail
          obtain ⟨bs, cap, _, L, hbk⟩ := look_any key2 I2.mO (c0, c1)
          have L1 := L W2 rfl
          have L2 := L W2.drew rfl
          rw [kv2_eq] at L1 L2
          have hml := fOpen_len cs (c0, c1)
          have hmm := fOpen_mem cs (c0, c1)
          generalize hids : (fOpen cs (c0, c1)).getD [] = ids at *
          have HS : Hid (∀ w', Fr No W2 w' → Calls Try.prog 44 #[.slice bs ids.length cap] w' fun e w'' => e = .returned (.string (S (spellOf ids))) ∧ Fr No w' w'') := fun w' hw => spell_any (ownsRow_keep hbk.1 hw (fun _ _ h => h)) (by omega) (fun i hi => by have := hmm i hi; omega)
          clear L hbk
          have S0 : W2.cell? ⟨p, 2, none⟩ = some (.map (some bo)) ∧ W2.cell? ⟨w.heap.size, 0, none⟩ = some (.int .u8 (c0.toNat : Int)) ∧ W2.cell? ⟨w.heap.size, 1, none⟩ = some (.int .u8 (c1.toNat : Int)) := ⟨cell_of 2 hp2 rfl, cell_of 0 hT2 rfl, cell_of 1 hT2 rfl⟩
          obtain ⟨cpx, ctx0, ctx1⟩ := S0
          go_region_held3 (fun w' => w'.cell? ⟨p, 2, none⟩ = some (.map (some bo)) ∧ w'.cell? ⟨w.heap.size, 0, none⟩ = some (.int .u8 (c0.toNat : Int)) ∧ w'.cell? ⟨w.heap.size, 1, none⟩ = some (.int .u8 (c1.toNat : Int)))
            (first | exact S9 | go_keep)
            (first | (go_at_call 44; refine (HS.out _ (((Fr.refl No W2)).drew)).mono ?_; rintro e w9 ⟨rfl, hf9⟩; have F9 : Fr No W2 w9 := ((Fr.refl No W2).drew).trans hf9 (fun _ _ h => h); have S9 : w9.cell? ⟨p, 2, none⟩ = some (.map (some bo)) ∧ w9.cell? ⟨w.heap.size, 0, none⟩ = some (.int .u8 (c0.toNat : Int)) ∧ w9.cell? ⟨w.heap.size, 1, none⟩ = some (.int .u8 (c1.toNat : Int)) := ⟨F9.cellNo cpx, F9.cellNo ctx0, F9.cellNo ctx1⟩))
          go_wp2_with fail
          go_ret
          rw [ha]
          exact ⟨rfl, F12.trans F9 (fun _ _ h => h)⟩
      · have hq3 : ((s2.size : Int) == 2) = false := by simp; omega
        have ha : matchOf cs s1.data.toList s2.data.toList = spellOf ((fOpen cs (c0, c1)).getD []) := by unfold matchOf; rw [if_neg (by omega), if_neg hs20, if_neg (by omega), hpk]
        go_enter Try.func26, Try.ntmps26
        go_wp2_with fail
        go_region
        go_wp2_with fail
        generalize (w.alloc (.cells #[.int .u8 (c0.toNat : Int), .int .u8 (c1.toNat : Int)] 59)).drew = W1 at *
        obtain ⟨bs, cap, _, L, hbk⟩ := look_any key2 I1.mO (c0, c1)
        have L1 := L W1 rfl
        have L2 := L W1.drew rfl
        rw [kv2_eq] at L1 L2
        have hml := fOpen_len cs (c0, c1)
        have hmm := fOpen_mem cs (c0, c1)
        generalize hids : (fOpen cs (c0, c1)).getD [] = ids at *
        have HS : Hid (∀ w', Fr No W1 w' → Calls Try.prog 44 #[.slice bs ids.length cap] w' fun e w'' => e = .returned (.string (S (spellOf ids))) ∧ Fr No w' w'') := fun w' hw => spell_any (ownsRow_keep hbk.1 hw (fun _ _ h => h)) (by omega) (fun i hi => by have := hmm i hi; omega)
        clear L hbk
        have S0 : W1.cell? ⟨p, 2, none⟩ = some (.map (some bo)) ∧ W1.cell? ⟨w.heap.size, 0, none⟩ = some (.int .u8 (c0.toNat : Int)) ∧ W1.cell? ⟨w.heap.size, 1, none⟩ = some (.int .u8 (c1.toNat : Int)) := ⟨cell_of 2 hp1 rfl, cell_of 0 hT1 rfl, cell_of 1 hT1 rfl⟩
        obtain ⟨cpx, ctx0, ctx1⟩ := S0
        go_region_held3 (fun w' => w'.cell? ⟨p, 2, none⟩ = some (.map (some bo)) ∧ w'.cell? ⟨w.heap.size, 0, none⟩ = some (.int .u8 (c0.toNat : Int)) ∧ w'.cell? ⟨w.heap.size, 1, none⟩ = some (.int .u8 (c1.toNat : Int)))
          (first | exact S9 | go_keep)
          (first | (go_at_call 44; refine (HS.out _ (((Fr.refl No W1)).drew)).mono ?_; rintro e w9 ⟨rfl, hf9⟩; have F9 : Fr No W1 w9 := ((Fr.refl No W1).drew).trans hf9 (fun _ _ h => h); have S9 : w9.cell? ⟨p, 2, none⟩ = some (.map (some bo)) ∧ w9.cell? ⟨w.heap.size, 0, none⟩ = some (.int .u8 (c0.toNat : Int)) ∧ w9.cell? ⟨w.heap.size, 1, none⟩ = some (.int .u8 (c1.toNat : Int)) := ⟨F9.cellNo cpx, F9.cellNo ctx0, F9.cellNo ctx1⟩))
        go_wp2_with fail
        go_ret
        rw [ha]
        exact ⟨rfl, F1.trans F9 (fun _ _ h => h)⟩
end
end Go.Proofs.Qxb6500302a
