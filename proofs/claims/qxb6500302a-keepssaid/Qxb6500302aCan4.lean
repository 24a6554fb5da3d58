import Derived.Test.Qxb6500302aCan3
namespace Go.Proofs.Qxb6500302a
open Go.RowKit
set_option linter.unusedSimpArgs false
set_option linter.unusedVariables false
attribute [local go_sem ↓] Go.wp_at_zero Go.wp_at_succ
attribute [-go_sem] Go.run_string_add_if Go.run_index_string Go.run_slice_string_if

set_option maxRecDepth 20000 in
set_option maxHeartbeats 4000000 in
theorem canon_any {w : World} {l : List UInt8} (hl : l.length ≤ 40) :
    Calls Try.prog 32 #[.string (S l)] w fun e w' => e = .returned (.string (S (canonGo [] l))) ∧ Fr No w w' := by
  have hb := run_bytes_of_string (P := Try.prog) w 9 86 5 (S l) Try.underlying9 Try.underlying86 Try.underlying5
  generalize grownCap w (S l).size 0 5 = cap0 at hb
  have hr0 : RowB (w.alloc (.cells (bytesRow (S l) cap0) 5 ((bytesRow (S l) cap0).size, (bytesRow (S l) cap0).size + 1))).drew w.heap.size l := by
    refine ⟨bytesRow (S l) cap0, _, heap_alloc_same w _, by simp [bytesRow, S], fun j b hj => ?_⟩
    have hlt := (List.getElem?_eq_some_iff.1 hj).1
    rw [bytesRow_at (S l) cap0 j (by simpa [S] using hlt)]
    have := (List.getElem?_eq_some_iff.1 hj).2
    simp [S, this]
  have F0 : Fr No w (w.alloc (.cells (bytesRow (S l) cap0) 5 ((bytesRow (S l) cap0).size, (bytesRow (S l) cap0).size + 1))).drew := ((Fr.refl No w).alloc _).drew
  rw [S_size] at hb
  go_enter Try.func32, Try.ntmps32
  go_wp2_with fail
  generalize (w.alloc (.cells (bytesRow (S l) cap0) 5 ((bytesRow (S l) cap0).size, (bytesRow (S l) cap0).size + 1))).drew = W0 at *
  go_loopg [4, 5] (l.length + 1) (fun gk v4 u wr => ∃ (i : Nat) (seen done : List UInt8), v4 = .string (S seen) ∧ u = .int .i64 (i : Int) ∧ i ≤ l.length ∧ gk = l.length + 1 - i ∧ seen.length ≤ i ∧ done.length = i ∧ Hid (canonGo [] l = done ++ canonGo seen (l.drop i)) ∧ RowB wr w.heap.size (done ++ l.drop i) ∧ Fr No w wr)
  case atStart => exact ⟨0, [], [], rfl, rfl, Nat.zero_le _, rfl, Nat.zero_le _, rfl, by show _ = _; simp, by simpa using hr0, F0⟩
  case round =>
    clear hr0 F0 hb
    obtain ⟨i, seen, done, rfl, rfl, hi, hgk, hsl, hdl, HC, hrow, hf⟩ := hrel
    by_cases hlt : i < l.length
    · obtain ⟨c, hc⟩ : ∃ c, l[i]? = some c := ⟨_, List.getElem?_eq_getElem hlt⟩
      have hdrop : l.drop i = c :: l.drop (i + 1) := by
        rw [List.drop_eq_getElem_cons hlt]
        congr 1
        rw [List.getElem?_eq_getElem hlt] at hc
        exact Option.some.inj hc
      have hz : (done ++ l.drop i)[i]? = some c := by rw [List.getElem?_append_right (by omega), hdrop]; simp [hdl]
      obtain ⟨ci, fi⟩ := hrow.cell hz
      by_cases h65 : c.toNat < 65
      · have d1 : decide ((c.toNat : Int) < 65) = true := decide_eq_true (by omega)
        have hcap : isCap c = false := by simp [isCap]; omega
        go_wp2_with fail
        go_roundg (l.length + 1 - (i + 1))
        case measure => omega
        case rel =>
          refine ⟨i + 1, seen, done ++ [c], rfl, by go_num, by omega, rfl, by omega, by simp; omega, ?_, ?_, hf⟩
          · show _ = _
            rw [HC.out, hdrop, canon_low hcap]
            simp
          · have e : done ++ [c] ++ l.drop (i + 1) = done ++ l.drop i := by rw [hdrop]; simp
            rw [e]; exact hrow
      · have d1 : decide ((c.toNat : Int) < 65) = false := decide_eq_false (by omega)
        by_cases h90 : 90 < c.toNat
        · have d2 : decide ((90 : Int) < (c.toNat : Int)) = true := decide_eq_true (by omega)
          have hcap : isCap c = false := by simp [isCap]; omega
          go_wp2_with fail
          go_roundg (l.length + 1 - (i + 1))
          case measure => omega
          case rel =>
            refine ⟨i + 1, seen, done ++ [c], rfl, by go_num, by omega, rfl, by omega, by simp; omega, ?_, ?_, hf⟩
            · show _ = _
              rw [HC.out, hdrop, canon_low hcap]
              simp
            · have e : done ++ [c] ++ l.drop (i + 1) = done ++ l.drop i := by rw [hdrop]; simp
              rw [e]; exact hrow
        · have d2 : decide ((90 : Int) < (c.toNat : Int)) = false := decide_eq_false (by omega)
          have hcap : isCap c = true := by simp [isCap]; omega
          go_wp2_with fail
          have hvl := varIx_le seen c
          have hssz : (S seen).size = seen.length := S_size seen
          generalize wr = W1 at *
          go_loopg [6] (seen.length + 1) (fun gk2 u w2 => ∃ k : Nat, u = .int .i64 (k : Int) ∧ k ≤ varIx seen c ∧ gk2 = seen.length + 1 - k ∧ Fr No W1 w2)
          case atStart => exact ⟨0, rfl, Nat.zero_le _, rfl, Fr.refl _ _⟩
          case round =>
            obtain ⟨k, rfl, hk, hgk2, hf2⟩ := hrel
            have c2 : wr.cell? ⟨w.heap.size, i, none⟩ = some (.int .u8 (c.toNat : Int)) := hf2.cellNo ci
            by_cases hkv : k < varIx seen c
            · obtain ⟨x, hx, hxc⟩ := varIx_ne hkv
              have e1 : decide ((k : Int) < ((S seen).size : Int)) = true := decide_eq_true (by omega)
              have e1' : (k : Int) < (seen.length : Int) := by omega
              have ix := idx_Int (l := seen) (i := (k : Int)) (by omega) (by simpa using hx)
              have e2 : ((x.toNat : Int) != (c.toNat : Int)) = true := by
                simp only [bne_iff_ne, ne_eq]
                intro e
                exact hxc (UInt8.toNat_inj.1 (by omega))
              go_wp2_with fail
              go_quiet (fail)
              go_wp2_with fail
              go_roundg (seen.length + 1 - (k + 1))
              case measure => omega
              case rel => exact ⟨k + 1, by go_num, by omega, rfl, hf2.drewN _⟩
            · have hkeq : k = varIx seen c := by omega
              by_cases hin : varIx seen c < seen.length
              · have hx := varIx_at hin
                have e1 : decide ((k : Int) < ((S seen).size : Int)) = true := decide_eq_true (by omega)
                have ix := idx_Int (l := seen) (i := (k : Int)) (by omega) (by rw [hkeq]; simpa using hx)
                have e2 : ((c.toNat : Int) != (c.toNat : Int)) = false := by simp
                have e3 : ((k : Int) == ((S seen).size : Int)) = false := beq_eq_false_iff_ne.2 (by omega)
                have e1' : (k : Int) < (seen.length : Int) := by omega
                have e3' : ((k : Int) == (seen.length : Int)) = false := beq_eq_false_iff_ne.2 (by omega)
                have HKE : Hid (k = varIx seen c) := hkeq
                have hav : addVar seen c = seen := by unfold addVar; rw [if_pos hin]
                clear hin hkeq hkv hx
                go_wp2_with fail
                go_quiet (fail)
                generalize hW2 : World.drewN wr _ = W2
                have FQ : Fr No W1 W2 := hf2.trans (hW2 ▸ (Fr.refl No wr).drewN _) (fun _ _ h => h)
                have hrow2 := hrow.keep FQ (fun h => h)
                obtain ⟨ci2, fi2⟩ := hrow2.cell hz
                go_wp2_with fail
                go_roundg (l.length + 1 - (i + 1))
                case measure => omega
                case rel =>
                  have hkeq := HKE.out
                  refine ⟨i + 1, addVar seen c, done ++ [65 + (varIx seen c).toUInt8], by rw [hav], by go_num, by omega, rfl, ?_, by simp; omega, ?_, ?_, ?_⟩
                  · have := addVar_len seen c; omega
                  · show _ = _
                    rw [HC.out, hdrop, canon_cap hcap]
                    simp
                  · refine hrow2.set (i := i) (b := 65 + (varIx seen c).toUInt8) (by simp; omega) ?_ (by rw [var_toNat (by omega), hkeq])
                    rw [hdrop, List.set_append_right _ _ (by omega)]
                    simp [hdl]
                  · exact Fr.setCell (hf.trans FQ (fun _ _ h => h)) (fun h => by simp at h) _
              · have hvl2 : varIx seen c = seen.length := by omega
                have e1 : decide ((k : Int) < ((S seen).size : Int)) = false := decide_eq_false (by omega)
                have e3 : ((k : Int) == ((S seen).size : Int)) = true := by rw [hkeq, hvl2, hssz]; simp
                have e1' : decide ((k : Int) < (seen.length : Int)) = false := decide_eq_false (by omega)
                have e1'' : decide (k < seen.length) = false := decide_eq_false (by omega)
                have e3'' : (k == seen.length) = true := by rw [hkeq, hvl2]; simp
                have e3' : ((k : Int) == (seen.length : Int)) = true := by rw [hkeq, hvl2]; simp
                have HKE : Hid (k = varIx seen c) := hkeq
                have hav : addVar seen c = seen ++ [c] := by unfold addVar; rw [if_neg hin]
                have s1 := slice_one hc
                have A1 := add_S seen [c] (by simp; omega)
                clear hin hvl2 hkeq hkv
                go_wp2_with fail
                go_quiet (fail)
                generalize hW2 : World.drewN wr _ = W2
                have FQ : Fr No W1 W2 := hf2.trans (hW2 ▸ (Fr.refl No wr).drewN _) (fun _ _ h => h)
                have hrow2 := hrow.keep FQ (fun h => h)
                obtain ⟨ci2, fi2⟩ := hrow2.cell hz
                go_wp2_with fail
                go_roundg (l.length + 1 - (i + 1))
                case measure => omega
                case rel =>
                  have hkeq := HKE.out
                  refine ⟨i + 1, addVar seen c, done ++ [65 + (varIx seen c).toUInt8], by rw [hav], by go_num, by omega, rfl, ?_, by simp; omega, ?_, ?_, ?_⟩
                  · have := addVar_len seen c; omega
                  · show _ = _
                    rw [HC.out, hdrop, canon_cap hcap]
                    simp
                  · refine hrow2.set (i := i) (b := 65 + (varIx seen c).toUInt8) (by simp; omega) ?_ (by rw [var_toNat (by omega), hkeq])
                    rw [hdrop, List.set_append_right _ _ (by omega)]
                    simp [hdl]
                  · exact Fr.setCell (hf.trans FQ (fun _ _ h => h)) (fun h => by simp at h) _
    · have hieq : i = l.length := by omega
      have hdn : done = canonGo [] l := by
        have := HC.out
        rw [hieq, List.drop_length] at this
        simpa [canonGo] using this.symm
      have hstr := run_convert_bytes_back (P := Try.prog) wr 86 9 5 ⟨w.heap.size, 0, none⟩ cap0 done Try.underlying86 Try.underlying5 Try.underlying9 (fun j hj => by
        rw [add_zero_addr]
        exact (hrow.cell (b := done[j]) (by rw [List.getElem?_append_left hj]; exact List.getElem?_eq_getElem hj)).1)
      rw [hdl, hieq] at hstr
      have HD : Hid (done = canonGo [] l) := hdn
      clear hdn
      go_wp2_with fail
      go_ret
      rw [← HD.out]
      exact ⟨rfl, hf⟩
end Go.Proofs.Qxb6500302a
