import Derived.Test.Qxb6500302aRead7b
namespace Go.Proofs.Qxb6500302a
open Go.RowKit
set_option linter.unusedSimpArgs false
set_option linter.unusedVariables false

set_option maxRecDepth 20000 in
set_option maxHeartbeats 4000000 in
theorem read_any (q : Bool) {r mb : Nat} {s : ByteArray} {text : List UInt8} {w : World} (h : RdAt w r mb s [] text []) :
    Calls Try.prog 37 #[.pointer (some ⟨r, 0, none⟩), .bool q] w (TreePost q (rRead q text) r mb w) := by
  have hlt := h.lt
  have hl := h.lens
  have hm := h.len
  have htx : text.length ≤ 40 := by simp at hl; omega
  obtain ⟨F, hF⟩ : ∃ F : Int, F = ((rootOf q).toNat : Int) := ⟨_, rfl⟩
  have HF : Hid (F = ((rootOf q).toNat : Int)) := hF
  clear hF
  generalize hRES : rRead q text = RES
  have HRES : Hid (rRead q text = RES) := hRES
  clear hRES
  cases q
  case' true =>
    have HJ3 : Hid (RES = rEnd [] (rGoals (text.length + 1) (text.length + 1) text [])) := by
      show RES = _
      rw [← HRES.out, rRead_query]
    go_enter Try.func37, Try.ntmps37
    go_wp2_with fail
    have h3 := h.alloc (.cells #[.int .u8 63, .slice none 0 0] 90)
    have hb3 : (w.alloc (.cells #[.int .u8 63, .slice none 0 0] 90)).heap[w.heap.size]? = some (.cells #[.int .u8 F, .slice none 0 0] 90) := by rw [HF.out]; exact heap_alloc_same w _
    have hf3 : Fr (RM r mb) w (w.alloc (.cells #[.int .u8 63, .slice none 0 0] 90)) := (Fr.refl _ _).alloc _
    generalize (w.alloc (.cells #[.int .u8 63, .slice none 0 0] 90)) = W3 at *
    have hargs3 := ArgsAt.nil w.heap.size W3
    have hlen3 : ([] : List Tm).length + text.length ≤ 41 := by simp; omega
    have hn3 : text.length < text.length + 1 := by omega
    clear h
  case' false =>
    have h1 := h.alloc (.cells #[.int .u8 58, .slice none 0 0] 90)
    have hb1 := heap_alloc_same w (.cells #[.int .u8 58, .slice none 0 0] 90)
    have hf1 : Fr (RM r mb) w (w.alloc (.cells #[.int .u8 58, .slice none 0 0] 90)) := (Fr.refl _ _).alloc _
    clear h
    cases hres : rCall (text.length + 1) text []
    case none =>
      have e0 : RES = none := by rw [← HRES.out]; exact rRead_none hres
      rw [e0]
      clear e0
      have HR : Hid (rCall (text.length + 1) text [] = none) := hres
      clear hres
      go_enter Try.func37, Try.ntmps37
      go_wp2_with fail
      refine (call_any _ h1 (Nat.lt_succ_self _)).mono ?_
      rw [HR.out]
      rintro e w' ⟨⟨b, rfl⟩, hf'⟩
      go_wp2_with fail
      exact ⟨rfl, ⟨_, rfl⟩, hf1.trans hf' (fun _ _ h => h)⟩
    case' some x =>
      obtain ⟨t, rest1, vs1⟩ := x
      have HR : Hid (rCall (text.length + 1) text [] = some (t, rest1, vs1)) := hres
      clear hres
      have hlen1 := rCall_len _ _ _ _ _ _ HR.out
      go_enter Try.func37, Try.ntmps37
      go_wp2_with fail
      refine (call_any _ h1 (Nat.lt_succ_self _)).mono ?_
      rw [HR.out]
      rintro e w1 ⟨v, pre1, m2, D2, rfl, ht, hr1, hf1', hD2⟩
      have hcb1 := hf1'.keep hb1 (by unfold RM; omega)
      have hfw := hf1.trans hf1' (fun _ _ h => h)
      have c5 : w1.cell? ⟨w.heap.size, 1, none⟩ = some (.slice none 0 0) := cell_of 1 hcb1 rfl
      obtain ⟨tb, hv⟩ := ht.ptr
      subst hv
      have hargs1 := ArgsAt.nil w.heap.size w1
      go_wp2_with (at_builtin; refine wpList_append_terms rfl _ _ rfl hargs1 (by simp) hcb1 rfl rfl ?_; intro g' cap' w2 hown' hgrow hloc hcb2; have c6 := cell_of 1 hcb2 rfl; have f6 := frozen_of 1 hcb2)
      obtain ⟨W4, xs4, m4, D4, hW4, hargs4, hf4, hcb4⟩ := hargs1.stored ht (fun k hk => ⟨by have := hD2 k hk; have := lt_of_heap hb1; omega, (hD2 k hk).2, by simp [Value.ownBlock]⟩) hown' hgrow hloc hcb2
      simp only [List.length_nil, Nat.zero_add, List.nil_append] at hW4 hargs4 hcb4
      have hr4 := hr1.keep hf4 (by omega) (by omega)
      have hfw4 := hfw.trans hf4 (fun k hk h => by omega)
      rw [← hW4]
      clear hf4 hgrow hown' hloc hargs1 ht hD2 hcb2 hcb1 c5 hf1 hf1' hfw hr1 c6 f6 hb1 h1 hW4
      have c0 : W4.cell? ⟨r, 0, none⟩ = some (.string s) := cell_of 0 hr4.rd rfl
      have c1 : W4.cell? ⟨r, 1, none⟩ = some (.int .i64 (pre1.length : Int)) := cell_of 1 hr4.rd rfl
      have hl4 := hr4.lens
      cases rest1
      case nil =>
        have t1 : ((pre1.length : Int) == (s.size : Int)) = true := by simp at hl4 ⊢; omega
        go_quiet (fail)
        go_wp2_with fail
        go_ret
        rw [← HRES.out, rRead_fact HR.out]
        exact hargs4.finish (q := false) hcb4 hfw4 (by simp) (Nat.le_refl _) _ _
      case' cons c0' rest1' =>
        have t1 : ((pre1.length : Int) == (s.size : Int)) = false := by simp at hl4 ⊢; omega
        by_cases h58 : c0' = 58
        case neg =>
          have E0 : Hid (RES = none) := by
            show RES = none
            rw [← HRES.out]; exact rRead_bad1 HR.out (by simp) (by simpa [hd] using h58)
          go_quiet (fail)
          go_wp2_with fail
          refine (expect_no 58 (hr4.drewN _) (by simpa [hd] using h58) _).mono ?_
          rintro e W3 ⟨⟨b, rfl⟩, hf6⟩
          go_wp2_with fail
          rw [E0.out]
          exact ⟨rfl, ⟨_, rfl⟩, (hfw4.drewN _).trans hf6 (fun _ _ h => h.elim)⟩
        case' pos =>
          subst h58
          by_cases h45 : hd rest1' = 45
          case neg =>
            have E0 : Hid (RES = none) := by
              show RES = none
              rw [← HRES.out]; exact rRead_bad2 HR.out (by simp) h45
            go_quiet (fail)
            go_wp2_with fail
            refine (expect_yes 58 (hr4.drewN _) _).mono ?_
            rintro e w5 ⟨rfl, hr5, hf5⟩
            go_wp2_with fail
            refine (expect_no 45 hr5 h45 _).mono ?_
            rintro e W3 ⟨⟨b, rfl⟩, hf6⟩
            go_wp2_with fail
            rw [E0.out]
            exact ⟨rfl, ⟨_, rfl⟩, ((hfw4.drewN _).trans hf5 (fun _ _ h => .inl h)).trans hf6 (fun _ _ h => h.elim)⟩
          case' pos =>
            obtain ⟨rest3, rfl⟩ : ∃ rest2, rest1' = 45 :: rest2 := ⟨_, hd_cons h45 (by decide)⟩
            have HJ3 : Hid (RES = rEnd [t] (rGoals (text.length + 1) (text.length + 1) rest3 vs1)) := by
              show RES = _
              rw [← HRES.out, rRead_neck HR.out]
            go_quiet (fail)
            go_wp2_with fail
            refine (expect_yes 58 (hr4.drewN _) _).mono ?_
            rintro e w5 ⟨rfl, hr5, hf5⟩
            go_wp2_with fail
            refine (expect_yes 45 hr5 _).mono ?_
            rintro e W3 ⟨rfl, h3, hf6⟩
            have hf56 : Fr (fun k => k = r) W4 W3 := ((Fr.drewN (Fr.refl (fun k => k = r) W4) _).trans hf5 (fun _ _ h => h)).trans hf6 (fun _ _ h => h)
            have hb3 : W3.heap[w.heap.size]? = some (.cells #[.int .u8 F, .slice (some ⟨g', 0, none⟩) 1 cap'] 90) := by rw [HF.out]; exact hf56.keep hcb4 (by omega)
            have hargs3 := hargs4.keep hf56 (fun k hk => by omega)
            have hf3 := hfw4.trans hf56 (fun _ _ h => .inl h)
            clear hf56 hf5 hf6 hcb4 hargs4 hfw4 hr5 hr4 c0 c1 t1
            have hlen3 : [t].length + rest3.length ≤ 41 := by simp at hlen1 ⊢; omega
            have hn3 : rest3.length < text.length + 1 := by simp at hlen1; omega
            clear hlen1
            go_wp2_with fail
  all_goals
    go_loopg [7] 50 (fun gk _u wr => ∃ (pre' rest' vs' : List UInt8) (acc : List Tm) (sl : Value) (xs : List Value) (m : Nat) (D : Nat → Prop) (k : Nat), rest'.length < gk ∧ rest'.length < k ∧ acc.length + rest'.length ≤ 41 ∧ RdAt wr r mb s pre' rest' vs' ∧ rest'.length < text.length + 1 ∧ wr.heap[w.heap.size]? = some (.cells #[.int .u8 F, sl] 90) ∧ ArgsAt w.heap.size wr sl xs acc m D ∧ Fr (RM r mb) w wr ∧ Hid (RES = rEnd acc (rGoals (text.length + 1) k rest' vs')))
    case atStart => exact ⟨_, _, _, _, _, _, _, _, _, by omega, hn3, hlen3, h3, hn3, hb3, hargs3, hf3, HJ3⟩
    case' round =>
      obtain ⟨pre', rest', vs', acc, sl, xs, m, D, k, hgk, hk, hacc, hr, hn', hcb, hargs, hf, HJ⟩ := hrel
      clear h3 hb3 hf3 hargs3 hlen3 hn3 HJ3
      obtain ⟨k, rfl⟩ : ∃ k', k = k' + 1 := ⟨k - 1, by omega⟩
      cases hres : rGoal (text.length + 1) rest' vs'
      case none =>
        have HR : Hid (rGoal (text.length + 1) rest' vs' = none) := hres
        clear hres
        go_wp2_with fail
        refine (goal_any (n := text.length + 1) hr hn').mono ?_
        rw [HR.out]
        rintro e w' ⟨⟨b, rfl⟩, hf'⟩
        go_wp2_with fail
        rw [HJ.out, rEnd_none HR.out]
        exact ⟨rfl, ⟨_, rfl⟩, hf.trans hf' (fun _ _ h => h)⟩
      case' some x =>
        obtain ⟨t', rest1, vs1⟩ := x
        have HR : Hid (rGoal (text.length + 1) rest' vs' = some (t', rest1, vs1)) := hres
        clear hres
        have hlen1 := rGoal_len _ _ _ _ _ _ HR.out
        go_wp2_with fail
        refine (goal_any (n := text.length + 1) hr hn').mono ?_
        rw [HR.out]
        rintro e w1 ⟨v, pre1, m2, D2, rfl, ht, hr1, hf1, hD2⟩
        have hcb1 := hf1.keep hcb (by unfold RM; omega)
        have hargs1 := hargs.keep hf1 (fun k hk => by unfold RM at hk; omega)
        have hfw := hf.trans hf1 (fun _ _ h => h)
        have c5 : w1.cell? ⟨w.heap.size, 1, none⟩ = some sl := cell_of 1 hcb1 rfl
        obtain ⟨T, vx, hvx⟩ := ht.iface
        subst hvx
        obtain ⟨bs, cap0, hsl⟩ := owns_slice hargs1.own
        subst hsl
        go_wp2_with (at_builtin; refine wpList_append_terms rfl _ _ rfl hargs1 (by omega) hcb1 rfl rfl ?_; intro g' cap' w2 hown' hgrow hloc hcb2; have c6 := cell_of 1 hcb2 rfl; have f6 := frozen_of 1 hcb2)
        obtain ⟨W4, xs4, m4, D4, hW4, hargs4, hf4, hcb4⟩ := hargs1.stored ht (fun k hk => ⟨by have := hD2 k hk; have := lt_of_heap hcb; omega, (hD2 k hk).2, fun e => by have h1 := hargs.own.lt k e; have h2 := (hD2 k hk).1; omega⟩) hown' hgrow hloc hcb2
        have hr4 := hr1.keep hf4 (by omega) (by omega)
        have hfw4 := hfw.trans hf4 (fun k hk h => by omega)
        rw [← hW4]
        clear hf4 hgrow hown' hloc hargs1 hargs ht hD2 hcb2 hcb1 hcb c5 hf1 hfw hr1 hr c6 f6 hW4
        by_cases h44 : hd rest1 = 44
        case pos =>
          obtain ⟨rest2, rfl⟩ : ∃ rest2, rest1 = 44 :: rest2 := ⟨_, hd_cons h44 (by decide)⟩
          refine (peek_any hr4 (c := 44) rfl).mono ?_
          rintro e w' ⟨rfl, k4, rfl⟩
          have c7 : W4.cell? ⟨r, 1, none⟩ = some (.int .i64 (pre1.length : Int)) := cell_of 1 hr4.rd rfl
          have f7 : W4.frozen? ⟨r, 1, none⟩ = false := frozen_of 1 hr4.rd
          have hl4 := hr4.lens
          go_wp2_with fail
          go_roundg (rest2.length + 1)
          case measure => simp at hlen1; omega
          case rel =>
            have hstep := (hr4.drewN k4).step
            refine ⟨_, rest2, vs1, acc ++ [t'], _, _, _, _, k, by omega, by simp at hlen1; omega, by simp at hlen1 ⊢; omega, hstep, by simp at hlen1; omega, ?_, hargs4.keep (Fr.setCell (S := fun k => k = r) ((Fr.refl _ W4).drewN k4) (fun _ => rfl) _) (fun k hk => by omega), Fr.setCell (hfw4.drewN k4) (fun _ => .inl rfl) _, ?_⟩
            · rw [heap_setCell_other _ (by omega)]; exact hcb4
            · show RES = _
              rw [HJ.out, rEnd_snoc HR.out rfl]
              rfl
        case neg =>
          have t4 : (((hd rest1).toNat : Int) != 44) = true := neq_of h44
          refine (peek_any hr4 rfl).mono ?_
          rintro e w' ⟨rfl, k4, rfl⟩
          have c7 : W4.cell? ⟨r, 0, none⟩ = some (.string s) := cell_of 0 hr4.rd rfl
          have c8 : W4.cell? ⟨r, 1, none⟩ = some (.int .i64 (pre1.length : Int)) := cell_of 1 hr4.rd rfl
          have hl4 := hr4.lens
          by_cases h0 : rest1 = []
          case pos =>
            subst h0
            have t5 : ((pre1.length : Int) != (s.size : Int)) = false := by simp at hl4 ⊢; omega
            go_wp2_with fail
            go_quiet (fail)
            go_wp2_with fail
            go_ret
            rw [HJ.out, rEnd_end HR.out]
            rw [HF.out] at hcb4
            exact hargs4.finish hcb4 hfw4 (by simp; omega) (Nat.le_refl _) _ _
          case neg =>
            have t5 : ((pre1.length : Int) != (s.size : Int)) = true := by
              have : rest1.length ≠ 0 := fun e => h0 (List.eq_nil_of_length_eq_zero e)
              simp; omega
            go_wp2_with fail
            go_quiet (fail)
            go_wp2_with fail
            refine (fail_any (hr4.drewN _) _).mono ?_
            rintro e w' ⟨⟨b, rfl⟩, hf'⟩
            go_wp2_with fail
            rw [HJ.out, rEnd_bad HR.out h44 h0]
            exact ⟨rfl, ⟨_, rfl⟩, (hfw4.drewN _).trans hf' (fun _ _ h => h.elim)⟩
end Go.Proofs.Qxb6500302a
