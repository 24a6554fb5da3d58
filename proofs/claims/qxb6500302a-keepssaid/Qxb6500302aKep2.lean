import Derived.Test.Qxb6500302aKep1
import Derived.Deep.AppendLies
import Derived.OneCell
import Derived.Deep.RegionHeld3
namespace Go.Proofs.Qxb6500302a
open Go.RowKit
set_option linter.unusedSimpArgs false
set_option linter.unusedVariables false
attribute [local go_sem ↓] Go.wp_at_zero Go.wp_at_succ
attribute [-go_sem] Go.run_string_add_if Go.run_index_string Go.run_slice_string_if

theorem Try.info9 : (Try.prog.info? 9).map (fun i => (i.zero, i.size, i.bytes)) = some (some (.string { data := #[] }), 1, 16) := by kernel_rfl

/-- The world where the loop of the third law comes round. -/
def KRel (w : World) (p : Nat) (ops : List Step) (gk : Nat) (v4 v5 : Value) (wr : World) : Prop :=
  ∃ (i : Nat) (own : Own) (D : Nat → Prop) (cs : List Tm) (bg : Option Addr) (cg : Nat), v4 = .slice bg cs.length cg ∧ v5 = .int .i64 (i : Int) ∧ i ≤ ops.length ∧ i ≤ 4398046511104 ∧ gk = ops.length + 1 - i ∧ ProgAt wr own D p cs ∧
    wr.ownsRow 0 9 1 (.slice bg cs.length cg) cs.length (strs (cs.map clauseText)) ∧ Fr No w wr ∧ (∀ k, Foot own D k → w.heap.size ≤ k) ∧ (∀ g, (Value.slice bg cs.length cg).ownBlock = some g → w.heap.size ≤ g ∧ ¬ Foot own D g ∧ g < wr.heap.size)

set_option maxRecDepth 40000 in
set_option maxHeartbeats 16000000 in
theorem keepsUpTo_any {w : World} {a : Option Addr} {cap : Nat} {ops : List Step} (hsc : ScriptAt w a ops) (hl : ops.length ≤ maxLen) :
    Calls Try.prog 7 #[.slice a ops.length cap] w fun e w' => e = .returned (.int .i64 (-1)) ∧ Fr No w w' := by
  have hml : ops.length ≤ 9223372036854775807 := by unfold maxLen at hl; omega
  obtain ⟨i0, hi0, hz0, hz1, hz2⟩ := info_parts Try.info9
  go_enter Try.func7, Try.ntmps7
  go_wp2_with fail
  refine new_any.mono ?_
  rintro e w1 ⟨own1, p, rfl, H1, F1, N1⟩
  have HS : Hid (ScriptAt w a ops) := hsc
  go_wp2_with fail
  go_loopg [4, 5] (ops.length + 1) (KRel w p ops)
  case atStart => exact ⟨0, own1, No, [], none, 0, rfl, rfl, Nat.zero_le _, by omega, rfl, H1, World.ownsRow_nil _ _ _ _, F1, N1, fun g hg => by simp [Value.ownBlock] at hg⟩
  case round =>
    clear H1 F1 N1
    obtain ⟨i, own, D, cs, bg, cg, rfl, rfl, hi, hi2, hgk, HP, HG, hf, NP, NG⟩ := hrel
    have hlen := HP.len
    by_cases hlt : i < ops.length
    case neg =>
      have d1 : decide ((i : Int) < (ops.length : Int)) = false := decide_eq_false (by omega)
      have d1' : decide (i < ops.length) = false := decide_eq_false (by omega)
      go_wp2_with fail
      go_ret
      exact ⟨rfl, hf⟩
    case pos =>
      by_cases h42 : i < 4398046511104
      case neg =>
        have d1 : decide ((i : Int) < (ops.length : Int)) = true := decide_eq_true (by omega)
        have d1' : decide (i < ops.length) = true := decide_eq_true (by omega)
        have d2 : decide ((i : Int) < 4398046511104) = false := decide_eq_false (by omega)
        have d2' : decide (i < 4398046511104) = false := decide_eq_false (by omega)
        go_wp2_with fail
        go_ret
        exact ⟨rfl, hf⟩
      case pos =>
        have d1 : decide ((i : Int) < (ops.length : Int)) = true := decide_eq_true (by omega)
        have d1' : decide (i < ops.length) = true := decide_eq_true (by omega)
        have d2 : decide ((i : Int) < 4398046511104) = true := decide_eq_true (by omega)
        have d2' : decide (i < 4398046511104) = true := decide_eq_true (by omega)
        obtain ⟨o, ho⟩ : ∃ o, ops[i]? = some o := ⟨_, List.getElem?_eq_getElem hlt⟩
        obtain ⟨blk, off, rfl, hst⟩ := HS.out i o ho
        obtain ⟨k0, k1, k2, k3, k4, k5⟩ := hst.keep hf (fun h => h)
        clear hst ho
        obtain ⟨k, A, B, C, sb, tb⟩ := o
        obtain ⟨sl, rfl⟩ : ∃ sl, sb = S sl := ⟨_, (S_of _).symm⟩
        obtain ⟨tl, rfl⟩ : ∃ tl, tb = S tl := ⟨_, (S_of _).symm⟩
        simp only at k0 k1 k2 k3 k4 k5
        go_upto_region 7 with fail
        have F1 : Fr No wr (wr.alloc (.cells #[.int .i64 k, .int .i64 A, .int .i64 B, .int .i64 C, .string (S sl), .string (S tl)] 36)) := (Fr.refl No wr).alloc _
        have hop : (wr.alloc (.cells #[.int .i64 k, .int .i64 A, .int .i64 B, .int .i64 C, .string (S sl), .string (S tl)] 36)).heap[wr.heap.size]? = some (.cells #[.int .i64 k, .int .i64 A, .int .i64 B, .int .i64 C, .string (S sl), .string (S tl)] 36) := heap_alloc_same _ _
        generalize (wr.alloc (.cells #[.int .i64 k, .int .i64 A, .int .i64 B, .int .i64 C, .string (S sl), .string (S tl)] 36)) = W1 at *
        clear k0 k1 k2 k3 k4 k5
        have P1 := HP.keep F1 (fun _ _ h => h)
        go_wp2_with fail
        refine (Show_any P1).mono ?_
        rintro e w2 ⟨rfl, F2⟩
        have P2 := P1.keep F2 (fun _ _ h => h)
        have hop2 := F2.keep hop (fun h => h)
        have HD := Do_any P2 k A B C (S sl) (S tl)
        rw [S_list, S_list] at HD
        generalize hr : doOf cs k A sl tl = r at HD
        obtain ⟨cs', E, N, S'⟩ := r
        have HD' : Hid (Calls Try.prog 14 #[.pointer (some ⟨p, 0, none⟩), .agg #[.int .i64 k, .int .i64 A, .int .i64 B, .int .i64 C, .string (S sl), .string (S tl)]] w2 (DoPost own D p (cs', E, N, S') w2)) := HD
        clear HD
        have HC := step_cases hr
        clear hr
        have c0 := cell_of 0 hop2 rfl
        have c1 := cell_of 1 hop2 rfl
        have c2 := cell_of 2 hop2 rfl
        have c3 := cell_of 3 hop2 rfl
        have c4 := cell_of 4 hop2 rfl
        have c5 := cell_of 5 hop2 rfl
        go_wp2_with fail
        refine HD'.out.mono ?_
        rintro e w3 ⟨rfl, own3, D3, P3, F3, N3⟩
        simp only [ansV]
        go_upto_region 9 with fail
        have sz1 := F1.size
        have sz2 := F2.size
        have sz3 := F3.size
        have nP : ∀ j, wr.heap.size ≤ j → ¬ Foot own D j := fun j hj hk => by have := HP.foot_lt hk; omega
        have hop4 := heap_alloc_keep (o := (.cells #[.int .i64 E, .int .i64 N, .int .i64 0, .string (S S')] 39)) (F3.keep hop2 (nP _ (Nat.le_refl _)))
        have hA4 := heap_alloc_same w3 (.cells #[.int .i64 E, .int .i64 N, .int .i64 0, .string (S S')] 39)
        have F4 : Fr No w3 (w3.alloc (.cells #[.int .i64 E, .int .i64 N, .int .i64 0, .string (S S')] 39)) := (Fr.refl No w3).alloc _
        have P4 := P3.keep F4 (fun _ _ h => h)
        generalize (w3.alloc (.cells #[.int .i64 E, .int .i64 N, .int .i64 0, .string (S S')] 39)) = W4 at *
        clear c0 c1 c2 c3 c4 c5 hop hop2 P1 P2 HD'
        go_wp2_with fail
        refine (Show_any P4).mono ?_
        rintro e w5 ⟨rfl, F5⟩
        have P5 := P4.keep F5 (fun _ _ h => h)
        have hop5 := F5.keep hop4 (fun h => h)
        have hA5 := F5.keep hA4 (fun h => h)
        have F25 : Fr (Foot own D) w2 w5 := (F3.trans F4 (fun _ _ h => h.elim)).trans F5 (fun _ _ h => h.elim)
        have Fr5 : Fr (Foot own D) wr w5 := ((F1.mono (fun _ _ h => h.elim)).trans F2 (fun _ _ h => h.elim)).trans F25 (fun _ _ h => h)
        have FF : Fr No w w5 := hf.trans Fr5 (fun k hk e => by have := NP k e; omega)
        have G5 : w5.ownsRow 0 9 1 (.slice bg cs.length cg) cs.length (strs (cs.map clauseText)) := ownsRow_keep HG Fr5 (fun g hg e => (NG g hg).2.1 e)
        have NP5 : ∀ k, Foot own3 D3 k → w.heap.size ≤ k := fun k hk => by
          rcases N3 k hk with h' | h'
          · exact NP k h'
          · have := hf.size; omega
        have NG5 : ∀ g, (Value.slice bg cs.length cg).ownBlock = some g → w.heap.size ≤ g ∧ ¬ Foot own3 D3 g ∧ g < w5.heap.size ∧ g < wr.heap.size := fun g hg => by
          obtain ⟨e1, e2, e3⟩ := NG g hg
          have := Fr5.size
          refine ⟨e1, fun hk => ?_, by omega, e3⟩
          rcases N3 g hk with h' | h'
          · exact e2 h'
          · omega
        have hsl := S_size sl
        have htl := S_size tl
        have c0 := cell_of 0 hop5 rfl
        have c1 := cell_of 1 hop5 rfl
        have c4 := cell_of 4 hop5 rfl
        have c5 := cell_of 5 hop5 rfl
        have a0 := cell_of 0 hA5 rfl
        have a1 := cell_of 1 hA5 rfl
        have a3 := cell_of 3 hA5 rfl
        clear hop4 hA4 P4 F5 F4 P3 F3 F2 F1 F25
        have HSH : Hid (∀ w', Fr No w5 w' → Calls Try.prog 18 #[.slice bg cs.length cg] w' fun e w'' => e = .returned (.string (S (showOf cs))) ∧ w'' = w') := fun w' hF => by
          have hG := ownsRow_keep G5 hF (fun _ _ h => h)
          have e1 : cs.length = (cs.map clauseText).length := by simp
          have := shown_any (w := w') (bs := bg) (cap := cg) (L := cs.map clauseText) (by rw [← e1]; exact hG) (by rw [← e1]; exact hlen) (fun l hl => by
            obtain ⟨t, ht, rfl⟩ := List.mem_map.1 hl
            exact (HP.shape ht).2.1)
          rw [shown_show, ← e1] at this
          exact this
        rcases HC with ⟨rfl, rfl, rfl, rfl, rfl, h40⟩ | ⟨rfl, rfl, rfl, rfl, rfl, h40⟩ | ⟨rfl, rfl, rfl, rfl, rfl, h40, h8⟩ | ⟨u, rfl, rfl, rfl, rfl, rfl, h40, h8, hpa⟩ | ⟨rfl, rfl, rfl, rfl, rfl⟩ | ⟨rfl, rfl, rfl, rfl, rfl, h40⟩ | ⟨rfl, rfl, rfl, rfl, rfl, h40⟩ | ⟨u, rfl, rfl, rfl, rfl, rfl, h40, hpa⟩ | ⟨rfl, rfl, rfl, rfl, rfl, hA⟩ | ⟨j, u, rfl, rfl, rfl, rfl, rfl, rfl, hcj⟩ | ⟨rfl, rfl, rfl, rfl, rfl, hA⟩ | ⟨j, u, rfl, rfl, rfl, rfl, rfl, rfl, hcj⟩ | ⟨rfl, rfl, rfl, rfl, rfl⟩ | ⟨rfl, rfl, rfl, rfl, rfl⟩ | ⟨rfl, rfl, rfl, rfl, rfl⟩ | ⟨rfl, rfl, rfl, rfl, rfl⟩ | ⟨hk, rfl, rfl, rfl, rfl⟩
        · as_aux_lemma =>
          have l1 : decide ((40 : Int) < (sl.length : Int)) = true := decide_eq_true (by omega)
          have l2 : decide (40 < sl.length) = true := decide_eq_true (by omega)
          rw [S_nil] at a3
          go_wp2_with fail
          go_roundg (ops.length + 1 - (i + 1))
          case measure => omega
          case rel => exact ⟨i + 1, own3, D3, cs', bg, cg, rfl, by go_num, by omega, by omega, rfl, P5, G5, FF, NP5, fun g hg => ⟨(NG5 g hg).1, (NG5 g hg).2.1, (NG5 g hg).2.2.1⟩⟩
        · as_aux_lemma =>
          have l1 : decide ((40 : Int) < (sl.length : Int)) = false := decide_eq_false (by omega)
          have l2 : decide (40 < sl.length) = false := decide_eq_false (by omega)
          rw [S_nil] at a3
          go_wp2_with fail
          go_roundg (ops.length + 1 - (i + 1))
          case measure => omega
          case rel => exact ⟨i + 1, own3, D3, cs', bg, cg, rfl, by go_num, by omega, by omega, rfl, P5, G5, FF, NP5, fun g hg => ⟨(NG5 g hg).1, (NG5 g hg).2.1, (NG5 g hg).2.2.1⟩⟩
        · as_aux_lemma =>
          have l1 : decide ((40 : Int) < (sl.length : Int)) = false := decide_eq_false (by omega)
          have l2 : decide (40 < sl.length) = false := decide_eq_false (by omega)
          have m1 : decide ((cs'.length : Int) < 8) = false := decide_eq_false (by omega)
          have m2 : decide (cs'.length < 8) = false := decide_eq_false (by omega)
          rw [S_nil] at a3
          go_wp2_with fail
          go_roundg (ops.length + 1 - (i + 1))
          case measure => omega
          case rel => exact ⟨i + 1, own3, D3, cs', bg, cg, rfl, by go_num, by omega, by omega, rfl, P5, G5, FF, NP5, fun g hg => ⟨(NG5 g hg).1, (NG5 g hg).2.1, (NG5 g hg).2.2.1⟩⟩
        · as_aux_lemma =>
          have l1 : decide ((40 : Int) < (sl.length : Int)) = false := decide_eq_false (by omega)
          have l2 : decide (40 < sl.length) = false := decide_eq_false (by omega)
          have m1 : decide ((cs.length : Int) < 8) = true := decide_eq_true (by omega)
          have m2 : decide (cs.length < 8) = true := decide_eq_true (by omega)
          have HB : Hid (clauseText u = sl) := parse_back hpa
          have HSpell : Hid (∀ w', Calls Try.prog 16 #[.string (S (codeOf u)), .string (S sl), .int .u8 58] w' fun e w'' => e = .returned (.bool true) ∧ Fr No w' w'') := fun w' => spells_any hpa h40
          rw [S_nil] at a3
          have hrow5 := ownsRow_keep G5 ((Fr.refl No w5).alloc (.cells #[.string (S sl)] 9)) (fun _ _ h => h)
          have hnb : (w5.alloc (.cells #[.string (S sl)] 9)).heap[w5.heap.size]? = some (.cells #[.string (S sl)] 9) := heap_alloc_same _ _
          clear hpa
          go_upto_region 30 with (at_builtin; refine wpList_append_lies _ (by rfl) _ _ 34 (by rfl) 0 9 i0 (.string { data := #[] }) 1 16 Try.underlying34 hi0 hz0 hz1 hz2 rfl (by omega) _ cs.length (strs (cs.map clauseText)) (by rfl) hrow5 ⟨w5.heap.size, 0, none⟩ 1 1 [.string (S sl)] (by rfl) (by rfl) (World.news_of_block (cs := #[.string (S sl)]) hnb) (by simp [Value.oneCell']) (by omega) (by unfold maxLen; omega) (by omega) (Nat.zero_le _) (w5.heap.size + 1) (by simp) ?_; intro g cap2 w6 hown6 hgrow6 hat6 hlt6)
          have F56 : Fr (fun k => (Value.slice bg cs.length cg).ownBlock = some k) w5 w6 := Fr.grown ((Fr.refl _ w5).alloc _) hgrow6 (fun k hk _ => hk)
          have P6 := P5.keep F56 (fun k hk e => (NG5 k e).2.1 hk)
          have hop6 := F56.keep hop5 (fun e => by have := (NG5 _ e).2.2.2; omega)
          have hA6 := F56.keep hA5 (fun e => by have := (NG5 _ e).2.2.2; omega)
          have F6 : Fr No w w6 := FF.trans F56 (fun k hk e => by have := (NG5 k e).1; omega)
          have hgw : w.heap.size ≤ g ∧ ¬ Foot own3 D3 g := by
            rcases hat6 with e | e
            · exact ⟨(NG5 g e).1, (NG5 g e).2.1⟩
            · have := FF.size
              exact ⟨by omega, fun hk => by have := P5.foot_lt hk; omega⟩
          have G6 : w6.ownsRow 0 9 1 (.slice (some ⟨g, 0, none⟩) (cs ++ [u]).length cap2) (cs ++ [u]).length (strs ((cs ++ [u]).map clauseText)) := by
            have e : strs ((cs ++ [u]).map clauseText) = strs (cs.map clauseText) ++ [.string (S sl)] := by simp [strs, HB.out]
            rw [e, List.length_append]
            exact hown6
          have HCode : Hid (Calls Try.prog 15 #[.pointer (some ⟨p, 0, none⟩), .int .i64 (cs.length : Int)] w6 fun e w' => e = .returned (.tuple #[.string (S (codeOf u)), .int .i64 0]) ∧ Fr No w6 w') := by
            have ca : codeAns (cs ++ [u]) (cs.length : Int) = (codeOf u, 0) := by
              unfold codeAns
              rw [if_neg (by omega), Int.toNat_natCast]
              simp
            have := Code_any P6 (cs.length : Int)
            rw [ca] at this
            exact this
          have hl6 := P6.len
          have HSH6 : Hid (∀ w', Fr No w6 w' → Calls Try.prog 18 #[.slice (some ⟨g, 0, none⟩) (cs.length + 1) cap2] w' fun e w'' => e = .returned (.string (S (showOf (cs ++ [u])))) ∧ w'' = w') := fun w' hF => by
            have hG := ownsRow_keep G6 hF (fun _ _ h => h)
            have e1 : (cs ++ [u]).length = ((cs ++ [u]).map clauseText).length := by rw [List.length_map]
            have := shown_any (w := w') (bs := some ⟨g, 0, none⟩) (cap := cap2) (L := (cs ++ [u]).map clauseText) (by rw [← e1]; exact hG) (by rw [← e1]; exact hl6) (fun l hl => by
              obtain ⟨t, ht, rfl⟩ := List.mem_map.1 hl
              exact (P6.shape ht).2.1)
            rw [shown_show, ← e1, List.length_append] at this
            exact this
          clear c0 c1 c4 c5 a0 a1 a3 hown6 hgrow6 hat6 hrow5 hnb HSH
          have c64 := cell_of 4 hop6 rfl
          have a61 := cell_of 1 hA6 rfl
          have c60 := cell_of 0 hop6 rfl
          go_wp2_with fail
          refine HCode.out.mono ?_
          rintro e w7 ⟨rfl, F7⟩
          have hop7 := F7.keep hop6 (fun h => h)
          clear c64 a61 c60
          have c74 := cell_of 4 hop7 rfl
          have c70 := cell_of 0 hop7 rfl
          go_wp2_with fail
          refine (HSpell.out _).mono ?_
          rintro e w8 ⟨rfl, F8⟩
          have F68 := F7.trans F8 (fun _ _ h => h)
          have hop8 := F8.keep hop7 (fun h => h)
          clear c74 c70
          have c80 := cell_of 0 hop8 rfl
          go_wp2_with fail
          refine (HSH6.out _ F68).mono ?_
          rintro e w9 ⟨rfl, rfl⟩
          go_wp2_with fail
          go_roundg (ops.length + 1 - (i + 1))
          case measure => omega
          case rel => exact ⟨i + 1, own3, D3, cs ++ [u], some ⟨g, 0, none⟩, cap2, by simp, by go_num, by omega, by omega, rfl, P6.keep F68 (fun _ _ h => h), ownsRow_keep G6 F68 (fun _ _ h => h), F6.trans F68 (fun _ _ h => h), NP5, fun g' hg' => by
            have e : g = g' := by simpa [Value.ownBlock] using hg'
            subst e
            have := F68.size
            exact ⟨hgw.1, hgw.2, by omega⟩⟩
        · as_aux_lemma =>
          rw [S_nil] at a3
          have HSH0 : Hid (∀ w', Calls Try.prog 18 #[.slice none 0 0] w' fun e w'' => e = .returned (.string (S (showOf []))) ∧ w'' = w') := fun w' => shown_any (L := []) (World.ownsRow_nil _ _ _ _) (by simp) (by simp)
          go_wp2_with fail
          refine (HSH0.out _).mono ?_
          rintro e w9 ⟨rfl, rfl⟩
          go_wp2_with fail
          go_roundg (ops.length + 1 - (i + 1))
          case measure => omega
          case rel => exact ⟨i + 1, own3, D3, [], none, 0, rfl, by go_num, by omega, by omega, rfl, P5, World.ownsRow_nil _ _ _ _, FF, NP5, fun g hg => by simp [Value.ownBlock] at hg⟩
        · as_aux_lemma =>
          have l1 : decide ((40 : Int) < (sl.length : Int)) = true := decide_eq_true (by omega)
          have l2 : decide (40 < sl.length) = true := decide_eq_true (by omega)
          rw [S_nil] at a3
          go_wp2_with fail
          go_roundg (ops.length + 1 - (i + 1))
          case measure => omega
          case rel => exact ⟨i + 1, own3, D3, cs', bg, cg, rfl, by go_num, by omega, by omega, rfl, P5, G5, FF, NP5, fun g hg => ⟨(NG5 g hg).1, (NG5 g hg).2.1, (NG5 g hg).2.2.1⟩⟩
        · as_aux_lemma =>
          have l1 : decide ((40 : Int) < (sl.length : Int)) = false := decide_eq_false (by omega)
          have l2 : decide (40 < sl.length) = false := decide_eq_false (by omega)
          rw [S_nil] at a3
          go_wp2_with fail
          go_roundg (ops.length + 1 - (i + 1))
          case measure => omega
          case rel => exact ⟨i + 1, own3, D3, cs', bg, cg, rfl, by go_num, by omega, by omega, rfl, P5, G5, FF, NP5, fun g hg => ⟨(NG5 g hg).1, (NG5 g hg).2.1, (NG5 g hg).2.2.1⟩⟩
        · as_aux_lemma =>
          have l1 : decide ((40 : Int) < (sl.length : Int)) = false := decide_eq_false (by omega)
          have l2 : decide (40 < sl.length) = false := decide_eq_false (by omega)
          have HSpell : Hid (∀ w', Calls Try.prog 16 #[.string (S (codeOf u)), .string (S sl), .int .u8 63] w' fun e w'' => e = .returned (.bool true) ∧ Fr No w' w'') := fun w' => spells_any hpa h40
          clear hpa
          go_wp2_with fail
          refine (HSpell.out _).mono ?_
          rintro e w8 ⟨rfl, F8⟩
          have hop8 := F8.keep hop5 (fun h => h)
          clear c0 c1 c4 c5 a0 a1 a3
          have c80 := cell_of 0 hop8 rfl
          go_wp2_with fail
          refine (HSH.out _ F8).mono ?_
          rintro e w9 ⟨rfl, rfl⟩
          go_wp2_with fail
          go_roundg (ops.length + 1 - (i + 1))
          case measure => omega
          case rel => exact ⟨i + 1, own3, D3, cs', _, _, rfl, by go_num, by omega, by omega, rfl, P5.keep F8 (fun _ _ h => h), ownsRow_keep G5 F8 (fun _ _ h => h), FF.trans F8 (fun _ _ h => h), NP5, fun g hg => ⟨(NG5 g hg).1, (NG5 g hg).2.1, by have := (NG5 g hg).2.2.1; have := Fr.size F8; omega⟩⟩
        · as_aux_lemma =>
          by_cases hA0 : A < 0
          · have e0 : decide (A < 0) = true := decide_eq_true hA0
            rw [S_nil] at a3
            go_wp2_with fail
            go_roundg (ops.length + 1 - (i + 1))
            case measure => omega
            case rel => exact ⟨i + 1, own3, D3, cs', bg, cg, rfl, by go_num, by omega, by omega, rfl, P5, G5, FF, NP5, fun g hg => ⟨(NG5 g hg).1, (NG5 g hg).2.1, (NG5 g hg).2.2.1⟩⟩
          · have e0 : decide (A < 0) = false := decide_eq_false hA0
            have e1 : decide ((cs'.length : Int) ≤ A) = true := decide_eq_true (by omega)
            rw [S_nil] at a3
            go_wp2_with fail
            go_roundg (ops.length + 1 - (i + 1))
            case measure => omega
            case rel => exact ⟨i + 1, own3, D3, cs', bg, cg, rfl, by go_num, by omega, by omega, rfl, P5, G5, FF, NP5, fun g hg => ⟨(NG5 g hg).1, (NG5 g hg).2.1, (NG5 g hg).2.2.1⟩⟩
        · as_aux_lemma =>
          have hjl : j < cs'.length := (List.getElem?_eq_some_iff.1 hcj).1
          have e0 : decide ((j : Int) < 0) = false := decide_eq_false (by omega)
          have e1 : decide ((cs'.length : Int) ≤ (j : Int)) = false := decide_eq_false (by omega)
          have e1' : decide (cs'.length ≤ j) = false := decide_eq_false (by omega)
          obtain ⟨g0, cap0, hv0, _, _⟩ := G5.form (by omega)
          simp only [Value.slice.injEq, true_and] at hv0
          obtain ⟨rfl, rfl⟩ := hv0
          have cg0 := owns_cell G5 j (.string (S (clauseText u))) (by simp [strs, hcj])
          rw [add_zero_addr] at cg0
          clear hcj
          go_upto_region 42 with fail
          go_quiet (fail)
          generalize hW : World.drewN w5 _ = W8
          have F8 : Fr No w5 W8 := hW ▸ (Fr.refl No w5).drewN _
          clear hW
          have hop8 := F8.keep hop5 (fun h => h)
          clear c0 c1 c4 c5 a0 a1 a3
          have c80 := cell_of 0 hop8 rfl
          go_wp2_with fail
          refine (HSH.out _ F8).mono ?_
          rintro e w9 ⟨rfl, rfl⟩
          go_wp2_with fail
          go_roundg (ops.length + 1 - (i + 1))
          case measure => omega
          case rel => exact ⟨i + 1, own3, D3, cs', _, _, rfl, by go_num, by omega, by omega, rfl, P5.keep F8 (fun _ _ h => h), ownsRow_keep G5 F8 (fun _ _ h => h), FF.trans F8 (fun _ _ h => h), NP5, fun g hg => ⟨(NG5 g hg).1, (NG5 g hg).2.1, by have := (NG5 g hg).2.2.1; have := Fr.size F8; omega⟩⟩
        · as_aux_lemma =>
          by_cases hA0 : A < 0
          · have e0 : decide (A < 0) = true := decide_eq_true hA0
            rw [S_nil] at a3
            go_wp2_with fail
            go_roundg (ops.length + 1 - (i + 1))
            case measure => omega
            case rel => exact ⟨i + 1, own3, D3, cs', bg, cg, rfl, by go_num, by omega, by omega, rfl, P5, G5, FF, NP5, fun g hg => ⟨(NG5 g hg).1, (NG5 g hg).2.1, (NG5 g hg).2.2.1⟩⟩
          · have e0 : decide (A < 0) = false := decide_eq_false hA0
            have e1 : decide ((cs'.length : Int) ≤ A) = true := decide_eq_true (by omega)
            rw [S_nil] at a3
            go_wp2_with fail
            go_roundg (ops.length + 1 - (i + 1))
            case measure => omega
            case rel => exact ⟨i + 1, own3, D3, cs', bg, cg, rfl, by go_num, by omega, by omega, rfl, P5, G5, FF, NP5, fun g hg => ⟨(NG5 g hg).1, (NG5 g hg).2.1, (NG5 g hg).2.2.1⟩⟩
        · as_aux_lemma =>
          have hjl : j < cs'.length := (List.getElem?_eq_some_iff.1 hcj).1
          have e0 : decide ((j : Int) < 0) = false := decide_eq_false (by omega)
          have e1 : decide ((cs'.length : Int) ≤ (j : Int)) = false := decide_eq_false (by omega)
          have e1' : decide (cs'.length ≤ j) = false := decide_eq_false (by omega)
          obtain ⟨g0, cap0, hv0, _, _⟩ := G5.form (by omega)
          simp only [Value.slice.injEq, true_and] at hv0
          obtain ⟨rfl, rfl⟩ := hv0
          have cg0 := owns_cell G5 j (.string (S (clauseText u))) (by simp [strs, hcj])
          rw [add_zero_addr] at cg0
          obtain ⟨sx, hsx, hpx⟩ := HP.fine u (List.mem_of_getElem? hcj)
          have hbx := parse_back hpx
          subst hbx
          have HSpell : Hid (∀ w', Calls Try.prog 16 #[.string (S (codeOf u)), .string (S (clauseText u)), .int .u8 58] w' fun e w'' => e = .returned (.bool true) ∧ Fr No w' w'') := fun w' => spells_any hpx hsx
          clear hcj hpx
          go_upto_region 39 with fail
          go_region_held3 (fun w' => w'.cell? ⟨w3.heap.size, 3, none⟩ = some (.string (S (codeOf u))) ∧ w'.cell? ⟨wr.heap.size, 1, none⟩ = some (.int .i64 (j : Int)) ∧ w'.cell? ⟨g0, j, none⟩ = some (.string (S (clauseText u))))
            (first | exact S9 | go_keep)
            (first | (go_at_call 16; refine (HSpell.out _).mono ?_; rintro e w8 ⟨rfl, hf8⟩; have F8 : Fr No w5 w8 := ((Fr.refl No w5).drew).trans hf8 (fun _ _ h => h); have S9 : w8.cell? ⟨w3.heap.size, 3, none⟩ = some (.string (S (codeOf u))) ∧ w8.cell? ⟨wr.heap.size, 1, none⟩ = some (.int .i64 (j : Int)) ∧ w8.cell? ⟨g0, j, none⟩ = some (.string (S (clauseText u))) := ⟨F8.cellNo a3, F8.cellNo c1, F8.cellNo cg0⟩))
          have hop8 := F8.keep hop5 (fun h => h)
          clear c0 c1 c4 c5 a0 a1 a3
          have c80 := cell_of 0 hop8 rfl
          go_wp2_with fail
          refine (HSH.out _ F8).mono ?_
          rintro e w9 ⟨rfl, rfl⟩
          go_wp2_with fail
          go_roundg (ops.length + 1 - (i + 1))
          case measure => omega
          case rel => exact ⟨i + 1, own3, D3, cs', _, _, rfl, by go_num, by omega, by omega, rfl, P5.keep F8 (fun _ _ h => h), ownsRow_keep G5 F8 (fun _ _ h => h), FF.trans F8 (fun _ _ h => h), NP5, fun g hg => ⟨(NG5 g hg).1, (NG5 g hg).2.1, by have := (NG5 g hg).2.2.1; have := Fr.size F8; omega⟩⟩
        · as_aux_lemma =>
          have HMat : Hid (Calls Try.prog 17 #[.pointer (some ⟨p, 0, none⟩), .string (S sl), .string (S tl), .string (S (matchOf cs' sl tl))] w5 fun e w' => e = .returned (.bool true) ∧ Fr No w5 w') := matches_any P5 sl tl
          go_wp2_with fail
          refine HMat.out.mono ?_
          rintro e w8 ⟨rfl, F8⟩
          have hop8 := F8.keep hop5 (fun h => h)
          clear c0 c1 c4 c5 a0 a1 a3
          have c80 := cell_of 0 hop8 rfl
          go_wp2_with fail
          refine (HSH.out _ F8).mono ?_
          rintro e w9 ⟨rfl, rfl⟩
          go_wp2_with fail
          go_roundg (ops.length + 1 - (i + 1))
          case measure => omega
          case rel => exact ⟨i + 1, own3, D3, cs', _, _, rfl, by go_num, by omega, by omega, rfl, P5.keep F8 (fun _ _ h => h), ownsRow_keep G5 F8 (fun _ _ h => h), FF.trans F8 (fun _ _ h => h), NP5, fun g hg => ⟨(NG5 g hg).1, (NG5 g hg).2.1, by have := (NG5 g hg).2.2.1; have := Fr.size F8; omega⟩⟩
        · as_aux_lemma =>
          rw [S_nil] at a3
          have F8 : Fr No w5 w5 := Fr.refl _ _
          go_wp2_with fail
          refine (HSH.out _ F8).mono ?_
          rintro e w9 ⟨rfl, rfl⟩
          go_wp2_with fail
          go_roundg (ops.length + 1 - (i + 1))
          case measure => omega
          case rel => exact ⟨i + 1, own3, D3, cs', _, _, rfl, by go_num, by omega, by omega, rfl, P5.keep F8 (fun _ _ h => h), ownsRow_keep G5 F8 (fun _ _ h => h), FF.trans F8 (fun _ _ h => h), NP5, fun g hg => ⟨(NG5 g hg).1, (NG5 g hg).2.1, by have := (NG5 g hg).2.2.1; have := Fr.size F8; omega⟩⟩
        · as_aux_lemma =>
          have F8 : Fr No w5 w5 := Fr.refl _ _
          go_wp2_with fail
          refine (HSH.out _ F8).mono ?_
          rintro e w9 ⟨rfl, rfl⟩
          go_wp2_with fail
          go_roundg (ops.length + 1 - (i + 1))
          case measure => omega
          case rel => exact ⟨i + 1, own3, D3, cs', _, _, rfl, by go_num, by omega, by omega, rfl, P5.keep F8 (fun _ _ h => h), ownsRow_keep G5 F8 (fun _ _ h => h), FF.trans F8 (fun _ _ h => h), NP5, fun g hg => ⟨(NG5 g hg).1, (NG5 g hg).2.1, by have := (NG5 g hg).2.2.1; have := Fr.size F8; omega⟩⟩
        · as_aux_lemma =>
          rw [S_nil] at a3
          have F8 : Fr No w5 w5 := Fr.refl _ _
          go_wp2_with fail
          refine (HSH.out _ F8).mono ?_
          rintro e w9 ⟨rfl, rfl⟩
          go_wp2_with fail
          go_roundg (ops.length + 1 - (i + 1))
          case measure => omega
          case rel => exact ⟨i + 1, own3, D3, cs', _, _, rfl, by go_num, by omega, by omega, rfl, P5.keep F8 (fun _ _ h => h), ownsRow_keep G5 F8 (fun _ _ h => h), FF.trans F8 (fun _ _ h => h), NP5, fun g hg => ⟨(NG5 g hg).1, (NG5 g hg).2.1, by have := (NG5 g hg).2.2.1; have := Fr.size F8; omega⟩⟩
        · as_aux_lemma =>
          rw [S_nil] at a3
          have q1 : (k == 1) = false := beq_eq_false_iff_ne.2 (by omega)
          have q2 : (k == 2) = false := beq_eq_false_iff_ne.2 (by omega)
          have q3 : (k == 3) = false := beq_eq_false_iff_ne.2 (by omega)
          have q4 : (k == 4) = false := beq_eq_false_iff_ne.2 (by omega)
          have q5 : (k == 5) = false := beq_eq_false_iff_ne.2 (by omega)
          have q6 : (k == 6) = false := beq_eq_false_iff_ne.2 (by omega)
          have q7 : (k == 7) = false := beq_eq_false_iff_ne.2 (by omega)
          have q9 : (k == 9) = false := beq_eq_false_iff_ne.2 (by omega)
          by_cases h3 : 3 ≤ k
          · have t1 : decide ((3 : Int) ≤ k) = true := decide_eq_true h3
            have F8 : Fr No w5 w5 := Fr.refl _ _
            go_wp2_with fail
            refine (HSH.out _ F8).mono ?_
            rintro e w9 ⟨rfl, rfl⟩
            go_wp2_with fail
            go_roundg (ops.length + 1 - (i + 1))
            case measure => omega
            case rel => exact ⟨i + 1, own3, D3, cs', _, _, rfl, by go_num, by omega, by omega, rfl, P5.keep F8 (fun _ _ h => h), ownsRow_keep G5 F8 (fun _ _ h => h), FF.trans F8 (fun _ _ h => h), NP5, fun g hg => ⟨(NG5 g hg).1, (NG5 g hg).2.1, by have := (NG5 g hg).2.2.1; have := Fr.size F8; omega⟩⟩
          · have t1 : decide ((3 : Int) ≤ k) = false := decide_eq_false h3
            have t2 : decide (k < 1) = true := decide_eq_true (by omega)
            have F8 : Fr No w5 w5 := Fr.refl _ _
            go_wp2_with fail
            refine (HSH.out _ F8).mono ?_
            rintro e w9 ⟨rfl, rfl⟩
            go_wp2_with fail
            go_roundg (ops.length + 1 - (i + 1))
            case measure => omega
            case rel => exact ⟨i + 1, own3, D3, cs', _, _, rfl, by go_num, by omega, by omega, rfl, P5.keep F8 (fun _ _ h => h), ownsRow_keep G5 F8 (fun _ _ h => h), FF.trans F8 (fun _ _ h => h), NP5, fun g hg => ⟨(NG5 g hg).1, (NG5 g hg).2.1, by have := (NG5 g hg).2.2.1; have := Fr.size F8; omega⟩⟩
end Go.Proofs.Qxb6500302a
