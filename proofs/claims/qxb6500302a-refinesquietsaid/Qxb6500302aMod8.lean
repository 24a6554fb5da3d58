import Derived.Test.Qxb6500302aMod7
namespace Go.Proofs.Qxb6500302a.M
open Go.RowKit
set_option linter.unusedSimpArgs false
set_option linter.unusedVariables false
attribute [local go_sem ↓] Go.wp_at_zero Go.wp_at_succ
attribute [-go_sem] Go.run_string_add_if Go.run_index_string Go.run_slice_string_if

theorem eqC {x c : UInt8} {k : Int} (hk : (c.toNat : Int) = k) (h : x = c) : (((x.toNat : Int) != k) = false) ∧ (((x.toNat : Int) == k) = true) := by subst h; rw [← hk]; simp
theorem neqC {x c : UInt8} {k : Int} (hk : (c.toNat : Int) = k) (h : ¬ x = c) : (((x.toNat : Int) != k) = true) ∧ (((x.toNat : Int) == k) = false) := by
  have r : ((x.toNat : Int) == k) = false := by rw [← hk, toNat_eqI, decide_eq_false h]
  exact ⟨by show (!_) = true; rw [r]; rfl, r⟩

section
variable {w : World} {s : List UInt8}

set_option maxRecDepth 40000 in
set_option maxHeartbeats 4000000 in
theorem compile_c (hs : s.length ≤ 40) : Calls Try.prog 65 #[.string (S s), .bool false] w fun e w' => e = .returned (.tuple #[.string (S (compOf false s).1), .bool (compOf false s).2]) ∧ Fr No w w' := by
  have hsz := S_size s
  go_enter Try.func65, Try.ntmps65
  go_wp2_with fail
  have h0 : RdAt (w.alloc (.cells #[.string (S s), .int .i64 0, .string { data := #[] }, .bool false] 119)) w.heap.size s 0 [] false := heap_alloc_same _ _
  have F0 : Fr No w (w.alloc (.cells #[.string (S s), .int .i64 0, .string { data := #[] }, .bool false] 119)) := (Fr.refl No w).alloc _
  generalize (w.alloc (.cells #[.string (S s), .int .i64 0, .string { data := #[] }, .bool false] 119)) = W0 at *
  refine (term_any (s.length + 1) (by omega) W0 w.heap.size s 0 [] true h0 hs (by omega) (by simp) (by simp)).mono ?_
  rintro e w1 ⟨head, p', vs', bad', rfl, h1, F1, hol, H⟩
  rw [List.drop_zero] at hol H
  simp only [if_true] at H
  have F01 : Fr No w w1 := F0.trans F1 (fun k hk e => by omega)
  have c1 := h1.c1
  have c3 := h1.c3
  rcases H with ⟨rfl, hp', hv', _, t, hc, ho⟩ | ⟨rfl, hp', hv', hb⟩
  · by_cases hend : p' = s.length
    · have q1 : ((p' : Int) != ((S s).size : Int)) = false := by rw [hsz, hend]; simp
      have q1' : ((p' : Int) == ((S s).size : Int)) = true := by rw [hsz, hend]; simp
      have q2 : ((p' : Int) != (s.length : Int)) = false := by rw [hend]; simp
      have q2' : ((p' : Int) == (s.length : Int)) = true := by rw [hend]; simp
      have HC : Hid (compOf false s = (58 :: 49 :: head, true)) := by
        show _ = _
        unfold compOf
        rw [parseC_fact (h := t) (vs := vs') (by rw [hc, (drop_nil_iff hp').2 hend]) hv']
        simp only [codeOf_tCall, ho]
        simp [digit]
      have a1 : ∀ w, (Op.stringOp .add { data := #[58, 49] } (S head)).run Try.prog w = .ok (.string (S (58 :: 49 :: head))) w := fun w => add_S [58, 49] head (by simp; omega) w
      clear hc ho hend
      go_wp2_with fail
      go_ret2
      rw [HC.out]
      exact ⟨rfl, F01⟩
    · have q1 : ((p' : Int) != ((S s).size : Int)) = true := by rw [hsz, bne_iff_ne]; omega
      have q1' : ((p' : Int) == ((S s).size : Int)) = false := by rw [hsz, beq_eq_false_iff_ne]; omega
      have q2 : ((p' : Int) != (s.length : Int)) = true := by rw [bne_iff_ne]; omega
      have q2' : ((p' : Int) == (s.length : Int)) = false := by rw [beq_eq_false_iff_ne]; omega
      have HN : Hid (¬ s.drop p' = []) := fun e => hend ((drop_nil_iff hp').1 e)
      have HCc : Hid (rCall (s.length + 1) s [] = some (t, s.drop p', vs')) := hc
      have HO : Hid (head = codeOf t) := ho
      clear hc ho hend
      by_cases h58 : hd (s.drop p') = 58
      · obtain ⟨r1, r1'⟩ := eqC (k := 58) rfl h58
        have hpl : p' < s.length := drop_lt h58 (by decide)
        have H58 : Hid (hd (s.drop p') = 58) := h58
        clear h58
        by_cases h45 : hd (s.drop (p' + 1)) = 45
        · obtain ⟨r2, r2'⟩ := eqC (k := 45) rfl h45
          have hpl2 : p' + 1 < s.length := drop_lt h45 (by decide)
          have H45 : Hid (hd (s.drop (p' + 1)) = 45) := h45
          clear h45
          go_wp2_with fail
          refine (peek_any h1 (by omega) hs).mono ?_
          rintro e w2 ⟨rfl, F2⟩
          have h2 := h1.keep F2 (fun h => h)
          have c21 := h2.c1
          have z21 := h2.z1
          go_wp2_with fail
          refine (peek_any h2.pos (by omega) hs).mono ?_
          rintro e w3 ⟨rfl, F3⟩
          have h3 := h2.pos.keep F3 (fun h => h)
          have c31 := h3.c1
          have z31 := h3.z1
          have F03 : Fr No w w3 := ((F01.trans F2 (fun _ _ h => h)).setCell (fun h => by simp at h) _).trans F3 (fun _ _ h => h)
          go_wp2_with fail
          refine (goals_any (n := s.length + 1) (k := s.length + 1) (by omega) h3.pos hs (by omega) hv' (by simp; omega) (by simp; omega)).mono ?_
          rintro e w4 ⟨out, nn, p4, vs4, bad4, rfl, h4, F4, hol4, hnn4, H4⟩
          have F04 : Fr No w w4 := (F03.setCell (fun h => by simp at h) _).trans F4 (fun k hk e => by omega)
          have c41 := h4.c1
          have c43 := h4.c3
          rcases H4 with ⟨rfl, hp4, hv4, ts, hr, hot, hnt⟩ | ⟨rfl, hb⟩
          · by_cases hend4 : p4 = s.length
            · have u1 : ((p4 : Int) != ((S s).size : Int)) = false := by rw [hsz, hend4]; simp
              have u1' : ((p4 : Int) == ((S s).size : Int)) = true := by rw [hsz, hend4]; simp
              have u2 : ((p4 : Int) != (s.length : Int)) = false := by rw [hend4]; simp
              have u2' : ((p4 : Int) == (s.length : Int)) = true := by rw [hend4]; simp
              have hr' : rGoals (s.length + 1) (s.length + 1) (s.drop p').tail.tail vs' = some (ts, [], vs4) := by rw [← drop_next, ← drop_next, hr, (drop_nil_iff hp4).2 hend4]
              by_cases h3' : nn ≤ 3
              · have e3 : decide ((3 : Int) < (nn : Int)) = false := decide_eq_false (by omega)
                have e3' : decide (3 < nn) = false := decide_eq_false (by omega)
                have HC : Hid (compOf false s = (58 :: digit (nn + 1) :: (head ++ out), true)) := by
                  show _ = _
                  unfold compOf
                  rw [parseC_rule HCc.out HN.out H58.out (by rw [← drop_next]; exact H45.out) hr' hv4 (by omega)]
                  simp only [codeOf_tCall, hot, hnt, HO.out, List.map_cons, List.flatten_cons, List.length_cons]
                have dg := fun w => dig5_slice (k := nn) (by omega) w
                have a1 : ∀ w, (Op.stringOp .add { data := #[58] } (S [digit (nn + 1)])).run Try.prog w = .ok (.string (S [58, digit (nn + 1)])) w := fun w => add_S [58] [digit (nn + 1)] (by simp) w
                have a2 : ∀ w, (Op.stringOp .add (S [58, digit (nn + 1)]) (S head)).run Try.prog w = .ok (.string (S (58 :: digit (nn + 1) :: head))) w := fun w => add_S [58, digit (nn + 1)] head (by simp; omega) w
                have a3 : ∀ w, (Op.stringOp .add (S (58 :: digit (nn + 1) :: head)) (S out)).run Try.prog w = .ok (.string (S (58 :: digit (nn + 1) :: (head ++ out)))) w := fun w => add_S (58 :: digit (nn + 1) :: head) out (by simp; omega) w
                clear hr hr' hot hnt hend4
                go_wp2_with fail
                go_ret2
                rw [HC.out]
                exact ⟨rfl, F04⟩
              · have e3 : decide ((3 : Int) < (nn : Int)) = true := decide_eq_true (by omega)
                have e3' : decide (3 < nn) = true := decide_eq_true (by omega)
                have HC : Hid (compOf false s = ([], false)) := by
                  show _ = _
                  unfold compOf
                  rw [parseC_none3 HCc.out HN.out H58.out (by rw [← drop_next]; exact H45.out) (fun ts' vs'' e => by rw [hr'] at e; simp only [Option.some.injEq, Prod.mk.injEq] at e; rw [← e.1]; omega)]
                clear hr hr' hot hnt hend4
                go_wp2_with fail
                go_ret2
                rw [HC.out]
                exact ⟨rfl, F04⟩
            · have u1 : ((p4 : Int) != ((S s).size : Int)) = true := by rw [hsz, bne_iff_ne]; omega
              have u1' : ((p4 : Int) == ((S s).size : Int)) = false := by rw [hsz, beq_eq_false_iff_ne]; omega
              have u2 : ((p4 : Int) != (s.length : Int)) = true := by rw [bne_iff_ne]; omega
              have u2' : ((p4 : Int) == (s.length : Int)) = false := by rw [beq_eq_false_iff_ne]; omega
              have HC : Hid (compOf false s = ([], false)) := by
                show _ = _
                unfold compOf
                rw [parseC_none3 HCc.out HN.out H58.out (by rw [← drop_next]; exact H45.out) (fun ts' vs'' e => by
                  rw [← drop_next, ← drop_next, hr] at e
                  simp only [Option.some.injEq, Prod.mk.injEq] at e
                  exact absurd ((drop_nil_iff hp4).1 e.2.1) hend4)]
              clear hr hot hnt hend4
              go_wp2_with fail
              go_ret2
              rw [HC.out]
              exact ⟨rfl, F04⟩
          · have HC : Hid (compOf false s = ([], false)) := by
              show _ = _
              unfold compOf
              rw [parseC_none3 HCc.out HN.out H58.out (by rw [← drop_next]; exact H45.out) (fun ts' vs'' e => by
                rw [← drop_next, ← drop_next] at e
                exact .inl (hb _ _ _ e))]
            clear hb
            go_wp2_with fail
            go_ret2
            rw [HC.out]
            exact ⟨rfl, F04⟩
        · obtain ⟨r2, r2'⟩ := neqC (k := 45) rfl h45
          have HC : Hid (compOf false s = ([], false)) := by
            show _ = _
            unfold compOf
            rw [parseC_none2 HCc.out HN.out (.inr (by rw [← drop_next]; exact h45))]
          clear h45
          go_wp2_with fail
          refine (peek_any h1 (by omega) hs).mono ?_
          rintro e w2 ⟨rfl, F2⟩
          have h2 := h1.keep F2 (fun h => h)
          have c21 := h2.c1
          have z21 := h2.z1
          go_wp2_with fail
          refine (peek_any h2.pos (by omega) hs).mono ?_
          rintro e w3 ⟨rfl, F3⟩
          have F03 : Fr No w w3 := ((F01.trans F2 (fun _ _ h => h)).setCell (fun h => by simp at h) _).trans F3 (fun _ _ h => h)
          go_wp2_with fail
          go_ret2
          rw [HC.out]
          exact ⟨rfl, F03⟩
      · obtain ⟨r1, r1'⟩ := neqC (k := 58) rfl h58
        have HC : Hid (compOf false s = ([], false)) := by
          show _ = _
          unfold compOf
          rw [parseC_none2 HCc.out HN.out (.inl h58)]
        clear h58
        go_wp2_with fail
        refine (peek_any h1 (by omega) hs).mono ?_
        rintro e w2 ⟨rfl, F2⟩
        go_wp2_with fail
        go_ret2
        rw [HC.out]
        exact ⟨rfl, F01.trans F2 (fun _ _ h => h)⟩
  · have HC : Hid (compOf false s = ([], false)) := by
      show _ = _
      unfold compOf
      rw [parseC_none1 hb]
    clear hb
    by_cases h58 : hd (s.drop p') = 58
    · obtain ⟨r1, r1'⟩ := eqC (k := 58) rfl h58
      clear h58
      by_cases h45 : hd (s.drop (p' + 1)) = 45
      · obtain ⟨r2, r2'⟩ := eqC (k := 45) rfl h45
        clear h45
        go_wp2_with fail
        refine (peek_any h1 (by omega) hs).mono ?_
        rintro e w2 ⟨rfl, F2⟩
        have h2 := h1.keep F2 (fun h => h)
        have c21 := h2.c1
        have z21 := h2.z1
        go_wp2_with fail
        refine (peek_any h2.pos (by omega) hs).mono ?_
        rintro e w3 ⟨rfl, F3⟩
        have h3 := h2.pos.keep F3 (fun h => h)
        have c31 := h3.c1
        have z31 := h3.z1
        have F03 : Fr No w w3 := ((F01.trans F2 (fun _ _ h => h)).setCell (fun h => by simp at h) _).trans F3 (fun _ _ h => h)
        go_wp2_with fail
        refine (goals_bad h3.pos hs (by omega)).mono ?_
        rintro e w4 ⟨out, nn, p4, rfl, h4, F4⟩
        have F04 : Fr No w w4 := (F03.setCell (fun h => by simp at h) _).trans F4 (fun k hk e => by omega)
        have c43 := h4.c3
        go_wp2_with fail
        go_ret2
        rw [HC.out]
        exact ⟨rfl, F04⟩
      · obtain ⟨r2, r2'⟩ := neqC (k := 45) rfl h45
        clear h45
        go_wp2_with fail
        refine (peek_any h1 (by omega) hs).mono ?_
        rintro e w2 ⟨rfl, F2⟩
        have h2 := h1.keep F2 (fun h => h)
        have c21 := h2.c1
        have z21 := h2.z1
        go_wp2_with fail
        refine (peek_any h2.pos (by omega) hs).mono ?_
        rintro e w3 ⟨rfl, F3⟩
        have F03 : Fr No w w3 := ((F01.trans F2 (fun _ _ h => h)).setCell (fun h => by simp at h) _).trans F3 (fun _ _ h => h)
        go_wp2_with fail
        go_ret2
        rw [HC.out]
        exact ⟨rfl, F03⟩
    · obtain ⟨r1, r1'⟩ := neqC (k := 58) rfl h58
      clear h58
      go_wp2_with fail
      refine (peek_any h1 (by omega) hs).mono ?_
      rintro e w2 ⟨rfl, F2⟩
      go_wp2_with fail
      go_ret2
      rw [HC.out]
      exact ⟨rfl, F01.trans F2 (fun _ _ h => h)⟩

theorem compile_any (hs : s.length ≤ 40) (q : Bool) : Calls Try.prog 65 #[.string (S s), .bool q] w fun e w' => e = .returned (.tuple #[.string (S (compOf q s).1), .bool (compOf q s).2]) ∧ Fr No w w' := by
  cases q with
  | true => exact compile_q hs
  | false => exact compile_c hs
end
end Go.Proofs.Qxb6500302a.M
