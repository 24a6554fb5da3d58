import Derived.Test.Qxb6500302aMod10
import Derived.Deep.AppendLies
import Derived.OneCell
namespace Go.Proofs.Qxb6500302a.M
open Go.RowKit
set_option linter.unusedSimpArgs false
set_option linter.unusedVariables false
attribute [local go_sem ↓] Go.wp_at_zero Go.wp_at_succ
attribute [-go_sem] Go.run_string_add_if Go.run_index_string Go.run_slice_string_if

theorem Try.info9 : (Try.prog.info? 9).map (fun i => (i.zero, i.size, i.bytes)) = some (some (.string { data := #[] }), 1, 16) := by kernel_rfl

def AddMPost (O : Nat → Prop) (m : Nat) (cs : List Tm) (s : List UInt8) (w : World) (e : Ending) (w' : World) : Prop :=
  e = .returned (.tuple #[.int .i64 (addOf cs s).2.1, .int .i64 (addOf cs s).2.2]) ∧ ∃ O', MAt w' O' m (addOf cs s).1 ∧ Fr O w w' ∧ ∀ k, O' k → O k ∨ w.heap.size ≤ k

section
variable {w : World} {O : Nat → Prop} {m : Nat} {cs : List Tm}

set_option maxRecDepth 40000 in
set_option maxHeartbeats 4000000 in
theorem addM (h : MAt w O m cs) (s : List UInt8) : Calls Try.prog 48 #[.pointer (some ⟨m, 0, none⟩), .string (S s)] w (AddMPost O m cs s w) := by
  have hsz := S_size s
  by_cases h40 : 40 < s.length
  · have d0 : decide ((40 : Int) < ((S s).size : Int)) = true := decide_eq_true (by omega)
    have d0' : decide ((40 : Int) < (s.length : Int)) = true := decide_eq_true (by omega)
    have d0'' : decide (40 < s.length) = true := decide_eq_true (by omega)
    have HA : Hid (addOf cs s = (cs, -1, 1)) := by show _ = _; unfold addOf; rw [if_pos h40]
    go_enter Try.func48, Try.ntmps48
    go_wp2_with fail
    go_ret2
    unfold AddMPost
    rw [HA.out]
    exact ⟨rfl, O, h, Fr.refl _ _, fun k hk => .inl hk⟩
  · have d0 : decide ((40 : Int) < ((S s).size : Int)) = false := decide_eq_false (by omega)
    have d0' : decide ((40 : Int) < (s.length : Int)) = false := decide_eq_false (by omega)
    have d0'' : decide (40 < s.length) = false := decide_eq_false (by omega)
    have HP : Hid (Calls Try.prog 65 #[.string (S s), .bool false] w fun e w' => e = .returned (.tuple #[.string (S (compOf false s).1), .bool (compOf false s).2]) ∧ Fr No w w') := compile_any (by omega) false
    have hlen := h.len
    cases hp : parseOf false s with
    | none =>
      have hc : compOf false s = ([], false) := by unfold compOf; rw [hp]
      have HA : Hid (addOf cs s = (cs, -1, 5)) := by show _ = _; unfold addOf; rw [if_neg h40, hp]
      rw [hc] at HP
      clear hp hc
      go_enter Try.func48, Try.ntmps48
      go_wp2_with fail
      refine HP.out.mono ?_
      rintro e w' ⟨rfl, hf⟩
      go_wp2_with fail
      go_ret2
      unfold AddMPost
      rw [HA.out]
      exact ⟨rfl, O, h.keep hf (fun _ _ h => h), hf.mono (fun _ _ h => h.elim), fun k hk => .inl hk⟩
    | some t =>
      have hc : compOf false s = (codeOf t, true) := by unfold compOf; rw [hp]
      rw [hc] at HP
      have HPa : Hid (parseOf false s = some t) := hp
      by_cases h8 : 8 ≤ cs.length
      · have HA : Hid (addOf cs s = (cs, -1, 6)) := by show _ = _; unfold addOf; rw [if_neg h40, hp]; exact if_pos h8
        have d8 : decide ((8 : Int) ≤ (cs.length : Int)) = true := decide_eq_true (by omega)
        have d8' : decide (8 ≤ cs.length) = true := decide_eq_true (by omega)
        clear hp hc
        go_enter Try.func48, Try.ntmps48
        go_wp2_with fail
        refine HP.out.mono ?_
        rintro e w' ⟨rfl, hf⟩
        obtain ⟨bt, bc, ct, cc, h1, _⟩ := (h.keep hf (fun _ _ h => h)).row
        have c0 : w'.cell? ⟨m, 0, none⟩ = some (.slice bt cs.length ct) := cell_of 0 h1 rfl
        go_wp2_with fail
        go_ret2
        unfold AddMPost
        rw [HA.out]
        exact ⟨rfl, O, h.keep hf (fun _ _ h => h), hf.mono (fun _ _ h => h.elim), fun k hk => .inl hk⟩
      · have HA : Hid (addOf cs s = (cs ++ [t], (cs.length : Int), 0)) := by show _ = _; unfold addOf; rw [if_neg h40, hp]; exact if_neg h8
        have d8 : decide ((8 : Int) ≤ (cs.length : Int)) = false := decide_eq_false (by omega)
        have d8' : decide (8 ≤ cs.length) = false := decide_eq_false (by omega)
        have HB : Hid (clauseText t = s) := parse_back hp
        clear hp hc
        obtain ⟨i0, hi, hz0, hz1, hz2⟩ := info_parts Try.info9
        go_enter Try.func48, Try.ntmps48
        go_wp2_with fail
        refine HP.out.mono ?_
        rintro e w1 ⟨rfl, F1⟩
        have h1 := h.keep F1 (fun _ _ h => h)
        obtain ⟨vt, vc, hm1, ht1, hc1, ho1, ho2⟩ := h1.main
        obtain ⟨bt, ct, hvt⟩ := owns_slice ht1
        obtain ⟨bc, cc, hvc⟩ := owns_slice hc1
        subst hvt hvc
        have c0 : w1.cell? ⟨m, 0, none⟩ = some (.slice bt cs.length ct) := cell_of 0 hm1 rfl
        have hml := lt_of_heap hm1
        have hrow1 := ownsRow_keep ht1 ((Fr.refl No w1).alloc (.cells #[.string (S s)] 9)) (fun _ _ h => h)
        have hnb : (w1.alloc (.cells #[.string (S s)] 9)).heap[w1.heap.size]? = some (.cells #[.string (S s)] 9) := heap_alloc_same _ _
        go_upto_region 9 with (at_builtin; refine wpList_append_lies _ (by rfl) _ _ 34 (by rfl) 0 9 i0 (.string { data := #[] }) 1 16 Try.underlying34 hi hz0 hz1 hz2 rfl (by omega) _ cs.length (strs (cs.map clauseText)) (by rfl) hrow1 ⟨w1.heap.size, 0, none⟩ 1 1 [.string (S s)] (by rfl) (by rfl) (World.news_of_block (cs := #[.string (S s)]) hnb) (by simp [Value.oneCell']) (by omega) (by unfold maxLen; omega) (by omega) (Nat.zero_le _) (w1.heap.size + 1) (by simp) ?_; intro g cap2 w2 hown2 hgrow hat hlt2; have hm2 := heap_grown hgrow (heap_alloc_keep hm1) (fun e => (ho1 _ e).2 rfl); have cm2 := cell_of 0 hm2 rfl; have fm2 := frozen_of 0 hm2)
        have hgm : g ≠ m := by
          rintro rfl
          rcases hat with e | e
          · exact (ho1 _ e).2 rfl
          · omega
        have hm3 : (w2.setCell ⟨m, 0, none⟩ (.slice (some ⟨g, 0, none⟩) (cs.length + 1) cap2)).heap[m]? = some (.cells #[.slice (some ⟨g, 0, none⟩) (cs.length + 1) cap2, .slice bc cs.length cc] 98) := by
          rw [heap_setCell_same _ hm2]; rfl
        have ht3 : (w2.setCell ⟨m, 0, none⟩ (.slice (some ⟨g, 0, none⟩) (cs.length + 1) cap2)).ownsRow 0 9 1 (.slice (some ⟨g, 0, none⟩) (cs.length + 1) cap2) (cs.length + 1) (strs (cs.map clauseText) ++ [.string (S s)]) :=
          ownsRow_setCell_other hown2 (by simpa [Value.ownBlock] using hgm) _
        have F13 : Fr (fun k => k = m ∨ (Value.slice bt cs.length ct).ownBlock = some k) w1 (w2.setCell ⟨m, 0, none⟩ (.slice (some ⟨g, 0, none⟩) (cs.length + 1) cap2)) :=
          Fr.setCell (S := fun k => k = m ∨ (Value.slice bt cs.length ct).ownBlock = some k) (Fr.grown (S := fun k => k = m ∨ (Value.slice bt cs.length ct).ownBlock = some k) ((Fr.refl _ w1).alloc _) hgrow (fun k hk _ => .inr hk)) (fun _ => .inl rfl) _
        have hg3 : g < (w2.setCell ⟨m, 0, none⟩ (.slice (some ⟨g, 0, none⟩) (cs.length + 1) cap2)).heap.size := by simpa [World.setCell] using hlt2
        have hc3 := ownsRow_keep hc1 F13 (fun k hk e => by
          rcases e with e | e
          · exact (ho2 _ hk).2.1 e
          · exact (ho2 _ hk).2.2 e)
        have hgc : (Value.slice bc cs.length cc).ownBlock ≠ some g := fun e => by
          rcases hat with e' | e'
          · exact (ho2 _ e).2.2 e'
          · have := h1.lt _ (ho2 _ e).1; omega
        generalize (w2.setCell ⟨m, 0, none⟩ (.slice (some ⟨g, 0, none⟩) (cs.length + 1) cap2)) = W3 at *
        clear cm2 fm2 hm2 hlt2 hgrow hown2 hnb hrow1 c0
        have c31 : W3.cell? ⟨m, 1, none⟩ = some (.slice bc cs.length cc) := cell_of 1 hm3 rfl
        have hml3 := lt_of_heap hm3
        have hrow3 := ownsRow_keep hc3 ((Fr.refl No W3).alloc (.cells #[.string (S (codeOf t))] 9)) (fun _ _ h => h)
        have hnb3 : (W3.alloc (.cells #[.string (S (codeOf t))] 9)).heap[W3.heap.size]? = some (.cells #[.string (S (codeOf t))] 9) := heap_alloc_same _ _
        go_upto_region 10 with (at_builtin; refine wpList_append_lies _ (by rfl) _ _ 34 (by rfl) 0 9 i0 (.string { data := #[] }) 1 16 Try.underlying34 hi hz0 hz1 hz2 rfl (by omega) _ cs.length (strs (cs.map codeOf)) (by rfl) hrow3 ⟨W3.heap.size, 0, none⟩ 1 1 [.string (S (codeOf t))] (by rfl) (by rfl) (World.news_of_block (cs := #[.string (S (codeOf t))]) hnb3) (by simp [Value.oneCell']) (by omega) (by unfold maxLen; omega) (by omega) (Nat.zero_le _) (W3.heap.size + 1) (by simp) ?_; intro g4 cap4 w4 hown4 hgrow4 hat4 hlt4; have hm4 := heap_grown hgrow4 (heap_alloc_keep hm3) (fun e => (ho2 _ e).2.1 rfl); have cm4 := cell_of 1 hm4 rfl; have fm4 := frozen_of 1 hm4)
        have hgm4 : g4 ≠ m := by
          rintro rfl
          rcases hat4 with e | e
          · exact (ho2 _ e).2.1 rfl
          · omega
        have hgg : g ≠ g4 := by
          rintro rfl
          rcases hat4 with e | e
          · exact hgc e
          · omega
        have hm5 : (w4.setCell ⟨m, 1, none⟩ (.slice (some ⟨g4, 0, none⟩) (cs.length + 1) cap4)).heap[m]? = some (.cells #[.slice (some ⟨g, 0, none⟩) (cs.length + 1) cap2, .slice (some ⟨g4, 0, none⟩) (cs.length + 1) cap4] 98) := by
          rw [heap_setCell_same _ hm4]; rfl
        have hc5 : (w4.setCell ⟨m, 1, none⟩ (.slice (some ⟨g4, 0, none⟩) (cs.length + 1) cap4)).ownsRow 0 9 1 (.slice (some ⟨g4, 0, none⟩) (cs.length + 1) cap4) (cs.length + 1) (strs (cs.map codeOf) ++ [.string (S (codeOf t))]) :=
          ownsRow_setCell_other hown4 (by simpa [Value.ownBlock] using hgm4) _
        have F35 : Fr (fun k => k = m ∨ (Value.slice bc cs.length cc).ownBlock = some k) W3 (w4.setCell ⟨m, 1, none⟩ (.slice (some ⟨g4, 0, none⟩) (cs.length + 1) cap4)) :=
          Fr.setCell (S := fun k => k = m ∨ (Value.slice bc cs.length cc).ownBlock = some k) (Fr.grown (S := fun k => k = m ∨ (Value.slice bc cs.length cc).ownBlock = some k) ((Fr.refl _ W3).alloc _) hgrow4 (fun k hk _ => .inr hk)) (fun _ => .inl rfl) _
        have hg5 : g4 < (w4.setCell ⟨m, 1, none⟩ (.slice (some ⟨g4, 0, none⟩) (cs.length + 1) cap4)).heap.size := by simpa [World.setCell] using hlt4
        have ht5 := ownsRow_keep ht3 F35 (fun k hk e => by
          have hk' : g = k := by simpa [Value.ownBlock] using hk
          subst hk'
          rcases e with e | e
          · exact hgm e
          · exact hgc e)
        generalize (w4.setCell ⟨m, 1, none⟩ (.slice (some ⟨g4, 0, none⟩) (cs.length + 1) cap4)) = W5 at *
        clear cm4 fm4 hm4 hlt4 hgrow4 hown4 hnb3 hrow3 c31
        have c50 : W5.cell? ⟨m, 0, none⟩ = some (.slice (some ⟨g, 0, none⟩) (cs.length + 1) cap2) := cell_of 0 hm5 rfl
        have hsub : (((cs.length + 1 : Nat) : Int)) - 1 = (cs.length : Int) := by omega
        have FW : Fr O w W5 := ((F1.mono (fun _ _ h => h.elim)).trans F13 (fun k hk e => by
            rcases e with e | e
            · rw [e]; exact h.om
            · exact (ho1 _ e).1)).trans F35 (fun k hk e => by
            rcases e with e | e
            · rw [e]; exact h.om
            · exact (ho2 _ e).1)
        have HM : Hid (MAt W5 (fun k => O k ∨ k = g ∨ k = g4) m (cs ++ [t])) := by
          refine ⟨⟨_, _, hm5, ?_, ?_, ?_, ?_⟩, .inl h.om, ?_, by simp; omega, ?_⟩
          · have e : strs ((cs ++ [t]).map clauseText) = strs (cs.map clauseText) ++ [.string (S s)] := by simp [strs, HB.out]
            rw [e, List.length_append]
            exact ht5
          · have e : strs ((cs ++ [t]).map codeOf) = strs (cs.map codeOf) ++ [.string (S (codeOf t))] := by simp [strs]
            rw [e, List.length_append]
            exact hc5
          · intro k hk
            have hk' : g = k := by simpa [Value.ownBlock] using hk
            subst hk'
            exact ⟨.inr (.inl rfl), hgm⟩
          · intro k hk
            have hk' : g4 = k := by simpa [Value.ownBlock] using hk
            subst hk'
            exact ⟨.inr (.inr rfl), hgm4, by simpa [Value.ownBlock] using hgg⟩
          · rintro k (hk | rfl | rfl)
            · exact Nat.lt_of_lt_of_le (h.lt k hk) FW.size
            · exact Nat.lt_of_lt_of_le hg3 F35.size
            · exact hg5
          · intro u hu
            rcases List.mem_append.1 hu with hu | hu
            · exact h.fine u hu
            · have hu' : u = t := by simpa using hu
              subst hu'
              exact ⟨s, by omega, HPa.out⟩
        have HN : Hid (∀ k, (O k ∨ k = g ∨ k = g4) → O k ∨ w.heap.size ≤ k) := by
          have s1 := F1.size
          have s2 := F13.size
          rintro k (hk | rfl | rfl)
          · exact .inl hk
          · rcases hat with e | e
            · exact .inl (ho1 _ e).1
            · exact .inr (by omega)
          · rcases hat4 with e | e
            · exact .inl (ho2 _ e).1
            · exact .inr (by omega)
        go_wp2_with fail
        go_ret2
        unfold AddMPost
        rw [HA.out]
        exact ⟨rfl, _, HM.out, FW, HN.out⟩
end
end Go.Proofs.Qxb6500302a.M
