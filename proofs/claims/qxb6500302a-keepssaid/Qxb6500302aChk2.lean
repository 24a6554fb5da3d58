import Derived.Test.Qxb6500302aChk1
namespace Go.Proofs.Qxb6500302a
open Go.RowKit
set_option linter.unusedSimpArgs false
set_option linter.unusedVariables false
attribute [local go_sem] ta106_106 ta106_112 ta106_80 ta112_106 ta112_112 ta112_80 ta80_106 ta80_112 ta80_80 ta80_80' run_makeFunc
attribute [local go_sem ↓] Go.wp_at_zero Go.wp_at_succ

set_option maxRecDepth 20000 in
set_option maxHeartbeats 2000000 in
theorem sound_any {w : World} {D : Nat → Prop} {m : Nat} {v : Value} {t : Tm} {s : List UInt8} (hc : ClauseN w D m v t) (hs : s.length ≤ 40) (hp : parseOf false s = some t) :
    Calls Try.prog 45 #[v] w fun e w' => e = .returned (.bool true) ∧ Fr No w w' := by
  obtain ⟨hd, ts, ht, hk⟩ := parse_shape hp
  have hct := parse_back hp
  have hcl := parse_code hp
  rw [ht] at hc
  have HC0 : Hid (ClauseN w D m v (tCall 58 (hd :: ts))) := hc
  obtain ⟨b, rb, sl, xs, m', rfl, hDb, hDr, hb, hr, hrow, hl1, hl2, hm', hx, hT⟩ := hc.clip.root
  have hcc : (clauseText (tCall 58 (hd :: ts))).length ≤ 40 := by rw [← ht, hct]; exact hs
  have hnodes := nodes_clause hT.wf
  have HW : Hid (walkS sndNext sndOk m 0 (tCall 58 (hd :: ts)) = (0 + nodesOf (tCall 58 (hd :: ts)), true)) := walkS_snd m 0 _ hT.wf (by omega)
  obtain ⟨sa, scap, rfl, _, _⟩ := hrow.win (by omega)
  have cb : w.cell? ⟨b, 0, none⟩ = some (.pointer (some ⟨rb, 0, none⟩)) := cell_of 0 hb rfl
  have cr0 : w.cell? ⟨rb, 0, none⟩ = some (.int .u8 58) := cell_of 0 hr rfl
  have cr1 : w.cell? ⟨rb, 1, none⟩ = some (.slice sa xs.length scap) := cell_of 1 hr rfl
  have hxl : ((xs.length : Int) == 0) = false := by rw [hl1]; simp; omega
  have hbs := lt_of_heap hb
  have HT : Hid (TermN (w.alloc (.cells #[.int .i64 0] 3)) (fun k => D k ∧ k < w.heap.size) m (.iface 80 (.pointer (some ⟨rb, 0, none⟩))) (tCall 58 (hd :: ts))) :=
    hT.kept ((Fr.refl No w).alloc _) (fun _ _ h => h)
  have HN : Hid ((w.alloc (.cells #[.int .i64 0] 3)).heap[w.heap.size]? = some (.cells #[.int .i64 ((0 : Nat) : Int)] 3)) := heap_alloc_same w _
  have HF : Hid (Fr No w (w.alloc (.cells #[.int .i64 0] 3))) := (Fr.refl _ _).alloc _
  have HK : Hid (∀ st t, sndOk st t = true → sndNext st t ≤ 41) := fun st t h => by simp [sndOk] at h; simp [sndNext]; omega
  clear hT hx hc hrow
  go_enter Try.func45, Try.ntmps45
  go_wp2_with fail
  refine (walk_any (.inr rfl) (visit_snd _) HK.out m _ _ _ _ 0 HT.out (fun k hk => by omega) HN.out (by omega)).mono ?_
  rw [HW.out]
  rintro e w1 ⟨rfl, _, hf1⟩
  have F1 : Fr No w w1 := HF.out.trans hf1 (fun k hk e => by omega)
  have HC1 : Hid (ClauseN w1 D m (.pointer (some ⟨b, 0, none⟩)) (tCall 58 (hd :: ts))) := HC0.out.kept F1 (fun _ _ h => h)
  clear hf1 HN HF HT HK HW cb cr0 cr1 hb hr
  go_wp2_with fail
  refine (text_any HC1.out (by omega)).mono ?_
  rintro e w2 ⟨rfl, F2⟩
  have hd40 : decide ((40 : Int) < ((S (clauseText (tCall 58 (hd :: ts)))).size : Int)) = false := decide_eq_false (by rw [S_size]; omega)
  have HC2 : Hid (ClauseN w2 D m (.pointer (some ⟨b, 0, none⟩)) (tCall 58 (hd :: ts))) := HC1.out.kept F2 (fun _ _ h => h)
  have HP := parse_any (q := false) (w := w2) (s := S (clauseText (tCall 58 (hd :: ts)))) (by rw [S_size]; omega)
  rw [S_list, ← ht, hct, hp, ht] at HP
  rw [← ht, hct] at hd40 ⊢
  go_wp2_with fail
  refine HP.mono ?_
  rintro e w3 ⟨v3, m3, D3, rfl, hcl3, hD3, F3⟩
  have hcl3' := hcl3
  obtain ⟨b3, rb3, rfl, _⟩ := hcl3'
  have HC3 : Hid (ClauseN w3 D3 m3 (.pointer (some ⟨b3, 0, none⟩)) (tCall 58 (hd :: ts))) := hcl3
  have HC2' : Hid (ClauseN w3 D m (.pointer (some ⟨b, 0, none⟩)) (tCall 58 (hd :: ts))) := HC2.out.kept F3 (fun _ _ h => h)
  clear hcl3
  have hcl' : (codeOf (tCall 58 (hd :: ts))).length ≤ 1900 := by rw [← ht]; omega
  go_wp2_with fail
  refine (code_any HC2'.out hcl').mono ?_
  rintro e w4 ⟨rfl, F4⟩
  have HC4 : Hid (ClauseN w4 D3 m3 (.pointer (some ⟨b3, 0, none⟩)) (tCall 58 (hd :: ts))) := HC3.out.kept F4 (fun _ _ h => h)
  go_wp2_with fail
  refine (code_any HC4.out hcl').mono ?_
  rintro e w5 ⟨rfl, F5⟩
  go_wp2_with fail
  go_ret
  exact ⟨ret_bool (by simp), (((F1.trans F2 (fun _ _ h => h)).trans F3 (fun _ _ h => h)).trans F4 (fun _ _ h => h)).trans F5 (fun _ _ h => h)⟩
end Go.Proofs.Qxb6500302a
