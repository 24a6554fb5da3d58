import Derived.Test.Qxb6500302aEnter3
import Derived.Test.Qxb6500302aEdge1
namespace Go.Proofs.Qxb6500302a
open Go.RowKit
set_option linter.unusedSimpArgs false
set_option linter.unusedVariables false
attribute [local go_sem ↓] Go.wp_at_zero Go.wp_at_succ

/-- v is what stands in the bucket of k. -/
def Held (w : World) (p : Nat) (k : K4) (v : Value) : Prop :=
  ∃ bk sl a b, w.heap[p]? = some (.cells #[sl, a, b, .map (some bk)] 52) ∧ bk < w.heap.size ∧ ∀ w', w'.heap[bk]? = w.heap[bk]? → (Instr.lookup 49 (.map (some bk)) (kv4 k) false).run Try.prog w' = .ok v w'

set_option maxRecDepth 40000 in
theorem bucket_held {w : World} {own : Own} {D : Nat → Prop} {p : Nat} {cs : List Tm} {s1 s2 : ByteArray} (h1s : s1.size = 2) (h2s : s2.size = 2) (h : ProgAt w own D p cs) :
    Calls Try.prog 12 #[.pointer (some ⟨p, 0, none⟩), .string s1, .string s2] w fun e w' =>
      ∃ bs cap, e = .returned (.slice bs ((fKey cs (two s1 h1s, two s2 h2s)).getD []).length cap) ∧ Bucket w' own (labK (two s1 h1s, two s2 h2s)) (.slice bs ((fKey cs (two s1 h1s, two s2 h2s)).getD []).length cap) ((fKey cs (two s1 h1s, two s2 h2s)).getD []) ∧ Fr No w w' ∧
        Held w' p (two s1 h1s, two s2 h2s) (.slice bs ((fKey cs (two s1 h1s, two s2 h2s)).getD []).length cap) := by
  obtain ⟨ba, bo, bk, sl, xs, h1, h2, h3, h4, h5⟩ := h.main
  obtain ⟨bs, cap, _, L, hbk⟩ := look_any key4 h4.mK (two s1 h1s, two s2 h2s)
  have cp : w.cell? ⟨p, 3, none⟩ = some (.map (some bk)) := cell_of 3 h1 rfl
  have L' := fun n => L (w.drewN n) rfl
  obtain ⟨L2, _⟩ : Hid _ ∧ True := ⟨L, trivial⟩
  clear L
  unfold two at L'
  simp only [kv4_eq] at L'
  have e1 : (((s1.size : Int)) != 2) = false := by rw [h1s]; rfl
  have e2 : (((s2.size : Int)) != 2) = false := by rw [h2s]; rfl
  have i0 : (0 : Int) < (s1.size : Int) := by omega
  have i1 : (1 : Int) < (s1.size : Int) := by omega
  have i2 : (0 : Int) < (s2.size : Int) := by omega
  have i3 : (1 : Int) < (s2.size : Int) := by omega
  go_enter Try.func12, Try.ntmps12
  go_wp2_with fail
  go_quiet (fail)
  go_wp2_with fail
  go_ret
  exact ⟨bs, cap, rfl, hbk.keep ((Fr.refl No w).drewN _) (fun _ _ h => h) (fun _ h => h), (Fr.refl No w).drewN _, bk, _, _, _, h1, h4.lt _ _ h4.ok, fun w' hw => L2.out w' hw⟩

theorem enter_any_held {w : World} {p ba bo bk m : Nat} {own : Own} {D : Nat → Prop} {vc : Value} {t h : Tm} {ts cs : List Tm} {sl : Value}
    (hp : w.heap[p]? = some (.cells #[sl, .map (some ba), .map (some bo), .map (some bk)] 52)) (hop : own p = some (0, z4)) (hlen : cs.length ≤ 8)
    (hc : ClauseN w D m vc t) (ht : t = tCall 58 (h :: ts)) (hk : h.kind = 2) (hD : ∀ k, D k → own k = none) (hidx : Idx w own ba bo bk (fAll cs) (fOpen cs) (fKey cs))
    {f : K2} (hf : keyOf t = some f) {idsK : List Nat} (hfK : fKey cs (predOf t, f) = some idsK) (hne : idsK ≠ []) {hv : Value} (hheld : (Instr.lookup 49 (.map (some bk)) (kv4 (predOf t, f)) false).run Try.prog w = .ok hv w) :
    Calls Try.prog 21 #[.pointer (some ⟨p, 0, none⟩), .int .i8 (cs.length : Int), vc] w (fun e w' => EnterPost own ba bo bk (fAll (cs ++ [t])) (fOpen (cs ++ [t])) (fKey (cs ++ [t])) w e w' ∧ Reads w' hv idsK) := by
  have hpr : predOf t = (h.letter, digit h.kids.length) := by rw [ht]; rfl
  have hke : keyOf t = ownKeyOf h := by rw [ht]; rfl
  have l1 : ∀ k, ((fAll cs k).getD []).length ≤ 100 := fun k => by have := fAll_len cs k; omega
  have l2 : ∀ k, ((fOpen cs k).getD []).length ≤ 100 := fun k => by have := fOpen_len cs k; omega
  have l3 : ∀ k, ((fKey cs k).getD []).length ≤ 100 := fun k => by have := fKey_len cs k; omega
  rw [← fAll_add]
  rw [ht] at hc
  have hf' : ownKeyOf h = some f := hke.symm.trans hf
  have := enter_held hp hop (id := cs.length) (by omega) hc hk hD hidx l1 l2 l3 hf' (idsK := idsK) (by rw [← hpr]; exact hfK) (hv := hv) (by rw [← hpr]; exact hheld) hne
  rw [← hpr, fKey_keyed cs t hf] at this
  rw [← fOpen_keyed cs t hf]
  exact this

set_option maxRecDepth 40000 in
set_option maxHeartbeats 8000000 in
theorem add_held {w : World} {own : Own} {D : Nat → Prop} {p : Nat} {cs : List Tm} {s : ByteArray} (h : ProgAt w own D p cs) (h40 : ¬ 40 < s.size) {t : Tm} (hp : parseOf false s.data.toList = some t) (h8 : ¬ 8 ≤ cs.length)
    {f : K2} (hkey : keyOf t = some f) {idsK : List Nat} (hfK : fKey cs (predOf t, f) = some idsK) (hne : idsK ≠ []) {hv : Value} (hheld : Held w p (predOf t, f) hv) :
    Calls Try.prog 11 #[.pointer (some ⟨p, 0, none⟩), .string s] w (fun e w' => AddPost own D p cs s.data.toList w e w' ∧ Reads w' hv idsK) := by
  have hsz : s.data.toList.length = s.size := by rw [Array.length_toList]; rfl
  have hd : decide ((40 : Int) < (s.size : Int)) = false := by simp; omega
  have HP := parse_any (q := false) (w := w) (s := s) (by omega)
  rw [hp] at HP
  obtain ⟨ba, bo, bk, sl, xs, h1, h2, h3, h4, h5⟩ := h.main
  obtain ⟨bk', _, _, _, hpb, hbl, hheld3⟩ := hheld
  have hbb : bk = bk' := by rw [h1] at hpb; simp at hpb; exact hpb.2.2.2
  subst hbb
  obtain ⟨bs, cap, hsl⟩ := owns_slice h2
  subst hsl
  have ha' : addOf cs s.data.toList = (cs ++ [t], (cs.length : Int), 0) := by unfold addOf; rw [if_neg (by omega), hp]; exact if_neg h8
  have hd8 : decide ((8 : Int) ≤ (cs.length : Int)) = false := by simp; omega
  obtain ⟨hh, tts, htt, hkk⟩ := parse_shape hp
  go_enter Try.func11, Try.ntmps11
  go_wp2_with fail
  refine HP.mono ?_
  rintro e w1 ⟨v, m, Dc, rfl, hcl, hDc, hf⟩
  have hcl' := hcl.clip
  obtain ⟨cb, crb, hv, _⟩ := hcl
  subst hv
  have hp1 := hf.keep h1 (fun h => h)
  have cp : w1.cell? ⟨p, 0, none⟩ = some (.slice bs cs.length cap) := cell_of 0 hp1 rfl
  have hpl := lt_of_heap hp1
  have hrow1 := ownsRow_keep h2 (hf.alloc (.cells #[.pointer (some ⟨cb, 0, none⟩)] 53)) (fun _ _ h => h)
  have hnb : (w1.alloc (.cells #[.pointer (some ⟨cb, 0, none⟩)] 53)).heap[w1.heap.size]? = some (.cells #[.pointer (some ⟨cb, 0, none⟩)] 53) := heap_alloc_same _ _
  obtain ⟨i0, hi, hz0, hz1, hz2⟩ := info_parts Try.info53
  have hw8 : IntKind.i8.wrap (cs.length : Int) = (cs.length : Int) := by
    have : ∀ n : Nat, n < 8 → IntKind.i8.wrap (n : Int) = (n : Int) := by decide
    exact this _ (by omega)
  go_wp2_with (at_builtin; refine wpList_append_lies _ (by rfl) _ _ 50 (by rfl) 0 53 i0 (.pointer none) 1 8 Try.underlying50 hi hz0 hz1 hz2 rfl (by omega) _ cs.length xs (by rfl) hrow1 ⟨w1.heap.size, 0, none⟩ 1 1 [.pointer (some ⟨cb, 0, none⟩)] (by rfl) (by rfl) (World.news_of_block (cs := #[.pointer (some ⟨cb, 0, none⟩)]) hnb) (by simp [Value.oneCell']) (by omega) (by unfold maxLen; omega) (by omega) (Nat.zero_le _) (w1.heap.size + 1) (by simp) ?_; intro g cap2 w2 hown2 hgrow hat hlt2; have hp2 := heap_grown hgrow (heap_alloc_keep hp1) (fun e => by have := h3 _ e; rw [h.op] at this; simp at this); have cp2 := cell_of 0 hp2 rfl; have fp2 := frozen_of 0 hp2)
  have hp3 : (w2.setCell ⟨p, 0, none⟩ (.slice (some ⟨g, 0, none⟩) (cs.length + 1) cap2)).heap[p]? = some (.cells #[.slice (some ⟨g, 0, none⟩) (cs.length + 1) cap2, .map (some ba), .map (some bo), .map (some bk)] 52) := by
    rw [heap_setCell_same _ hp2]; rfl
  have hgp : g ≠ p := by
    rintro rfl
    rcases hat with e | e
    · have := h3 _ e; rw [h.op] at this; simp at this
    · have := lt_of_heap h1; have := hf.size; omega
  have hrow3 : (w2.setCell ⟨p, 0, none⟩ (.slice (some ⟨g, 0, none⟩) (cs.length + 1) cap2)).ownsRow 0 53 1 (.slice (some ⟨g, 0, none⟩) (cs.length + 1) cap2) (cs.length + 1) (xs ++ [.pointer (some ⟨cb, 0, none⟩)]) :=
    ownsRow_setCell_other hown2 (by simpa [Value.ownBlock] using hgp) _
  have F3 : Fr (fun k => k = p ∨ own k = some (4, z4)) w (w2.setCell ⟨p, 0, none⟩ (.slice (some ⟨g, 0, none⟩) (cs.length + 1) cap2)) :=
    Fr.setCell (S := fun k => k = p ∨ own k = some (4, z4)) (Fr.grown (S := fun k => k = p ∨ own k = some (4, z4)) ((hf.alloc _).mono (fun _ _ h => h.elim)) hgrow (fun k hk _ => .inr (h3 k hk))) (fun _ => .inl rfl) _
  have F13 : Fr (fun k => k = p ∨ own k = some (4, z4)) w1 (w2.setCell ⟨p, 0, none⟩ (.slice (some ⟨g, 0, none⟩) (cs.length + 1) cap2)) :=
    Fr.setCell (S := fun k => k = p ∨ own k = some (4, z4)) (Fr.grown (S := fun k => k = p ∨ own k = some (4, z4)) ((Fr.refl _ w1).alloc _) hgrow (fun k hk _ => .inr (h3 k hk))) (fun _ => .inl rfl) _
  have hg3 : g < (w2.setCell ⟨p, 0, none⟩ (.slice (some ⟨g, 0, none⟩) (cs.length + 1) cap2)).heap.size := by simpa [World.setCell] using hlt2
  generalize (w2.setCell ⟨p, 0, none⟩ (.slice (some ⟨g, 0, none⟩) (cs.length + 1) cap2)) = W3 at *
  have hnew : own g = some (4, z4) ∨ w.heap.size ≤ g := by
    rcases hat with e | e
    · exact .inl (h3 _ e)
    · have := hf.size; exact .inr (by omega)
  have hx : ∀ g' l', own g' = some l' → relab own (.slice (some ⟨g, 0, none⟩) (cs.length + 1) cap2) (4, z4) g' = some l' := by
    intro g' l' hg'
    unfold relab
    by_cases e : (Value.slice (some ⟨g, 0, none⟩) (cs.length + 1) cap2).ownBlock = some g'
    · have : g = g' := by simpa [Value.ownBlock] using e
      subst this
      rw [if_pos e]
      rcases hnew with e | e
      · rw [e] at hg'; exact hg'
      · have := h4.lt _ _ hg'; omega
    · rw [if_neg e]; exact hg'
  have hback : ∀ g' l', relab own (.slice (some ⟨g, 0, none⟩) (cs.length + 1) cap2) (4, z4) g' = some l' → own g' = some l' ∨ (g' = g ∧ l' = (4, z4) ∧ w.heap.size ≤ g') := by
    intro g' l' hg'
    unfold relab at hg'
    by_cases e : (Value.slice (some ⟨g, 0, none⟩) (cs.length + 1) cap2).ownBlock = some g'
    · have : g = g' := by simpa [Value.ownBlock] using e
      subst this
      rw [if_pos e] at hg'
      rcases hnew with e | e
      · exact .inl (by rw [e]; exact hg')
      · exact .inr ⟨rfl, (Option.some.inj hg').symm, e⟩
    · rw [if_neg e] at hg'; exact .inl hg'
  have hog : relab own (.slice (some ⟨g, 0, none⟩) (cs.length + 1) cap2) (4, z4) g = some (4, z4) := by unfold relab; exact if_pos (by simp [Value.ownBlock])
  generalize relab own (.slice (some ⟨g, 0, none⟩) (cs.length + 1) cap2) (4, z4) = own3 at *
  have I3 : Idx W3 own3 ba bo bk (fAll cs) (fOpen cs) (fKey cs) := h4.keepX F3 (fun g l hg h0 h4' e => by
      rcases e with e | e
      · subst e; rw [h.op] at hg; cases hg; exact h0 rfl
      · rw [hg] at e; cases e; exact h4' rfl) hx (fun g' l' hg' => by
      rcases hback g' l' hg' with e | e
      · exact Nat.lt_of_lt_of_le (h4.lt _ _ e) F3.size
      · rw [e.1]; exact hg3)
  have hDc3 : ∀ k, (Dc k ∧ k < w1.heap.size) → own3 k = none := by
    intro k hk
    cases e : own3 k with
    | none => rfl
    | some l =>
      have h9 := hDc k hk.1
      rcases hback k l e with h | h
      · have := h4.lt _ _ h; omega
      · rcases hat with e2 | e2
        · have := h4.lt _ _ (h3 _ e2); omega
        · omega
  have hcl3 : ClauseN W3 (fun k => Dc k ∧ k < w1.heap.size) m (.pointer (some ⟨cb, 0, none⟩)) t := hcl'.kept F13 (fun k hk e => by
      have h9 := hDc k hk.1
      rcases e with e | e
      · have := lt_of_heap h1; omega
      · have := h4.lt _ _ e; omega)
  refine (enter_any_held hp3 (hx _ _ h.op) h.len hcl3 htt hkk hDc3 I3 hkey hfK hne (hheld3 _ ?_)).mono ?_
  · exact F3.block _ hbl (fun e => e.elim (fun e => by have := h4.ok; rw [e, h.op] at this; simp at this) (fun e => by rw [h4.ok] at e; simp at e))
  rintro e w5 ⟨⟨rfl, own5, I5, F5, X5⟩, HR⟩
  go_wp2_with fail
  refine bodyPost_ret (v := .tuple #[.int .i64 (cs.length : Int), .int .i64 0]) (by simp [results, Try.results11, go_sem]) rfl ?_
  refine ⟨?_, HR⟩
  unfold AddPost
  rw [ha']
  have hop3 := hx _ _ h.op
  have nix : ∀ k l, own3 k = some l → (l.1 = 0 ∨ l.1 = 4) → ¬ Ix own3 k := by
    rintro k l hk hl ⟨l', hl', h0, h4'⟩
    rw [hk] at hl'; cases hl'
    rcases hl with e | e
    · exact h0 e
    · exact h4' e
  have hdl : ∀ k, D k → own3 k = none := by
    intro k hk
    cases e : own3 k with
    | none => rfl
    | some l =>
      rcases hback k l e with h' | h'
      · rw [h.dj k hk] at h'; cases h'
      · have := h.dl k hk; omega
  have hds : ∀ k, D k → ¬ (k = p ∨ own k = some (4, z4)) := by
    rintro k hk (e | e)
    · subst e; have := h.dj _ hk; rw [h.op] at this; cases this
    · have := h.dj _ hk; rw [e] at this; cases this
  have nixN : ∀ k, own3 k = none → ¬ Ix own3 k := by
    rintro k hk ⟨l', hl', _⟩
    rw [hk] at hl'; cases hl'
  have F35 : Fr (Foot own D) w w5 := (F3.mono (S' := Foot own D) (fun k _ e => e.elim (fun e => .inl (by rw [e, h.op]; simp)) (fun e => .inl (by rw [e]; simp)))).trans F5 (fun k hk e => by
      obtain ⟨l, hl, _, _⟩ := e
      rcases hback k l hl with h' | h'
      · exact .inl (by rw [h']; simp)
      · omega)
  have hown5 : ∀ k l, own5 k = some l → own k = some l ∨ w.heap.size ≤ k := by
    intro k l hk
    rcases X5.2 k l hk with h' | h'
    · rcases hback k l h' with h'' | h''
      · exact .inl h''
      · exact .inr h''.2.2
    · have := F3.size; exact .inr (by omega)
  refine ⟨rfl, own5, fun k => D k ∨ (Dc k ∧ k < w1.heap.size), ⟨⟨ba, bo, bk, _, xs ++ [.pointer (some ⟨cb, 0, none⟩)], F5.keep hp3 (nix _ _ hop3 (.inl rfl)), ?_, ?_, I5, ?_⟩, X5.1 _ _ hop3, ?_, ?_, ?_, ?_⟩, F35, ?_⟩
  · have := ownsRow_keep hrow3 F5 (fun k hk => by
      have : g = k := by simpa [Value.ownBlock] using hk
      subst this; exact nix _ _ hog (.inr rfl))
    simpa using this
  · intro k hk
    have : g = k := by simpa [Value.ownBlock] using hk
    subst this
    exact X5.1 _ _ hog
  · intro i x t' hx' ht'
    have hxl : xs.length = cs.length := by have := h2.1; omega
    by_cases hi' : i < cs.length
    · rw [List.getElem?_append_left (by omega)] at hx' ht'
      obtain ⟨m', hm'⟩ := h5 i x t' hx' ht'
      refine ⟨m', ((hm'.kept F3 hds).kept F5 (fun k hk => nixN k (hdl k hk))).mono (fun k hk => ⟨.inl hk, rfl⟩)⟩
    · rw [List.getElem?_append_right (by omega)] at hx' ht'
      have hi0 : i = cs.length := by
        have := (List.getElem?_eq_some_iff.1 ht').1
        simp at this; omega
      subst hi0
      simp [hxl] at hx' ht'
      subst hx' ht'
      exact ⟨m, (hcl3.kept F5 (fun k hk => nixN k (hDc3 k hk))).mono (fun k hk => ⟨.inr hk, rfl⟩)⟩
  · rintro k (hk | hk)
    · cases e : own5 k with
      | none => rfl
      | some l =>
        rcases hown5 k l e with h' | h'
        · rw [h.dj k hk] at h'; cases h'
        · have := h.dl k hk; omega
    · cases e : own5 k with
      | none => rfl
      | some l =>
        rcases X5.2 k l e with h' | h'
        · rw [hDc3 k hk] at h'; cases h'
        · have := F13.size; omega
  · rintro k (hk | hk)
    · exact Nat.lt_of_lt_of_le (h.dl k hk) F35.size
    · have := F13.size; have := F5.size; omega
  · simp; omega
  · intro t' ht'
    rcases List.mem_append.1 ht' with ht' | ht'
    · exact h.fine t' ht'
    · simp at ht'; subst ht'; exact ⟨_, by omega, hp⟩
  · rintro k (hk | hk)
    · cases e : own5 k with
      | none => exact absurd e hk
      | some l =>
        rcases hown5 k l e with h' | h'
        · exact .inl (.inl (by rw [h']; simp))
        · exact .inr h'
    · rcases hk with hk | hk
      · exact .inl (.inr hk)
      · exact .inr (hDc k hk.1)

end Go.Proofs.Qxb6500302a
