import Derived.Test.Qxb6500302aStore1
namespace Go.Proofs.Qxb6500302a
open Go.RowKit
set_option linter.unusedSimpArgs false
set_option linter.unusedVariables false
attribute [local go_sem ↓] Go.wp_at_zero Go.wp_at_succ

/-- A program that stands in memory: its blocks are those that 'own' labels, and D's (its trees). -/
structure ProgAt (w : World) (own : Own) (D : Nat → Prop) (p : Nat) (cs : List Tm) : Prop where
  main : ∃ (ba bo bk : Nat) (sl : Value) (xs : List Value), w.heap[p]? = some (.cells #[sl, .map (some ba), .map (some bo), .map (some bk)] 52) ∧ w.ownsRow 0 53 1 sl cs.length xs ∧ (∀ g, sl.ownBlock = some g → own g = some (4, z4)) ∧
    Idx w own ba bo bk (fAll cs) (fOpen cs) (fKey cs) ∧ ∀ (i : Nat) (x : Value) (t : Tm), xs[i]? = some x → cs[i]? = some t → ∃ m, ClauseN w D m x t
  op : own p = some (0, z4)
  dj : ∀ k, D k → own k = none
  dl : ∀ k, D k → k < w.heap.size
  len : cs.length ≤ 8
  fine : ∀ t ∈ cs, ∃ s : List UInt8, s.length ≤ 40 ∧ parseOf false s = some t

/-- The blocks of a program. -/
def Foot (own : Own) (D : Nat → Prop) (k : Nat) : Prop := own k ≠ none ∨ D k

theorem ProgAt.keep {w w' : World} {own : Own} {D : Nat → Prop} {p : Nat} {cs : List Tm} (h : ProgAt w own D p cs) {S : Nat → Prop} (hf : Fr S w w') (hS : ∀ k, Foot own D k → ¬ S k) : ProgAt w' own D p cs := by
  obtain ⟨ba, bo, bk, sl, xs, h1, h2, h3, h4, h5⟩ := h.main
  have ho : ∀ g l, own g = some l → ¬ S g := fun g l hg => hS g (.inl (by rw [hg]; simp))
  exact ⟨⟨ba, bo, bk, sl, xs, hf.keep h1 (ho _ _ h.op), ownsRow_keep h2 hf (fun g hg => ho _ _ (h3 g hg)), h3, h4.keep hf ho, fun i x t hx ht => (h5 i x t hx ht).imp fun m hm => hm.kept hf (fun k hk => hS k (.inr hk))⟩,
    h.op, h.dj, fun k hk => Nat.lt_of_lt_of_le (h.dl k hk) hf.size, h.len, h.fine⟩

/-- 'Add', plainly: the clauses behind it, the id, the error. -/
def addOf (cs : List Tm) (s : List UInt8) : List Tm × Int × Int :=
  if 40 < s.length then (cs, -1, 1) else
  match parseOf false s with
  | none => (cs, -1, 5)
  | some t => if 8 ≤ cs.length then (cs, -1, 6) else (cs ++ [t], cs.length, 0)

/-- What a change leaves of the blocks: the old ones, and new ones. -/
def Newer (own : Own) (D : Nat → Prop) (own' : Own) (D' : Nat → Prop) (n : Nat) : Prop := ∀ k, Foot own' D' k → Foot own D k ∨ n ≤ k

def AddPost (own : Own) (D : Nat → Prop) (p : Nat) (cs : List Tm) (s : List UInt8) (w : World) (e : Ending) (w' : World) : Prop :=
  e = .returned (.tuple #[.int .i64 (addOf cs s).2.1, .int .i64 (addOf cs s).2.2]) ∧ ∃ own' D', ProgAt w' own' D' p (addOf cs s).1 ∧ Fr (Foot own D) w w' ∧ Newer own D own' D' w.heap.size

theorem Try.info53 : (Try.prog.info? 53).map (fun i => (i.zero, i.size, i.bytes)) = some (some (.pointer none), 1, 8) := by kernel_rfl

theorem Idx.keepX {w w' : World} {own own' : Own} {ba bo bk : Nat} {fA fO : K2 → Option (List Nat)} {fK : K4 → Option (List Nat)} (h : Idx w own ba bo bk fA fO fK) {S : Nat → Prop} (hf : Fr S w w') (hS : ∀ g l, own g = some l → l.1 ≠ 0 → l.1 ≠ 4 → ¬ S g)
    (hx : ∀ g l, own g = some l → own' g = some l) (hlt : ∀ g l, own' g = some l → g < w'.heap.size) : Idx w' own' ba bo bk fA fO fK :=
  ⟨hx _ _ h.oa, hx _ _ h.oo, hx _ _ h.ok, h.mA.keep hf (hS _ _ h.oa (by simp) (by simp)) (fun g k hg => hS g _ hg (by simp [labA]) (by simp [labA])) (fun g k hg => hx _ _ hg),
   h.mO.keep hf (hS _ _ h.oo (by simp) (by simp)) (fun g k hg => hS g _ hg (by simp [labO]) (by simp [labO])) (fun g k hg => hx _ _ hg),
   h.mK.keep hf (hS _ _ h.ok (by simp) (by simp)) (fun g k hg => hS g _ hg (by simp [labK]) (by simp [labK])) (fun g k hg => hx _ _ hg), hlt⟩

theorem enter_any {w : World} {p ba bo bk m : Nat} {own : Own} {D : Nat → Prop} {vc : Value} {t h : Tm} {ts cs : List Tm} {sl : Value}
    (hp : w.heap[p]? = some (.cells #[sl, .map (some ba), .map (some bo), .map (some bk)] 52)) (hop : own p = some (0, z4)) (hlen : cs.length ≤ 8)
    (hc : ClauseN w D m vc t) (ht : t = tCall 58 (h :: ts)) (hk : h.kind = 2) (hD : ∀ k, D k → own k = none) (hidx : Idx w own ba bo bk (fAll cs) (fOpen cs) (fKey cs)) :
    Calls Try.prog 21 #[.pointer (some ⟨p, 0, none⟩), .int .i8 (cs.length : Int), vc] w (EnterPost own ba bo bk (fAll (cs ++ [t])) (fOpen (cs ++ [t])) (fKey (cs ++ [t])) w) := by
  have hpr : predOf t = (h.letter, digit h.kids.length) := by rw [ht]; rfl
  have hke : keyOf t = ownKeyOf h := by rw [ht]; rfl
  have l1 : ∀ k, ((fAll cs k).getD []).length ≤ 100 := fun k => by have := fAll_len cs k; omega
  have l2 : ∀ k, ((fOpen cs k).getD []).length ≤ 100 := fun k => by have := fOpen_len cs k; omega
  have l3 : ∀ k, ((fKey cs k).getD []).length ≤ 100 := fun k => by have := fKey_len cs k; omega
  rw [← fAll_add]
  rw [ht] at hc
  cases hf : ownKeyOf h with
  | some f =>
    have := enter_keyed hp hop (id := cs.length) (by omega) hc hk hD hidx l1 l2 l3 hf
    rw [← hpr, fKey_keyed cs t (hke.trans hf)] at this
    rw [← fOpen_keyed cs t (hke.trans hf)]
    exact this
  | none =>
    have := enter_open hp hop (id := cs.length) (by omega) hc hk hD hidx l1 l2 l3 hf
    rw [← hpr, fKey_open cs t (hke.trans hf), fOpen_add cs t (hke.trans hf)] at this
    exact this

set_option maxRecDepth 40000 in
set_option maxHeartbeats 8000000 in
theorem add_any {w : World} {own : Own} {D : Nat → Prop} {p : Nat} {cs : List Tm} {s : ByteArray} (h : ProgAt w own D p cs) :
    Calls Try.prog 11 #[.pointer (some ⟨p, 0, none⟩), .string s] w (AddPost own D p cs s.data.toList w) := by
  have hsz : s.data.toList.length = s.size := by rw [Array.length_toList]; rfl
  by_cases h40 : 40 < s.size
  · have hd : decide ((40 : Int) < (s.size : Int)) = true := by simp; omega
    have ha : addOf cs s.data.toList = (cs, -1, 1) := by unfold addOf; rw [if_pos (by omega)]
    go_enter Try.func11, Try.ntmps11
    go_wp2_with fail
    go_ret2
    unfold AddPost
    rw [ha]
    exact ⟨rfl, own, D, h, Fr.refl _ _, fun k hk => .inl hk⟩
  · have hd : decide ((40 : Int) < (s.size : Int)) = false := by simp; omega
    have HP := parse_any (q := false) (w := w) (s := s) (by omega)
    have ha : addOf cs s.data.toList = match parseOf false s.data.toList with
      | none => (cs, -1, 5)
      | some t => if 8 ≤ cs.length then (cs, -1, 6) else (cs ++ [t], cs.length, 0) := by unfold addOf; rw [if_neg (by omega)]
    cases hp : parseOf false s.data.toList with
    | none =>
      rw [hp] at HP ha
      have ha' : addOf cs s.data.toList = (cs, -1, 5) := ha
      go_enter Try.func11, Try.ntmps11
      go_wp2_with fail
      refine HP.mono ?_
      rintro e w' ⟨⟨b, rfl⟩, hf⟩
      go_wp2_with fail
      refine bodyPost_ret (v := .tuple #[.int .i64 (-1), .int .i64 5]) (by simp [results, Try.results11, go_sem]) rfl ?_
      unfold AddPost
      rw [ha']
      exact ⟨rfl, own, D, h.keep hf (fun _ _ h => h), hf.mono (fun _ _ h => h.elim), fun k hk => .inl hk⟩
    | some t =>
      rw [hp] at HP ha
      obtain ⟨ba, bo, bk, sl, xs, h1, h2, h3, h4, h5⟩ := h.main
      obtain ⟨bs, cap, hsl⟩ := owns_slice h2
      subst hsl
      by_cases h8 : 8 ≤ cs.length
      · have ha' : addOf cs s.data.toList = (cs, -1, 6) := by rw [ha]; exact if_pos h8
        have hd8 : decide ((8 : Int) ≤ (cs.length : Int)) = true := by simp; omega
        go_enter Try.func11, Try.ntmps11
        go_wp2_with fail
        refine HP.mono ?_
        rintro e w' ⟨v, m, Dc, rfl, hcl, hDc, hf⟩
        have cp : w'.cell? ⟨p, 0, none⟩ = some (.slice bs cs.length cap) := cell_of 0 (hf.keep h1 (fun h => h)) rfl
        go_wp2_with fail
        refine bodyPost_ret (v := .tuple #[.int .i64 (-1), .int .i64 6]) (by simp [results, Try.results11, go_sem]) rfl ?_
        unfold AddPost
        rw [ha']
        exact ⟨rfl, own, D, h.keep hf (fun _ _ h => h), hf.mono (fun _ _ h => h.elim), fun k hk => .inl hk⟩
      · have ha' : addOf cs s.data.toList = (cs ++ [t], (cs.length : Int), 0) := by rw [ha]; exact if_neg h8
        have hd8 : decide ((8 : Int) ≤ (cs.length : Int)) = false := by simp; omega
        obtain ⟨hh, tts, htt, hkk⟩ := parse_shape hp
        go_enter Try.func11, Try.ntmps11
        go_wp2_with fail
        refine HP.mono ?_
        rintro e w1 ⟨v, m, Dc, rfl, hcl, hDc, hf⟩
        have hcl' := hcl.clip
        obtain ⟨cb, crb, hv, _⟩ := hcl
        subst hv
        have hp1 := hf.keep h1 (fun h => h)
        have cp : w1.cell? ⟨p, 0, none⟩ = some (.slice bs cs.length cap) := cell_of 0 hp1 rfl
        have hpl := lt_of_heap hp1
        have hrow1 := ownsRow_keep h2 (hf.alloc (.cells #[.pointer (some ⟨cb, 0, none⟩)] 53)) (fun _ _ h => h)
        have hnb : (w1.alloc (.cells #[.pointer (some ⟨cb, 0, none⟩)] 53)).heap[w1.heap.size]? = some (.cells #[.pointer (some ⟨cb, 0, none⟩)] 53) := heap_alloc_same _ _
        obtain ⟨i0, hi, hz0, hz1, hz2⟩ := info_parts Try.info53
        have hw8 : IntKind.i8.wrap (cs.length : Int) = (cs.length : Int) := by
          have : ∀ n : Nat, n < 8 → IntKind.i8.wrap (n : Int) = (n : Int) := by decide
          exact this _ (by omega)
        go_wp2_with (at_builtin; refine wpList_append_lies _ (by rfl) _ _ 50 (by rfl) 0 53 i0 (.pointer none) 1 8 Try.underlying50 hi hz0 hz1 hz2 rfl (by omega) _ cs.length xs (by rfl) hrow1 ⟨w1.heap.size, 0, none⟩ 1 1 [.pointer (some ⟨cb, 0, none⟩)] (by rfl) (by rfl) (World.news_of_block (cs := #[.pointer (some ⟨cb, 0, none⟩)]) hnb) (by simp [Value.oneCell']) (by omega) (by unfold maxLen; omega) (by omega) (Nat.zero_le _) (w1.heap.size + 1) (by simp) ?_; intro g cap2 w2 hown2 hgrow hat hlt2; have hp2 := heap_grown hgrow (heap_alloc_keep hp1) (fun e => by have := h3 _ e; rw [h.op] at this; simp at this); have cp2 := cell_of 0 hp2 rfl; have fp2 := frozen_of 0 hp2)
        have hp3 : (w2.setCell ⟨p, 0, none⟩ (.slice (some ⟨g, 0, none⟩) (cs.length + 1) cap2)).heap[p]? = some (.cells #[.slice (some ⟨g, 0, none⟩) (cs.length + 1) cap2, .map (some ba), .map (some bo), .map (some bk)] 52) := by
          rw [heap_setCell_same _ hp2]; rfl
        have hgp : g ≠ p := by
          rintro rfl
          rcases hat with e | e
          · have := h3 _ e; rw [h.op] at this; simp at this
          · have := lt_of_heap h1; have := hf.size; omega
        have hrow3 : (w2.setCell ⟨p, 0, none⟩ (.slice (some ⟨g, 0, none⟩) (cs.length + 1) cap2)).ownsRow 0 53 1 (.slice (some ⟨g, 0, none⟩) (cs.length + 1) cap2) (cs.length + 1) (xs ++ [.pointer (some ⟨cb, 0, none⟩)]) :=
          ownsRow_setCell_other hown2 (by simpa [Value.ownBlock] using hgp) _
        have F3 : Fr (fun k => k = p ∨ own k = some (4, z4)) w (w2.setCell ⟨p, 0, none⟩ (.slice (some ⟨g, 0, none⟩) (cs.length + 1) cap2)) :=
          Fr.setCell (S := fun k => k = p ∨ own k = some (4, z4)) (Fr.grown (S := fun k => k = p ∨ own k = some (4, z4)) ((hf.alloc _).mono (fun _ _ h => h.elim)) hgrow (fun k hk _ => .inr (h3 k hk))) (fun _ => .inl rfl) _
        have F13 : Fr (fun k => k = p ∨ own k = some (4, z4)) w1 (w2.setCell ⟨p, 0, none⟩ (.slice (some ⟨g, 0, none⟩) (cs.length + 1) cap2)) :=
          Fr.setCell (S := fun k => k = p ∨ own k = some (4, z4)) (Fr.grown (S := fun k => k = p ∨ own k = some (4, z4)) ((Fr.refl _ w1).alloc _) hgrow (fun k hk _ => .inr (h3 k hk))) (fun _ => .inl rfl) _
        have hg3 : g < (w2.setCell ⟨p, 0, none⟩ (.slice (some ⟨g, 0, none⟩) (cs.length + 1) cap2)).heap.size := by simpa [World.setCell] using hlt2
        generalize (w2.setCell ⟨p, 0, none⟩ (.slice (some ⟨g, 0, none⟩) (cs.length + 1) cap2)) = W3 at *
        have hnew : own g = some (4, z4) ∨ w.heap.size ≤ g := by
          rcases hat with e | e
          · exact .inl (h3 _ e)
          · have := hf.size; exact .inr (by omega)
        have hx : ∀ g' l', own g' = some l' → relab own (.slice (some ⟨g, 0, none⟩) (cs.length + 1) cap2) (4, z4) g' = some l' := by
          intro g' l' hg'
          unfold relab
          by_cases e : (Value.slice (some ⟨g, 0, none⟩) (cs.length + 1) cap2).ownBlock = some g'
          · have : g = g' := by simpa [Value.ownBlock] using e
            subst this
            rw [if_pos e]
            rcases hnew with e | e
            · rw [e] at hg'; exact hg'
            · have := h4.lt _ _ hg'; omega
          · rw [if_neg e]; exact hg'
        have hback : ∀ g' l', relab own (.slice (some ⟨g, 0, none⟩) (cs.length + 1) cap2) (4, z4) g' = some l' → own g' = some l' ∨ (g' = g ∧ l' = (4, z4) ∧ w.heap.size ≤ g') := by
          intro g' l' hg'
          unfold relab at hg'
          by_cases e : (Value.slice (some ⟨g, 0, none⟩) (cs.length + 1) cap2).ownBlock = some g'
          · have : g = g' := by simpa [Value.ownBlock] using e
            subst this
            rw [if_pos e] at hg'
            rcases hnew with e | e
            · exact .inl (by rw [e]; exact hg')
            · exact .inr ⟨rfl, (Option.some.inj hg').symm, e⟩
          · rw [if_neg e] at hg'; exact .inl hg'
        have hog : relab own (.slice (some ⟨g, 0, none⟩) (cs.length + 1) cap2) (4, z4) g = some (4, z4) := by unfold relab; exact if_pos (by simp [Value.ownBlock])
        generalize relab own (.slice (some ⟨g, 0, none⟩) (cs.length + 1) cap2) (4, z4) = own3 at *
        have I3 : Idx W3 own3 ba bo bk (fAll cs) (fOpen cs) (fKey cs) := h4.keepX F3 (fun g l hg h0 h4' e => by
            rcases e with e | e
            · subst e; rw [h.op] at hg; cases hg; exact h0 rfl
            · rw [hg] at e; cases e; exact h4' rfl) hx (fun g' l' hg' => by
            rcases hback g' l' hg' with e | e
            · exact Nat.lt_of_lt_of_le (h4.lt _ _ e) F3.size
            · rw [e.1]; exact hg3)
        have hDc3 : ∀ k, (Dc k ∧ k < w1.heap.size) → own3 k = none := by
          intro k hk
          cases e : own3 k with
          | none => rfl
          | some l =>
            have h9 := hDc k hk.1
            rcases hback k l e with h | h
            · have := h4.lt _ _ h; omega
            · rcases hat with e2 | e2
              · have := h4.lt _ _ (h3 _ e2); omega
              · omega
        have hcl3 : ClauseN W3 (fun k => Dc k ∧ k < w1.heap.size) m (.pointer (some ⟨cb, 0, none⟩)) t := hcl'.kept F13 (fun k hk e => by
            have h9 := hDc k hk.1
            rcases e with e | e
            · have := lt_of_heap h1; omega
            · have := h4.lt _ _ e; omega)
        refine (enter_any hp3 (hx _ _ h.op) h.len hcl3 htt hkk hDc3 I3).mono ?_
        rintro e w5 ⟨rfl, own5, I5, F5, X5⟩
        go_wp2_with fail
        refine bodyPost_ret (v := .tuple #[.int .i64 (cs.length : Int), .int .i64 0]) (by simp [results, Try.results11, go_sem]) rfl ?_
        unfold AddPost
        rw [ha']
        have hop3 := hx _ _ h.op
        have nix : ∀ k l, own3 k = some l → (l.1 = 0 ∨ l.1 = 4) → ¬ Ix own3 k := by
          rintro k l hk hl ⟨l', hl', h0, h4'⟩
          rw [hk] at hl'; cases hl'
          rcases hl with e | e
          · exact h0 e
          · exact h4' e
        have hdl : ∀ k, D k → own3 k = none := by
          intro k hk
          cases e : own3 k with
          | none => rfl
          | some l =>
            rcases hback k l e with h' | h'
            · rw [h.dj k hk] at h'; cases h'
            · have := h.dl k hk; omega
        have hds : ∀ k, D k → ¬ (k = p ∨ own k = some (4, z4)) := by
          rintro k hk (e | e)
          · subst e; have := h.dj _ hk; rw [h.op] at this; cases this
          · have := h.dj _ hk; rw [e] at this; cases this
        have nixN : ∀ k, own3 k = none → ¬ Ix own3 k := by
          rintro k hk ⟨l', hl', _⟩
          rw [hk] at hl'; cases hl'
        have F35 : Fr (Foot own D) w w5 := (F3.mono (S' := Foot own D) (fun k _ e => e.elim (fun e => .inl (by rw [e, h.op]; simp)) (fun e => .inl (by rw [e]; simp)))).trans F5 (fun k hk e => by
            obtain ⟨l, hl, _, _⟩ := e
            rcases hback k l hl with h' | h'
            · exact .inl (by rw [h']; simp)
            · omega)
        have hown5 : ∀ k l, own5 k = some l → own k = some l ∨ w.heap.size ≤ k := by
          intro k l hk
          rcases X5.2 k l hk with h' | h'
          · rcases hback k l h' with h'' | h''
            · exact .inl h''
            · exact .inr h''.2.2
          · have := F3.size; exact .inr (by omega)
        refine ⟨rfl, own5, fun k => D k ∨ (Dc k ∧ k < w1.heap.size), ⟨⟨ba, bo, bk, _, xs ++ [.pointer (some ⟨cb, 0, none⟩)], F5.keep hp3 (nix _ _ hop3 (.inl rfl)), ?_, ?_, I5, ?_⟩, X5.1 _ _ hop3, ?_, ?_, ?_, ?_⟩, F35, ?_⟩
        · have := ownsRow_keep hrow3 F5 (fun k hk => by
            have : g = k := by simpa [Value.ownBlock] using hk
            subst this; exact nix _ _ hog (.inr rfl))
          simpa using this
        · intro k hk
          have : g = k := by simpa [Value.ownBlock] using hk
          subst this
          exact X5.1 _ _ hog
        · intro i x t' hx' ht'
          have hxl : xs.length = cs.length := by have := h2.1; omega
          by_cases hi' : i < cs.length
          · rw [List.getElem?_append_left (by omega)] at hx' ht'
            obtain ⟨m', hm'⟩ := h5 i x t' hx' ht'
            refine ⟨m', ((hm'.kept F3 hds).kept F5 (fun k hk => nixN k (hdl k hk))).mono (fun k hk => ⟨.inl hk, rfl⟩)⟩
          · rw [List.getElem?_append_right (by omega)] at hx' ht'
            have hi0 : i = cs.length := by
              have := (List.getElem?_eq_some_iff.1 ht').1
              simp at this; omega
            subst hi0
            simp [hxl] at hx' ht'
            subst hx' ht'
            exact ⟨m, (hcl3.kept F5 (fun k hk => nixN k (hDc3 k hk))).mono (fun k hk => ⟨.inr hk, rfl⟩)⟩
        · rintro k (hk | hk)
          · cases e : own5 k with
            | none => rfl
            | some l =>
              rcases hown5 k l e with h' | h'
              · rw [h.dj k hk] at h'; cases h'
              · have := h.dl k hk; omega
          · cases e : own5 k with
            | none => rfl
            | some l =>
              rcases X5.2 k l e with h' | h'
              · rw [hDc3 k hk] at h'; cases h'
              · have := F13.size; omega
        · rintro k (hk | hk)
          · exact Nat.lt_of_lt_of_le (h.dl k hk) F35.size
          · have := F13.size; have := F5.size; omega
        · simp; omega
        · intro t' ht'
          rcases List.mem_append.1 ht' with ht' | ht'
          · exact h.fine t' ht'
          · simp at ht'; subst ht'; exact ⟨_, by omega, hp⟩
        · rintro k (hk | hk)
          · cases e : own5 k with
            | none => exact absurd e hk
            | some l =>
              rcases hown5 k l e with h' | h'
              · exact .inl (.inl (by rw [h']; simp))
              · exact .inr h'
          · rcases hk with hk | hk
            · exact .inl (.inr hk)
            · exact .inr (hDc k hk.1)
end Go.Proofs.Qxb6500302a
