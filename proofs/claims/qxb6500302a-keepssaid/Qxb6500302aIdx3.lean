import Derived.Test.Qxb6500302aIdx2
namespace Go.Proofs.Qxb6500302a
open Go.RowKit
set_option linter.unusedSimpArgs false
set_option linter.unusedVariables false

/-- 'm[k] = append(b, id)', b the bucket of k or one in the making: behind the append. -/
theorem append_update {K : Type} [DecidableEq K] {enc : K → Value} {mt kt : TypeId} (T : KeyT enc mt kt) {lab : K → Lab} (hinj : ∀ k k', lab k = lab k' → k = k') {W W1 : World} {own : Own} {b : Nat} {f : K → Option (List Nat)} (h : BMap enc lab W own b f) (k : K) (id : Nat)
    {lb : Lab} (hob : own b = some lb) (hlb : ∀ k, lab k ≠ lb) (hlt : ∀ g l, own g = some l → g < W.heap.size) {bv : Value} {ids : List Nat} (hbk : Bucket W own (lab k) bv ids) (hW1 : Fr No W W1) :
    W1.ownsRow 0 32 1 bv ids.length (i8s ids) ∧
    ∀ (g cap' H : Nat) (w2 : World), w2.ownsRow 0 32 1 (.slice (some ⟨g, 0, none⟩) (ids.length + 1) cap') (ids.length + 1) (i8s ids ++ [.int .i8 (id : Int)]) →
        W1.grownBy w2 bv.ownBlock → (bv.ownBlock = some g ∨ g = H) → W.heap.size ≤ H → g < w2.heap.size →
        ∃ (own' : Own) (w3 : World), (Instr.mapUpdate mt (.map (some b)) (enc k) (.slice (some ⟨g, 0, none⟩) (ids.length + 1) cap')).run Try.prog w2 = .ok () w3 ∧
          BMap enc lab w3 own' b (fun k' => if k' = k then some (ids ++ [id]) else f k') ∧ Fr (fun x => x = b ∨ own x = some (lab k)) W w2 ∧ Fr (fun x => x = b ∨ own x = some (lab k)) W w3 ∧ OwnExt own own' W.heap.size (lab k) w3.heap.size := by
  refine ⟨ownsRow_keep hbk.1 hW1 (fun _ _ h => h), ?_⟩
  intro g cap' H w2 hown2 hgrow hat hH hlt2
  obtain ⟨E, clock, hb, hst, hnd, h4⟩ := h
  have hbl := lt_of_heap hb
  have hnob : ∀ g, bv.ownBlock = some g → g ≠ b := fun g hg e => by
    subst e; have := hbk.2 g hg; rw [hob] at this; exact hlb k (Option.some.inj this).symm
  have hb2 := heap_grown hgrow (hW1.keep hb (fun h => h)) (fun e => hnob _ e rfl)
  have hfr2 : Fr (fun x => x = b ∨ own x = some (lab k)) W w2 := (hW1.mono (S' := fun x => x = b ∨ own x = some (lab k)) (fun _ _ h => h.elim)).grown hgrow (fun g hg _ => .inr (hbk.2 g hg))
  have hgb : g ≠ b := by
    rcases hat with h1 | h1
    · exact hnob g h1
    · omega
  have hx : ∀ g' l', own g' = some l' → relab own (.slice (some ⟨g, 0, none⟩) (ids.length + 1) cap') (lab k) g' = some l' :=
    relab_ext (v := bv) (n := W.heap.size) (H := H) hbk.2 (hat.elim (fun h => .inl h.symm) (fun h => .inr (by rw [h]; rfl))) hH hlt
  have hext : ∀ n', g < n' → ∀ g' l', relab own (.slice (some ⟨g, 0, none⟩) (ids.length + 1) cap') (lab k) g' = some l' → own g' = some l' ∨ (W.heap.size ≤ g' ∧ g' < n' ∧ l' = lab k) := by
    intro n' hn' g' l' hg'
    unfold relab at hg'
    by_cases hv : (Value.slice (some ⟨g, 0, none⟩) (ids.length + 1) cap').ownBlock = some g'
    · rw [if_pos hv] at hg'
      have hg2 : g = g' := by simpa [Value.ownBlock] using hv
      subst hg2
      rcases hat with h1 | h1
      · exact .inl (by rw [hbk.2 g h1]; exact hg')
      · exact .inr ⟨by omega, hn', (Option.some.inj hg').symm⟩
    · rw [if_neg hv] at hg'; exact .inl hg'
  -- what is stored, into whatever object
  have hbk3 : ∀ o : Obj, Bucket (put w2 b o) (relab own (.slice (some ⟨g, 0, none⟩) (ids.length + 1) cap') (lab k)) (lab k) (.slice (some ⟨g, 0, none⟩) (ids.length + 1) cap') (ids ++ [id]) := by
    intro o
    refine ⟨?_, fun g' hg' => by unfold relab; rw [if_pos hg']⟩
    have := ownsRow_keep (S := fun x => x = b) hown2 (Fr.put (S := fun x => x = b) (Fr.refl _ w2) (fun _ => rfl) o) (fun g' hg' e => hgb (by cases hg'; exact e))
    rw [i8s_snoc]
    simpa using this
  have hS : ∀ g' k', k' ≠ k → own g' = some (lab k') → ¬ (g' = b ∨ own g' = some (lab k)) := fun g' k' hk' hg' hs => by
    rcases hs with rfl | hs
    · rw [hob] at hg'; exact hlb k' (Option.some.inj hg').symm
    · rw [hg'] at hs; exact hk' (hinj _ _ (Option.some.inj hs))
  cases hf : f k with
  | none =>
    have hg := (h4 k).1 hf
    refine ⟨_, _, run_updateE_new T hb2 hg _, ?_, hfr2, hfr2.put (fun _ => .inl rfl) _, hx, hext _ (by rw [size_put]; exact hlt2)⟩
    exact BMap.upd (enc := enc) hinj h4 k _ _ (heap_put_same _ hb2) (hst.snoc _ _) (nodup_snoc hg hnd) (fun k' => getE_snoc _ _ _ _ _ hg) (hbk3 _) (hfr2.put (fun _ => .inl rfl) _) hS hx
  | some ids' =>
    obtain ⟨v, hv, _⟩ := (h4 k).2 ids' hf
    refine ⟨_, _, run_updateE T hb2 hv _, ?_, hfr2, hfr2.put (fun _ => .inl rfl) _, hx, hext _ (by rw [size_put]; exact hlt2)⟩
    exact BMap.upd (enc := enc) hinj h4 k _ _ (heap_put_same _ hb2) (hst.setV k _) (by rw [keys_setV']; exact hnd) (fun k' => by rw [getE_setV, hv]; by_cases hk : k' = k <;> simp [hk]) (hbk3 _) (hfr2.put (fun _ => .inl rfl) _) hS hx

section
variable {w w' : World} {own own' : Own} {ba bo bk : Nat} {fA fO fA' fO' : K2 → Option (List Nat)} {fK fK' : K4 → Option (List Nat)}

theorem Idx.keep (h : Idx w own ba bo bk fA fO fK) {S : Nat → Prop} (hf : Fr S w w') (hS : ∀ g l, own g = some l → ¬ S g) : Idx w' own ba bo bk fA fO fK :=
  ⟨h.oa, h.oo, h.ok, h.mA.keep hf (hS _ _ h.oa) (fun g k hg => hS g _ hg) (fun g k hg => hg), h.mO.keep hf (hS _ _ h.oo) (fun g k hg => hS g _ hg) (fun g k hg => hg),
   h.mK.keep hf (hS _ _ h.ok) (fun g k hg => hS g _ hg) (fun g k hg => hg), fun g l hg => Nat.lt_of_lt_of_le (h.lt g l hg) hf.size⟩

theorem ext_lt {n n' : Nat} {l0 : Lab} (hx : OwnExt own own' n l0 n') (hn : n ≤ n') (hlt : ∀ g l, own g = some l → g < n) : ∀ g l, own' g = some l → g < n' := by
  intro g l hg
  rcases hx.2 g l hg with h | h
  · have := hlt g l h; omega
  · exact h.2.1

theorem Idx.updA (h : Idx w own ba bo bk fA fO fK) {k : K2} (hm : BMap kv2 labA w' own' ba fA') (hf : Fr (fun x => x = ba ∨ own x = some (labA k)) w w') (hx : OwnExt own own' w.heap.size (labA k) w'.heap.size) : Idx w' own' ba bo bk fA' fO fK := by
  have hbo : ¬ (bo = ba ∨ own bo = some (labA k)) := by
    rintro (e | e)
    · have := h.oo; rw [e, h.oa] at this; simp at this
    · rw [h.oo] at e; simp [labA] at e
  have hbk : ¬ (bk = ba ∨ own bk = some (labA k)) := by
    rintro (e | e)
    · have := h.ok; rw [e, h.oa] at this; simp at this
    · rw [h.ok] at e; simp [labA] at e
  refine ⟨hx.1 _ _ h.oa, hx.1 _ _ h.oo, hx.1 _ _ h.ok, hm, h.mO.keep hf hbo (fun g k' hg => ?_) (fun g k' hg => hx.1 _ _ hg), h.mK.keep hf hbk (fun g k' hg => ?_) (fun g k' hg => hx.1 _ _ hg), ext_lt hx hf.size h.lt⟩
  · rintro (e | e)
    · rw [e, h.oa] at hg; simp [labO] at hg
    · rw [hg] at e; simp [labO, labA] at e
  · rintro (e | e)
    · rw [e, h.oa] at hg; simp [labK] at hg
    · rw [hg] at e; simp [labK, labA] at e

theorem Idx.updO (h : Idx w own ba bo bk fA fO fK) {k : K2} (hm : BMap kv2 labO w' own' bo fO') (hf : Fr (fun x => x = bo ∨ own x = some (labO k)) w w') (hx : OwnExt own own' w.heap.size (labO k) w'.heap.size) : Idx w' own' ba bo bk fA fO' fK := by
  have hba : ¬ (ba = bo ∨ own ba = some (labO k)) := by
    rintro (e | e)
    · have := h.oa; rw [e, h.oo] at this; simp at this
    · rw [h.oa] at e; simp [labO] at e
  have hbk : ¬ (bk = bo ∨ own bk = some (labO k)) := by
    rintro (e | e)
    · have := h.ok; rw [e, h.oo] at this; simp at this
    · rw [h.ok] at e; simp [labO] at e
  refine ⟨hx.1 _ _ h.oa, hx.1 _ _ h.oo, hx.1 _ _ h.ok, h.mA.keep hf hba (fun g k' hg => ?_) (fun g k' hg => hx.1 _ _ hg), hm, h.mK.keep hf hbk (fun g k' hg => ?_) (fun g k' hg => hx.1 _ _ hg), ext_lt hx hf.size h.lt⟩
  · rintro (e | e)
    · rw [e, h.oo] at hg; simp [labA] at hg
    · rw [hg] at e; simp [labO, labA] at e
  · rintro (e | e)
    · rw [e, h.oo] at hg; simp [labK] at hg
    · rw [hg] at e; simp [labK, labO] at e

theorem Idx.updK (h : Idx w own ba bo bk fA fO fK) {k : K4} (hm : BMap kv4 labK w' own' bk fK') (hf : Fr (fun x => x = bk ∨ own x = some (labK k)) w w') (hx : OwnExt own own' w.heap.size (labK k) w'.heap.size) : Idx w' own' ba bo bk fA fO fK' := by
  have hba : ¬ (ba = bk ∨ own ba = some (labK k)) := by
    rintro (e | e)
    · have := h.oa; rw [e, h.ok] at this; simp at this
    · rw [h.oa] at e; simp [labK] at e
  have hbo : ¬ (bo = bk ∨ own bo = some (labK k)) := by
    rintro (e | e)
    · have := h.oo; rw [e, h.ok] at this; simp at this
    · rw [h.oo] at e; simp [labK] at e
  refine ⟨hx.1 _ _ h.oa, hx.1 _ _ h.oo, hx.1 _ _ h.ok, h.mA.keep hf hba (fun g k' hg => ?_) (fun g k' hg => hx.1 _ _ hg), h.mO.keep hf hbo (fun g k' hg => ?_) (fun g k' hg => hx.1 _ _ hg), hm, ext_lt hx hf.size h.lt⟩
  · rintro (e | e)
    · rw [e, h.ok] at hg; simp [labA] at hg
    · rw [hg] at e; simp [labK, labA] at e
  · rintro (e | e)
    · rw [e, h.ok] at hg; simp [labO] at hg
    · rw [hg] at e; simp [labO, labK] at e

theorem labA_inj (k k' : K2) (h : labA k = labA k') : k = k' := by simpa [labA] using h
theorem labO_inj (k k' : K2) (h : labO k = labO k') : k = k' := by simpa [labO] using h
theorem labK_inj (k k' : K4) (h : labK k = labK k') : k = k' := by simpa [labK] using h
end
end Go.Proofs.Qxb6500302a
