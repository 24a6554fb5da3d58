import Derived.Test.Qxb6500302aIdx3
import Derived.BigQuiet
namespace Go.Proofs.Qxb6500302a
open Go.RowKit
set_option linter.unusedSimpArgs false
set_option linter.unusedVariables false

/-- 'm[k]': a look. -/
theorem look_any {K : Type} [DecidableEq K] {enc : K → Value} {mt kt : TypeId} (T : KeyT enc mt kt) {lab : K → Lab} {W : World} {own : Own} {b : Nat} {f : K → Option (List Nat)} (h : BMap enc lab W own b f) (k : K) :
    ∃ bs cap, (∀ w', w'.heap[b]? = W.heap[b]? → (Instr.lookup mt (.map (some b)) (enc k) true).run Try.prog w' = .ok (.tuple #[.slice bs ((f k).getD []).length cap, .bool (f k).isSome]) w') ∧
      (∀ w', w'.heap[b]? = W.heap[b]? → (Instr.lookup mt (.map (some b)) (enc k) false).run Try.prog w' = .ok (.slice bs ((f k).getD []).length cap) w') ∧
      Bucket W own (lab k) (.slice bs ((f k).getD []).length cap) ((f k).getD []) := by
  obtain ⟨E, clock, h1, h2, h3, h4⟩ := h
  cases hf : f k with
  | none =>
    have hg := (h4 k).1 hf
    refine ⟨none, 0, fun w' hw => ?_, fun w' hw => ?_, ⟨World.ownsRow_nil _ _ _ _, fun g hg => by cases hg⟩⟩
    · rw [run_lookupE T (hw.trans h1), hg]; rfl
    · rw [run_lookupE T (hw.trans h1), hg]; rfl
  | some ids =>
    obtain ⟨v, hv, hbk⟩ := (h4 k).2 ids hf
    obtain ⟨bs, cap, hsl⟩ := owns_slice hbk.1
    subst hsl
    refine ⟨bs, cap, fun w' hw => ?_, fun w' hw => ?_, hbk⟩
    · rw [run_lookupE T (hw.trans h1), hv]; rfl
    · rw [run_lookupE T (hw.trans h1), hv]; rfl

theorem nil_append (ty : TypeId) (w : World) : (Builtin.append_ #[30, 30] ty #[.slice none 0 0, .slice none 0 0]).run Try.prog w = .ok (.slice none 0 0) w := by
  kernel_rfl

theorem owns_cell {w : World} {base : Nat} {e : TypeId} {n cap : Nat} {ad : Addr} {xs : List Value} (h : w.ownsRow base e 1 (.slice (some ad) n cap) n xs) : ∀ j u, xs[j]? = some u → w.cell? (ad.add j) = some u := by
  intro j u hj
  rcases h.2 with ⟨e, h0⟩ | ⟨g, cap', cur, hv, _, hg, hn, _, hcs, htake⟩
  · cases e
  · cases hv
    have hlt : j < n := by
      have := (List.getElem?_eq_some_iff.1 hj).1
      have h2 := h.1
      omega
    rw [← htake, List.getElem?_take, if_pos (by omega), Array.getElem?_toList] at hj
    have := cell_of j hg hj
    by_cases h0 : j = 0
    · subst h0; simpa [Addr.add] using this
    · simpa [Addr.add, h0] using this

/-- 'append([]int8(nil), b...)': a copy. -/
theorem run_copy (ty : TypeId) {w : World} {bs : Option Addr} {cap : Nat} {ids : List Nat} (h : w.ownsRow 0 32 1 (.slice bs ids.length cap) ids.length (i8s ids)) (hl : ids.length ≤ 100) :
    ∃ bs' cap' w', (Builtin.append_ #[30, 30] ty #[.slice none 0 0, .slice bs ids.length cap]).run Try.prog w = .ok (.slice bs' ids.length cap') w' ∧ w'.ownsRow 0 32 1 (.slice bs' ids.length cap') ids.length (i8s ids) ∧ w.grownBy w' none ∧
      ∀ g, (Value.slice bs' ids.length cap').ownBlock = some g → g = w.heap.size ∧ g < w'.heap.size := by
  obtain ⟨i0, hi, hz0, hz1, hz2⟩ := info_parts Try.info32
  cases bs with
  | none =>
    rcases h.2 with ⟨e, h0⟩ | ⟨g, cap', cur, hv, _⟩
    · cases ids with
      | nil =>
        cases e
        exact ⟨none, 0, w, nil_append ty w, World.ownsRow_nil _ _ _ _, World.grownBy.refl _ _, fun g hg => by cases hg⟩
      | cons _ _ => simp at h0
    · cases hv
  | some ad =>
    have hcell := owns_cell h
    obtain ⟨v', w', hr, h2, h3, h4, h5⟩ := run_append_own_at (P := Try.prog) w 0 30 ty 32 i0 (.int .i8 0) 1 1 Try.underlying30 hi hz0 hz1 hz2 rfl (by omega) (.slice none 0 0) 0 [] (World.ownsRow_nil _ _ _ _) ad ids.length cap (i8s ids) (by simp [i8s]) hcell (by simp [i8s, Value.oneCell']) (by unfold maxLen; omega) (by omega) (Nat.zero_le _)
    rw [Nat.zero_add, List.nil_append] at h2
    obtain ⟨bs', cap', hsl⟩ := owns_slice h2
    subst hsl
    refine ⟨bs', cap', w', hr, h2, h3, fun g hg => ?_⟩
    have hg' : g = w.heap.size := by
      rcases h5 with h5 | h5
      · rw [hg] at h5; cases h5
      · rw [hg] at h5; exact Option.some.inj h5
    refine ⟨hg', ?_⟩
    rcases h2.2 with ⟨e, _⟩ | ⟨g2, _, cur, hv, _, hgb, _⟩
    · rw [e] at hg; cases hg
    · rw [hv] at hg
      have : g2 = g := by simpa [Value.ownBlock] using hg
      subst this
      exact lt_of_heap hgb

theorem step_copy {w : World} {ops : Array Oper} {o : Oper} {a : Act} {K : Act → World → Prop} {Q : Exit → Act → World → Prop} {E : Prop} (hgd : o.guard = none) (s x : Operand)
    (ho : o.op = .call { callee := .builtin .append, args := #[s, x], argTypes := #[30, 30] }) (hs : a.eval s = .slice none 0 0) {bs : Option Addr} {cap : Nat} {ids : List Nat} (hx : a.eval x = .slice bs ids.length cap)
    (hr : w.ownsRow 0 32 1 (.slice bs ids.length cap) ids.length (i8s ids)) (hl : ids.length ≤ 100)
    (h : ∀ bs' cap' w', w'.ownsRow 0 32 1 (.slice bs' ids.length cap') ids.length (i8s ids) → w.grownBy w' none → (∀ g, (Value.slice bs' ids.length cap').ownBlock = some g → g = w.heap.size ∧ g < w'.heap.size) → K (a.put o.dst (.slice bs' ids.length cap')) w') :
    if Region.wanted o (yielded ops a.tmps) = true then Oper.wp Try.prog o a w K Q else E := by
  have hw : Region.wanted o (yielded ops a.tmps) = true := by simp [Region.wanted, hgd]
  rw [if_pos hw]
  obtain ⟨bs', cap', w', hrun, h1, h2, h3⟩ := run_copy o.type hr hl
  unfold Oper.wp execOp
  simp only [ho, resolve, invoke, builtin, Sem.run_bind, Sem.run_pure, Result.andThen_ok, List.map_toArray, List.map_cons, List.map_nil, hs, hx, hrun]
  exact h bs' cap' w' h1 h2 h3

/-- The labels go on: old ones stay, new ones stand on new blocks. -/
def Ext (own own' : Own) (n : Nat) : Prop := (∀ g l, own g = some l → own' g = some l) ∧ ∀ g l, own' g = some l → own g = some l ∨ (n ≤ g ∧ l.1 ≠ 0 ∧ l.1 ≠ 4)
theorem Ext.refl (own : Own) (n : Nat) : Ext own own n := ⟨fun _ _ h => h, fun _ _ h => .inl h⟩
theorem Ext.trans {own own' own'' : Own} {n n' : Nat} (h : Ext own own' n) (h' : Ext own' own'' n') (hn : n ≤ n') : Ext own own'' n :=
  ⟨fun g l hg => h'.1 g l (h.1 g l hg), fun g l hg => (h'.2 g l hg).elim (fun hg => h.2 g l hg) (fun hg => .inr ⟨by omega, hg.2⟩)⟩
theorem OwnExt.ext {own own' : Own} {n n' : Nat} {l : Lab} (h : OwnExt own own' n l n') (h0 : l.1 ≠ 0) (h4 : l.1 ≠ 4) : Ext own own' n :=
  ⟨h.1, fun g l' hg => (h.2 g l' hg).elim .inl (fun hg => .inr ⟨hg.1, by rw [hg.2.2]; exact h0, by rw [hg.2.2]; exact h4⟩)⟩
theorem Ix.back {own own' : Own} {n k : Nat} (h : Ext own own' n) (hk : k < n) (hi : Ix own' k) : Ix own k := by
  obtain ⟨l, hl, h0, h4⟩ := hi
  rcases h.2 k l hl with h | h
  · exact ⟨l, h, h0, h4⟩
  · omega

/-- A copy that was made just now is a bucket in the making. -/
theorem Idx.fresh {w w' : World} {own : Own} {ba bo bk : Nat} {fA fO : K2 → Option (List Nat)} {fK : K4 → Option (List Nat)} (h : Idx w own ba bo bk fA fO fK) (k : K4) {v : Value} {ids : List Nat} (hf : Fr No w w')
    (hv : w'.ownsRow 0 32 1 v ids.length (i8s ids)) (hg : ∀ g, v.ownBlock = some g → w.heap.size ≤ g ∧ g < w'.heap.size) :
    ∃ own', Idx w' own' ba bo bk fA fO fK ∧ Ext own own' w.heap.size ∧ Bucket w' own' (labK k) v ids := by
  have hx : ∀ g l, own g = some l → relab own v (labK k) g = some l := by
    intro g l hl
    unfold relab
    by_cases e : v.ownBlock = some g
    · have := h.lt g l hl; have := (hg g e).1; omega
    · rw [if_neg e]; exact hl
  have hox : OwnExt own (relab own v (labK k)) w.heap.size (labK k) w'.heap.size := by
    refine ⟨hx, fun g l hl => ?_⟩
    unfold relab at hl
    by_cases e : v.ownBlock = some g
    · rw [if_pos e] at hl; exact .inr ⟨(hg g e).1, (hg g e).2, (Option.some.inj hl).symm⟩
    · rw [if_neg e] at hl; exact .inl hl
  refine ⟨relab own v (labK k), h.updK (h.mK.keep hf (fun h => h) (fun _ _ _ h => h) (fun g k' hg => hx _ _ hg)) (hf.mono (fun _ _ h => h.elim)) hox, hox.ext (by simp [labK]) (by simp [labK]), hv, fun g e => by unfold relab; rw [if_pos e]⟩
end Go.Proofs.Qxb6500302a
