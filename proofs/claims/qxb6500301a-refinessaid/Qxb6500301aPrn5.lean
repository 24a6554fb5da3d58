import Derived.Test.Qxb6500301aPrn2
namespace Go.Proofs.Qxb6500301a
open Go.RowKit
set_option linter.unusedSimpArgs false
set_option linter.unusedVariables false
attribute [local go_sem ↓] Go.wp_at_zero Go.wp_at_succ
attribute [-go_sem] Go.run_string_add_if Go.run_index_string Go.run_slice_string_if

/-! ### The plain printer -/
structure POk (st st' : PS) : Prop where
  ge : st.1.length ≤ st'.1.length
  le : st'.1.length ≤ 48
  nm : st.2.length ≤ st.1.length → st'.2.length ≤ st'.1.length
theorem putKids_ok {P : Nat → PS → Option PS} (hP : ∀ k st st', P k st = some st' → POk st st') : ∀ (ks : List Nat) (b : Bool) (st st' : PS), putKids P b ks st = some st' → st.1.length ≤ st'.1.length ∧ (st.2.length ≤ st.1.length → st'.2.length ≤ st'.1.length) ∧ (ks ≠ [] → st'.1.length ≤ 48)
  | [], b, st, st', h => by simp only [putKids, Option.some.injEq] at h; subst h; exact ⟨Nat.le_refl _, id, fun e => absurd rfl e⟩
  | k :: ks, b, (out, nm), st', h => by
    simp only [putKids] at h
    split at h
    · cases h
    · rw [Option.bind_eq_some_iff] at h
      obtain ⟨st1, h1, h2⟩ := h
      have p1 := hP _ _ _ h1
      have p2 := putKids_ok hP ks false st1 st' h2
      have g1 := p1.ge
      simp only [List.length_append, List.length_cons, List.length_nil] at g1
      refine ⟨by simp only; omega, fun hn => p2.2.1 (p1.nm (by simp at hn ⊢; omega)), fun _ => ?_⟩
      by_cases hk : ks = []
      · subst hk
        simp only [putKids, Option.some.injEq] at h2
        subst h2
        exact p1.le
      · exact p2.2.2 hk
theorem putN_ok : ∀ (f : Nat) (ns : List Nd) (a : Nat) (st st' : PS), putN f ns a st = some st' → POk st st' := by
  intro f
  induction f with
  | zero => intro ns a st st' h; simp [putN] at h
  | succ f ih =>
    intro ns a st st' h
    simp only [putN] at h
    split at h
    · rename_i c d es hx
      rw [Option.bind_eq_some_iff] at h
      obtain ⟨st1, h1, h2⟩ := h
      have p1 := putKids_ok (ih ns) es true _ _ h1
      unfold shut at h2
      split at h2
      · rename_i hle
        cases h2
        simp only [List.length_append, List.length_cons, List.length_nil] at p1
        have e1 := endL_len es st1.1
        refine ⟨by simp only; omega, hle, fun hn => ?_⟩
        have := p1.2.1 (by omega)
        simp only; omega
      · cases h2
    · unfold putVar at h
      split at h
      · rename_i hle
        cases h
        refine ⟨by simp, hle, fun hn => ?_⟩
        have := itoaL_len (ixOf st.2 (deref ns a))
        have := nmAdd_len st.2 (deref ns a)
        simp only [List.length_append, List.length_cons, List.length_nil]
        omega
      · cases h

/-! ### The pen in memory -/
structure PenAt (b0 : Nat) (w : World) (g mb : Nat) (bs : Option Addr) (cap : Nat) (st : PS) : Prop where
  pen : w.heap[g]? = some (.cells #[.slice bs st.1.length cap, .map (some mb)] 75)
  buf : Buf b0 w (.slice bs st.1.length cap) st.1
  map : w.heap[mb]? = some (.map (nmEnts st.2) st.2.length)
  gb : b0 ≤ g
  mbb : b0 ≤ mb
theorem PenAt.ne {b0 : Nat} {w : World} {g mb : Nat} {bs : Option Addr} {cap : Nat} {st : PS} (h : PenAt b0 w g mb bs cap st) {k : Nat} (hk : (Value.slice bs st.1.length cap).ownBlock = some k) : g ≠ k ∧ mb ≠ k := by
  rcases h.buf.2 with ⟨e, _⟩ | ⟨g', cap', cur, hv, _, hg, _⟩
  · rw [e] at hk; cases hk
  · rw [hv] at hk
    have : g' = k := by simpa [Value.ownBlock] using hk
    subst this
    refine ⟨fun e => ?_, fun e => ?_⟩
    · subst e; have := h.pen; rw [hg] at this; simp at this
    · subst e; have := h.map; rw [hg] at this; simp at this
theorem PenAt.gm {b0 : Nat} {w : World} {g mb : Nat} {bs : Option Addr} {cap : Nat} {st : PS} (h : PenAt b0 w g mb bs cap st) : g ≠ mb := by
  intro e; subst e; have := h.pen; rw [h.map] at this; simp at this
theorem PenAt.no {b0 : Nat} {w w' : World} {g mb : Nat} {bs : Option Addr} {cap : Nat} {st : PS} (h : PenAt b0 w g mb bs cap st) (hf : Fr No w w') : PenAt b0 w' g mb bs cap st :=
  ⟨hf.keep h.pen (fun e => e), h.buf.no hf, hf.keep h.map (fun e => e), h.gb, h.mbb⟩
/-- Behind an append. -/
theorem PenAt.app {b0 : Nat} {w w2 : World} {g mb : Nat} {bs bs2 : Option Addr} {cap cap2 : Nat} {st : PS} {nw : List UInt8} (h : PenAt b0 w g mb bs cap st) (hf : Fr (fun k => (Value.slice bs st.1.length cap).ownBlock = some k) w w2) (hb : Buf b0 w2 (.slice bs2 (st.1 ++ nw).length cap2) (st.1 ++ nw)) :
    PenAt b0 (w2.setCell ⟨g, 0, none⟩ (.slice bs2 (st.1 ++ nw).length cap2)) g mb bs2 cap2 (st.1 ++ nw, st.2) := by
  have hp2 := hf.keep h.pen (fun e => (h.ne e).1 rfl)
  have hm2 := hf.keep h.map (fun e => (h.ne e).2 rfl)
  have F : Fr (fun k => k = g) w2 (w2.setCell ⟨g, 0, none⟩ (.slice bs2 (st.1 ++ nw).length cap2)) := Fr.setCell (S := fun k => k = g) (Fr.refl _ w2) (fun _ => rfl) _
  have hgb : ∀ k, (Value.slice bs2 (st.1 ++ nw).length cap2).ownBlock = some k → g ≠ k := by
    intro k hk e
    rcases hb.2 with ⟨e', _⟩ | ⟨g', cap', cur, hv, _, hg, _⟩
    · rw [e'] at hk; cases hk
    · rw [hv] at hk
      have : g' = k := by simpa [Value.ownBlock] using hk
      subst this; subst e
      rw [hg] at hp2; simp at hp2
  refine ⟨?_, ?_, F.keep hm2 (fun e => h.gm e.symm), h.gb, h.mbb⟩
  · rw [heap_setCell_same _ hp2]; rfl
  · exact ownsRow_keep hb F (fun k hk e => hgb k hk e.symm)
theorem PenAt.name {b0 : Nat} {w : World} {g mb : Nat} {bs : Option Addr} {cap : Nat} {st : PS} (h : PenAt b0 w g mb bs cap st) (c : Nat) : PenAt b0 (put w mb (.map (nmEnts (st.2 ++ [c])) (st.2.length + 1))) g mb bs cap (st.1, st.2 ++ [c]) := by
  have F : Fr (fun k => k = mb) w (put w mb (.map (nmEnts (st.2 ++ [c])) (st.2.length + 1))) := Fr.put (S := fun k => k = mb) (Fr.refl _ w) (fun _ => rfl) _
  refine ⟨F.keep h.pen (fun e => h.gm e), ownsRow_keep h.buf F (fun k hk e => (h.ne hk).2 e.symm), ?_, h.gb, h.mbb⟩
  rw [heap_put_same _ h.map]
  simp

theorem step_str {P : Program} {w : World} {ops : Array Oper} {o : Oper} {a : Act} {K : Act → World → Prop} {Q : Exit → Act → World → Prop} {E : Prop} (hgd : o.guard = none) (s x : Operand) (t u : TypeId)
    (ho : o.op = .call { callee := .builtin .append, args := #[s, x], argTypes := #[t, u] })
    (base : Nat) (e : TypeId) (i : TypeInfo) (ht : P.underlying t = some (.slice e)) (hu : P.underlying u = some .string) (hi : P.info? e = some i) (hz : i.zero = some (.int .u8 0))
    (hsize : i.size = 1) (hby : i.bytes = 1)
    (v : Value) (n : Nat) (xs : List Value) (hs : a.eval s = v) (hown : w.ownsRow base e 1 v n xs) (str : ByteArray) (hx : a.eval x = .string str)
    (h63 : n + str.size ≤ maxLen) (hbytes : n + str.size ≤ 140737488355328) (hbase : base ≤ w.heap.size)
    (h : ∀ bs cap w', w'.ownsRow base e 1 (.slice bs (n + str.size) cap) (n + str.size) (xs ++ Go.Lib.strCells str) → w.grownBy w' v.ownBlock → K (a.put o.dst (.slice bs (n + str.size) cap)) w') :
    if Region.wanted o (yielded ops a.tmps) = true then Oper.wp P o a w K Q else E := by
  have hw : Region.wanted o (yielded ops a.tmps) = true := by simp [Region.wanted, hgd]
  rw [if_pos hw]
  obtain ⟨v', w', hr, h2, h3, h4⟩ := Go.Lib.run_append_own_string (P := P) w base t u o.type e i ht hu hi hz hsize hby v n xs hown str h63 hbytes hbase
  obtain ⟨bs, cap, rfl⟩ := owns_slice h2
  unfold Oper.wp execOp
  simp only [ho, resolve, invoke, builtin, Sem.run_bind, Sem.run_pure, Result.andThen_ok, List.map_toArray, List.map_cons, List.map_nil, hs, hx, hr]
  exact h bs cap w' h2 h3
end Go.Proofs.Qxb6500301a
