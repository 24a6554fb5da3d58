import Derived.Test.Qxb6500302aRead4
namespace Go.Proofs.Qxb6500302a
open Go.RowKit
set_option linter.unusedSimpArgs false
set_option linter.unusedVariables false

/-- Arguments in the making: the slice sl (in no block up to cb) holds xs, which are the trees acc. -/
structure ArgsAt (cb : Nat) (w : World) (sl : Value) (xs : List Value) (acc : List Tm) (m : Nat) (D : Nat → Prop) : Prop where
  own : w.ownsRow (cb + 1) 95 1 sl acc.length xs
  trees : ∀ (i : Nat) x u, xs[i]? = some x → acc[i]? = some u → TermN w D m x u
  dom : ∀ k, D k → cb < k ∧ k < w.heap.size ∧ sl.ownBlock ≠ some k

theorem ArgsAt.nil (cb : Nat) (w : World) : ArgsAt cb w (.slice none 0 0) [] [] 0 No :=
  ⟨World.ownsRow_nil _ _ _ _, fun i x u hx => by simp at hx, fun _ hk => hk.elim⟩

theorem ownsRow_keep {S : Nat → Prop} {w w' : World} {base e size : Nat} {v : Value} {n : Nat} {xs : List Value} (h : w.ownsRow base e size v n xs) (hf : Fr S w w') (hn : ∀ k, v.ownBlock = some k → ¬ S k) : w'.ownsRow base e size v n xs := by
  obtain ⟨h1, h2⟩ := h
  refine ⟨h1, ?_⟩
  rcases h2 with h2 | ⟨g, cap, cur, hv, hg, hh, r⟩
  · exact .inl h2
  · exact .inr ⟨g, cap, cur, hv, hg, hf.keep hh (hn g (by rw [hv]; rfl)), r⟩

theorem ArgsAt.keep {S : Nat → Prop} {cb : Nat} {w w' : World} {sl : Value} {xs : List Value} {acc : List Tm} {m : Nat} {D : Nat → Prop} (h : ArgsAt cb w sl xs acc m D) (hf : Fr S w w') (hS : ∀ k, S k → k ≤ cb) : ArgsAt cb w' sl xs acc m D :=
  ⟨ownsRow_keep h.own hf (fun k hk hs => by have := h.own.lt k hk; have := hS k hs; omega),
   fun i x u hx hu => (h.trees i x u hx hu).keep hf (fun k hk => ⟨(h.dom k hk).2.1, fun hs => by have := hS k hs; have := (h.dom k hk).1; omega⟩),
   fun k hk => ⟨(h.dom k hk).1, Nat.lt_of_lt_of_le (h.dom k hk).2.1 hf.size, (h.dom k hk).2.2⟩⟩

theorem ArgsAt.snoc {cb : Nat} {w w2 : World} {sl sl' : Value} {xs : List Value} {acc : List Tm} {m m2 : Nat} {D D2 : Nat → Prop} {v : Value} {t : Tm} {o : Obj} (h : ArgsAt cb w sl xs acc m D)
    (hv : TermN w D2 m2 v t) (hD2 : ∀ k, D2 k → cb < k ∧ k < w.heap.size ∧ sl.ownBlock ≠ some k) (hown : w2.ownsRow (cb + 1) 95 1 sl' (acc.length + 1) (xs ++ [v])) (hg : (w.alloc o).grownBy w2 sl.ownBlock)
    (hloc : sl'.ownBlock = sl.ownBlock ∨ sl'.ownBlock = some (w.alloc o).heap.size) (u : Value) :
    ArgsAt cb (w2.setCell ⟨cb, 1, none⟩ u) sl' (xs ++ [v]) (acc ++ [t]) (max m m2) (fun k => D k ∨ D2 k) := by
  have hsz : (w.alloc o).heap.size = w.heap.size + 1 := by simp
  have hdom : ∀ k, D k ∨ D2 k → cb < k ∧ k < w.heap.size ∧ sl.ownBlock ≠ some k := fun k hk => hk.elim (h.dom k) (hD2 k)
  have hblk : ∀ k, D k ∨ D2 k → (w2.setCell ⟨cb, 1, none⟩ u).heap[k]? = w.heap[k]? := by
    intro k hk
    obtain ⟨h1, h2, h3⟩ := hdom k hk
    rw [heap_setCell_other _ (by omega), hg.block k (by omega) (fun e => h3 e.symm), Below.heap_alloc _ _ _ h2]
  have hlen : xs.length = acc.length := by have := h.own.1; simpa using this
  refine ⟨?_, ?_, ?_⟩
  · have := ownsRow_setCell_below hown (a := ⟨cb, 1, none⟩) (by simp) u
    simpa using this
  · intro i x y hx hy
    rcases Nat.lt_or_ge i xs.length with hi | hi
    · rw [List.getElem?_append_left hi] at hx
      rw [List.getElem?_append_left (by omega)] at hy
      exact ((h.trees i x y hx hy).up (Nat.le_max_left _ _)).mono (fun k hk => ⟨.inl hk, hblk k (.inl hk)⟩)
    · rw [List.getElem?_append_right hi] at hx
      rw [List.getElem?_append_right (by omega)] at hy
      obtain rfl : i = xs.length := by
        rcases Nat.lt_or_ge (i - xs.length) 1 with h1 | h1
        · omega
        · rw [List.getElem?_eq_none (by simpa using h1)] at hx; cases hx
      rw [hlen] at hy
      simp at hx hy
      subst hx; subst hy
      exact (hv.up (Nat.le_max_right _ _)).mono (fun k hk => ⟨.inr hk, hblk k (.inr hk)⟩)
  · intro k hk
    obtain ⟨h1, h2, h3⟩ := hdom k hk
    refine ⟨h1, ?_, ?_⟩
    · have := hg.size
      simp only [World.setCell, Array.size_modify]
      omega
    · rcases hloc with hl | hl
      · rw [hl]; exact h3
      · rw [hl, hsz]; intro e; cases e; omega

/-- The row of an owned slice, as a tree's row. -/
theorem RowIn_of_owns {w : World} {base : Nat} {sl : Value} {xs : List Value} {n : Nat} {D : Nat → Prop} (h : w.ownsRow base 95 1 sl n xs) (hD : ∀ k, sl.ownBlock = some k → D k) : RowIn w D 95 sl xs := by
  obtain ⟨h1, h2⟩ := h
  rcases h2 with ⟨rfl, rfl⟩ | ⟨g, cap, cur, rfl, hg, hh, hnc, hcm, hcs, ht⟩
  · exact .inl ⟨rfl, List.eq_nil_of_length_eq_zero (by simpa using h1)⟩
  · have hl : xs.length = n := by simpa using h1
    exact .inr ⟨g, cap, cur, by rw [hl], hD g rfl, hh, by omega, hcm, by simpa using hcs, by rw [hl]; simpa using ht⟩

/-- The finished call. -/
theorem ArgsAt.done {cb : Nat} {w : World} {sl : Value} {xs : List Value} {acc : List Tm} {m : Nat} {D : Nat → Prop} {f : UInt8} (h : ArgsAt cb w sl xs acc m D) (hle : acc.length ≤ 50) (hc : w.heap[cb]? = some (.cells #[.int .u8 (f.toNat : Int), sl] 90)) :
    ∃ D' : Nat → Prop, TermN w D' (m + 1) (.iface 80 (.pointer (some ⟨cb, 0, none⟩))) (tCall f acc) ∧ ∀ k, D' k → cb ≤ k ∧ k < w.heap.size := by
  refine ⟨fun k => D k ∨ k = cb ∨ sl.ownBlock = some k, .inr (.inr ⟨rfl, cb, sl, xs, rfl, .inr (.inl rfl), hc, RowIn_of_owns h.own (fun k hk => .inr (.inr hk)), by have := h.own.1; simpa [tCall] using this, by simpa [tCall] using hle, ?_⟩), ?_⟩
  · intro i x u hx hu
    exact (h.trees i x u hx hu).mono (fun k hk => ⟨.inl hk, rfl⟩)
  · intro k hk
    rcases hk with hk | rfl | hk
    · have := h.dom k hk; omega
    · exact ⟨Nat.le_refl _, lt_of_heap hc⟩
    · have := h.own.lt k hk; omega

theorem TermN.iface {w : World} {D : Nat → Prop} {n : Nat} {v : Value} {t : Tm} (h : TermN w D n v t) : ∃ T x, v = .iface T x := by
  cases n with
  | zero => exact h.elim
  | succ n =>
    rcases h with h | h | h
    · exact ⟨_, _, h.2.2.2⟩
    · exact ⟨_, _, h.2.2⟩
    · obtain ⟨_, b, sl, xs, rfl, _⟩ := h; exact ⟨_, _, rfl⟩
end Go.Proofs.Qxb6500302a
