import Derived.Test.Qxb6500302aRead7
namespace Go.Proofs.Qxb6500302a
open Go.RowKit
set_option linter.unusedSimpArgs false
set_option linter.unusedVariables false

theorem rRead_query (text : List UInt8) : rRead true text = rEnd [] (rGoals (text.length + 1) (text.length + 1) text []) := by
  simp only [rRead, if_true]
  cases hh : rGoals (text.length + 1) (text.length + 1) text [] with
  | none => rfl
  | some x => obtain ⟨ts, s2, vs⟩ := x; cases s2 <;> rfl
theorem rRead_none {text : List UInt8} (h : rCall (text.length + 1) text [] = none) : rRead false text = none := by
  simp [rRead, h]
theorem rRead_fact {text : List UInt8} {t : Tm} {vs1 : List UInt8} (h : rCall (text.length + 1) text [] = some (t, [], vs1)) : rRead false text = some ([t], vs1) := by
  simp [rRead, h]
theorem rRead_neck {text : List UInt8} {t : Tm} {s2 vs1 : List UInt8} (h : rCall (text.length + 1) text [] = some (t, 58 :: 45 :: s2, vs1)) :
    rRead false text = rEnd [t] (rGoals (text.length + 1) (text.length + 1) s2 vs1) := by
  simp only [rRead, h, hd, List.tail_cons]
  simp only [Bool.false_eq_true, if_false, reduceCtorEq, if_true]
  cases hh : rGoals (text.length + 1) (text.length + 1) s2 vs1 with
  | none => rfl
  | some x => obtain ⟨ts, s3, vs⟩ := x; cases s3 <;> rfl
theorem rRead_bad1 {text : List UInt8} {t : Tm} {s1 vs1 : List UInt8} (h : rCall (text.length + 1) text [] = some (t, s1, vs1)) (h0 : s1 ≠ []) (h1 : hd s1 ≠ 58) : rRead false text = none := by
  simp [rRead, h, h0, h1]
theorem rRead_bad2 {text : List UInt8} {t : Tm} {s1 vs1 : List UInt8} (h : rCall (text.length + 1) text [] = some (t, s1, vs1)) (h0 : s1 ≠ []) (h1 : hd s1.tail ≠ 45) : rRead false text = none := by
  simp [rRead, h, h0, h1]

/-- append of one tree onto arguments in the making. -/
theorem wpList_append_terms {ops : Array Oper} {rest : List Oper} {o : Oper} {a : Act} {Q : Exit → Act → World → Prop} {w1 : World} {cb : Nat} {sl : Value} {xs : List Value} {acc : List Tm} {m : Nat} {D : Nat → Prop} {T : TypeId} {vx : Value} {cs : Array Value}
    (hgd : o.guard = none) (s x : Operand) (ho : o.op = .call { callee := .builtin .append, args := #[s, x], argTypes := #[87, 87] }) (hargs : ArgsAt cb w1 sl xs acc m D) (hlen : acc.length ≤ 1000) (hcb : w1.heap[cb]? = some (.cells cs 90))
    (hs : a.eval s = sl) (hx : a.eval x = .slice (some ⟨w1.heap.size, 0, none⟩) 1 1)
    (h : ∀ g' cap' w2, w2.ownsRow (cb + 1) 95 1 (.slice (some ⟨g', 0, none⟩) (acc.length + 1) cap') (acc.length + 1) (xs ++ [.iface T vx]) → (w1.alloc (.cells #[.iface T vx] 95)).grownBy w2 sl.ownBlock →
      ((Value.slice (some ⟨g', 0, none⟩) (acc.length + 1) cap').ownBlock = sl.ownBlock ∨ (Value.slice (some ⟨g', 0, none⟩) (acc.length + 1) cap').ownBlock = some (w1.alloc (.cells #[.iface T vx] 95)).heap.size) → w2.heap[cb]? = some (.cells cs 90) →
      wpList Try.prog ops Q rest (a.put o.dst (.slice (some ⟨g', 0, none⟩) (acc.length + 1) cap')) w2) : wpList Try.prog ops Q (o :: rest) a (w1.alloc (.cells #[.iface T vx] 95)) := by
  obtain ⟨i0, hi, hz0, hz1, hz2⟩ := info_parts Try.info95
  have hone : ∀ u ∈ [Value.iface T vx], u.oneCell' = true := by intro u hu; simp at hu; subst hu; rfl
  have h63 : acc.length + 1 ≤ maxLen := by unfold maxLen; omega
  have hbytes : (acc.length + 1) * 16 ≤ 140737488355328 := by omega
  have hbase : cb + 1 ≤ (w1.alloc (.cells #[.iface T vx] 95)).heap.size := by have := lt_of_heap hcb; simp; omega
  refine wpList_append_own_at _ hgd s x 87 ho (cb + 1) 95 i0 .nilIface 1 16 Try.underlying87 hi hz0 hz1 hz2 rfl (by decide) _ acc.length xs hs (hargs.own.alloc _) ⟨w1.heap.size, 0, none⟩ 1 1 [.iface T vx] hx rfl (cell_one_new _ _ _) hone h63 hbytes hbase ?_
  intro v' w2 hown' hgrow hnil hloc
  obtain ⟨g', cap', hv'⟩ := owns_pos hown'
  subst hv'
  exact h g' cap' w2 hown' hgrow hloc (heap_grown hgrow (heap_alloc_keep hcb) (fun e => by have := hargs.own.lt _ e; omega))

theorem TermN.ptr {w : World} {D : Nat → Prop} {n : Nat} {v : Value} {t : Tm} (h : TermN w D n (asCall v) t) : ∃ b, v = .pointer (some ⟨b, 0, none⟩) := by
  cases n with
  | zero => exact h.elim
  | succ n =>
    unfold asCall at h
    rcases h with h | h | h
    · have := h.2.2.2; simp at this
    · have := h.2.2; simp at this
    · obtain ⟨_, b, sl, xs, h1, _⟩ := h; simp at h1; exact ⟨b, h1⟩

/-- What a store of the grown slice leaves: one argument more. -/
theorem ArgsAt.stored {cb : Nat} {w w2 : World} {sl : Value} {xs : List Value} {acc : List Tm} {m m2 : Nat} {D D2 : Nat → Prop} {t : Tm} {T : TypeId} {vx : Value} {F : Value} {g' cap' : Nat} {o : Obj} (h : ArgsAt cb w sl xs acc m D)
    (hv : TermN w D2 m2 (.iface T vx) t) (hD2 : ∀ k, D2 k → cb < k ∧ k < w.heap.size ∧ sl.ownBlock ≠ some k) (hown : w2.ownsRow (cb + 1) 95 1 (.slice (some ⟨g', 0, none⟩) (acc.length + 1) cap') (acc.length + 1) (xs ++ [.iface T vx])) (hg : (w.alloc o).grownBy w2 sl.ownBlock)
    (hloc : (Value.slice (some ⟨g', 0, none⟩) (acc.length + 1) cap').ownBlock = sl.ownBlock ∨ (Value.slice (some ⟨g', 0, none⟩) (acc.length + 1) cap').ownBlock = some (w.alloc o).heap.size) (hcb : w2.heap[cb]? = some (.cells #[F, sl] 90)) :
    ∃ (W4 : World) (xs4 : List Value) (m4 : Nat) (D4 : Nat → Prop), W4 = w2.setCell ⟨cb, 1, none⟩ (.slice (some ⟨g', 0, none⟩) (acc.length + 1) cap') ∧ ArgsAt cb W4 (.slice (some ⟨g', 0, none⟩) (acc.length + 1) cap') xs4 (acc ++ [t]) m4 D4 ∧
      Fr (fun k => cb ≤ k) w W4 ∧ W4.heap[cb]? = some (.cells #[F, .slice (some ⟨g', 0, none⟩) (acc.length + 1) cap'] 90) := by
  refine ⟨_, _, _, _, rfl, h.snoc hv hD2 hown hg hloc _, ?_, ?_⟩
  · exact Fr.setCell (S := fun k => cb ≤ k) (Fr.grown (S := fun k => cb ≤ k) ((Fr.refl _ w).alloc _) hg (fun k hk _ => by have := h.own.lt k hk; omega)) (fun _ => Nat.le_refl _) _
  · rw [heap_setCell_same _ hcb]; simp


/-- The finished clause: a block of its own behind the root's. -/
theorem ArgsAt.finish {cb r mb : Nat} {w W : World} {sl : Value} {xs : List Value} {acc : List Tm} {m : Nat} {D : Nat → Prop} {q : Bool} (h : ArgsAt cb W sl xs acc m D) (hcb : W.heap[cb]? = some (.cells #[.int .u8 ((rootOf q).toNat : Int), sl] 90))
    (hf : Fr (RM r mb) w W) (hle : acc.length ≤ 50) (hsz : w.heap.size ≤ cb) (vs : List UInt8) (n : Nat) :
    TreePost q (some (acc, vs)) r mb w (.returned (.pointer (some ⟨W.heap.size, 0, none⟩))) ((W.drewN n).alloc (.cells #[.pointer (some ⟨cb, 0, none⟩)] 92)) := by
  obtain ⟨D', hT, hD'⟩ := h.done hle hcb
  have hfa : Fr No W ((W.drewN n).alloc (.cells #[.pointer (some ⟨cb, 0, none⟩)] 92)) := ((Fr.refl _ _).drewN n).alloc _
  refine ⟨_, _, fun k => D' k ∨ k = W.heap.size, rfl, ⟨W.heap.size, cb, rfl, .inr rfl, heap_alloc_same (W.drewN n) _, hT.mono (fun k hk => ⟨.inl hk, hfa.block k (hD' k hk).2 (fun h => h)⟩)⟩, hf.trans hfa (fun _ _ h => h.elim), ?_⟩
  intro k hk
  have hs4 := lt_of_heap hcb
  have hs5 : ((W.drewN n).alloc (.cells #[.pointer (some ⟨cb, 0, none⟩)] 92)).heap.size = W.heap.size + 1 := by simp
  rw [hs5]
  rcases hk with hk | hk
  · have := hD' k hk; omega
  · subst hk; omega
end Go.Proofs.Qxb6500302a
