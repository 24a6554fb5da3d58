import Derived.Test.Qxb6500302aStore2
namespace Go.Proofs.Qxb6500302a
open Go.RowKit
set_option linter.unusedSimpArgs false
set_option linter.unusedVariables false

def u8s (xs : List UInt8) : List Value := xs.map (fun b => Value.int .u8 (b.toNat : Int))
theorem u8s_length (xs : List UInt8) : (u8s xs).length = xs.length := by simp [u8s]
theorem u8s_append (xs ys : List UInt8) : u8s (xs ++ ys) = u8s xs ++ u8s ys := by simp [u8s]
theorem Try.info5 : (Try.prog.info? 5).map (fun i => (i.zero, i.size, i.bytes)) = some (some (.int .u8 0), 1, 1) := by kernel_rfl

/-- Block g is the array of a slice of bytes, with capacity cap: xs. -/
def Buf (w : World) (g cap : Nat) (xs : List UInt8) : Prop := w.ownsRow 0 5 1 (.slice (some ⟨g, 0, none⟩) xs.length cap) xs.length (u8s xs)

theorem Buf.keep {S : Nat → Prop} {w w' : World} {g cap : Nat} {xs : List UInt8} (h : Buf w g cap xs) (hf : Fr S w w') (hg : ¬ S g) : Buf w' g cap xs :=
  ownsRow_keep h hf (fun k hk => by have : g = k := by simpa [Value.ownBlock] using hk
                                    subst this; exact hg)
theorem Buf.lt {w : World} {g cap : Nat} {xs : List UInt8} (h : Buf w g cap xs) : g < w.heap.size := by
  rcases h.2 with ⟨e, _⟩ | ⟨g', cap', cur, hv, _, hg, _⟩
  · cases e
  · simp only [Value.slice.injEq, Option.some.injEq, Addr.mk.injEq, and_true, true_and] at hv
    rw [hv.1]; exact lt_of_heap hg

theorem run_buf {w : World} (ty : TypeId) {g cap : Nat} {xs : List UInt8} (hb : Buf w g cap xs) {nb m c : Nat} {news : List UInt8} (hm : m = news.length) (hnb : w.heap[nb]? = some (.cells (u8s news).toArray 5)) (hne : news ≠ []) (hl : xs.length + news.length ≤ 2000) :
    ∃ g' cap' w', (Builtin.append_ #[86, 86] ty #[.slice (some ⟨g, 0, none⟩) xs.length cap, .slice (some ⟨nb, 0, none⟩) m c]).run Try.prog w = .ok (.slice (some ⟨g', 0, none⟩) (xs ++ news).length cap') w' ∧ Buf w' g' cap' (xs ++ news) ∧ w.grownBy w' (some g) ∧ (g' = g ∨ g' = w.heap.size) := by
  obtain ⟨i0, hi, hz0, hz1, hz2⟩ := info_parts Try.info5
  subst hm
  have hlen : 0 < news.length := List.length_pos_iff.2 hne
  obtain ⟨g', cap', w', hr, h2, h3, h4, h5⟩ := run_append_lies (P := Try.prog) w 86 ty 0 5 i0 (.int .u8 0) 1 1 Try.underlying86 hi hz0 hz1 hz2 rfl (by omega) _ xs.length (u8s xs) hb ⟨nb, 0, none⟩ news.length c (u8s news) (by simp [u8s]) (World.news_of_block hnb) (by simp [u8s, Value.oneCell']) hlen (by unfold maxLen; omega) (by omega) (Nat.zero_le _) _ rfl
  refine ⟨g', cap', w', ?_, ?_, h3, ?_⟩
  · rw [hr, List.length_append]
  · unfold Buf
    rw [List.length_append, u8s_append]
    exact h2
  · rcases h4 with h4 | h4
    · left; simpa [Value.ownBlock] using h4.symm
    · exact .inr h4

theorem wpList_buf {w : World} {ops : Array Oper} {rest : List Oper} {o : Oper} {a : Act} {Q : Exit → Act → World → Prop} (hgd : o.guard = none) (s x : Operand)
    (ho : o.op = .call { callee := .builtin .append, args := #[s, x], argTypes := #[86, 86] })
    {g cap : Nat} {xs : List UInt8} (hs : a.eval s = .slice (some ⟨g, 0, none⟩) xs.length cap) (hb : Buf w g cap xs) {nb m c : Nat} (news : List UInt8) (hx : a.eval x = .slice (some ⟨nb, 0, none⟩) m c) (hm : m = news.length)
    (hnb : w.heap[nb]? = some (.cells (u8s news).toArray 5)) (hne : news ≠ []) (hl : xs.length + news.length ≤ 2000) (n : Nat) (hn : (xs ++ news).length = n)
    (h : ∀ g' cap' w', Buf w' g' cap' (xs ++ news) → w.grownBy w' (some g) → (g' = g ∨ g' = w.heap.size) → wpList Try.prog ops Q rest (a.put o.dst (.slice (some ⟨g', 0, none⟩) n cap')) w') :
    wpList Try.prog ops Q (o :: rest) a w := by
  refine wpList_plain hgd fun K hK => ?_
  obtain ⟨g', cap', w', hr, h2, h3, h4⟩ := run_buf (w := w) o.type hb hm hnb hne hl (c := c)
  rw [hn] at hr
  unfold Oper.wp execOp
  simp only [ho, resolve, invoke, builtin, Sem.run_bind, Sem.run_pure, Result.andThen_ok, List.map_toArray, List.map_cons, List.map_nil, hs, hx, hr]
  exact hK _ _ (h g' cap' w' h2 h3 h4)

theorem step_buf {w : World} {ops : Array Oper} {o : Oper} {a : Act} {K : Act → World → Prop} {Q : Exit → Act → World → Prop} {E : Prop} (hgd : o.guard = none) (s x : Operand)
    (ho : o.op = .call { callee := .builtin .append, args := #[s, x], argTypes := #[86, 86] })
    {g cap : Nat} {xs : List UInt8} (hs : a.eval s = .slice (some ⟨g, 0, none⟩) xs.length cap) (hb : Buf w g cap xs) {nb m c : Nat} (news : List UInt8) (hx : a.eval x = .slice (some ⟨nb, 0, none⟩) m c) (hm : m = news.length)
    (hnb : w.heap[nb]? = some (.cells (u8s news).toArray 5)) (hne : news ≠ []) (hl : xs.length + news.length ≤ 2000) (n : Nat) (hn : (xs ++ news).length = n)
    (h : ∀ g' cap' w', Buf w' g' cap' (xs ++ news) → w.grownBy w' (some g) → (g' = g ∨ g' = w.heap.size) → K (a.put o.dst (.slice (some ⟨g', 0, none⟩) n cap')) w') :
    if Region.wanted o (yielded ops a.tmps) = true then Oper.wp Try.prog o a w K Q else E := by
  have hw : Region.wanted o (yielded ops a.tmps) = true := by simp [Region.wanted, hgd]
  rw [if_pos hw]
  obtain ⟨g', cap', w', hr, h2, h3, h4⟩ := run_buf (w := w) o.type hb hm hnb hne hl (c := c)
  rw [hn] at hr
  unfold Oper.wp execOp
  simp only [ho, resolve, invoke, builtin, Sem.run_bind, Sem.run_pure, Result.andThen_ok, List.map_toArray, List.map_cons, List.map_nil, hs, hx, hr]
  exact h g' cap' w' h2 h3 h4

/-- What a printer leaves: the bytes behind those that were there. -/
def BufPost (out : List UInt8) (g : Nat) (xs : List UInt8) (w : World) (e : Ending) (w' : World) : Prop :=
  ∃ g' cap', e = .returned (.slice (some ⟨g', 0, none⟩) (xs ++ out).length cap') ∧ Buf w' g' cap' (xs ++ out) ∧ Fr (fun k => k = g) w w' ∧ (g' = g ∨ w.heap.size ≤ g')

def PrintSaid (fid : Nat) (pr : Tm → List UInt8) (m : Nat) : Prop :=
  ∀ (w : World) (D : Nat → Prop) (g cap : Nat) (xs : List UInt8) (v : Value) (t : Tm), TermN w D m v t → Buf w g cap xs → (∀ k, D k → k < w.heap.size ∧ k ≠ g) → xs.length + (pr t).length ≤ 2000 →
    Calls Try.prog fid #[.slice (some ⟨g, 0, none⟩) xs.length cap, v] w (BufPost (pr t) g xs w)
end Go.Proofs.Qxb6500302a
