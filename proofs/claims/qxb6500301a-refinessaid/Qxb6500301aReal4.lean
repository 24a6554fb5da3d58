import Derived.Test.Qxb6500301aReal3
namespace Go.Proofs.Qxb6500301a
open Go.RowKit
set_option linter.unusedSimpArgs false
set_option linter.unusedVariables false
attribute [local go_sem ↓] Go.wp_at_zero Go.wp_at_succ
attribute [-go_sem] Go.run_string_add_if Go.run_index_string Go.run_slice_string_if

theorem ownsRow_cut {w : World} {e : TypeId} {sz g n cap : Nat} {xs : List Value} (h : w.ownsRow 0 e sz (sl g n cap) n xs) {k : Nat} (hk : k ≤ n) : w.ownsRow 0 e sz (sl g k cap) k (xs.take (k * sz)) := by
  obtain ⟨h1, h2⟩ := h
  have hm : k * sz ≤ n * sz := Nat.mul_le_mul_right _ hk
  refine ⟨by rw [List.length_take, h1]; omega, ?_⟩
  rcases h2 with ⟨e, _⟩ | ⟨g', cap', cur, hv, hb, hg, hn, hc, hs, ht⟩
  · cases e
  · cases hv
    exact .inr ⟨g, cap, cur, rfl, hb, hg, by omega, hc, hs, by rw [← ht, List.take_take, Nat.min_eq_left hm]⟩
theorem ownsRow_put {w : World} {e : TypeId} {sz g n cap : Nat} {xs : List Value} (h : w.ownsRow 0 e sz (sl g n cap) n xs) (j : Nat) (u : Value) : (w.setCell ⟨g, j, none⟩ u).ownsRow 0 e sz (sl g n cap) n (xs.set j u) := (World.ownsRow.stored h j u).1
theorem ownsRow_cap {w : World} {e : TypeId} {sz g n cap : Nat} {xs : List Value} (h : w.ownsRow 0 e sz (sl g n cap) n xs) : n ≤ cap := by
  rcases h.2 with ⟨e, _⟩ | ⟨g', cap', cur, hv, hb, hg, hn, hc, hs, ht⟩
  · cases e
  · cases hv; exact hn

theorem step_spare {P : Program} {w : World} {ops : Array Oper} {o : Oper} {a : Act} {K : Act → World → Prop} {Q : Exit → Act → World → Prop} {E : Prop} (hgd : o.guard = none) (s x : Operand) (t : TypeId)
    (ho : o.op = .call { callee := .builtin .append, args := #[s, x], argTypes := #[t, t] })
    (base : Nat) (e : TypeId) (i : TypeInfo) (size : Nat) (ht : P.underlying t = some (.slice e)) (hi : P.info? e = some i) (hsize : i.size = size)
    (g n cap : Nat) (xs : List Value) (hs : a.eval s = .slice (some ⟨g, 0, none⟩) n cap) (hown : w.ownsRow base e size (.slice (some ⟨g, 0, none⟩) n cap) n xs)
    (ad : Addr) (m c : Nat) (news : List Value) (hx : a.eval x = .slice (some ad) m c) (hl : news.length = m * size) (hnews : ∀ j u, news[j]? = some u → w.cell? (ad.add j) = some u) (h1 : ∀ u ∈ news, u.oneCell' = true)
    (hroom : n + m ≤ cap)
    (h : ∀ w', w'.ownsRow base e size (.slice (some ⟨g, 0, none⟩) (n + m) cap) (n + m) (xs ++ news) → w.grownBy w' (some g) → K (a.put o.dst (.slice (some ⟨g, 0, none⟩) (n + m) cap)) w') :
    if Region.wanted o (yielded ops a.tmps) = true then Oper.wp P o a w K Q else E := by
  have hw : Region.wanted o (yielded ops a.tmps) = true := by simp [Region.wanted, hgd]
  rw [if_pos hw]
  exact wp_append_own_spare w s x t ho base e i size ht hi hsize g n cap xs hs hown ad m c news hx hl hnews h1 hroom h

section
variable {w : World} {p : Nat} {B : Blks} {ns : List Nd} {ws : List Int} {tr tms : List Nat} {saved : List (List Nd)}

theorem Fr.rows {T : Nat → Prop} {w w' : World} (hf : Fr T w w') {e : TypeId} {sz g n cap : Nat} {xs : List Value} (h : w.ownsRow 0 e sz (sl g n cap) n xs) (hn : ¬ T g) : w'.ownsRow 0 e sz (sl g n cap) n xs :=
  ownsRow_keep h hf (fun k hk => by rw [own_sl hk]; exact hn)

theorem setP {p : Nat} {w w' : World} (h : Fr (fun k => k = p) w w') (i : Nat) (v : Value) : Fr (fun k => k = p) w (w'.setCell ⟨p, i, none⟩ v) := h.setCell (fun _ => rfl) v
theorem Words.nil : Words [] [] := ⟨rfl, fun i x h => by simp at h⟩
theorem wft_nil : WfT [] [] := ⟨⟨fun i r h => by simp at h, fun i c d es h => by simp at h⟩, List.nodup_nil, fun v => by simp, by simp⟩

set_option maxRecDepth 20000 in
theorem Reset_any (h : HeapAt w p B ns saved) : Calls Try.prog 26 #[.pointer (some ⟨p, 0, none⟩)] w fun e w' => e = .returned (.tuple #[]) ∧ HeapAt w' p B [] [] ∧ Fr (B.Has p) w w' := by
  obtain ⟨ws, tr, tms, h1, -⟩ := h.main
  have c0 := h1.p0
  have c1 := h1.p1
  have c2 := h1.p2
  have c3 := h1.p3
  have c4 := h1.p4
  have c5 := h1.p5
  have z0 := frozen_of 0 h1.top
  have z1 := frozen_of 1 h1.top
  have z2 := frozen_of 2 h1.top
  have z3 := frozen_of 3 h1.top
  have z4 := frozen_of 4 h1.top
  have z5 := frozen_of 5 h1.top
  go_enter Try.func26, Try.ntmps26
  go_wp2_with fail
  go_end0
  have F : Fr (fun k => k = p) w ((((((w.setCell ⟨p, 0, none⟩ (sl B.t 0 64)).setCell ⟨p, 1, none⟩ (sl B.w 0 64)).setCell ⟨p, 2, none⟩ (sl B.h 0 128)).setCell ⟨p, 3, none⟩ (sl B.a 0 256)).setCell ⟨p, 4, none⟩ (sl B.r 0 64)).setCell ⟨p, 5, none⟩ (sl B.m 0 26)) :=
    setP (setP (setP (setP (setP (setP (Fr.refl _ w) _ _) _ _) _ _) _ _) _ _) _ _
  have ht : ((((((w.setCell ⟨p, 0, none⟩ (sl B.t 0 64)).setCell ⟨p, 1, none⟩ (sl B.w 0 64)).setCell ⟨p, 2, none⟩ (sl B.h 0 128)).setCell ⟨p, 3, none⟩ (sl B.a 0 256)).setCell ⟨p, 4, none⟩ (sl B.r 0 64)).setCell ⟨p, 5, none⟩ (sl B.m 0 26)).heap[p]? = some (.cells (topV B 0 0 0 0) 56) := by
    rw [heap_setCell_same _ (heap_setCell_same _ (heap_setCell_same _ (heap_setCell_same _ (heap_setCell_same _ (heap_setCell_same _ h1.top)))))]
    rfl
  have ap := h1.apart
  refine ⟨rfl, ⟨[], [], [], ⟨ht, ?_, ?_, ?_, ?_, ?_, ?_, Words.nil, ap⟩, wft_nil, rfl, rfl, by simp⟩, F.mono (fun k _ e => .inl e)⟩
  · have := F.rows (ownsRow_cut h1.rt (Nat.zero_le _)) (fun e => ap.p.1 e.symm); simpa using this
  · have := F.rows (ownsRow_cut h1.rw (Nat.zero_le _)) (fun e => ap.p.2.1 e.symm); simpa using this
  · have := F.rows (ownsRow_cut h1.rh (Nat.zero_le _)) (fun e => ap.p.2.2.1 e.symm); simpa [headsV] using this
  · have := F.rows (ownsRow_cut h1.ra (Nat.zero_le _)) (fun e => ap.p.2.2.2.1 e.symm); simpa [aLen, allArgs] using this
  · have := F.rows (ownsRow_cut h1.rr (Nat.zero_le _)) (fun e => ap.p.2.2.2.2.1 e.symm); simpa using this
  · have := F.rows (ownsRow_cut h1.rm (Nat.zero_le _)) (fun e => ap.p.2.2.2.2.2 e.symm); simpa [marksV] using this
end
end Go.Proofs.Qxb6500301a
