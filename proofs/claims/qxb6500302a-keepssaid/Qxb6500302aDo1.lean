import Derived.Test.Qxb6500302aChk7
namespace Go.Proofs.Qxb6500302a
open Go.RowKit
set_option linter.unusedSimpArgs false
set_option linter.unusedVariables false
attribute [local go_sem ↓] Go.wp_at_zero Go.wp_at_succ

/-- A step's answer: E, N, S (M is 0). -/
abbrev Ans : Type := Int × Int × List UInt8
def ansV (a : Ans) : Value := .agg #[.int .i64 a.1, .int .i64 a.2.1, .int .i64 0, .string (S a.2.2)]
def opV (k a b c : Int) (s t : ByteArray) : Value := .agg #[.int .i64 k, .int .i64 a, .int .i64 b, .int .i64 c, .string s, .string t]

/-- One step, plainly. -/
def doOf (cs : List Tm) (k a : Int) (s t : List UInt8) : List Tm × Ans :=
  if k = 1 then ((addOf cs s).1, (addOf cs s).2.2, (addOf cs s).2.1, []) else
  if k = 2 then ([], 0, 0, []) else
  if k = 3 then (cs, (queryAns s).2, 0, (queryAns s).1) else
  if k = 4 then (cs, (textAns cs a).2, 0, (textAns cs a).1) else
  if k = 5 then (cs, (codeAns cs a).2, 0, (codeAns cs a).1) else
  if k = 6 then (cs, 0, 0, matchOf cs s t) else
  if k = 7 then (cs, 0, (cs.length : Int), []) else
  if k = 8 then (cs, 0, 0, showOf cs) else (cs, 0, 0, [])

def DoPost (own : Own) (D : Nat → Prop) (p : Nat) (r : List Tm × Ans) (w : World) (e : Ending) (w' : World) : Prop :=
  e = .returned (ansV r.2) ∧ ∃ own' D', ProgAt w' own' D' p r.1 ∧ Fr (Foot own D) w w' ∧ Newer own D own' D' w.heap.size

/-- The world as the step begins: the op, the result, the answer in the making. -/
def dWorld (w : World) (k a b c : Int) (s t : ByteArray) : World :=
  ((w.alloc (.cells #[.int .i64 k, .int .i64 a, .int .i64 b, .int .i64 c, .string s, .string t] 36)).alloc (.cells #[.int .i64 0, .int .i64 0, .int .i64 0, .string { data := #[] }] 39)).alloc (.cells #[.int .i64 0, .int .i64 0, .int .i64 0, .string { data := #[] }] 39)

section
variable {w : World} {k a b c : Int} {s t : ByteArray}
theorem dWorld_fr : Fr No w (dWorld w k a b c s t) := (((Fr.refl No w).alloc _).alloc _).alloc _
theorem dWorld_op : (dWorld w k a b c s t).heap[w.heap.size]? = some (.cells #[.int .i64 k, .int .i64 a, .int .i64 b, .int .i64 c, .string s, .string t] 36) := heap_alloc_keep (heap_alloc_keep (heap_alloc_same _ _))
theorem dWorld_res : (dWorld w k a b c s t).heap[w.heap.size + 1]? = some (.cells #[.int .i64 0, .int .i64 0, .int .i64 0, .string { data := #[] }] 39) := by
  have := heap_alloc_same (w.alloc (.cells #[.int .i64 k, .int .i64 a, .int .i64 b, .int .i64 c, .string s, .string t] 36)) (.cells #[.int .i64 0, .int .i64 0, .int .i64 0, .string { data := #[] }] 39)
  simp only [World.size_alloc] at this
  exact heap_alloc_keep this
theorem dWorld_ans : (dWorld w k a b c s t).heap[w.heap.size + 1 + 1]? = some (.cells #[.int .i64 0, .int .i64 0, .int .i64 0, .string { data := #[] }] 39) := by
  have := heap_alloc_same ((w.alloc (.cells #[.int .i64 k, .int .i64 a, .int .i64 b, .int .i64 c, .string s, .string t] 36)).alloc (.cells #[.int .i64 0, .int .i64 0, .int .i64 0, .string { data := #[] }] 39)) (.cells #[.int .i64 0, .int .i64 0, .int .i64 0, .string { data := #[] }] 39)
  simp only [World.size_alloc] at this
  exact this
theorem dWorld_size : (dWorld w k a b c s t).heap.size = w.heap.size + 3 := by simp [dWorld]
end

theorem ProgAt.foot_lt {w : World} {own : Own} {D : Nat → Prop} {p : Nat} {cs : List Tm} (h : ProgAt w own D p cs) {k : Nat} (hk : Foot own D k) : k < w.heap.size := by
  rcases hk with hk | hk
  · obtain ⟨ba, bo, bk, sl, xs, hp, h2, h3, h4, h5⟩ := h.main
    cases e : own k with
    | none => exact absurd e hk
    | some l => exact h4.lt _ _ e
  · exact h.dl k hk

theorem do_fin {w W0 w1 wf : World} {own : Own} {D : Nat → Prop} {p : Nat} {cs : List Tm} (h : ProgAt w own D p cs) (F0 : Fr No w W0) (hsz : W0.heap.size = w.heap.size + 3) {own1 : Own} {D1 : Nat → Prop} {cs1 : List Tm} (H1 : ProgAt w1 own1 D1 p cs1)
    (F1 : Fr (Foot own D) W0 w1) (N1 : Newer own D own1 D1 W0.heap.size) (hF : Fr (fun k => k = w.heap.size + 1 ∨ k = w.heap.size + 1 + 1) w1 wf) (A : Ans) : DoPost own D p (cs1, A) w (.returned (ansV A)) wf := by
  refine ⟨rfl, own1, D1, H1.keep hF (fun k hk e => ?_), ((F0.mono (fun _ _ h => h.elim)).trans F1 (fun _ _ h => h)).trans hF (fun k hk e => by omega), fun k hk => ?_⟩
  · rcases N1 k hk with h' | h'
    · have := h.foot_lt h'; omega
    · omega
  · rcases N1 k hk with h' | h'
    · exact .inl h'
    · exact .inr (by omega)
theorem do_fin0 {w W0 w1 wf : World} {own : Own} {D : Nat → Prop} {p : Nat} {cs : List Tm} (h : ProgAt w own D p cs) (F0 : Fr No w W0) (hsz : W0.heap.size = w.heap.size + 3)
    (F1 : Fr No W0 w1) (hF : Fr (fun k => k = w.heap.size + 1 ∨ k = w.heap.size + 1 + 1) w1 wf) (A : Ans) : DoPost own D p (cs, A) w (.returned (ansV A)) wf :=
  do_fin h F0 hsz (h.keep (F0.trans F1 (fun _ _ h => h)) (fun _ _ h => h)) (F1.mono (fun _ _ h => h.elim)) (fun k hk => .inl hk) hF A


set_option maxRecDepth 40000 in
set_option maxHeartbeats 4000000 in
theorem do_add {w : World} {own : Own} {D : Nat → Prop} {p : Nat} {cs : List Tm} (h : ProgAt w own D p cs) (a b c : Int) (s t : ByteArray) :
    Calls Try.prog 14 #[.pointer (some ⟨p, 0, none⟩), opV 1 a b c s t] w (DoPost own D p (doOf cs 1 a s.data.toList t.data.toList) w) := by
  have hr : doOf cs 1 a s.data.toList t.data.toList = ((addOf cs s.data.toList).1, (addOf cs s.data.toList).2.2, (addOf cs s.data.toList).2.1, []) := rfl
  rw [hr]
  clear hr
  unfold opV
  have F0 : Fr No w (dWorld w 1 a b c s t) := dWorld_fr
  have hop : (dWorld w 1 a b c s t).heap[w.heap.size]? = _ := dWorld_op
  have hres : (dWorld w 1 a b c s t).heap[w.heap.size + 1]? = _ := dWorld_res
  have hans : (dWorld w 1 a b c s t).heap[w.heap.size + 1 + 1]? = _ := dWorld_ans
  have hsz : (dWorld w 1 a b c s t).heap.size = w.heap.size + 3 := dWorld_size
  go_enter Try.func14, Try.ntmps14
  go_upto_region 2 with fail
  change Code.wp _ _ _ _ (dWorld w 1 a b c s t)
  generalize dWorld w 1 a b c s t = W0 at *
  have cs0 : W0.cell? ⟨w.heap.size, 0, none⟩ = some (.int .i64 1) := cell_of 0 hop rfl
  have cs1 : W0.cell? ⟨w.heap.size, 1, none⟩ = some (.int .i64 a) := cell_of 1 hop rfl
  have cs4 : W0.cell? ⟨w.heap.size, 4, none⟩ = some (.string s) := cell_of 4 hop rfl
  have cs5 : W0.cell? ⟨w.heap.size, 5, none⟩ = some (.string t) := cell_of 5 hop rfl
  have nf : ∀ j, w.heap.size ≤ j → ¬ Foot own D j := fun j hj hk => by have := h.foot_lt hk; omega
  go_wp2_with fail
  refine (add_any (h.keep F0 (fun _ _ h => h))).mono ?_
  rintro e w1 ⟨rfl, own1, D1, H1, F1, N1⟩
  have hans1 := F1.keep hans (nf _ (by omega))
  have hres1 := F1.keep hres (nf _ (by omega))
  have a0 := cell_of 0 hans1 rfl
  have a1 := cell_of 1 hans1 rfl
  have a2 := cell_of 2 hans1 rfl
  have a3 := cell_of 3 hans1 rfl
  have f0 := frozen_of 0 hans1
  have f1 := frozen_of 1 hans1
  have f3 := frozen_of 3 hans1
  have r0 := cell_of 0 hres1 rfl
  have r1 := cell_of 1 hres1 rfl
  have r2 := cell_of 2 hres1 rfl
  have r3 := cell_of 3 hres1 rfl
  have g0 := frozen_of 0 hres1
  have g1 := frozen_of 1 hres1
  have g2 := frozen_of 2 hres1
  have g3 := frozen_of 3 hres1
  go_wp2_with fail
  refine bodyPost_ret (v := ansV (((addOf cs s.data.toList).1, (addOf cs s.data.toList).2.2, (addOf cs s.data.toList).2.1, [])).2) (by simp [results, Try.results14, go_sem, ansV, S_nil, r0, r1, r2, r3, a0, a1, a2, a3]) rfl ?_
  refine do_fin h F0 hsz H1 F1 N1 ?_ _
  repeat refine Fr.setCell ?_ (fun _ => by simp) _
  exact Fr.refl _ _

set_option maxRecDepth 40000 in
set_option maxHeartbeats 4000000 in
theorem do_clear {w : World} {own : Own} {D : Nat → Prop} {p : Nat} {cs : List Tm} (h : ProgAt w own D p cs) (a b c : Int) (s t : ByteArray) :
    Calls Try.prog 14 #[.pointer (some ⟨p, 0, none⟩), opV 2 a b c s t] w (DoPost own D p (doOf cs 2 a s.data.toList t.data.toList) w) := by
  have hr : doOf cs 2 a s.data.toList t.data.toList = (([] : List Tm), ((0, 0, []) : Ans)) := rfl
  rw [hr]
  clear hr
  unfold opV
  have F0 : Fr No w (dWorld w 2 a b c s t) := dWorld_fr
  have hop : (dWorld w 2 a b c s t).heap[w.heap.size]? = _ := dWorld_op
  have hres : (dWorld w 2 a b c s t).heap[w.heap.size + 1]? = _ := dWorld_res
  have hans : (dWorld w 2 a b c s t).heap[w.heap.size + 1 + 1]? = _ := dWorld_ans
  have hsz : (dWorld w 2 a b c s t).heap.size = w.heap.size + 3 := dWorld_size
  go_enter Try.func14, Try.ntmps14
  go_upto_region 2 with fail
  change Code.wp _ _ _ _ (dWorld w 2 a b c s t)
  generalize dWorld w 2 a b c s t = W0 at *
  have cs0 : W0.cell? ⟨w.heap.size, 0, none⟩ = some (.int .i64 2) := cell_of 0 hop rfl
  have cs1 : W0.cell? ⟨w.heap.size, 1, none⟩ = some (.int .i64 a) := cell_of 1 hop rfl
  have cs4 : W0.cell? ⟨w.heap.size, 4, none⟩ = some (.string s) := cell_of 4 hop rfl
  have cs5 : W0.cell? ⟨w.heap.size, 5, none⟩ = some (.string t) := cell_of 5 hop rfl
  have nf : ∀ j, w.heap.size ≤ j → ¬ Foot own D j := fun j hj hk => by have := h.foot_lt hk; omega
  go_wp2_with fail
  refine (Clear_any (h.keep F0 (fun _ _ h => h))).mono ?_
  rintro e w1 ⟨rfl, own1, D1, H1, F1, N1⟩
  have hans1 := F1.keep hans (nf _ (by omega))
  have hres1 := F1.keep hres (nf _ (by omega))
  have a0 := cell_of 0 hans1 rfl
  have a1 := cell_of 1 hans1 rfl
  have a2 := cell_of 2 hans1 rfl
  have a3 := cell_of 3 hans1 rfl
  have f0 := frozen_of 0 hans1
  have f1 := frozen_of 1 hans1
  have f3 := frozen_of 3 hans1
  have r0 := cell_of 0 hres1 rfl
  have r1 := cell_of 1 hres1 rfl
  have r2 := cell_of 2 hres1 rfl
  have r3 := cell_of 3 hres1 rfl
  have g0 := frozen_of 0 hres1
  have g1 := frozen_of 1 hres1
  have g2 := frozen_of 2 hres1
  have g3 := frozen_of 3 hres1
  go_wp2_with fail
  refine bodyPost_ret (v := ansV ((([] : List Tm), ((0, 0, []) : Ans))).2) (by simp [results, Try.results14, go_sem, ansV, S_nil, r0, r1, r2, r3, a0, a1, a2, a3]) rfl ?_
  refine do_fin h F0 hsz H1 F1 N1 ?_ _
  repeat refine Fr.setCell ?_ (fun _ => by simp) _
  exact Fr.refl _ _

set_option maxRecDepth 40000 in
set_option maxHeartbeats 4000000 in
theorem do_query {w : World} {own : Own} {D : Nat → Prop} {p : Nat} {cs : List Tm} (h : ProgAt w own D p cs) (a b c : Int) (s t : ByteArray) :
    Calls Try.prog 14 #[.pointer (some ⟨p, 0, none⟩), opV 3 a b c s t] w (DoPost own D p (doOf cs 3 a s.data.toList t.data.toList) w) := by
  have hr : doOf cs 3 a s.data.toList t.data.toList = (cs, (queryAns s.data.toList).2, 0, (queryAns s.data.toList).1) := rfl
  rw [hr]
  clear hr
  unfold opV
  have F0 : Fr No w (dWorld w 3 a b c s t) := dWorld_fr
  have hop : (dWorld w 3 a b c s t).heap[w.heap.size]? = _ := dWorld_op
  have hres : (dWorld w 3 a b c s t).heap[w.heap.size + 1]? = _ := dWorld_res
  have hans : (dWorld w 3 a b c s t).heap[w.heap.size + 1 + 1]? = _ := dWorld_ans
  have hsz : (dWorld w 3 a b c s t).heap.size = w.heap.size + 3 := dWorld_size
  go_enter Try.func14, Try.ntmps14
  go_upto_region 2 with fail
  change Code.wp _ _ _ _ (dWorld w 3 a b c s t)
  generalize dWorld w 3 a b c s t = W0 at *
  have cs0 : W0.cell? ⟨w.heap.size, 0, none⟩ = some (.int .i64 3) := cell_of 0 hop rfl
  have cs1 : W0.cell? ⟨w.heap.size, 1, none⟩ = some (.int .i64 a) := cell_of 1 hop rfl
  have cs4 : W0.cell? ⟨w.heap.size, 4, none⟩ = some (.string s) := cell_of 4 hop rfl
  have cs5 : W0.cell? ⟨w.heap.size, 5, none⟩ = some (.string t) := cell_of 5 hop rfl
  have nf : ∀ j, w.heap.size ≤ j → ¬ Foot own D j := fun j hj hk => by have := h.foot_lt hk; omega
  go_wp2_with fail
  refine (Query_any (h.keep F0 (fun _ _ h => h)) s).mono ?_
  rintro e w1 ⟨rfl, F1⟩
  have hans1 := F1.keep hans (fun h => h)
  have hres1 := F1.keep hres (fun h => h)
  have a0 := cell_of 0 hans1 rfl
  have a1 := cell_of 1 hans1 rfl
  have a2 := cell_of 2 hans1 rfl
  have a3 := cell_of 3 hans1 rfl
  have f0 := frozen_of 0 hans1
  have f1 := frozen_of 1 hans1
  have f3 := frozen_of 3 hans1
  have r0 := cell_of 0 hres1 rfl
  have r1 := cell_of 1 hres1 rfl
  have r2 := cell_of 2 hres1 rfl
  have r3 := cell_of 3 hres1 rfl
  have g0 := frozen_of 0 hres1
  have g1 := frozen_of 1 hres1
  have g2 := frozen_of 2 hres1
  have g3 := frozen_of 3 hres1
  go_wp2_with fail
  refine bodyPost_ret (v := ansV ((cs, (queryAns s.data.toList).2, 0, (queryAns s.data.toList).1)).2) (by simp [results, Try.results14, go_sem, ansV, S_nil, r0, r1, r2, r3, a0, a1, a2, a3]) rfl ?_
  refine do_fin0 h F0 hsz F1 ?_ _
  repeat refine Fr.setCell ?_ (fun _ => by simp) _
  exact Fr.refl _ _

set_option maxRecDepth 40000 in
set_option maxHeartbeats 4000000 in
theorem do_text {w : World} {own : Own} {D : Nat → Prop} {p : Nat} {cs : List Tm} (h : ProgAt w own D p cs) (a b c : Int) (s t : ByteArray) :
    Calls Try.prog 14 #[.pointer (some ⟨p, 0, none⟩), opV 4 a b c s t] w (DoPost own D p (doOf cs 4 a s.data.toList t.data.toList) w) := by
  have hr : doOf cs 4 a s.data.toList t.data.toList = (cs, (textAns cs a).2, 0, (textAns cs a).1) := rfl
  rw [hr]
  clear hr
  unfold opV
  have F0 : Fr No w (dWorld w 4 a b c s t) := dWorld_fr
  have hop : (dWorld w 4 a b c s t).heap[w.heap.size]? = _ := dWorld_op
  have hres : (dWorld w 4 a b c s t).heap[w.heap.size + 1]? = _ := dWorld_res
  have hans : (dWorld w 4 a b c s t).heap[w.heap.size + 1 + 1]? = _ := dWorld_ans
  have hsz : (dWorld w 4 a b c s t).heap.size = w.heap.size + 3 := dWorld_size
  go_enter Try.func14, Try.ntmps14
  go_upto_region 2 with fail
  change Code.wp _ _ _ _ (dWorld w 4 a b c s t)
  generalize dWorld w 4 a b c s t = W0 at *
  have cs0 : W0.cell? ⟨w.heap.size, 0, none⟩ = some (.int .i64 4) := cell_of 0 hop rfl
  have cs1 : W0.cell? ⟨w.heap.size, 1, none⟩ = some (.int .i64 a) := cell_of 1 hop rfl
  have cs4 : W0.cell? ⟨w.heap.size, 4, none⟩ = some (.string s) := cell_of 4 hop rfl
  have cs5 : W0.cell? ⟨w.heap.size, 5, none⟩ = some (.string t) := cell_of 5 hop rfl
  have nf : ∀ j, w.heap.size ≤ j → ¬ Foot own D j := fun j hj hk => by have := h.foot_lt hk; omega
  go_wp2_with fail
  refine (Text_any (h.keep F0 (fun _ _ h => h)) a).mono ?_
  rintro e w1 ⟨rfl, F1⟩
  have hans1 := F1.keep hans (fun h => h)
  have hres1 := F1.keep hres (fun h => h)
  have a0 := cell_of 0 hans1 rfl
  have a1 := cell_of 1 hans1 rfl
  have a2 := cell_of 2 hans1 rfl
  have a3 := cell_of 3 hans1 rfl
  have f0 := frozen_of 0 hans1
  have f1 := frozen_of 1 hans1
  have f3 := frozen_of 3 hans1
  have r0 := cell_of 0 hres1 rfl
  have r1 := cell_of 1 hres1 rfl
  have r2 := cell_of 2 hres1 rfl
  have r3 := cell_of 3 hres1 rfl
  have g0 := frozen_of 0 hres1
  have g1 := frozen_of 1 hres1
  have g2 := frozen_of 2 hres1
  have g3 := frozen_of 3 hres1
  go_wp2_with fail
  refine bodyPost_ret (v := ansV ((cs, (textAns cs a).2, 0, (textAns cs a).1)).2) (by simp [results, Try.results14, go_sem, ansV, S_nil, r0, r1, r2, r3, a0, a1, a2, a3]) rfl ?_
  refine do_fin0 h F0 hsz F1 ?_ _
  repeat refine Fr.setCell ?_ (fun _ => by simp) _
  exact Fr.refl _ _

set_option maxRecDepth 40000 in
set_option maxHeartbeats 4000000 in
theorem do_code {w : World} {own : Own} {D : Nat → Prop} {p : Nat} {cs : List Tm} (h : ProgAt w own D p cs) (a b c : Int) (s t : ByteArray) :
    Calls Try.prog 14 #[.pointer (some ⟨p, 0, none⟩), opV 5 a b c s t] w (DoPost own D p (doOf cs 5 a s.data.toList t.data.toList) w) := by
  have hr : doOf cs 5 a s.data.toList t.data.toList = (cs, (codeAns cs a).2, 0, (codeAns cs a).1) := rfl
  rw [hr]
  clear hr
  unfold opV
  have F0 : Fr No w (dWorld w 5 a b c s t) := dWorld_fr
  have hop : (dWorld w 5 a b c s t).heap[w.heap.size]? = _ := dWorld_op
  have hres : (dWorld w 5 a b c s t).heap[w.heap.size + 1]? = _ := dWorld_res
  have hans : (dWorld w 5 a b c s t).heap[w.heap.size + 1 + 1]? = _ := dWorld_ans
  have hsz : (dWorld w 5 a b c s t).heap.size = w.heap.size + 3 := dWorld_size
  go_enter Try.func14, Try.ntmps14
  go_upto_region 2 with fail
  change Code.wp _ _ _ _ (dWorld w 5 a b c s t)
  generalize dWorld w 5 a b c s t = W0 at *
  have cs0 : W0.cell? ⟨w.heap.size, 0, none⟩ = some (.int .i64 5) := cell_of 0 hop rfl
  have cs1 : W0.cell? ⟨w.heap.size, 1, none⟩ = some (.int .i64 a) := cell_of 1 hop rfl
  have cs4 : W0.cell? ⟨w.heap.size, 4, none⟩ = some (.string s) := cell_of 4 hop rfl
  have cs5 : W0.cell? ⟨w.heap.size, 5, none⟩ = some (.string t) := cell_of 5 hop rfl
  have nf : ∀ j, w.heap.size ≤ j → ¬ Foot own D j := fun j hj hk => by have := h.foot_lt hk; omega
  go_wp2_with fail
  refine (Code_any (h.keep F0 (fun _ _ h => h)) a).mono ?_
  rintro e w1 ⟨rfl, F1⟩
  have hans1 := F1.keep hans (fun h => h)
  have hres1 := F1.keep hres (fun h => h)
  have a0 := cell_of 0 hans1 rfl
  have a1 := cell_of 1 hans1 rfl
  have a2 := cell_of 2 hans1 rfl
  have a3 := cell_of 3 hans1 rfl
  have f0 := frozen_of 0 hans1
  have f1 := frozen_of 1 hans1
  have f3 := frozen_of 3 hans1
  have r0 := cell_of 0 hres1 rfl
  have r1 := cell_of 1 hres1 rfl
  have r2 := cell_of 2 hres1 rfl
  have r3 := cell_of 3 hres1 rfl
  have g0 := frozen_of 0 hres1
  have g1 := frozen_of 1 hres1
  have g2 := frozen_of 2 hres1
  have g3 := frozen_of 3 hres1
  go_wp2_with fail
  refine bodyPost_ret (v := ansV ((cs, (codeAns cs a).2, 0, (codeAns cs a).1)).2) (by simp [results, Try.results14, go_sem, ansV, S_nil, r0, r1, r2, r3, a0, a1, a2, a3]) rfl ?_
  refine do_fin0 h F0 hsz F1 ?_ _
  repeat refine Fr.setCell ?_ (fun _ => by simp) _
  exact Fr.refl _ _

set_option maxRecDepth 40000 in
set_option maxHeartbeats 4000000 in
theorem do_match {w : World} {own : Own} {D : Nat → Prop} {p : Nat} {cs : List Tm} (h : ProgAt w own D p cs) (a b c : Int) (s t : ByteArray) :
    Calls Try.prog 14 #[.pointer (some ⟨p, 0, none⟩), opV 6 a b c s t] w (DoPost own D p (doOf cs 6 a s.data.toList t.data.toList) w) := by
  have hr : doOf cs 6 a s.data.toList t.data.toList = (cs, 0, 0, matchOf cs s.data.toList t.data.toList) := rfl
  rw [hr]
  clear hr
  unfold opV
  have F0 : Fr No w (dWorld w 6 a b c s t) := dWorld_fr
  have hop : (dWorld w 6 a b c s t).heap[w.heap.size]? = _ := dWorld_op
  have hres : (dWorld w 6 a b c s t).heap[w.heap.size + 1]? = _ := dWorld_res
  have hans : (dWorld w 6 a b c s t).heap[w.heap.size + 1 + 1]? = _ := dWorld_ans
  have hsz : (dWorld w 6 a b c s t).heap.size = w.heap.size + 3 := dWorld_size
  go_enter Try.func14, Try.ntmps14
  go_upto_region 2 with fail
  change Code.wp _ _ _ _ (dWorld w 6 a b c s t)
  generalize dWorld w 6 a b c s t = W0 at *
  have cs0 : W0.cell? ⟨w.heap.size, 0, none⟩ = some (.int .i64 6) := cell_of 0 hop rfl
  have cs1 : W0.cell? ⟨w.heap.size, 1, none⟩ = some (.int .i64 a) := cell_of 1 hop rfl
  have cs4 : W0.cell? ⟨w.heap.size, 4, none⟩ = some (.string s) := cell_of 4 hop rfl
  have cs5 : W0.cell? ⟨w.heap.size, 5, none⟩ = some (.string t) := cell_of 5 hop rfl
  have nf : ∀ j, w.heap.size ≤ j → ¬ Foot own D j := fun j hj hk => by have := h.foot_lt hk; omega
  go_wp2_with fail
  refine (Match_any (h.keep F0 (fun _ _ h => h)) s t).mono ?_
  rintro e w1 ⟨rfl, F1⟩
  have hans1 := F1.keep hans (fun h => h)
  have hres1 := F1.keep hres (fun h => h)
  have a0 := cell_of 0 hans1 rfl
  have a1 := cell_of 1 hans1 rfl
  have a2 := cell_of 2 hans1 rfl
  have a3 := cell_of 3 hans1 rfl
  have f0 := frozen_of 0 hans1
  have f1 := frozen_of 1 hans1
  have f3 := frozen_of 3 hans1
  have r0 := cell_of 0 hres1 rfl
  have r1 := cell_of 1 hres1 rfl
  have r2 := cell_of 2 hres1 rfl
  have r3 := cell_of 3 hres1 rfl
  have g0 := frozen_of 0 hres1
  have g1 := frozen_of 1 hres1
  have g2 := frozen_of 2 hres1
  have g3 := frozen_of 3 hres1
  go_wp2_with fail
  refine bodyPost_ret (v := ansV ((cs, 0, 0, matchOf cs s.data.toList t.data.toList)).2) (by simp [results, Try.results14, go_sem, ansV, S_nil, r0, r1, r2, r3, a0, a1, a2, a3]) rfl ?_
  refine do_fin0 h F0 hsz F1 ?_ _
  repeat refine Fr.setCell ?_ (fun _ => by simp) _
  exact Fr.refl _ _

set_option maxRecDepth 40000 in
set_option maxHeartbeats 4000000 in
theorem do_len {w : World} {own : Own} {D : Nat → Prop} {p : Nat} {cs : List Tm} (h : ProgAt w own D p cs) (a b c : Int) (s t : ByteArray) :
    Calls Try.prog 14 #[.pointer (some ⟨p, 0, none⟩), opV 7 a b c s t] w (DoPost own D p (doOf cs 7 a s.data.toList t.data.toList) w) := by
  have hr : doOf cs 7 a s.data.toList t.data.toList = (cs, 0, (cs.length : Int), []) := rfl
  rw [hr]
  clear hr
  unfold opV
  have F0 : Fr No w (dWorld w 7 a b c s t) := dWorld_fr
  have hop : (dWorld w 7 a b c s t).heap[w.heap.size]? = _ := dWorld_op
  have hres : (dWorld w 7 a b c s t).heap[w.heap.size + 1]? = _ := dWorld_res
  have hans : (dWorld w 7 a b c s t).heap[w.heap.size + 1 + 1]? = _ := dWorld_ans
  have hsz : (dWorld w 7 a b c s t).heap.size = w.heap.size + 3 := dWorld_size
  go_enter Try.func14, Try.ntmps14
  go_upto_region 2 with fail
  change Code.wp _ _ _ _ (dWorld w 7 a b c s t)
  generalize dWorld w 7 a b c s t = W0 at *
  have cs0 : W0.cell? ⟨w.heap.size, 0, none⟩ = some (.int .i64 7) := cell_of 0 hop rfl
  have cs1 : W0.cell? ⟨w.heap.size, 1, none⟩ = some (.int .i64 a) := cell_of 1 hop rfl
  have cs4 : W0.cell? ⟨w.heap.size, 4, none⟩ = some (.string s) := cell_of 4 hop rfl
  have cs5 : W0.cell? ⟨w.heap.size, 5, none⟩ = some (.string t) := cell_of 5 hop rfl
  have nf : ∀ j, w.heap.size ≤ j → ¬ Foot own D j := fun j hj hk => by have := h.foot_lt hk; omega
  go_wp2_with fail
  refine (len_any (h.keep F0 (fun _ _ h => h))).mono ?_
  rintro e w1 ⟨rfl, rfl⟩
  have F1 : Fr No w1 w1 := Fr.refl _ _
  have hans1 := F1.keep hans (fun h => h)
  have hres1 := F1.keep hres (fun h => h)
  have a0 := cell_of 0 hans1 rfl
  have a1 := cell_of 1 hans1 rfl
  have a2 := cell_of 2 hans1 rfl
  have a3 := cell_of 3 hans1 rfl
  have f0 := frozen_of 0 hans1
  have f1 := frozen_of 1 hans1
  have f3 := frozen_of 3 hans1
  have r0 := cell_of 0 hres1 rfl
  have r1 := cell_of 1 hres1 rfl
  have r2 := cell_of 2 hres1 rfl
  have r3 := cell_of 3 hres1 rfl
  have g0 := frozen_of 0 hres1
  have g1 := frozen_of 1 hres1
  have g2 := frozen_of 2 hres1
  have g3 := frozen_of 3 hres1
  go_wp2_with fail
  refine bodyPost_ret (v := ansV ((cs, 0, (cs.length : Int), [])).2) (by simp [results, Try.results14, go_sem, ansV, S_nil, r0, r1, r2, r3, a0, a1, a2, a3]) rfl ?_
  refine do_fin0 h F0 hsz F1 ?_ _
  repeat refine Fr.setCell ?_ (fun _ => by simp) _
  exact Fr.refl _ _

set_option maxRecDepth 40000 in
set_option maxHeartbeats 4000000 in
theorem do_show {w : World} {own : Own} {D : Nat → Prop} {p : Nat} {cs : List Tm} (h : ProgAt w own D p cs) (a b c : Int) (s t : ByteArray) :
    Calls Try.prog 14 #[.pointer (some ⟨p, 0, none⟩), opV 8 a b c s t] w (DoPost own D p (doOf cs 8 a s.data.toList t.data.toList) w) := by
  have hr : doOf cs 8 a s.data.toList t.data.toList = (cs, 0, 0, showOf cs) := rfl
  rw [hr]
  clear hr
  unfold opV
  have F0 : Fr No w (dWorld w 8 a b c s t) := dWorld_fr
  have hop : (dWorld w 8 a b c s t).heap[w.heap.size]? = _ := dWorld_op
  have hres : (dWorld w 8 a b c s t).heap[w.heap.size + 1]? = _ := dWorld_res
  have hans : (dWorld w 8 a b c s t).heap[w.heap.size + 1 + 1]? = _ := dWorld_ans
  have hsz : (dWorld w 8 a b c s t).heap.size = w.heap.size + 3 := dWorld_size
  go_enter Try.func14, Try.ntmps14
  go_upto_region 2 with fail
  change Code.wp _ _ _ _ (dWorld w 8 a b c s t)
  generalize dWorld w 8 a b c s t = W0 at *
  have cs0 : W0.cell? ⟨w.heap.size, 0, none⟩ = some (.int .i64 8) := cell_of 0 hop rfl
  have cs1 : W0.cell? ⟨w.heap.size, 1, none⟩ = some (.int .i64 a) := cell_of 1 hop rfl
  have cs4 : W0.cell? ⟨w.heap.size, 4, none⟩ = some (.string s) := cell_of 4 hop rfl
  have cs5 : W0.cell? ⟨w.heap.size, 5, none⟩ = some (.string t) := cell_of 5 hop rfl
  have nf : ∀ j, w.heap.size ≤ j → ¬ Foot own D j := fun j hj hk => by have := h.foot_lt hk; omega
  go_wp2_with fail
  refine (Show_any (h.keep F0 (fun _ _ h => h))).mono ?_
  rintro e w1 ⟨rfl, F1⟩
  have hans1 := F1.keep hans (fun h => h)
  have hres1 := F1.keep hres (fun h => h)
  have a0 := cell_of 0 hans1 rfl
  have a1 := cell_of 1 hans1 rfl
  have a2 := cell_of 2 hans1 rfl
  have a3 := cell_of 3 hans1 rfl
  have f0 := frozen_of 0 hans1
  have f1 := frozen_of 1 hans1
  have f3 := frozen_of 3 hans1
  have r0 := cell_of 0 hres1 rfl
  have r1 := cell_of 1 hres1 rfl
  have r2 := cell_of 2 hres1 rfl
  have r3 := cell_of 3 hres1 rfl
  have g0 := frozen_of 0 hres1
  have g1 := frozen_of 1 hres1
  have g2 := frozen_of 2 hres1
  have g3 := frozen_of 3 hres1
  go_wp2_with fail
  refine bodyPost_ret (v := ansV ((cs, 0, 0, showOf cs)).2) (by simp [results, Try.results14, go_sem, ansV, S_nil, r0, r1, r2, r3, a0, a1, a2, a3]) rfl ?_
  refine do_fin0 h F0 hsz F1 ?_ _
  repeat refine Fr.setCell ?_ (fun _ => by simp) _
  exact Fr.refl _ _

set_option maxRecDepth 40000 in
set_option maxHeartbeats 4000000 in
theorem do_check {w : World} {own : Own} {D : Nat → Prop} {p : Nat} {cs : List Tm} (h : ProgAt w own D p cs) (a b c : Int) (s t : ByteArray) :
    Calls Try.prog 14 #[.pointer (some ⟨p, 0, none⟩), opV 9 a b c s t] w (DoPost own D p (doOf cs 9 a s.data.toList t.data.toList) w) := by
  have hr : doOf cs 9 a s.data.toList t.data.toList = (cs, ((0, 0, []) : Ans)) := rfl
  rw [hr]
  clear hr
  unfold opV
  have F0 : Fr No w (dWorld w 9 a b c s t) := dWorld_fr
  have hop : (dWorld w 9 a b c s t).heap[w.heap.size]? = _ := dWorld_op
  have hres : (dWorld w 9 a b c s t).heap[w.heap.size + 1]? = _ := dWorld_res
  have hans : (dWorld w 9 a b c s t).heap[w.heap.size + 1 + 1]? = _ := dWorld_ans
  have hsz : (dWorld w 9 a b c s t).heap.size = w.heap.size + 3 := dWorld_size
  go_enter Try.func14, Try.ntmps14
  go_upto_region 2 with fail
  change Code.wp _ _ _ _ (dWorld w 9 a b c s t)
  generalize dWorld w 9 a b c s t = W0 at *
  have cs0 : W0.cell? ⟨w.heap.size, 0, none⟩ = some (.int .i64 9) := cell_of 0 hop rfl
  have cs1 : W0.cell? ⟨w.heap.size, 1, none⟩ = some (.int .i64 a) := cell_of 1 hop rfl
  have cs4 : W0.cell? ⟨w.heap.size, 4, none⟩ = some (.string s) := cell_of 4 hop rfl
  have cs5 : W0.cell? ⟨w.heap.size, 5, none⟩ = some (.string t) := cell_of 5 hop rfl
  have nf : ∀ j, w.heap.size ≤ j → ¬ Foot own D j := fun j hj hk => by have := h.foot_lt hk; omega
  go_wp2_with fail
  refine (Check_any (h.keep F0 (fun _ _ h => h))).mono ?_
  rintro e w1 ⟨rfl, F1⟩
  have hans1 := F1.keep hans (fun h => h)
  have hres1 := F1.keep hres (fun h => h)
  have a0 := cell_of 0 hans1 rfl
  have a1 := cell_of 1 hans1 rfl
  have a2 := cell_of 2 hans1 rfl
  have a3 := cell_of 3 hans1 rfl
  have f0 := frozen_of 0 hans1
  have f1 := frozen_of 1 hans1
  have f3 := frozen_of 3 hans1
  have r0 := cell_of 0 hres1 rfl
  have r1 := cell_of 1 hres1 rfl
  have r2 := cell_of 2 hres1 rfl
  have r3 := cell_of 3 hres1 rfl
  have g0 := frozen_of 0 hres1
  have g1 := frozen_of 1 hres1
  have g2 := frozen_of 2 hres1
  have g3 := frozen_of 3 hres1
  go_wp2_with fail
  refine bodyPost_ret (v := ansV ((cs, ((0, 0, []) : Ans))).2) (by simp [results, Try.results14, go_sem, ansV, S_nil, r0, r1, r2, r3, a0, a1, a2, a3]) rfl ?_
  refine do_fin0 h F0 hsz F1 ?_ _
  repeat refine Fr.setCell ?_ (fun _ => by simp) _
  exact Fr.refl _ _

set_option maxRecDepth 40000 in
set_option maxHeartbeats 4000000 in
theorem do_none {w : World} {own : Own} {D : Nat → Prop} {p : Nat} {cs : List Tm} (h : ProgAt w own D p cs) (k : Int) (h1 : ¬ k = 1) (h2 : ¬ k = 2) (h3 : ¬ k = 3) (h4 : ¬ k = 4) (h5 : ¬ k = 5) (h6 : ¬ k = 6) (h7 : ¬ k = 7) (h8 : ¬ k = 8) (h9 : ¬ k = 9) (a b c : Int) (s t : ByteArray) :
    Calls Try.prog 14 #[.pointer (some ⟨p, 0, none⟩), opV k a b c s t] w (DoPost own D p (doOf cs k a s.data.toList t.data.toList) w) := by
  have hr : doOf cs k a s.data.toList t.data.toList = (cs, ((0, 0, []) : Ans)) := by unfold doOf; rw [if_neg h1, if_neg h2, if_neg h3, if_neg h4, if_neg h5, if_neg h6, if_neg h7, if_neg h8]
  rw [hr]
  clear hr
  have q1 : (k == 1) = false := beq_eq_false_iff_ne.2 h1
  have q2 : (k == 2) = false := beq_eq_false_iff_ne.2 h2
  have q3 : (k == 3) = false := beq_eq_false_iff_ne.2 h3
  have q4 : (k == 4) = false := beq_eq_false_iff_ne.2 h4
  have q5 : (k == 5) = false := beq_eq_false_iff_ne.2 h5
  have q6 : (k == 6) = false := beq_eq_false_iff_ne.2 h6
  have q7 : (k == 7) = false := beq_eq_false_iff_ne.2 h7
  have q8 : (k == 8) = false := beq_eq_false_iff_ne.2 h8
  have q9 : (k == 9) = false := beq_eq_false_iff_ne.2 h9
  unfold opV
  have F0 : Fr No w (dWorld w k a b c s t) := dWorld_fr
  have hop : (dWorld w k a b c s t).heap[w.heap.size]? = _ := dWorld_op
  have hres : (dWorld w k a b c s t).heap[w.heap.size + 1]? = _ := dWorld_res
  have hans : (dWorld w k a b c s t).heap[w.heap.size + 1 + 1]? = _ := dWorld_ans
  have hsz : (dWorld w k a b c s t).heap.size = w.heap.size + 3 := dWorld_size
  go_enter Try.func14, Try.ntmps14
  go_upto_region 2 with fail
  change Code.wp _ _ _ _ (dWorld w k a b c s t)
  generalize dWorld w k a b c s t = W0 at *
  have cs0 : W0.cell? ⟨w.heap.size, 0, none⟩ = some (.int .i64 k) := cell_of 0 hop rfl
  have cs1 : W0.cell? ⟨w.heap.size, 1, none⟩ = some (.int .i64 a) := cell_of 1 hop rfl
  have cs4 : W0.cell? ⟨w.heap.size, 4, none⟩ = some (.string s) := cell_of 4 hop rfl
  have cs5 : W0.cell? ⟨w.heap.size, 5, none⟩ = some (.string t) := cell_of 5 hop rfl
  have nf : ∀ j, w.heap.size ≤ j → ¬ Foot own D j := fun j hj hk => by have := h.foot_lt hk; omega
  have F1 : Fr No W0 W0 := Fr.refl _ _
  have hans1 := hans
  have hres1 := hres
  have a0 := cell_of 0 hans1 rfl
  have a1 := cell_of 1 hans1 rfl
  have a2 := cell_of 2 hans1 rfl
  have a3 := cell_of 3 hans1 rfl
  have f0 := frozen_of 0 hans1
  have f1 := frozen_of 1 hans1
  have f3 := frozen_of 3 hans1
  have r0 := cell_of 0 hres1 rfl
  have r1 := cell_of 1 hres1 rfl
  have r2 := cell_of 2 hres1 rfl
  have r3 := cell_of 3 hres1 rfl
  have g0 := frozen_of 0 hres1
  have g1 := frozen_of 1 hres1
  have g2 := frozen_of 2 hres1
  have g3 := frozen_of 3 hres1
  go_wp2_with fail
  refine bodyPost_ret (v := ansV ((cs, ((0, 0, []) : Ans))).2) (by simp [results, Try.results14, go_sem, ansV, S_nil, r0, r1, r2, r3, a0, a1, a2, a3]) rfl ?_
  refine do_fin0 h F0 hsz F1 ?_ _
  repeat refine Fr.setCell ?_ (fun _ => by simp) _
  exact Fr.refl _ _

theorem Do_any {w : World} {own : Own} {D : Nat → Prop} {p : Nat} {cs : List Tm} (h : ProgAt w own D p cs) (k a b c : Int) (s t : ByteArray) :
    Calls Try.prog 14 #[.pointer (some ⟨p, 0, none⟩), opV k a b c s t] w (DoPost own D p (doOf cs k a s.data.toList t.data.toList) w) := by
  by_cases h1 : k = 1
  · subst h1; exact do_add h a b c s t
  by_cases h2 : k = 2
  · subst h2; exact do_clear h a b c s t
  by_cases h3 : k = 3
  · subst h3; exact do_query h a b c s t
  by_cases h4 : k = 4
  · subst h4; exact do_text h a b c s t
  by_cases h5 : k = 5
  · subst h5; exact do_code h a b c s t
  by_cases h6 : k = 6
  · subst h6; exact do_match h a b c s t
  by_cases h7 : k = 7
  · subst h7; exact do_len h a b c s t
  by_cases h8 : k = 8
  · subst h8; exact do_show h a b c s t
  by_cases h9 : k = 9
  · subst h9; exact do_check h a b c s t
  · exact do_none h k h1 h2 h3 h4 h5 h6 h7 h8 h9 a b c s t
end Go.Proofs.Qxb6500302a
