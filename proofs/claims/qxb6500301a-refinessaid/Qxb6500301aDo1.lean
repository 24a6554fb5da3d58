import Derived.Test.Qxb6500301aPlain5
import Derived.Test.Qxb6500301aMk3
import Derived.Test.Qxb6500301aMk4
import Derived.Test.Qxb6500301aReal3
import Derived.Test.Qxb6500301aReal9
import Derived.Test.Qxb6500301aPrn4
import Derived.Test.Qxb6500301aPrn8
import Derived.Test.Qxb6500301aChk3
namespace Go.Proofs.Qxb6500301a
open Go.RowKit
set_option linter.unusedSimpArgs false
set_option linter.unusedVariables false
attribute [local go_sem ↓] Go.wp_at_zero Go.wp_at_succ

def DoPost (p : Nat) (B : Blks) (r : (List Nd × List (List Nd)) × Ans) (w : World) (e : Ending) (w' : World) : Prop :=
  e = .returned (ansV r.2) ∧ HeapAt w' p B r.1.1 r.1.2 ∧ Fr (B.Has p) w w'

theorem HeapAt.lt {w : World} {p : Nat} {B : Blks} {ns : List Nd} {saved : List (List Nd)} (h : HeapAt w p B ns saved) {k : Nat} (hk : B.Has p k) : k < w.heap.size := by
  obtain ⟨ws, tr, tms, h1, -⟩ := h.main
  exact h1.lt hk
theorem do_fin {w W0 w1 wf : World} {p : Nat} {B : Blks} {ns : List Nd} {saved : List (List Nd)} (h : HeapAt w p B ns saved) (F0 : Fr No w W0) {st : List Nd × List (List Nd)} (H1 : HeapAt w1 p B st.1 st.2)
    (F1 : Fr (B.Has p) W0 w1) (hF : Fr (fun k => k = w.heap.size + 1 ∨ k = w.heap.size + 1 + 1) w1 wf) (A : Ans) : DoPost p B (st, A) w (.returned (ansV A)) wf := by
  refine ⟨rfl, H1.keep hF (fun k hk e => ?_), ((F0.mono (fun _ _ h => h.elim)).trans F1 (fun _ _ h => h)).trans hF (fun k hk e => by omega)⟩
  have := h.lt hk
  omega

set_option maxRecDepth 40000 in
set_option maxHeartbeats 4000000 in
theorem do_reset {w : World} {p : Nat} {B : Blks} {ns : List Nd} {saved : List (List Nd)} (h : HeapAt w p B ns saved) (a b c : Int) (s : List UInt8) (t : ByteArray) :
    Calls Try.prog 15 #[.pointer (some ⟨p, 0, none⟩), opV 1 a b c (S s) t] w (DoPost p B (doOf ns saved 1 a b s) w) := by
  have hr : doOf ns saved 1 a b s = ((([] : List Nd), ([] : List (List Nd))), ((0, 0, []) : Ans)) := by rfl
  rw [hr]
  clear hr
  unfold opV
  have F0 : Fr No w (dWorld w 1 a b c (S s) t) := dWorld_fr
  have hop : (dWorld w 1 a b c (S s) t).heap[w.heap.size]? = _ := dWorld_op
  have hres : (dWorld w 1 a b c (S s) t).heap[w.heap.size + 1]? = _ := dWorld_res
  have hans : (dWorld w 1 a b c (S s) t).heap[w.heap.size + 1 + 1]? = _ := dWorld_ans
  have hsz : (dWorld w 1 a b c (S s) t).heap.size = w.heap.size + 3 := dWorld_size
  go_enter Try.func15, Try.ntmps15
  go_upto_region 2 with fail
  change Code.wp _ _ _ _ (dWorld w 1 a b c (S s) t)
  generalize dWorld w 1 a b c (S s) t = W0 at *
  have cs0 : W0.cell? ⟨w.heap.size, 0, none⟩ = some (.int .i64 1) := cell_of 0 hop rfl
  have cs1 : W0.cell? ⟨w.heap.size, 1, none⟩ = some (.int .i64 a) := cell_of 1 hop rfl
  have cs2 : W0.cell? ⟨w.heap.size, 2, none⟩ = some (.int .i64 b) := cell_of 2 hop rfl
  have cs4 : W0.cell? ⟨w.heap.size, 4, none⟩ = some (.string (S s)) := cell_of 4 hop rfl
  have nf : ∀ j, w.heap.size ≤ j → ¬ B.Has p j := fun j hj hk => by have := h.lt hk; omega
  go_wp2_with fail
  refine (Reset_any (h.keep F0 (fun _ _ h => h)) ).mono ?_
  rintro e w1 ⟨rfl, H1, F1⟩
  have hans1 := F1.keep hans (nf _ (by omega))
  have hres1 := F1.keep hres (nf _ (by omega))
  have a0 := cell_of 0 hans1 rfl
  have a1 := cell_of 1 hans1 rfl
  have a2 := cell_of 2 hans1 rfl
  have a3 := cell_of 3 hans1 rfl
  have f0 := frozen_of 0 hans1
  have f1 := frozen_of 1 hans1
  have f3 := frozen_of 3 hans1
  have r0 := cell_of 0 hres1 rfl
  have r1 := cell_of 1 hres1 rfl
  have r2 := cell_of 2 hres1 rfl
  have r3 := cell_of 3 hres1 rfl
  have g0 := frozen_of 0 hres1
  have g1 := frozen_of 1 hres1
  have g2 := frozen_of 2 hres1
  have g3 := frozen_of 3 hres1
  go_wp2_with fail
  refine bodyPost_ret (v := ansV (((([] : List Nd), ([] : List (List Nd))), ((0, 0, []) : Ans))).2) (by simp [results, Try.results15, go_sem, ansV, S_nil, r0, r1, r2, r3, a0, a1, a2, a3]) rfl ?_
  refine do_fin h F0 H1 F1 ?_ _
  repeat refine Fr.setCell ?_ (fun _ => by simp) _
  exact Fr.refl _ _

set_option maxRecDepth 40000 in
set_option maxHeartbeats 4000000 in
theorem do_load {w : World} {p : Nat} {B : Blks} {ns : List Nd} {saved : List (List Nd)} (h : HeapAt w p B ns saved) (a b c : Int) (s : List UInt8) (t : ByteArray) :
    Calls Try.prog 15 #[.pointer (some ⟨p, 0, none⟩), opV 2 a b c (S s) t] w (DoPost p B (doOf ns saved 2 a b s) w) := by
  have hr : doOf ns saved 2 a b s = (((loadAns ns s).2.2, saved), (((loadAns ns s).2.1, (loadAns ns s).1, []) : Ans)) := by rfl
  rw [hr]
  clear hr
  unfold opV
  have F0 : Fr No w (dWorld w 2 a b c (S s) t) := dWorld_fr
  have hop : (dWorld w 2 a b c (S s) t).heap[w.heap.size]? = _ := dWorld_op
  have hres : (dWorld w 2 a b c (S s) t).heap[w.heap.size + 1]? = _ := dWorld_res
  have hans : (dWorld w 2 a b c (S s) t).heap[w.heap.size + 1 + 1]? = _ := dWorld_ans
  have hsz : (dWorld w 2 a b c (S s) t).heap.size = w.heap.size + 3 := dWorld_size
  go_enter Try.func15, Try.ntmps15
  go_upto_region 2 with fail
  change Code.wp _ _ _ _ (dWorld w 2 a b c (S s) t)
  generalize dWorld w 2 a b c (S s) t = W0 at *
  have cs0 : W0.cell? ⟨w.heap.size, 0, none⟩ = some (.int .i64 2) := cell_of 0 hop rfl
  have cs1 : W0.cell? ⟨w.heap.size, 1, none⟩ = some (.int .i64 a) := cell_of 1 hop rfl
  have cs2 : W0.cell? ⟨w.heap.size, 2, none⟩ = some (.int .i64 b) := cell_of 2 hop rfl
  have cs4 : W0.cell? ⟨w.heap.size, 4, none⟩ = some (.string (S s)) := cell_of 4 hop rfl
  have nf : ∀ j, w.heap.size ≤ j → ¬ B.Has p j := fun j hj hk => by have := h.lt hk; omega
  go_wp2_with fail
  refine (Load_any (h.keep F0 (fun _ _ h => h)) s).mono ?_
  rintro e w1 ⟨rfl, H1, F1⟩
  have hans1 := F1.keep hans (nf _ (by omega))
  have hres1 := F1.keep hres (nf _ (by omega))
  have a0 := cell_of 0 hans1 rfl
  have a1 := cell_of 1 hans1 rfl
  have a2 := cell_of 2 hans1 rfl
  have a3 := cell_of 3 hans1 rfl
  have f0 := frozen_of 0 hans1
  have f1 := frozen_of 1 hans1
  have f3 := frozen_of 3 hans1
  have r0 := cell_of 0 hres1 rfl
  have r1 := cell_of 1 hres1 rfl
  have r2 := cell_of 2 hres1 rfl
  have r3 := cell_of 3 hres1 rfl
  have g0 := frozen_of 0 hres1
  have g1 := frozen_of 1 hres1
  have g2 := frozen_of 2 hres1
  have g3 := frozen_of 3 hres1
  go_wp2_with fail
  refine bodyPost_ret (v := ansV ((((loadAns ns s).2.2, saved), (((loadAns ns s).2.1, (loadAns ns s).1, []) : Ans))).2) (by simp [results, Try.results15, go_sem, ansV, S_nil, r0, r1, r2, r3, a0, a1, a2, a3]) rfl ?_
  refine do_fin h F0 H1 F1 ?_ _
  repeat refine Fr.setCell ?_ (fun _ => by simp) _
  exact Fr.refl _ _

set_option maxRecDepth 40000 in
set_option maxHeartbeats 4000000 in
theorem do_unify {w : World} {p : Nat} {B : Blks} {ns : List Nd} {saved : List (List Nd)} (h : HeapAt w p B ns saved) (a b c : Int) (s : List UInt8) (t : ByteArray) :
    Calls Try.prog 15 #[.pointer (some ⟨p, 0, none⟩), opV 3 a b c (S s) t] w (DoPost p B (doOf ns saved 3 a b s) w) := by
  have hr : doOf ns saved 3 a b s = (((unifyAns ns a b).2.2, saved), (((unifyAns ns a b).2.1, (unifyAns ns a b).1, []) : Ans)) := by rfl
  rw [hr]
  clear hr
  unfold opV
  have F0 : Fr No w (dWorld w 3 a b c (S s) t) := dWorld_fr
  have hop : (dWorld w 3 a b c (S s) t).heap[w.heap.size]? = _ := dWorld_op
  have hres : (dWorld w 3 a b c (S s) t).heap[w.heap.size + 1]? = _ := dWorld_res
  have hans : (dWorld w 3 a b c (S s) t).heap[w.heap.size + 1 + 1]? = _ := dWorld_ans
  have hsz : (dWorld w 3 a b c (S s) t).heap.size = w.heap.size + 3 := dWorld_size
  go_enter Try.func15, Try.ntmps15
  go_upto_region 2 with fail
  change Code.wp _ _ _ _ (dWorld w 3 a b c (S s) t)
  generalize dWorld w 3 a b c (S s) t = W0 at *
  have cs0 : W0.cell? ⟨w.heap.size, 0, none⟩ = some (.int .i64 3) := cell_of 0 hop rfl
  have cs1 : W0.cell? ⟨w.heap.size, 1, none⟩ = some (.int .i64 a) := cell_of 1 hop rfl
  have cs2 : W0.cell? ⟨w.heap.size, 2, none⟩ = some (.int .i64 b) := cell_of 2 hop rfl
  have cs4 : W0.cell? ⟨w.heap.size, 4, none⟩ = some (.string (S s)) := cell_of 4 hop rfl
  have nf : ∀ j, w.heap.size ≤ j → ¬ B.Has p j := fun j hj hk => by have := h.lt hk; omega
  go_wp2_with fail
  refine (Unify_any (h.keep F0 (fun _ _ h => h)) a b).mono ?_
  rintro e w1 ⟨rfl, H1, F1⟩
  have hans1 := F1.keep hans (nf _ (by omega))
  have hres1 := F1.keep hres (nf _ (by omega))
  have a0 := cell_of 0 hans1 rfl
  have a1 := cell_of 1 hans1 rfl
  have a2 := cell_of 2 hans1 rfl
  have a3 := cell_of 3 hans1 rfl
  have f0 := frozen_of 0 hans1
  have f1 := frozen_of 1 hans1
  have f3 := frozen_of 3 hans1
  have r0 := cell_of 0 hres1 rfl
  have r1 := cell_of 1 hres1 rfl
  have r2 := cell_of 2 hres1 rfl
  have r3 := cell_of 3 hres1 rfl
  have g0 := frozen_of 0 hres1
  have g1 := frozen_of 1 hres1
  have g2 := frozen_of 2 hres1
  have g3 := frozen_of 3 hres1
  go_wp2_with fail
  refine bodyPost_ret (v := ansV ((((unifyAns ns a b).2.2, saved), (((unifyAns ns a b).2.1, (unifyAns ns a b).1, []) : Ans))).2) (by simp [results, Try.results15, go_sem, ansV, S_nil, r0, r1, r2, r3, a0, a1, a2, a3]) rfl ?_
  refine do_fin h F0 H1 F1 ?_ _
  repeat refine Fr.setCell ?_ (fun _ => by simp) _
  exact Fr.refl _ _

set_option maxRecDepth 40000 in
set_option maxHeartbeats 4000000 in
theorem do_full {w : World} {p : Nat} {B : Blks} {ns : List Nd} {saved : List (List Nd)} (h : HeapAt w p B ns saved) (hl : 26 ≤ saved.length) (a b c : Int) (s : List UInt8) (t : ByteArray) :
    Calls Try.prog 15 #[.pointer (some ⟨p, 0, none⟩), opV 4 a b c (S s) t] w (DoPost p B (doOf ns saved 4 a b s) w) := by
  have hr : doOf ns saved 4 a b s = ((ns, saved), ((6, 0, []) : Ans)) := doOf_full hl
  rw [hr]
  clear hr
  unfold opV
  have F0 : Fr No w (dWorld w 4 a b c (S s) t) := dWorld_fr
  have hop : (dWorld w 4 a b c (S s) t).heap[w.heap.size]? = _ := dWorld_op
  have hres : (dWorld w 4 a b c (S s) t).heap[w.heap.size + 1]? = _ := dWorld_res
  have hans : (dWorld w 4 a b c (S s) t).heap[w.heap.size + 1 + 1]? = _ := dWorld_ans
  have hsz : (dWorld w 4 a b c (S s) t).heap.size = w.heap.size + 3 := dWorld_size
  go_enter Try.func15, Try.ntmps15
  go_upto_region 2 with fail
  change Code.wp _ _ _ _ (dWorld w 4 a b c (S s) t)
  generalize dWorld w 4 a b c (S s) t = W0 at *
  have cs0 : W0.cell? ⟨w.heap.size, 0, none⟩ = some (.int .i64 4) := cell_of 0 hop rfl
  have cs1 : W0.cell? ⟨w.heap.size, 1, none⟩ = some (.int .i64 a) := cell_of 1 hop rfl
  have cs2 : W0.cell? ⟨w.heap.size, 2, none⟩ = some (.int .i64 b) := cell_of 2 hop rfl
  have cs4 : W0.cell? ⟨w.heap.size, 4, none⟩ = some (.string (S s)) := cell_of 4 hop rfl
  have nf : ∀ j, w.heap.size ≤ j → ¬ B.Has p j := fun j hj hk => by have := h.lt hk; omega
  go_wp2_with fail
  refine (Push_full (h.keep F0 (fun _ _ h => h)) hl).mono ?_
  rintro e w1 ⟨rfl, H1, F1⟩
  have hans1 := F1.keep hans (nf _ (by omega))
  have hres1 := F1.keep hres (nf _ (by omega))
  have a0 := cell_of 0 hans1 rfl
  have a1 := cell_of 1 hans1 rfl
  have a2 := cell_of 2 hans1 rfl
  have a3 := cell_of 3 hans1 rfl
  have f0 := frozen_of 0 hans1
  have f1 := frozen_of 1 hans1
  have f3 := frozen_of 3 hans1
  have r0 := cell_of 0 hres1 rfl
  have r1 := cell_of 1 hres1 rfl
  have r2 := cell_of 2 hres1 rfl
  have r3 := cell_of 3 hres1 rfl
  have g0 := frozen_of 0 hres1
  have g1 := frozen_of 1 hres1
  have g2 := frozen_of 2 hres1
  have g3 := frozen_of 3 hres1
  go_wp2_with fail
  refine bodyPost_ret (v := ansV (((ns, saved), ((6, 0, []) : Ans))).2) (by simp [results, Try.results15, go_sem, ansV, S_nil, r0, r1, r2, r3, a0, a1, a2, a3]) rfl ?_
  refine do_fin h F0 H1 F1 ?_ _
  repeat refine Fr.setCell ?_ (fun _ => by simp) _
  exact Fr.refl _ _

set_option maxRecDepth 40000 in
set_option maxHeartbeats 4000000 in
theorem do_push {w : World} {p : Nat} {B : Blks} {ns : List Nd} {saved : List (List Nd)} (h : HeapAt w p B ns saved) (hl : saved.length < 26) (a b c : Int) (s : List UInt8) (t : ByteArray) :
    Calls Try.prog 15 #[.pointer (some ⟨p, 0, none⟩), opV 4 a b c (S s) t] w (DoPost p B (doOf ns saved 4 a b s) w) := by
  have hr : doOf ns saved 4 a b s = ((ns, ns :: saved), ((0, 0, []) : Ans)) := doOf_push hl
  rw [hr]
  clear hr
  unfold opV
  have F0 : Fr No w (dWorld w 4 a b c (S s) t) := dWorld_fr
  have hop : (dWorld w 4 a b c (S s) t).heap[w.heap.size]? = _ := dWorld_op
  have hres : (dWorld w 4 a b c (S s) t).heap[w.heap.size + 1]? = _ := dWorld_res
  have hans : (dWorld w 4 a b c (S s) t).heap[w.heap.size + 1 + 1]? = _ := dWorld_ans
  have hsz : (dWorld w 4 a b c (S s) t).heap.size = w.heap.size + 3 := dWorld_size
  go_enter Try.func15, Try.ntmps15
  go_upto_region 2 with fail
  change Code.wp _ _ _ _ (dWorld w 4 a b c (S s) t)
  generalize dWorld w 4 a b c (S s) t = W0 at *
  have cs0 : W0.cell? ⟨w.heap.size, 0, none⟩ = some (.int .i64 4) := cell_of 0 hop rfl
  have cs1 : W0.cell? ⟨w.heap.size, 1, none⟩ = some (.int .i64 a) := cell_of 1 hop rfl
  have cs2 : W0.cell? ⟨w.heap.size, 2, none⟩ = some (.int .i64 b) := cell_of 2 hop rfl
  have cs4 : W0.cell? ⟨w.heap.size, 4, none⟩ = some (.string (S s)) := cell_of 4 hop rfl
  have nf : ∀ j, w.heap.size ≤ j → ¬ B.Has p j := fun j hj hk => by have := h.lt hk; omega
  go_wp2_with fail
  refine (Push_any (h.keep F0 (fun _ _ h => h)) hl).mono ?_
  rintro e w1 ⟨rfl, H1, F1⟩
  have hans1 := F1.keep hans (nf _ (by omega))
  have hres1 := F1.keep hres (nf _ (by omega))
  have a0 := cell_of 0 hans1 rfl
  have a1 := cell_of 1 hans1 rfl
  have a2 := cell_of 2 hans1 rfl
  have a3 := cell_of 3 hans1 rfl
  have f0 := frozen_of 0 hans1
  have f1 := frozen_of 1 hans1
  have f3 := frozen_of 3 hans1
  have r0 := cell_of 0 hres1 rfl
  have r1 := cell_of 1 hres1 rfl
  have r2 := cell_of 2 hres1 rfl
  have r3 := cell_of 3 hres1 rfl
  have g0 := frozen_of 0 hres1
  have g1 := frozen_of 1 hres1
  have g2 := frozen_of 2 hres1
  have g3 := frozen_of 3 hres1
  go_wp2_with fail
  refine bodyPost_ret (v := ansV (((ns, ns :: saved), ((0, 0, []) : Ans))).2) (by simp [results, Try.results15, go_sem, ansV, S_nil, r0, r1, r2, r3, a0, a1, a2, a3]) rfl ?_
  refine do_fin h F0 H1 F1 ?_ _
  repeat refine Fr.setCell ?_ (fun _ => by simp) _
  exact Fr.refl _ _

set_option maxRecDepth 40000 in
set_option maxHeartbeats 4000000 in
theorem do_idle {w : World} {p : Nat} {B : Blks} {ns : List Nd} (h : HeapAt w p B ns []) (a b c : Int) (s : List UInt8) (t : ByteArray) :
    Calls Try.prog 15 #[.pointer (some ⟨p, 0, none⟩), opV 5 a b c (S s) t] w (DoPost p B (doOf ns [] 5 a b s) w) := by
  have hr : doOf ns [] 5 a b s = ((ns, ([] : List (List Nd))), ((3, 0, []) : Ans)) := by rfl
  rw [hr]
  clear hr
  unfold opV
  have F0 : Fr No w (dWorld w 5 a b c (S s) t) := dWorld_fr
  have hop : (dWorld w 5 a b c (S s) t).heap[w.heap.size]? = _ := dWorld_op
  have hres : (dWorld w 5 a b c (S s) t).heap[w.heap.size + 1]? = _ := dWorld_res
  have hans : (dWorld w 5 a b c (S s) t).heap[w.heap.size + 1 + 1]? = _ := dWorld_ans
  have hsz : (dWorld w 5 a b c (S s) t).heap.size = w.heap.size + 3 := dWorld_size
  go_enter Try.func15, Try.ntmps15
  go_upto_region 2 with fail
  change Code.wp _ _ _ _ (dWorld w 5 a b c (S s) t)
  generalize dWorld w 5 a b c (S s) t = W0 at *
  have cs0 : W0.cell? ⟨w.heap.size, 0, none⟩ = some (.int .i64 5) := cell_of 0 hop rfl
  have cs1 : W0.cell? ⟨w.heap.size, 1, none⟩ = some (.int .i64 a) := cell_of 1 hop rfl
  have cs2 : W0.cell? ⟨w.heap.size, 2, none⟩ = some (.int .i64 b) := cell_of 2 hop rfl
  have cs4 : W0.cell? ⟨w.heap.size, 4, none⟩ = some (.string (S s)) := cell_of 4 hop rfl
  have nf : ∀ j, w.heap.size ≤ j → ¬ B.Has p j := fun j hj hk => by have := h.lt hk; omega
  go_wp2_with fail
  refine (Undo_idle (h.keep F0 (fun _ _ h => h)) ).mono ?_
  rintro e w1 ⟨rfl, H1, F1⟩
  have hans1 := F1.keep hans (nf _ (by omega))
  have hres1 := F1.keep hres (nf _ (by omega))
  have a0 := cell_of 0 hans1 rfl
  have a1 := cell_of 1 hans1 rfl
  have a2 := cell_of 2 hans1 rfl
  have a3 := cell_of 3 hans1 rfl
  have f0 := frozen_of 0 hans1
  have f1 := frozen_of 1 hans1
  have f3 := frozen_of 3 hans1
  have r0 := cell_of 0 hres1 rfl
  have r1 := cell_of 1 hres1 rfl
  have r2 := cell_of 2 hres1 rfl
  have r3 := cell_of 3 hres1 rfl
  have g0 := frozen_of 0 hres1
  have g1 := frozen_of 1 hres1
  have g2 := frozen_of 2 hres1
  have g3 := frozen_of 3 hres1
  go_wp2_with fail
  refine bodyPost_ret (v := ansV (((ns, ([] : List (List Nd))), ((3, 0, []) : Ans))).2) (by simp [results, Try.results15, go_sem, ansV, S_nil, r0, r1, r2, r3, a0, a1, a2, a3]) rfl ?_
  refine do_fin h F0 H1 F1 ?_ _
  repeat refine Fr.setCell ?_ (fun _ => by simp) _
  exact Fr.refl _ _

set_option maxRecDepth 40000 in
set_option maxHeartbeats 4000000 in
theorem do_undo {w : World} {p : Nat} {B : Blks} {ns x : List Nd} {xs : List (List Nd)} (h : HeapAt w p B ns (x :: xs)) (a b c : Int) (s : List UInt8) (t : ByteArray) :
    Calls Try.prog 15 #[.pointer (some ⟨p, 0, none⟩), opV 5 a b c (S s) t] w (DoPost p B (doOf ns (x :: xs) 5 a b s) w) := by
  have hr : doOf ns (x :: xs) 5 a b s = ((x, x :: xs), ((0, 0, []) : Ans)) := by rfl
  rw [hr]
  clear hr
  unfold opV
  have F0 : Fr No w (dWorld w 5 a b c (S s) t) := dWorld_fr
  have hop : (dWorld w 5 a b c (S s) t).heap[w.heap.size]? = _ := dWorld_op
  have hres : (dWorld w 5 a b c (S s) t).heap[w.heap.size + 1]? = _ := dWorld_res
  have hans : (dWorld w 5 a b c (S s) t).heap[w.heap.size + 1 + 1]? = _ := dWorld_ans
  have hsz : (dWorld w 5 a b c (S s) t).heap.size = w.heap.size + 3 := dWorld_size
  go_enter Try.func15, Try.ntmps15
  go_upto_region 2 with fail
  change Code.wp _ _ _ _ (dWorld w 5 a b c (S s) t)
  generalize dWorld w 5 a b c (S s) t = W0 at *
  have cs0 : W0.cell? ⟨w.heap.size, 0, none⟩ = some (.int .i64 5) := cell_of 0 hop rfl
  have cs1 : W0.cell? ⟨w.heap.size, 1, none⟩ = some (.int .i64 a) := cell_of 1 hop rfl
  have cs2 : W0.cell? ⟨w.heap.size, 2, none⟩ = some (.int .i64 b) := cell_of 2 hop rfl
  have cs4 : W0.cell? ⟨w.heap.size, 4, none⟩ = some (.string (S s)) := cell_of 4 hop rfl
  have nf : ∀ j, w.heap.size ≤ j → ¬ B.Has p j := fun j hj hk => by have := h.lt hk; omega
  go_wp2_with fail
  refine (Undo_any (h.keep F0 (fun _ _ h => h)) ).mono ?_
  rintro e w1 ⟨rfl, H1, F1⟩
  have hans1 := F1.keep hans (nf _ (by omega))
  have hres1 := F1.keep hres (nf _ (by omega))
  have a0 := cell_of 0 hans1 rfl
  have a1 := cell_of 1 hans1 rfl
  have a2 := cell_of 2 hans1 rfl
  have a3 := cell_of 3 hans1 rfl
  have f0 := frozen_of 0 hans1
  have f1 := frozen_of 1 hans1
  have f3 := frozen_of 3 hans1
  have r0 := cell_of 0 hres1 rfl
  have r1 := cell_of 1 hres1 rfl
  have r2 := cell_of 2 hres1 rfl
  have r3 := cell_of 3 hres1 rfl
  have g0 := frozen_of 0 hres1
  have g1 := frozen_of 1 hres1
  have g2 := frozen_of 2 hres1
  have g3 := frozen_of 3 hres1
  go_wp2_with fail
  refine bodyPost_ret (v := ansV (((x, x :: xs), ((0, 0, []) : Ans))).2) (by simp [results, Try.results15, go_sem, ansV, S_nil, r0, r1, r2, r3, a0, a1, a2, a3]) rfl ?_
  refine do_fin h F0 H1 F1 ?_ _
  repeat refine Fr.setCell ?_ (fun _ => by simp) _
  exact Fr.refl _ _

set_option maxRecDepth 40000 in
set_option maxHeartbeats 4000000 in
theorem do_cut {w : World} {p : Nat} {B : Blks} {ns : List Nd} {saved : List (List Nd)} (h : HeapAt w p B ns saved) (a b c : Int) (s : List UInt8) (t : ByteArray) :
    Calls Try.prog 15 #[.pointer (some ⟨p, 0, none⟩), opV 6 a b c (S s) t] w (DoPost p B (doOf ns saved 6 a b s) w) := by
  have hr : doOf ns saved 6 a b s = ((ns, (cutAns saved a).2), (((cutAns saved a).1, 0, []) : Ans)) := by rfl
  rw [hr]
  clear hr
  unfold opV
  have F0 : Fr No w (dWorld w 6 a b c (S s) t) := dWorld_fr
  have hop : (dWorld w 6 a b c (S s) t).heap[w.heap.size]? = _ := dWorld_op
  have hres : (dWorld w 6 a b c (S s) t).heap[w.heap.size + 1]? = _ := dWorld_res
  have hans : (dWorld w 6 a b c (S s) t).heap[w.heap.size + 1 + 1]? = _ := dWorld_ans
  have hsz : (dWorld w 6 a b c (S s) t).heap.size = w.heap.size + 3 := dWorld_size
  go_enter Try.func15, Try.ntmps15
  go_upto_region 2 with fail
  change Code.wp _ _ _ _ (dWorld w 6 a b c (S s) t)
  generalize dWorld w 6 a b c (S s) t = W0 at *
  have cs0 : W0.cell? ⟨w.heap.size, 0, none⟩ = some (.int .i64 6) := cell_of 0 hop rfl
  have cs1 : W0.cell? ⟨w.heap.size, 1, none⟩ = some (.int .i64 a) := cell_of 1 hop rfl
  have cs2 : W0.cell? ⟨w.heap.size, 2, none⟩ = some (.int .i64 b) := cell_of 2 hop rfl
  have cs4 : W0.cell? ⟨w.heap.size, 4, none⟩ = some (.string (S s)) := cell_of 4 hop rfl
  have nf : ∀ j, w.heap.size ≤ j → ¬ B.Has p j := fun j hj hk => by have := h.lt hk; omega
  go_wp2_with fail
  refine (Cut_any (h.keep F0 (fun _ _ h => h)) a).mono ?_
  rintro e w1 ⟨rfl, H1, F1⟩
  have hans1 := F1.keep hans (nf _ (by omega))
  have hres1 := F1.keep hres (nf _ (by omega))
  have a0 := cell_of 0 hans1 rfl
  have a1 := cell_of 1 hans1 rfl
  have a2 := cell_of 2 hans1 rfl
  have a3 := cell_of 3 hans1 rfl
  have f0 := frozen_of 0 hans1
  have f1 := frozen_of 1 hans1
  have f3 := frozen_of 3 hans1
  have r0 := cell_of 0 hres1 rfl
  have r1 := cell_of 1 hres1 rfl
  have r2 := cell_of 2 hres1 rfl
  have r3 := cell_of 3 hres1 rfl
  have g0 := frozen_of 0 hres1
  have g1 := frozen_of 1 hres1
  have g2 := frozen_of 2 hres1
  have g3 := frozen_of 3 hres1
  go_wp2_with fail
  refine bodyPost_ret (v := ansV (((ns, (cutAns saved a).2), (((cutAns saved a).1, 0, []) : Ans))).2) (by simp [results, Try.results15, go_sem, ansV, S_nil, r0, r1, r2, r3, a0, a1, a2, a3]) rfl ?_
  refine do_fin h F0 H1 F1 ?_ _
  repeat refine Fr.setCell ?_ (fun _ => by simp) _
  exact Fr.refl _ _

set_option maxRecDepth 40000 in
set_option maxHeartbeats 4000000 in
theorem do_write {w : World} {p : Nat} {B : Blks} {ns : List Nd} {saved : List (List Nd)} (h : HeapAt w p B ns saved) (a b c : Int) (s : List UInt8) (t : ByteArray) :
    Calls Try.prog 15 #[.pointer (some ⟨p, 0, none⟩), opV 7 a b c (S s) t] w (DoPost p B (doOf ns saved 7 a b s) w) := by
  have hr : doOf ns saved 7 a b s = ((ns, saved), (((writeAns ns a).2, 0, (writeAns ns a).1) : Ans)) := by rfl
  rw [hr]
  clear hr
  unfold opV
  have F0 : Fr No w (dWorld w 7 a b c (S s) t) := dWorld_fr
  have hop : (dWorld w 7 a b c (S s) t).heap[w.heap.size]? = _ := dWorld_op
  have hres : (dWorld w 7 a b c (S s) t).heap[w.heap.size + 1]? = _ := dWorld_res
  have hans : (dWorld w 7 a b c (S s) t).heap[w.heap.size + 1 + 1]? = _ := dWorld_ans
  have hsz : (dWorld w 7 a b c (S s) t).heap.size = w.heap.size + 3 := dWorld_size
  go_enter Try.func15, Try.ntmps15
  go_upto_region 2 with fail
  change Code.wp _ _ _ _ (dWorld w 7 a b c (S s) t)
  generalize dWorld w 7 a b c (S s) t = W0 at *
  have cs0 : W0.cell? ⟨w.heap.size, 0, none⟩ = some (.int .i64 7) := cell_of 0 hop rfl
  have cs1 : W0.cell? ⟨w.heap.size, 1, none⟩ = some (.int .i64 a) := cell_of 1 hop rfl
  have cs2 : W0.cell? ⟨w.heap.size, 2, none⟩ = some (.int .i64 b) := cell_of 2 hop rfl
  have cs4 : W0.cell? ⟨w.heap.size, 4, none⟩ = some (.string (S s)) := cell_of 4 hop rfl
  have nf : ∀ j, w.heap.size ≤ j → ¬ B.Has p j := fun j hj hk => by have := h.lt hk; omega
  go_wp2_with fail
  refine (Write_any (h.keep F0 (fun _ _ h => h)) a).mono ?_
  rintro e w1 ⟨rfl, FN⟩
  have H1 := h.keep (F0.trans FN (fun _ _ h => h)) (fun _ _ h => h)
  have F1 := FN.mono (S' := B.Has p) (fun _ _ e => e.elim)
  have hans1 := F1.keep hans (nf _ (by omega))
  have hres1 := F1.keep hres (nf _ (by omega))
  have a0 := cell_of 0 hans1 rfl
  have a1 := cell_of 1 hans1 rfl
  have a2 := cell_of 2 hans1 rfl
  have a3 := cell_of 3 hans1 rfl
  have f0 := frozen_of 0 hans1
  have f1 := frozen_of 1 hans1
  have f3 := frozen_of 3 hans1
  have r0 := cell_of 0 hres1 rfl
  have r1 := cell_of 1 hres1 rfl
  have r2 := cell_of 2 hres1 rfl
  have r3 := cell_of 3 hres1 rfl
  have g0 := frozen_of 0 hres1
  have g1 := frozen_of 1 hres1
  have g2 := frozen_of 2 hres1
  have g3 := frozen_of 3 hres1
  go_wp2_with fail
  refine bodyPost_ret (v := ansV (((ns, saved), (((writeAns ns a).2, 0, (writeAns ns a).1) : Ans))).2) (by simp [results, Try.results15, go_sem, ansV, S_nil, r0, r1, r2, r3, a0, a1, a2, a3]) rfl ?_
  refine do_fin h F0 H1 F1 ?_ _
  repeat refine Fr.setCell ?_ (fun _ => by simp) _
  exact Fr.refl _ _

set_option maxRecDepth 40000 in
set_option maxHeartbeats 4000000 in
theorem do_deref {w : World} {p : Nat} {B : Blks} {ns : List Nd} {saved : List (List Nd)} (h : HeapAt w p B ns saved) (a b c : Int) (s : List UInt8) (t : ByteArray) :
    Calls Try.prog 15 #[.pointer (some ⟨p, 0, none⟩), opV 8 a b c (S s) t] w (DoPost p B (doOf ns saved 8 a b s) w) := by
  have hr : doOf ns saved 8 a b s = ((ns, saved), ((0, derefAns ns a, []) : Ans)) := by rfl
  rw [hr]
  clear hr
  unfold opV
  have F0 : Fr No w (dWorld w 8 a b c (S s) t) := dWorld_fr
  have hop : (dWorld w 8 a b c (S s) t).heap[w.heap.size]? = _ := dWorld_op
  have hres : (dWorld w 8 a b c (S s) t).heap[w.heap.size + 1]? = _ := dWorld_res
  have hans : (dWorld w 8 a b c (S s) t).heap[w.heap.size + 1 + 1]? = _ := dWorld_ans
  have hsz : (dWorld w 8 a b c (S s) t).heap.size = w.heap.size + 3 := dWorld_size
  go_enter Try.func15, Try.ntmps15
  go_upto_region 2 with fail
  change Code.wp _ _ _ _ (dWorld w 8 a b c (S s) t)
  generalize dWorld w 8 a b c (S s) t = W0 at *
  have cs0 : W0.cell? ⟨w.heap.size, 0, none⟩ = some (.int .i64 8) := cell_of 0 hop rfl
  have cs1 : W0.cell? ⟨w.heap.size, 1, none⟩ = some (.int .i64 a) := cell_of 1 hop rfl
  have cs2 : W0.cell? ⟨w.heap.size, 2, none⟩ = some (.int .i64 b) := cell_of 2 hop rfl
  have cs4 : W0.cell? ⟨w.heap.size, 4, none⟩ = some (.string (S s)) := cell_of 4 hop rfl
  have nf : ∀ j, w.heap.size ≤ j → ¬ B.Has p j := fun j hj hk => by have := h.lt hk; omega
  go_wp2_with fail
  refine (Deref_any (h.keep F0 (fun _ _ h => h)) a).mono ?_
  rintro e w1 ⟨rfl, rfl⟩
  have H1 := h.keep F0 (fun _ _ h => h)
  have F1 : Fr (B.Has p) w1 w1 := Fr.refl _ _
  have hans1 := F1.keep hans (nf _ (by omega))
  have hres1 := F1.keep hres (nf _ (by omega))
  have a0 := cell_of 0 hans1 rfl
  have a1 := cell_of 1 hans1 rfl
  have a2 := cell_of 2 hans1 rfl
  have a3 := cell_of 3 hans1 rfl
  have f0 := frozen_of 0 hans1
  have f1 := frozen_of 1 hans1
  have f3 := frozen_of 3 hans1
  have r0 := cell_of 0 hres1 rfl
  have r1 := cell_of 1 hres1 rfl
  have r2 := cell_of 2 hres1 rfl
  have r3 := cell_of 3 hres1 rfl
  have g0 := frozen_of 0 hres1
  have g1 := frozen_of 1 hres1
  have g2 := frozen_of 2 hres1
  have g3 := frozen_of 3 hres1
  go_wp2_with fail
  refine bodyPost_ret (v := ansV (((ns, saved), ((0, derefAns ns a, []) : Ans))).2) (by simp [results, Try.results15, go_sem, ansV, S_nil, r0, r1, r2, r3, a0, a1, a2, a3]) rfl ?_
  refine do_fin h F0 H1 F1 ?_ _
  repeat refine Fr.setCell ?_ (fun _ => by simp) _
  exact Fr.refl _ _

set_option maxRecDepth 40000 in
set_option maxHeartbeats 4000000 in
theorem do_head {w : World} {p : Nat} {B : Blks} {ns : List Nd} {saved : List (List Nd)} (h : HeapAt w p B ns saved) (a b c : Int) (s : List UInt8) (t : ByteArray) :
    Calls Try.prog 15 #[.pointer (some ⟨p, 0, none⟩), opV 9 a b c (S s) t] w (DoPost p B (doOf ns saved 9 a b s) w) := by
  have hr : doOf ns saved 9 a b s = ((ns, saved), ((0, 0, headAns ns a) : Ans)) := by rfl
  rw [hr]
  clear hr
  unfold opV
  have F0 : Fr No w (dWorld w 9 a b c (S s) t) := dWorld_fr
  have hop : (dWorld w 9 a b c (S s) t).heap[w.heap.size]? = _ := dWorld_op
  have hres : (dWorld w 9 a b c (S s) t).heap[w.heap.size + 1]? = _ := dWorld_res
  have hans : (dWorld w 9 a b c (S s) t).heap[w.heap.size + 1 + 1]? = _ := dWorld_ans
  have hsz : (dWorld w 9 a b c (S s) t).heap.size = w.heap.size + 3 := dWorld_size
  go_enter Try.func15, Try.ntmps15
  go_upto_region 2 with fail
  change Code.wp _ _ _ _ (dWorld w 9 a b c (S s) t)
  generalize dWorld w 9 a b c (S s) t = W0 at *
  have cs0 : W0.cell? ⟨w.heap.size, 0, none⟩ = some (.int .i64 9) := cell_of 0 hop rfl
  have cs1 : W0.cell? ⟨w.heap.size, 1, none⟩ = some (.int .i64 a) := cell_of 1 hop rfl
  have cs2 : W0.cell? ⟨w.heap.size, 2, none⟩ = some (.int .i64 b) := cell_of 2 hop rfl
  have cs4 : W0.cell? ⟨w.heap.size, 4, none⟩ = some (.string (S s)) := cell_of 4 hop rfl
  have nf : ∀ j, w.heap.size ≤ j → ¬ B.Has p j := fun j hj hk => by have := h.lt hk; omega
  go_wp2_with fail
  refine (Head_any (h.keep F0 (fun _ _ h => h)) a).mono ?_
  rintro e w1 ⟨rfl, rfl⟩
  have H1 := h.keep F0 (fun _ _ h => h)
  have F1 : Fr (B.Has p) w1 w1 := Fr.refl _ _
  have hans1 := F1.keep hans (nf _ (by omega))
  have hres1 := F1.keep hres (nf _ (by omega))
  have a0 := cell_of 0 hans1 rfl
  have a1 := cell_of 1 hans1 rfl
  have a2 := cell_of 2 hans1 rfl
  have a3 := cell_of 3 hans1 rfl
  have f0 := frozen_of 0 hans1
  have f1 := frozen_of 1 hans1
  have f3 := frozen_of 3 hans1
  have r0 := cell_of 0 hres1 rfl
  have r1 := cell_of 1 hres1 rfl
  have r2 := cell_of 2 hres1 rfl
  have r3 := cell_of 3 hres1 rfl
  have g0 := frozen_of 0 hres1
  have g1 := frozen_of 1 hres1
  have g2 := frozen_of 2 hres1
  have g3 := frozen_of 3 hres1
  go_wp2_with fail
  refine bodyPost_ret (v := ansV (((ns, saved), ((0, 0, headAns ns a) : Ans))).2) (by simp [results, Try.results15, go_sem, ansV, S_nil, r0, r1, r2, r3, a0, a1, a2, a3]) rfl ?_
  refine do_fin h F0 H1 F1 ?_ _
  repeat refine Fr.setCell ?_ (fun _ => by simp) _
  exact Fr.refl _ _

set_option maxRecDepth 40000 in
set_option maxHeartbeats 4000000 in
theorem do_arg {w : World} {p : Nat} {B : Blks} {ns : List Nd} {saved : List (List Nd)} (h : HeapAt w p B ns saved) (a b c : Int) (s : List UInt8) (t : ByteArray) :
    Calls Try.prog 15 #[.pointer (some ⟨p, 0, none⟩), opV 10 a b c (S s) t] w (DoPost p B (doOf ns saved 10 a b s) w) := by
  have hr : doOf ns saved 10 a b s = ((ns, saved), ((0, argAns ns a b, []) : Ans)) := by rfl
  rw [hr]
  clear hr
  unfold opV
  have F0 : Fr No w (dWorld w 10 a b c (S s) t) := dWorld_fr
  have hop : (dWorld w 10 a b c (S s) t).heap[w.heap.size]? = _ := dWorld_op
  have hres : (dWorld w 10 a b c (S s) t).heap[w.heap.size + 1]? = _ := dWorld_res
  have hans : (dWorld w 10 a b c (S s) t).heap[w.heap.size + 1 + 1]? = _ := dWorld_ans
  have hsz : (dWorld w 10 a b c (S s) t).heap.size = w.heap.size + 3 := dWorld_size
  go_enter Try.func15, Try.ntmps15
  go_upto_region 2 with fail
  change Code.wp _ _ _ _ (dWorld w 10 a b c (S s) t)
  generalize dWorld w 10 a b c (S s) t = W0 at *
  have cs0 : W0.cell? ⟨w.heap.size, 0, none⟩ = some (.int .i64 10) := cell_of 0 hop rfl
  have cs1 : W0.cell? ⟨w.heap.size, 1, none⟩ = some (.int .i64 a) := cell_of 1 hop rfl
  have cs2 : W0.cell? ⟨w.heap.size, 2, none⟩ = some (.int .i64 b) := cell_of 2 hop rfl
  have cs4 : W0.cell? ⟨w.heap.size, 4, none⟩ = some (.string (S s)) := cell_of 4 hop rfl
  have nf : ∀ j, w.heap.size ≤ j → ¬ B.Has p j := fun j hj hk => by have := h.lt hk; omega
  go_wp2_with fail
  refine (Arg_any (h.keep F0 (fun _ _ h => h)) a b).mono ?_
  rintro e w1 ⟨rfl, rfl⟩
  have H1 := h.keep F0 (fun _ _ h => h)
  have F1 : Fr (B.Has p) w1 w1 := Fr.refl _ _
  have hans1 := F1.keep hans (nf _ (by omega))
  have hres1 := F1.keep hres (nf _ (by omega))
  have a0 := cell_of 0 hans1 rfl
  have a1 := cell_of 1 hans1 rfl
  have a2 := cell_of 2 hans1 rfl
  have a3 := cell_of 3 hans1 rfl
  have f0 := frozen_of 0 hans1
  have f1 := frozen_of 1 hans1
  have f3 := frozen_of 3 hans1
  have r0 := cell_of 0 hres1 rfl
  have r1 := cell_of 1 hres1 rfl
  have r2 := cell_of 2 hres1 rfl
  have r3 := cell_of 3 hres1 rfl
  have g0 := frozen_of 0 hres1
  have g1 := frozen_of 1 hres1
  have g2 := frozen_of 2 hres1
  have g3 := frozen_of 3 hres1
  go_wp2_with fail
  refine bodyPost_ret (v := ansV (((ns, saved), ((0, argAns ns a b, []) : Ans))).2) (by simp [results, Try.results15, go_sem, ansV, S_nil, r0, r1, r2, r3, a0, a1, a2, a3]) rfl ?_
  refine do_fin h F0 H1 F1 ?_ _
  repeat refine Fr.setCell ?_ (fun _ => by simp) _
  exact Fr.refl _ _

set_option maxRecDepth 40000 in
set_option maxHeartbeats 4000000 in
theorem do_top {w : World} {p : Nat} {B : Blks} {ns : List Nd} {saved : List (List Nd)} (h : HeapAt w p B ns saved) (a b c : Int) (s : List UInt8) (t : ByteArray) :
    Calls Try.prog 15 #[.pointer (some ⟨p, 0, none⟩), opV 11 a b c (S s) t] w (DoPost p B (doOf ns saved 11 a b s) w) := by
  have hr : doOf ns saved 11 a b s = ((ns, saved), ((0, (ns.length : Int), []) : Ans)) := by rfl
  rw [hr]
  clear hr
  unfold opV
  have F0 : Fr No w (dWorld w 11 a b c (S s) t) := dWorld_fr
  have hop : (dWorld w 11 a b c (S s) t).heap[w.heap.size]? = _ := dWorld_op
  have hres : (dWorld w 11 a b c (S s) t).heap[w.heap.size + 1]? = _ := dWorld_res
  have hans : (dWorld w 11 a b c (S s) t).heap[w.heap.size + 1 + 1]? = _ := dWorld_ans
  have hsz : (dWorld w 11 a b c (S s) t).heap.size = w.heap.size + 3 := dWorld_size
  go_enter Try.func15, Try.ntmps15
  go_upto_region 2 with fail
  change Code.wp _ _ _ _ (dWorld w 11 a b c (S s) t)
  generalize dWorld w 11 a b c (S s) t = W0 at *
  have cs0 : W0.cell? ⟨w.heap.size, 0, none⟩ = some (.int .i64 11) := cell_of 0 hop rfl
  have cs1 : W0.cell? ⟨w.heap.size, 1, none⟩ = some (.int .i64 a) := cell_of 1 hop rfl
  have cs2 : W0.cell? ⟨w.heap.size, 2, none⟩ = some (.int .i64 b) := cell_of 2 hop rfl
  have cs4 : W0.cell? ⟨w.heap.size, 4, none⟩ = some (.string (S s)) := cell_of 4 hop rfl
  have nf : ∀ j, w.heap.size ≤ j → ¬ B.Has p j := fun j hj hk => by have := h.lt hk; omega
  go_wp2_with fail
  refine (top_any (h.keep F0 (fun _ _ h => h)) ).mono ?_
  rintro e w1 ⟨rfl, rfl⟩
  have H1 := h.keep F0 (fun _ _ h => h)
  have F1 : Fr (B.Has p) w1 w1 := Fr.refl _ _
  have hans1 := F1.keep hans (nf _ (by omega))
  have hres1 := F1.keep hres (nf _ (by omega))
  have a0 := cell_of 0 hans1 rfl
  have a1 := cell_of 1 hans1 rfl
  have a2 := cell_of 2 hans1 rfl
  have a3 := cell_of 3 hans1 rfl
  have f0 := frozen_of 0 hans1
  have f1 := frozen_of 1 hans1
  have f3 := frozen_of 3 hans1
  have r0 := cell_of 0 hres1 rfl
  have r1 := cell_of 1 hres1 rfl
  have r2 := cell_of 2 hres1 rfl
  have r3 := cell_of 3 hres1 rfl
  have g0 := frozen_of 0 hres1
  have g1 := frozen_of 1 hres1
  have g2 := frozen_of 2 hres1
  have g3 := frozen_of 3 hres1
  go_wp2_with fail
  refine bodyPost_ret (v := ansV (((ns, saved), ((0, (ns.length : Int), []) : Ans))).2) (by simp [results, Try.results15, go_sem, ansV, S_nil, r0, r1, r2, r3, a0, a1, a2, a3]) rfl ?_
  refine do_fin h F0 H1 F1 ?_ _
  repeat refine Fr.setCell ?_ (fun _ => by simp) _
  exact Fr.refl _ _

set_option maxRecDepth 40000 in
set_option maxHeartbeats 4000000 in
theorem do_marks {w : World} {p : Nat} {B : Blks} {ns : List Nd} {saved : List (List Nd)} (h : HeapAt w p B ns saved) (a b c : Int) (s : List UInt8) (t : ByteArray) :
    Calls Try.prog 15 #[.pointer (some ⟨p, 0, none⟩), opV 12 a b c (S s) t] w (DoPost p B (doOf ns saved 12 a b s) w) := by
  have hr : doOf ns saved 12 a b s = ((ns, saved), ((0, (saved.length : Int), []) : Ans)) := by rfl
  rw [hr]
  clear hr
  unfold opV
  have F0 : Fr No w (dWorld w 12 a b c (S s) t) := dWorld_fr
  have hop : (dWorld w 12 a b c (S s) t).heap[w.heap.size]? = _ := dWorld_op
  have hres : (dWorld w 12 a b c (S s) t).heap[w.heap.size + 1]? = _ := dWorld_res
  have hans : (dWorld w 12 a b c (S s) t).heap[w.heap.size + 1 + 1]? = _ := dWorld_ans
  have hsz : (dWorld w 12 a b c (S s) t).heap.size = w.heap.size + 3 := dWorld_size
  go_enter Try.func15, Try.ntmps15
  go_upto_region 2 with fail
  change Code.wp _ _ _ _ (dWorld w 12 a b c (S s) t)
  generalize dWorld w 12 a b c (S s) t = W0 at *
  have cs0 : W0.cell? ⟨w.heap.size, 0, none⟩ = some (.int .i64 12) := cell_of 0 hop rfl
  have cs1 : W0.cell? ⟨w.heap.size, 1, none⟩ = some (.int .i64 a) := cell_of 1 hop rfl
  have cs2 : W0.cell? ⟨w.heap.size, 2, none⟩ = some (.int .i64 b) := cell_of 2 hop rfl
  have cs4 : W0.cell? ⟨w.heap.size, 4, none⟩ = some (.string (S s)) := cell_of 4 hop rfl
  have nf : ∀ j, w.heap.size ≤ j → ¬ B.Has p j := fun j hj hk => by have := h.lt hk; omega
  go_wp2_with fail
  refine (marks_any (h.keep F0 (fun _ _ h => h)) ).mono ?_
  rintro e w1 ⟨rfl, rfl⟩
  have H1 := h.keep F0 (fun _ _ h => h)
  have F1 : Fr (B.Has p) w1 w1 := Fr.refl _ _
  have hans1 := F1.keep hans (nf _ (by omega))
  have hres1 := F1.keep hres (nf _ (by omega))
  have a0 := cell_of 0 hans1 rfl
  have a1 := cell_of 1 hans1 rfl
  have a2 := cell_of 2 hans1 rfl
  have a3 := cell_of 3 hans1 rfl
  have f0 := frozen_of 0 hans1
  have f1 := frozen_of 1 hans1
  have f3 := frozen_of 3 hans1
  have r0 := cell_of 0 hres1 rfl
  have r1 := cell_of 1 hres1 rfl
  have r2 := cell_of 2 hres1 rfl
  have r3 := cell_of 3 hres1 rfl
  have g0 := frozen_of 0 hres1
  have g1 := frozen_of 1 hres1
  have g2 := frozen_of 2 hres1
  have g3 := frozen_of 3 hres1
  go_wp2_with fail
  refine bodyPost_ret (v := ansV (((ns, saved), ((0, (saved.length : Int), []) : Ans))).2) (by simp [results, Try.results15, go_sem, ansV, S_nil, r0, r1, r2, r3, a0, a1, a2, a3]) rfl ?_
  refine do_fin h F0 H1 F1 ?_ _
  repeat refine Fr.setCell ?_ (fun _ => by simp) _
  exact Fr.refl _ _

set_option maxRecDepth 40000 in
set_option maxHeartbeats 4000000 in
theorem do_show {w : World} {p : Nat} {B : Blks} {ns : List Nd} {saved : List (List Nd)} (h : HeapAt w p B ns saved) (a b c : Int) (s : List UInt8) (t : ByteArray) :
    Calls Try.prog 15 #[.pointer (some ⟨p, 0, none⟩), opV 13 a b c (S s) t] w (DoPost p B (doOf ns saved 13 a b s) w) := by
  have hr : doOf ns saved 13 a b s = ((ns, saved), ((0, 0, showL ns saved) : Ans)) := by rfl
  rw [hr]
  clear hr
  unfold opV
  have F0 : Fr No w (dWorld w 13 a b c (S s) t) := dWorld_fr
  have hop : (dWorld w 13 a b c (S s) t).heap[w.heap.size]? = _ := dWorld_op
  have hres : (dWorld w 13 a b c (S s) t).heap[w.heap.size + 1]? = _ := dWorld_res
  have hans : (dWorld w 13 a b c (S s) t).heap[w.heap.size + 1 + 1]? = _ := dWorld_ans
  have hsz : (dWorld w 13 a b c (S s) t).heap.size = w.heap.size + 3 := dWorld_size
  go_enter Try.func15, Try.ntmps15
  go_upto_region 2 with fail
  change Code.wp _ _ _ _ (dWorld w 13 a b c (S s) t)
  generalize dWorld w 13 a b c (S s) t = W0 at *
  have cs0 : W0.cell? ⟨w.heap.size, 0, none⟩ = some (.int .i64 13) := cell_of 0 hop rfl
  have cs1 : W0.cell? ⟨w.heap.size, 1, none⟩ = some (.int .i64 a) := cell_of 1 hop rfl
  have cs2 : W0.cell? ⟨w.heap.size, 2, none⟩ = some (.int .i64 b) := cell_of 2 hop rfl
  have cs4 : W0.cell? ⟨w.heap.size, 4, none⟩ = some (.string (S s)) := cell_of 4 hop rfl
  have nf : ∀ j, w.heap.size ≤ j → ¬ B.Has p j := fun j hj hk => by have := h.lt hk; omega
  go_wp2_with fail
  refine (Show_any (h.keep F0 (fun _ _ h => h)) ).mono ?_
  rintro e w1 ⟨rfl, FN⟩
  have H1 := h.keep (F0.trans FN (fun _ _ h => h)) (fun _ _ h => h)
  have F1 := FN.mono (S' := B.Has p) (fun _ _ e => e.elim)
  have hans1 := F1.keep hans (nf _ (by omega))
  have hres1 := F1.keep hres (nf _ (by omega))
  have a0 := cell_of 0 hans1 rfl
  have a1 := cell_of 1 hans1 rfl
  have a2 := cell_of 2 hans1 rfl
  have a3 := cell_of 3 hans1 rfl
  have f0 := frozen_of 0 hans1
  have f1 := frozen_of 1 hans1
  have f3 := frozen_of 3 hans1
  have r0 := cell_of 0 hres1 rfl
  have r1 := cell_of 1 hres1 rfl
  have r2 := cell_of 2 hres1 rfl
  have r3 := cell_of 3 hres1 rfl
  have g0 := frozen_of 0 hres1
  have g1 := frozen_of 1 hres1
  have g2 := frozen_of 2 hres1
  have g3 := frozen_of 3 hres1
  go_wp2_with fail
  refine bodyPost_ret (v := ansV (((ns, saved), ((0, 0, showL ns saved) : Ans))).2) (by simp [results, Try.results15, go_sem, ansV, S_nil, r0, r1, r2, r3, a0, a1, a2, a3]) rfl ?_
  refine do_fin h F0 H1 F1 ?_ _
  repeat refine Fr.setCell ?_ (fun _ => by simp) _
  exact Fr.refl _ _

set_option maxRecDepth 40000 in
set_option maxHeartbeats 4000000 in
theorem do_check {w : World} {p : Nat} {B : Blks} {ns : List Nd} {saved : List (List Nd)} (h : HeapAt w p B ns saved) (a b c : Int) (s : List UInt8) (t : ByteArray) :
    Calls Try.prog 15 #[.pointer (some ⟨p, 0, none⟩), opV 14 a b c (S s) t] w (DoPost p B (doOf ns saved 14 a b s) w) := by
  have hr : doOf ns saved 14 a b s = ((ns, saved), ((0, 0, []) : Ans)) := by rfl
  rw [hr]
  clear hr
  unfold opV
  have F0 : Fr No w (dWorld w 14 a b c (S s) t) := dWorld_fr
  have hop : (dWorld w 14 a b c (S s) t).heap[w.heap.size]? = _ := dWorld_op
  have hres : (dWorld w 14 a b c (S s) t).heap[w.heap.size + 1]? = _ := dWorld_res
  have hans : (dWorld w 14 a b c (S s) t).heap[w.heap.size + 1 + 1]? = _ := dWorld_ans
  have hsz : (dWorld w 14 a b c (S s) t).heap.size = w.heap.size + 3 := dWorld_size
  go_enter Try.func15, Try.ntmps15
  go_upto_region 2 with fail
  change Code.wp _ _ _ _ (dWorld w 14 a b c (S s) t)
  generalize dWorld w 14 a b c (S s) t = W0 at *
  have cs0 : W0.cell? ⟨w.heap.size, 0, none⟩ = some (.int .i64 14) := cell_of 0 hop rfl
  have cs1 : W0.cell? ⟨w.heap.size, 1, none⟩ = some (.int .i64 a) := cell_of 1 hop rfl
  have cs2 : W0.cell? ⟨w.heap.size, 2, none⟩ = some (.int .i64 b) := cell_of 2 hop rfl
  have cs4 : W0.cell? ⟨w.heap.size, 4, none⟩ = some (.string (S s)) := cell_of 4 hop rfl
  have nf : ∀ j, w.heap.size ≤ j → ¬ B.Has p j := fun j hj hk => by have := h.lt hk; omega
  go_wp2_with fail
  refine (Check_any (h.keep F0 (fun _ _ h => h)) ).mono ?_
  rintro e w1 ⟨rfl, FN⟩
  have H1 := h.keep (F0.trans FN (fun _ _ h => h)) (fun _ _ h => h)
  have F1 := FN.mono (S' := B.Has p) (fun _ _ e => e.elim)
  have hans1 := F1.keep hans (nf _ (by omega))
  have hres1 := F1.keep hres (nf _ (by omega))
  have a0 := cell_of 0 hans1 rfl
  have a1 := cell_of 1 hans1 rfl
  have a2 := cell_of 2 hans1 rfl
  have a3 := cell_of 3 hans1 rfl
  have f0 := frozen_of 0 hans1
  have f1 := frozen_of 1 hans1
  have f3 := frozen_of 3 hans1
  have r0 := cell_of 0 hres1 rfl
  have r1 := cell_of 1 hres1 rfl
  have r2 := cell_of 2 hres1 rfl
  have r3 := cell_of 3 hres1 rfl
  have g0 := frozen_of 0 hres1
  have g1 := frozen_of 1 hres1
  have g2 := frozen_of 2 hres1
  have g3 := frozen_of 3 hres1
  go_wp2_with fail
  refine bodyPost_ret (v := ansV (((ns, saved), ((0, 0, []) : Ans))).2) (by simp [results, Try.results15, go_sem, ansV, S_nil, r0, r1, r2, r3, a0, a1, a2, a3]) rfl ?_
  refine do_fin h F0 H1 F1 ?_ _
  repeat refine Fr.setCell ?_ (fun _ => by simp) _
  exact Fr.refl _ _

set_option maxRecDepth 40000 in
set_option maxHeartbeats 4000000 in
theorem do_other {w : World} {p : Nat} {B : Blks} {ns : List Nd} {saved : List (List Nd)} (h : HeapAt w p B ns saved) (k : Int) (a b c : Int) (s : List UInt8) (t : ByteArray) (hk1 : k ≠ 1) (hk2 : k ≠ 2) (hk3 : k ≠ 3) (hk4 : k ≠ 4) (hk5 : k ≠ 5) (hk6 : k ≠ 6) (hk7 : k ≠ 7) (hk8 : k ≠ 8) (hk9 : k ≠ 9) (hk10 : k ≠ 10) (hk11 : k ≠ 11) (hk12 : k ≠ 12) (hk13 : k ≠ 13) (hk14 : k ≠ 14) :
    Calls Try.prog 15 #[.pointer (some ⟨p, 0, none⟩), opV k a b c (S s) t] w (DoPost p B (doOf ns saved k a b s) w) := by
  have hr : doOf ns saved k a b s = ((ns, saved), ((0, 0, []) : Ans)) := by unfold doOf; simp [hk1, hk2, hk3, hk4, hk5, hk6, hk7, hk8, hk9, hk10, hk11, hk12, hk13]
  rw [hr]
  clear hr
  unfold opV
  have F0 : Fr No w (dWorld w k a b c (S s) t) := dWorld_fr
  have hop : (dWorld w k a b c (S s) t).heap[w.heap.size]? = _ := dWorld_op
  have hres : (dWorld w k a b c (S s) t).heap[w.heap.size + 1]? = _ := dWorld_res
  have hans : (dWorld w k a b c (S s) t).heap[w.heap.size + 1 + 1]? = _ := dWorld_ans
  have hsz : (dWorld w k a b c (S s) t).heap.size = w.heap.size + 3 := dWorld_size
  go_enter Try.func15, Try.ntmps15
  go_upto_region 2 with fail
  change Code.wp _ _ _ _ (dWorld w k a b c (S s) t)
  generalize dWorld w k a b c (S s) t = W0 at *
  have cs0 : W0.cell? ⟨w.heap.size, 0, none⟩ = some (.int .i64 k) := cell_of 0 hop rfl
  have cs1 : W0.cell? ⟨w.heap.size, 1, none⟩ = some (.int .i64 a) := cell_of 1 hop rfl
  have cs2 : W0.cell? ⟨w.heap.size, 2, none⟩ = some (.int .i64 b) := cell_of 2 hop rfl
  have cs4 : W0.cell? ⟨w.heap.size, 4, none⟩ = some (.string (S s)) := cell_of 4 hop rfl
  have nf : ∀ j, w.heap.size ≤ j → ¬ B.Has p j := fun j hj hk => by have := h.lt hk; omega
  obtain ⟨w1, rfl⟩ : ∃ w1, w1 = W0 := ⟨W0, rfl⟩
  have H1 := h.keep F0 (fun _ _ h => h)
  have F1 : Fr (B.Has p) w1 w1 := Fr.refl _ _
  have hans1 := F1.keep hans (nf _ (by omega))
  have hres1 := F1.keep hres (nf _ (by omega))
  have a0 := cell_of 0 hans1 rfl
  have a1 := cell_of 1 hans1 rfl
  have a2 := cell_of 2 hans1 rfl
  have a3 := cell_of 3 hans1 rfl
  have f0 := frozen_of 0 hans1
  have f1 := frozen_of 1 hans1
  have f3 := frozen_of 3 hans1
  have r0 := cell_of 0 hres1 rfl
  have r1 := cell_of 1 hres1 rfl
  have r2 := cell_of 2 hres1 rfl
  have r3 := cell_of 3 hres1 rfl
  have g0 := frozen_of 0 hres1
  have g1 := frozen_of 1 hres1
  have g2 := frozen_of 2 hres1
  have g3 := frozen_of 3 hres1
  go_wp2_with fail
  refine bodyPost_ret (v := ansV (((ns, saved), ((0, 0, []) : Ans))).2) (by simp [results, Try.results15, go_sem, ansV, S_nil, r0, r1, r2, r3, a0, a1, a2, a3]) rfl ?_
  refine do_fin h F0 H1 F1 ?_ _
  repeat refine Fr.setCell ?_ (fun _ => by simp) _
  exact Fr.refl _ _

theorem Do_any {w : World} {p : Nat} {B : Blks} {ns : List Nd} {saved : List (List Nd)} (h : HeapAt w p B ns saved) (k a b c : Int) (s t : ByteArray) :
    Calls Try.prog 15 #[.pointer (some ⟨p, 0, none⟩), opV k a b c s t] w (DoPost p B (doOf ns saved k a b s.data.toList) w) := by
  rw [← S_of s]
  generalize s.data.toList = l
  rw [S_list]
  by_cases h1 : k = 1
  · subst h1; exact do_reset h a b c l t
  by_cases h2 : k = 2
  · subst h2; exact do_load h a b c l t
  by_cases h3 : k = 3
  · subst h3; exact do_unify h a b c l t
  by_cases h4 : k = 4
  · subst h4
    by_cases hl : saved.length < 26
    · exact do_push h hl a b c l t
    · exact do_full h (by omega) a b c l t
  by_cases h5 : k = 5
  · subst h5
    cases saved with
    | nil => exact do_idle h a b c l t
    | cons x xs => exact do_undo h a b c l t
  by_cases h6 : k = 6
  · subst h6; exact do_cut h a b c l t
  by_cases h7 : k = 7
  · subst h7; exact do_write h a b c l t
  by_cases h8 : k = 8
  · subst h8; exact do_deref h a b c l t
  by_cases h9 : k = 9
  · subst h9; exact do_head h a b c l t
  by_cases h10 : k = 10
  · subst h10; exact do_arg h a b c l t
  by_cases h11 : k = 11
  · subst h11; exact do_top h a b c l t
  by_cases h12 : k = 12
  · subst h12; exact do_marks h a b c l t
  by_cases h13 : k = 13
  · subst h13; exact do_show h a b c l t
  by_cases h14 : k = 14
  · subst h14; exact do_check h a b c l t
  exact do_other h k a b c l t h1 h2 h3 h4 h5 h6 h7 h8 h9 h10 h11 h12 h13 h14
end Go.Proofs.Qxb6500301a
