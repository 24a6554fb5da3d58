import Derived.Test.Qxb6500302aMod11
import Derived.Test.Qxb6500302aDo1
namespace Go.Proofs.Qxb6500302a.M
open Go.RowKit
set_option linter.unusedSimpArgs false
set_option linter.unusedVariables false
attribute [local go_sem ↓] Go.wp_at_zero Go.wp_at_succ

def DoMPost (O : Nat → Prop) (m : Nat) (r : List Tm × Ans) (w : World) (e : Ending) (w' : World) : Prop :=
  e = .returned (ansV r.2) ∧ ∃ O', MAt w' O' m r.1 ∧ Fr O w w' ∧ ∀ k, O' k → O k ∨ w.heap.size ≤ k

theorem doM_fin {w W0 w1 wf : World} {O : Nat → Prop} {p : Nat} {cs : List Tm} (h : MAt w O p cs) (F0 : Fr No w W0) (hsz : W0.heap.size = w.heap.size + 3) {O1 : Nat → Prop} {cs1 : List Tm} (H1 : MAt w1 O1 p cs1)
    (F1 : Fr O W0 w1) (N1 : ∀ k, O1 k → O k ∨ W0.heap.size ≤ k) (hF : Fr (fun k => k = w.heap.size + 1 ∨ k = w.heap.size + 1 + 1) w1 wf) (A : Ans) : DoMPost O p (cs1, A) w (.returned (ansV A)) wf := by
  refine ⟨rfl, O1, H1.keep hF (fun k hk e => ?_), ((F0.mono (fun _ _ h => h.elim)).trans F1 (fun _ _ h => h)).trans hF (fun k hk e => by omega), fun k hk => ?_⟩
  · rcases N1 k hk with h' | h'
    · have := h.lt k h'; omega
    · omega
  · rcases N1 k hk with h' | h'
    · exact .inl h'
    · exact .inr (by omega)
theorem doM_fin0 {w W0 w1 wf : World} {O : Nat → Prop} {p : Nat} {cs : List Tm} (h : MAt w O p cs) (F0 : Fr No w W0) (hsz : W0.heap.size = w.heap.size + 3)
    (F1 : Fr No W0 w1) (hF : Fr (fun k => k = w.heap.size + 1 ∨ k = w.heap.size + 1 + 1) w1 wf) (A : Ans) : DoMPost O p (cs, A) w (.returned (ansV A)) wf :=
  doM_fin h F0 hsz (h.keep (F0.trans F1 (fun _ _ h => h)) (fun _ _ h => h)) (F1.mono (fun _ _ h => h.elim)) (fun k hk => .inl hk) hF A

set_option maxRecDepth 40000 in
set_option maxHeartbeats 4000000 in
theorem doM_add {w : World} {O : Nat → Prop} {p : Nat} {cs : List Tm} (h : MAt w O p cs) (a b c : Int) (s t : ByteArray) :
    Calls Try.prog 34 #[.pointer (some ⟨p, 0, none⟩), opV 1 a b c s t] w (DoMPost O p (doOf cs 1 a s.data.toList t.data.toList) w) := by
  have hr : doOf cs 1 a s.data.toList t.data.toList = ((addOf cs s.data.toList).1, (addOf cs s.data.toList).2.2, (addOf cs s.data.toList).2.1, []) := rfl
  rw [hr]
  clear hr
  unfold opV
  have F0 : Fr No w (dWorld w 1 a b c s t) := dWorld_fr
  have hop : (dWorld w 1 a b c s t).heap[w.heap.size]? = _ := dWorld_op
  have hres : (dWorld w 1 a b c s t).heap[w.heap.size + 1]? = _ := dWorld_res
  have hans : (dWorld w 1 a b c s t).heap[w.heap.size + 1 + 1]? = _ := dWorld_ans
  have hsz : (dWorld w 1 a b c s t).heap.size = w.heap.size + 3 := dWorld_size
  go_enter Try.func34, Try.ntmps34
  go_upto_region 2 with fail
  change Code.wp _ _ _ _ (dWorld w 1 a b c s t)
  generalize dWorld w 1 a b c s t = W0 at *
  have cs0 : W0.cell? ⟨w.heap.size, 0, none⟩ = some (.int .i64 1) := cell_of 0 hop rfl
  have cs1 : W0.cell? ⟨w.heap.size, 1, none⟩ = some (.int .i64 a) := cell_of 1 hop rfl
  have cs4 : W0.cell? ⟨w.heap.size, 4, none⟩ = some (.string s) := cell_of 4 hop rfl
  have cs5 : W0.cell? ⟨w.heap.size, 5, none⟩ = some (.string t) := cell_of 5 hop rfl
  have nf : ∀ j, w.heap.size ≤ j → ¬ O j := fun j hj hk => by have := h.lt j hk; omega
  go_wp2_with fail
  have hcl := addM (h.keep F0 (fun _ _ h => h)) s.data.toList
  rw [S_of] at hcl
  refine hcl.mono ?_
  clear hcl
  rintro e w1 ⟨rfl, O1, H1, F1, N1⟩
  have hans1 := F1.keep hans (nf _ (by omega))
  have hres1 := F1.keep hres (nf _ (by omega))
  have a0 := cell_of 0 hans1 rfl
  have a1 := cell_of 1 hans1 rfl
  have a2 := cell_of 2 hans1 rfl
  have a3 := cell_of 3 hans1 rfl
  have f0 := frozen_of 0 hans1
  have f1 := frozen_of 1 hans1
  have f3 := frozen_of 3 hans1
  have r0 := cell_of 0 hres1 rfl
  have r1 := cell_of 1 hres1 rfl
  have r2 := cell_of 2 hres1 rfl
  have r3 := cell_of 3 hres1 rfl
  have g0 := frozen_of 0 hres1
  have g1 := frozen_of 1 hres1
  have g2 := frozen_of 2 hres1
  have g3 := frozen_of 3 hres1
  go_wp2_with fail
  refine bodyPost_ret (v := ansV (((addOf cs s.data.toList).1, (addOf cs s.data.toList).2.2, (addOf cs s.data.toList).2.1, [])).2) (by simp [results, Try.results34, go_sem, ansV, S_nil, r0, r1, r2, r3, a0, a1, a2, a3]) rfl ?_
  refine doM_fin h F0 hsz H1 F1 N1 ?_ _
  repeat refine Fr.setCell ?_ (fun _ => by simp) _
  exact Fr.refl _ _

set_option maxRecDepth 40000 in
set_option maxHeartbeats 4000000 in
theorem doM_clear {w : World} {O : Nat → Prop} {p : Nat} {cs : List Tm} (h : MAt w O p cs) (a b c : Int) (s t : ByteArray) :
    Calls Try.prog 34 #[.pointer (some ⟨p, 0, none⟩), opV 2 a b c s t] w (DoMPost O p (doOf cs 2 a s.data.toList t.data.toList) w) := by
  have hr : doOf cs 2 a s.data.toList t.data.toList = (([] : List Tm), ((0, 0, []) : Ans)) := rfl
  rw [hr]
  clear hr
  unfold opV
  have F0 : Fr No w (dWorld w 2 a b c s t) := dWorld_fr
  have hop : (dWorld w 2 a b c s t).heap[w.heap.size]? = _ := dWorld_op
  have hres : (dWorld w 2 a b c s t).heap[w.heap.size + 1]? = _ := dWorld_res
  have hans : (dWorld w 2 a b c s t).heap[w.heap.size + 1 + 1]? = _ := dWorld_ans
  have hsz : (dWorld w 2 a b c s t).heap.size = w.heap.size + 3 := dWorld_size
  go_enter Try.func34, Try.ntmps34
  go_upto_region 2 with fail
  change Code.wp _ _ _ _ (dWorld w 2 a b c s t)
  generalize dWorld w 2 a b c s t = W0 at *
  have cs0 : W0.cell? ⟨w.heap.size, 0, none⟩ = some (.int .i64 2) := cell_of 0 hop rfl
  have cs1 : W0.cell? ⟨w.heap.size, 1, none⟩ = some (.int .i64 a) := cell_of 1 hop rfl
  have cs4 : W0.cell? ⟨w.heap.size, 4, none⟩ = some (.string s) := cell_of 4 hop rfl
  have cs5 : W0.cell? ⟨w.heap.size, 5, none⟩ = some (.string t) := cell_of 5 hop rfl
  have nf : ∀ j, w.heap.size ≤ j → ¬ O j := fun j hj hk => by have := h.lt j hk; omega
  go_wp2_with fail
  refine (clearM (h.keep F0 (fun _ _ h => h))).mono ?_
  rintro e w1 ⟨rfl, H1, F1⟩
  have N1 : ∀ k, O k → O k ∨ W0.heap.size ≤ k := fun k hk => .inl hk
  have hans1 := F1.keep hans (nf _ (by omega))
  have hres1 := F1.keep hres (nf _ (by omega))
  have a0 := cell_of 0 hans1 rfl
  have a1 := cell_of 1 hans1 rfl
  have a2 := cell_of 2 hans1 rfl
  have a3 := cell_of 3 hans1 rfl
  have f0 := frozen_of 0 hans1
  have f1 := frozen_of 1 hans1
  have f3 := frozen_of 3 hans1
  have r0 := cell_of 0 hres1 rfl
  have r1 := cell_of 1 hres1 rfl
  have r2 := cell_of 2 hres1 rfl
  have r3 := cell_of 3 hres1 rfl
  have g0 := frozen_of 0 hres1
  have g1 := frozen_of 1 hres1
  have g2 := frozen_of 2 hres1
  have g3 := frozen_of 3 hres1
  go_wp2_with fail
  refine bodyPost_ret (v := ansV ((([] : List Tm), ((0, 0, []) : Ans))).2) (by simp [results, Try.results34, go_sem, ansV, S_nil, r0, r1, r2, r3, a0, a1, a2, a3]) rfl ?_
  refine doM_fin h F0 hsz H1 F1 N1 ?_ _
  repeat refine Fr.setCell ?_ (fun _ => by simp) _
  exact Fr.refl _ _

set_option maxRecDepth 40000 in
set_option maxHeartbeats 4000000 in
theorem doM_query {w : World} {O : Nat → Prop} {p : Nat} {cs : List Tm} (h : MAt w O p cs) (a b c : Int) (s t : ByteArray) :
    Calls Try.prog 34 #[.pointer (some ⟨p, 0, none⟩), opV 3 a b c s t] w (DoMPost O p (doOf cs 3 a s.data.toList t.data.toList) w) := by
  have hr : doOf cs 3 a s.data.toList t.data.toList = (cs, (queryAns s.data.toList).2, 0, (queryAns s.data.toList).1) := rfl
  rw [hr]
  clear hr
  unfold opV
  have F0 : Fr No w (dWorld w 3 a b c s t) := dWorld_fr
  have hop : (dWorld w 3 a b c s t).heap[w.heap.size]? = _ := dWorld_op
  have hres : (dWorld w 3 a b c s t).heap[w.heap.size + 1]? = _ := dWorld_res
  have hans : (dWorld w 3 a b c s t).heap[w.heap.size + 1 + 1]? = _ := dWorld_ans
  have hsz : (dWorld w 3 a b c s t).heap.size = w.heap.size + 3 := dWorld_size
  go_enter Try.func34, Try.ntmps34
  go_upto_region 2 with fail
  change Code.wp _ _ _ _ (dWorld w 3 a b c s t)
  generalize dWorld w 3 a b c s t = W0 at *
  have cs0 : W0.cell? ⟨w.heap.size, 0, none⟩ = some (.int .i64 3) := cell_of 0 hop rfl
  have cs1 : W0.cell? ⟨w.heap.size, 1, none⟩ = some (.int .i64 a) := cell_of 1 hop rfl
  have cs4 : W0.cell? ⟨w.heap.size, 4, none⟩ = some (.string s) := cell_of 4 hop rfl
  have cs5 : W0.cell? ⟨w.heap.size, 5, none⟩ = some (.string t) := cell_of 5 hop rfl
  have nf : ∀ j, w.heap.size ≤ j → ¬ O j := fun j hj hk => by have := h.lt j hk; omega
  go_wp2_with fail
  have hcl := queryM (w := W0) s.data.toList (.pointer (some ⟨p, 0, none⟩))
  rw [S_of] at hcl
  refine hcl.mono ?_
  clear hcl
  rintro e w1 ⟨rfl, F1⟩
  have hans1 := F1.keep hans (fun h => h)
  have hres1 := F1.keep hres (fun h => h)
  have a0 := cell_of 0 hans1 rfl
  have a1 := cell_of 1 hans1 rfl
  have a2 := cell_of 2 hans1 rfl
  have a3 := cell_of 3 hans1 rfl
  have f0 := frozen_of 0 hans1
  have f1 := frozen_of 1 hans1
  have f3 := frozen_of 3 hans1
  have r0 := cell_of 0 hres1 rfl
  have r1 := cell_of 1 hres1 rfl
  have r2 := cell_of 2 hres1 rfl
  have r3 := cell_of 3 hres1 rfl
  have g0 := frozen_of 0 hres1
  have g1 := frozen_of 1 hres1
  have g2 := frozen_of 2 hres1
  have g3 := frozen_of 3 hres1
  go_wp2_with fail
  refine bodyPost_ret (v := ansV ((cs, (queryAns s.data.toList).2, 0, (queryAns s.data.toList).1)).2) (by simp [results, Try.results34, go_sem, ansV, S_nil, r0, r1, r2, r3, a0, a1, a2, a3]) rfl ?_
  refine doM_fin0 h F0 hsz F1 ?_ _
  repeat refine Fr.setCell ?_ (fun _ => by simp) _
  exact Fr.refl _ _

set_option maxRecDepth 40000 in
set_option maxHeartbeats 4000000 in
theorem doM_text {w : World} {O : Nat → Prop} {p : Nat} {cs : List Tm} (h : MAt w O p cs) (a b c : Int) (s t : ByteArray) :
    Calls Try.prog 34 #[.pointer (some ⟨p, 0, none⟩), opV 4 a b c s t] w (DoMPost O p (doOf cs 4 a s.data.toList t.data.toList) w) := by
  have hr : doOf cs 4 a s.data.toList t.data.toList = (cs, (textAns cs a).2, 0, (textAns cs a).1) := rfl
  rw [hr]
  clear hr
  unfold opV
  have F0 : Fr No w (dWorld w 4 a b c s t) := dWorld_fr
  have hop : (dWorld w 4 a b c s t).heap[w.heap.size]? = _ := dWorld_op
  have hres : (dWorld w 4 a b c s t).heap[w.heap.size + 1]? = _ := dWorld_res
  have hans : (dWorld w 4 a b c s t).heap[w.heap.size + 1 + 1]? = _ := dWorld_ans
  have hsz : (dWorld w 4 a b c s t).heap.size = w.heap.size + 3 := dWorld_size
  go_enter Try.func34, Try.ntmps34
  go_upto_region 2 with fail
  change Code.wp _ _ _ _ (dWorld w 4 a b c s t)
  generalize dWorld w 4 a b c s t = W0 at *
  have cs0 : W0.cell? ⟨w.heap.size, 0, none⟩ = some (.int .i64 4) := cell_of 0 hop rfl
  have cs1 : W0.cell? ⟨w.heap.size, 1, none⟩ = some (.int .i64 a) := cell_of 1 hop rfl
  have cs4 : W0.cell? ⟨w.heap.size, 4, none⟩ = some (.string s) := cell_of 4 hop rfl
  have cs5 : W0.cell? ⟨w.heap.size, 5, none⟩ = some (.string t) := cell_of 5 hop rfl
  have nf : ∀ j, w.heap.size ≤ j → ¬ O j := fun j hj hk => by have := h.lt j hk; omega
  go_wp2_with fail
  refine (textM (h.keep F0 (fun _ _ h => h)) a).mono ?_
  rintro e w1 ⟨rfl, rfl⟩
  have F1 : Fr No w1 w1 := Fr.refl _ _
  have hans1 := F1.keep hans (fun h => h)
  have hres1 := F1.keep hres (fun h => h)
  have a0 := cell_of 0 hans1 rfl
  have a1 := cell_of 1 hans1 rfl
  have a2 := cell_of 2 hans1 rfl
  have a3 := cell_of 3 hans1 rfl
  have f0 := frozen_of 0 hans1
  have f1 := frozen_of 1 hans1
  have f3 := frozen_of 3 hans1
  have r0 := cell_of 0 hres1 rfl
  have r1 := cell_of 1 hres1 rfl
  have r2 := cell_of 2 hres1 rfl
  have r3 := cell_of 3 hres1 rfl
  have g0 := frozen_of 0 hres1
  have g1 := frozen_of 1 hres1
  have g2 := frozen_of 2 hres1
  have g3 := frozen_of 3 hres1
  go_wp2_with fail
  refine bodyPost_ret (v := ansV ((cs, (textAns cs a).2, 0, (textAns cs a).1)).2) (by simp [results, Try.results34, go_sem, ansV, S_nil, r0, r1, r2, r3, a0, a1, a2, a3]) rfl ?_
  refine doM_fin0 h F0 hsz F1 ?_ _
  repeat refine Fr.setCell ?_ (fun _ => by simp) _
  exact Fr.refl _ _

set_option maxRecDepth 40000 in
set_option maxHeartbeats 4000000 in
theorem doM_code {w : World} {O : Nat → Prop} {p : Nat} {cs : List Tm} (h : MAt w O p cs) (a b c : Int) (s t : ByteArray) :
    Calls Try.prog 34 #[.pointer (some ⟨p, 0, none⟩), opV 5 a b c s t] w (DoMPost O p (doOf cs 5 a s.data.toList t.data.toList) w) := by
  have hr : doOf cs 5 a s.data.toList t.data.toList = (cs, (codeAns cs a).2, 0, (codeAns cs a).1) := rfl
  rw [hr]
  clear hr
  unfold opV
  have F0 : Fr No w (dWorld w 5 a b c s t) := dWorld_fr
  have hop : (dWorld w 5 a b c s t).heap[w.heap.size]? = _ := dWorld_op
  have hres : (dWorld w 5 a b c s t).heap[w.heap.size + 1]? = _ := dWorld_res
  have hans : (dWorld w 5 a b c s t).heap[w.heap.size + 1 + 1]? = _ := dWorld_ans
  have hsz : (dWorld w 5 a b c s t).heap.size = w.heap.size + 3 := dWorld_size
  go_enter Try.func34, Try.ntmps34
  go_upto_region 2 with fail
  change Code.wp _ _ _ _ (dWorld w 5 a b c s t)
  generalize dWorld w 5 a b c s t = W0 at *
  have cs0 : W0.cell? ⟨w.heap.size, 0, none⟩ = some (.int .i64 5) := cell_of 0 hop rfl
  have cs1 : W0.cell? ⟨w.heap.size, 1, none⟩ = some (.int .i64 a) := cell_of 1 hop rfl
  have cs4 : W0.cell? ⟨w.heap.size, 4, none⟩ = some (.string s) := cell_of 4 hop rfl
  have cs5 : W0.cell? ⟨w.heap.size, 5, none⟩ = some (.string t) := cell_of 5 hop rfl
  have nf : ∀ j, w.heap.size ≤ j → ¬ O j := fun j hj hk => by have := h.lt j hk; omega
  go_wp2_with fail
  refine (codeM (h.keep F0 (fun _ _ h => h)) a).mono ?_
  rintro e w1 ⟨rfl, rfl⟩
  have F1 : Fr No w1 w1 := Fr.refl _ _
  have hans1 := F1.keep hans (fun h => h)
  have hres1 := F1.keep hres (fun h => h)
  have a0 := cell_of 0 hans1 rfl
  have a1 := cell_of 1 hans1 rfl
  have a2 := cell_of 2 hans1 rfl
  have a3 := cell_of 3 hans1 rfl
  have f0 := frozen_of 0 hans1
  have f1 := frozen_of 1 hans1
  have f3 := frozen_of 3 hans1
  have r0 := cell_of 0 hres1 rfl
  have r1 := cell_of 1 hres1 rfl
  have r2 := cell_of 2 hres1 rfl
  have r3 := cell_of 3 hres1 rfl
  have g0 := frozen_of 0 hres1
  have g1 := frozen_of 1 hres1
  have g2 := frozen_of 2 hres1
  have g3 := frozen_of 3 hres1
  go_wp2_with fail
  refine bodyPost_ret (v := ansV ((cs, (codeAns cs a).2, 0, (codeAns cs a).1)).2) (by simp [results, Try.results34, go_sem, ansV, S_nil, r0, r1, r2, r3, a0, a1, a2, a3]) rfl ?_
  refine doM_fin0 h F0 hsz F1 ?_ _
  repeat refine Fr.setCell ?_ (fun _ => by simp) _
  exact Fr.refl _ _

set_option maxRecDepth 40000 in
set_option maxHeartbeats 4000000 in
theorem doM_match {w : World} {O : Nat → Prop} {p : Nat} {cs : List Tm} (h : MAt w O p cs) (a b c : Int) (s t : ByteArray) :
    Calls Try.prog 34 #[.pointer (some ⟨p, 0, none⟩), opV 6 a b c s t] w (DoMPost O p (doOf cs 6 a s.data.toList t.data.toList) w) := by
  have hr : doOf cs 6 a s.data.toList t.data.toList = (cs, 0, 0, matchOf cs s.data.toList t.data.toList) := rfl
  rw [hr]
  clear hr
  unfold opV
  have F0 : Fr No w (dWorld w 6 a b c s t) := dWorld_fr
  have hop : (dWorld w 6 a b c s t).heap[w.heap.size]? = _ := dWorld_op
  have hres : (dWorld w 6 a b c s t).heap[w.heap.size + 1]? = _ := dWorld_res
  have hans : (dWorld w 6 a b c s t).heap[w.heap.size + 1 + 1]? = _ := dWorld_ans
  have hsz : (dWorld w 6 a b c s t).heap.size = w.heap.size + 3 := dWorld_size
  go_enter Try.func34, Try.ntmps34
  go_upto_region 2 with fail
  change Code.wp _ _ _ _ (dWorld w 6 a b c s t)
  generalize dWorld w 6 a b c s t = W0 at *
  have cs0 : W0.cell? ⟨w.heap.size, 0, none⟩ = some (.int .i64 6) := cell_of 0 hop rfl
  have cs1 : W0.cell? ⟨w.heap.size, 1, none⟩ = some (.int .i64 a) := cell_of 1 hop rfl
  have cs4 : W0.cell? ⟨w.heap.size, 4, none⟩ = some (.string s) := cell_of 4 hop rfl
  have cs5 : W0.cell? ⟨w.heap.size, 5, none⟩ = some (.string t) := cell_of 5 hop rfl
  have nf : ∀ j, w.heap.size ≤ j → ¬ O j := fun j hj hk => by have := h.lt j hk; omega
  go_wp2_with fail
  have hcl := matchM (h.keep F0 (fun _ _ h => h)) s.data.toList t.data.toList
  rw [S_of, S_of] at hcl
  refine hcl.mono ?_
  clear hcl
  rintro e w1 ⟨rfl, rfl⟩
  have F1 : Fr No w1 w1 := Fr.refl _ _
  have hans1 := F1.keep hans (fun h => h)
  have hres1 := F1.keep hres (fun h => h)
  have a0 := cell_of 0 hans1 rfl
  have a1 := cell_of 1 hans1 rfl
  have a2 := cell_of 2 hans1 rfl
  have a3 := cell_of 3 hans1 rfl
  have f0 := frozen_of 0 hans1
  have f1 := frozen_of 1 hans1
  have f3 := frozen_of 3 hans1
  have r0 := cell_of 0 hres1 rfl
  have r1 := cell_of 1 hres1 rfl
  have r2 := cell_of 2 hres1 rfl
  have r3 := cell_of 3 hres1 rfl
  have g0 := frozen_of 0 hres1
  have g1 := frozen_of 1 hres1
  have g2 := frozen_of 2 hres1
  have g3 := frozen_of 3 hres1
  go_wp2_with fail
  refine bodyPost_ret (v := ansV ((cs, 0, 0, matchOf cs s.data.toList t.data.toList)).2) (by simp [results, Try.results34, go_sem, ansV, S_nil, r0, r1, r2, r3, a0, a1, a2, a3]) rfl ?_
  refine doM_fin0 h F0 hsz F1 ?_ _
  repeat refine Fr.setCell ?_ (fun _ => by simp) _
  exact Fr.refl _ _

set_option maxRecDepth 40000 in
set_option maxHeartbeats 4000000 in
theorem doM_len {w : World} {O : Nat → Prop} {p : Nat} {cs : List Tm} (h : MAt w O p cs) (a b c : Int) (s t : ByteArray) :
    Calls Try.prog 34 #[.pointer (some ⟨p, 0, none⟩), opV 7 a b c s t] w (DoMPost O p (doOf cs 7 a s.data.toList t.data.toList) w) := by
  have hr : doOf cs 7 a s.data.toList t.data.toList = (cs, 0, (cs.length : Int), []) := rfl
  rw [hr]
  clear hr
  unfold opV
  have F0 : Fr No w (dWorld w 7 a b c s t) := dWorld_fr
  have hop : (dWorld w 7 a b c s t).heap[w.heap.size]? = _ := dWorld_op
  have hres : (dWorld w 7 a b c s t).heap[w.heap.size + 1]? = _ := dWorld_res
  have hans : (dWorld w 7 a b c s t).heap[w.heap.size + 1 + 1]? = _ := dWorld_ans
  have hsz : (dWorld w 7 a b c s t).heap.size = w.heap.size + 3 := dWorld_size
  go_enter Try.func34, Try.ntmps34
  go_upto_region 2 with fail
  change Code.wp _ _ _ _ (dWorld w 7 a b c s t)
  generalize dWorld w 7 a b c s t = W0 at *
  have cs0 : W0.cell? ⟨w.heap.size, 0, none⟩ = some (.int .i64 7) := cell_of 0 hop rfl
  have cs1 : W0.cell? ⟨w.heap.size, 1, none⟩ = some (.int .i64 a) := cell_of 1 hop rfl
  have cs4 : W0.cell? ⟨w.heap.size, 4, none⟩ = some (.string s) := cell_of 4 hop rfl
  have cs5 : W0.cell? ⟨w.heap.size, 5, none⟩ = some (.string t) := cell_of 5 hop rfl
  have nf : ∀ j, w.heap.size ≤ j → ¬ O j := fun j hj hk => by have := h.lt j hk; omega
  go_wp2_with fail
  refine (lenM (h.keep F0 (fun _ _ h => h))).mono ?_
  rintro e w1 ⟨rfl, rfl⟩
  have F1 : Fr No w1 w1 := Fr.refl _ _
  have hans1 := F1.keep hans (fun h => h)
  have hres1 := F1.keep hres (fun h => h)
  have a0 := cell_of 0 hans1 rfl
  have a1 := cell_of 1 hans1 rfl
  have a2 := cell_of 2 hans1 rfl
  have a3 := cell_of 3 hans1 rfl
  have f0 := frozen_of 0 hans1
  have f1 := frozen_of 1 hans1
  have f3 := frozen_of 3 hans1
  have r0 := cell_of 0 hres1 rfl
  have r1 := cell_of 1 hres1 rfl
  have r2 := cell_of 2 hres1 rfl
  have r3 := cell_of 3 hres1 rfl
  have g0 := frozen_of 0 hres1
  have g1 := frozen_of 1 hres1
  have g2 := frozen_of 2 hres1
  have g3 := frozen_of 3 hres1
  go_wp2_with fail
  refine bodyPost_ret (v := ansV ((cs, 0, (cs.length : Int), [])).2) (by simp [results, Try.results34, go_sem, ansV, S_nil, r0, r1, r2, r3, a0, a1, a2, a3]) rfl ?_
  refine doM_fin0 h F0 hsz F1 ?_ _
  repeat refine Fr.setCell ?_ (fun _ => by simp) _
  exact Fr.refl _ _

set_option maxRecDepth 40000 in
set_option maxHeartbeats 4000000 in
theorem doM_show {w : World} {O : Nat → Prop} {p : Nat} {cs : List Tm} (h : MAt w O p cs) (a b c : Int) (s t : ByteArray) :
    Calls Try.prog 34 #[.pointer (some ⟨p, 0, none⟩), opV 8 a b c s t] w (DoMPost O p (doOf cs 8 a s.data.toList t.data.toList) w) := by
  have hr : doOf cs 8 a s.data.toList t.data.toList = (cs, 0, 0, showOf cs) := rfl
  rw [hr]
  clear hr
  unfold opV
  have F0 : Fr No w (dWorld w 8 a b c s t) := dWorld_fr
  have hop : (dWorld w 8 a b c s t).heap[w.heap.size]? = _ := dWorld_op
  have hres : (dWorld w 8 a b c s t).heap[w.heap.size + 1]? = _ := dWorld_res
  have hans : (dWorld w 8 a b c s t).heap[w.heap.size + 1 + 1]? = _ := dWorld_ans
  have hsz : (dWorld w 8 a b c s t).heap.size = w.heap.size + 3 := dWorld_size
  go_enter Try.func34, Try.ntmps34
  go_upto_region 2 with fail
  change Code.wp _ _ _ _ (dWorld w 8 a b c s t)
  generalize dWorld w 8 a b c s t = W0 at *
  have cs0 : W0.cell? ⟨w.heap.size, 0, none⟩ = some (.int .i64 8) := cell_of 0 hop rfl
  have cs1 : W0.cell? ⟨w.heap.size, 1, none⟩ = some (.int .i64 a) := cell_of 1 hop rfl
  have cs4 : W0.cell? ⟨w.heap.size, 4, none⟩ = some (.string s) := cell_of 4 hop rfl
  have cs5 : W0.cell? ⟨w.heap.size, 5, none⟩ = some (.string t) := cell_of 5 hop rfl
  have nf : ∀ j, w.heap.size ≤ j → ¬ O j := fun j hj hk => by have := h.lt j hk; omega
  go_wp2_with fail
  refine (showM (h.keep F0 (fun _ _ h => h))).mono ?_
  rintro e w1 ⟨rfl, rfl⟩
  have F1 : Fr No w1 w1 := Fr.refl _ _
  have hans1 := F1.keep hans (fun h => h)
  have hres1 := F1.keep hres (fun h => h)
  have a0 := cell_of 0 hans1 rfl
  have a1 := cell_of 1 hans1 rfl
  have a2 := cell_of 2 hans1 rfl
  have a3 := cell_of 3 hans1 rfl
  have f0 := frozen_of 0 hans1
  have f1 := frozen_of 1 hans1
  have f3 := frozen_of 3 hans1
  have r0 := cell_of 0 hres1 rfl
  have r1 := cell_of 1 hres1 rfl
  have r2 := cell_of 2 hres1 rfl
  have r3 := cell_of 3 hres1 rfl
  have g0 := frozen_of 0 hres1
  have g1 := frozen_of 1 hres1
  have g2 := frozen_of 2 hres1
  have g3 := frozen_of 3 hres1
  go_wp2_with fail
  refine bodyPost_ret (v := ansV ((cs, 0, 0, showOf cs)).2) (by simp [results, Try.results34, go_sem, ansV, S_nil, r0, r1, r2, r3, a0, a1, a2, a3]) rfl ?_
  refine doM_fin0 h F0 hsz F1 ?_ _
  repeat refine Fr.setCell ?_ (fun _ => by simp) _
  exact Fr.refl _ _

set_option maxRecDepth 40000 in
set_option maxHeartbeats 4000000 in
theorem doM_none {w : World} {O : Nat → Prop} {p : Nat} {cs : List Tm} (h : MAt w O p cs) (k : Int) (h1 : ¬ k = 1) (h2 : ¬ k = 2) (h3 : ¬ k = 3) (h4 : ¬ k = 4) (h5 : ¬ k = 5) (h6 : ¬ k = 6) (h7 : ¬ k = 7) (h8 : ¬ k = 8) (a b c : Int) (s t : ByteArray) :
    Calls Try.prog 34 #[.pointer (some ⟨p, 0, none⟩), opV k a b c s t] w (DoMPost O p (doOf cs k a s.data.toList t.data.toList) w) := by
  have hr : doOf cs k a s.data.toList t.data.toList = (cs, ((0, 0, []) : Ans)) := by unfold doOf; rw [if_neg h1, if_neg h2, if_neg h3, if_neg h4, if_neg h5, if_neg h6, if_neg h7, if_neg h8]
  rw [hr]
  clear hr
  have q1 : (k == 1) = false := beq_eq_false_iff_ne.2 h1
  have q2 : (k == 2) = false := beq_eq_false_iff_ne.2 h2
  have q3 : (k == 3) = false := beq_eq_false_iff_ne.2 h3
  have q4 : (k == 4) = false := beq_eq_false_iff_ne.2 h4
  have q5 : (k == 5) = false := beq_eq_false_iff_ne.2 h5
  have q6 : (k == 6) = false := beq_eq_false_iff_ne.2 h6
  have q7 : (k == 7) = false := beq_eq_false_iff_ne.2 h7
  have q8 : (k == 8) = false := beq_eq_false_iff_ne.2 h8
  unfold opV
  have F0 : Fr No w (dWorld w k a b c s t) := dWorld_fr
  have hop : (dWorld w k a b c s t).heap[w.heap.size]? = _ := dWorld_op
  have hres : (dWorld w k a b c s t).heap[w.heap.size + 1]? = _ := dWorld_res
  have hans : (dWorld w k a b c s t).heap[w.heap.size + 1 + 1]? = _ := dWorld_ans
  have hsz : (dWorld w k a b c s t).heap.size = w.heap.size + 3 := dWorld_size
  go_enter Try.func34, Try.ntmps34
  go_upto_region 2 with fail
  change Code.wp _ _ _ _ (dWorld w k a b c s t)
  generalize dWorld w k a b c s t = W0 at *
  have cs0 : W0.cell? ⟨w.heap.size, 0, none⟩ = some (.int .i64 k) := cell_of 0 hop rfl
  have cs1 : W0.cell? ⟨w.heap.size, 1, none⟩ = some (.int .i64 a) := cell_of 1 hop rfl
  have cs4 : W0.cell? ⟨w.heap.size, 4, none⟩ = some (.string s) := cell_of 4 hop rfl
  have cs5 : W0.cell? ⟨w.heap.size, 5, none⟩ = some (.string t) := cell_of 5 hop rfl
  have nf : ∀ j, w.heap.size ≤ j → ¬ O j := fun j hj hk => by have := h.lt j hk; omega
  have F1 : Fr No W0 W0 := Fr.refl _ _
  have hans1 := hans
  have hres1 := hres
  have a0 := cell_of 0 hans1 rfl
  have a1 := cell_of 1 hans1 rfl
  have a2 := cell_of 2 hans1 rfl
  have a3 := cell_of 3 hans1 rfl
  have f0 := frozen_of 0 hans1
  have f1 := frozen_of 1 hans1
  have f3 := frozen_of 3 hans1
  have r0 := cell_of 0 hres1 rfl
  have r1 := cell_of 1 hres1 rfl
  have r2 := cell_of 2 hres1 rfl
  have r3 := cell_of 3 hres1 rfl
  have g0 := frozen_of 0 hres1
  have g1 := frozen_of 1 hres1
  have g2 := frozen_of 2 hres1
  have g3 := frozen_of 3 hres1
  go_wp2_with fail
  refine bodyPost_ret (v := ansV ((cs, ((0, 0, []) : Ans))).2) (by simp [results, Try.results34, go_sem, ansV, S_nil, r0, r1, r2, r3, a0, a1, a2, a3]) rfl ?_
  refine doM_fin0 h F0 hsz F1 ?_ _
  repeat refine Fr.setCell ?_ (fun _ => by simp) _
  exact Fr.refl _ _

theorem DoM_any {w : World} {O : Nat → Prop} {p : Nat} {cs : List Tm} (h : MAt w O p cs) (k a b c : Int) (s t : ByteArray) :
    Calls Try.prog 34 #[.pointer (some ⟨p, 0, none⟩), opV k a b c s t] w (DoMPost O p (doOf cs k a s.data.toList t.data.toList) w) := by
  by_cases h1 : k = 1
  · subst h1; exact doM_add h a b c s t
  by_cases h2 : k = 2
  · subst h2; exact doM_clear h a b c s t
  by_cases h3 : k = 3
  · subst h3; exact doM_query h a b c s t
  by_cases h4 : k = 4
  · subst h4; exact doM_text h a b c s t
  by_cases h5 : k = 5
  · subst h5; exact doM_code h a b c s t
  by_cases h6 : k = 6
  · subst h6; exact doM_match h a b c s t
  by_cases h7 : k = 7
  · subst h7; exact doM_len h a b c s t
  by_cases h8 : k = 8
  · subst h8; exact doM_show h a b c s t
  · exact doM_none h k h1 h2 h3 h4 h5 h6 h7 h8 a b c s t
end Go.Proofs.Qxb6500302a.M
