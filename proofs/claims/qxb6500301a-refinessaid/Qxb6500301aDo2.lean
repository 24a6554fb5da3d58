import Derived.Test.Qxb6500301aMod11
import Derived.Test.Qxb6500301aMod13
import Derived.Test.Qxb6500301aMod17
namespace Go.Proofs.Qxb6500301a
open Go.RowKit
set_option linter.unusedSimpArgs false
set_option linter.unusedVariables false
attribute [local go_sem ↓] Go.wp_at_zero Go.wp_at_succ

def MDoPost (b0 p : Nat) (vn vo vl : Value) (r : (List Nd × List (List Nd)) × Ans) (w : World) (e : Ending) (w' : World) : Prop :=
  e = .returned (ansV r.2) ∧ ModAt w' b0 p r.1.1 r.1.2 ∧ Fr (Foot p vn vo vl) w w'

theorem MAt.keepTy {w wf : World} {b0 q r1 r2 : Nat} {vn vo vl : Value} {ns : List Nd} {saved : List (List Nd)} {c1 c2 : Array Value} (h : MAt w b0 q vn vo vl ns saved) (h1 : w.heap[r1]? = some (.cells c1 36)) (h2 : w.heap[r2]? = some (.cells c2 36)) (hF : Fr (fun k => k = r1 ∨ k = r2) w wf) : MAt wf b0 q vn vo vl ns saved := by
  have hq : ¬ (q = r1 ∨ q = r2) := by
    rintro (e | e)
    · rw [← e, h.top] at h1; simp at h1
    · rw [← e, h.top] at h2; simp at h2
  refine ⟨hF.keep h.top hq, ownsRow_keep h.rn hF ?_, ownsRow_keep h.ro hF ?_, ownsRow_keep h.rl hF ?_, h.no, h.qb⟩
  · rintro k hk (e | e)
    · exact top_ne h.rn h1 (by decide) k hk e.symm
    · exact top_ne h.rn h2 (by decide) k hk e.symm
  · rintro k hk (e | e)
    · exact top_ne h.ro h1 (by decide) k hk e.symm
    · exact top_ne h.ro h2 (by decide) k hk e.symm
  · rintro k hk (e | e)
    · exact top_ne h.rl h1 (by decide) k hk e.symm
    · exact top_ne h.rl h2 (by decide) k hk e.symm
theorem mdo_fin {w W0 w1 wf : World} {b0 p : Nat} {vn vo vl : Value} {ns : List Nd} {saved : List (List Nd)} {c1 c2 : Array Value} (h : MAt w b0 p vn vo vl ns saved) (F0 : Fr No w W0) (h1 : w1.heap[w.heap.size + 1]? = some (.cells c1 36)) (h2 : w1.heap[w.heap.size + 1 + 1]? = some (.cells c2 36)) {st : List Nd × List (List Nd)} (H1 : ModAt w1 b0 p st.1 st.2)
    (F1 : Fr (Foot p vn vo vl) W0 w1) (hF : Fr (fun k => k = w.heap.size + 1 ∨ k = w.heap.size + 1 + 1) w1 wf) (A : Ans) : MDoPost b0 p vn vo vl (st, A) w (.returned (ansV A)) wf := by
  obtain ⟨a, b, c, m⟩ := H1
  exact ⟨rfl, ⟨a, b, c, m.keepTy h1 h2 hF⟩, ((F0.mono (fun _ _ h => h.elim)).trans F1 (fun _ _ h => h)).trans hF (fun k hk e => by omega)⟩

set_option maxRecDepth 40000 in
set_option maxHeartbeats 4000000 in
theorem mdo_reset {w : World} {b0 p : Nat} {vn vo vl : Value} {ns : List Nd} {saved : List (List Nd)} (hb0 : b0 ≤ w.heap.size) (h : MAt w b0 p vn vo vl ns saved) (ok : OkS ns saved) (a b c : Int) (s : List UInt8) (t : ByteArray) :
    Calls Try.prog 37 #[.pointer (some ⟨p, 0, none⟩), opV 1 a b c (S s) t] w (MDoPost b0 p vn vo vl (doOf ns saved 1 a b s) w) := by
  have hr : doOf ns saved 1 a b s = ((([] : List Nd), ([] : List (List Nd))), ((0, 0, []) : Ans)) := by rfl
  rw [hr]
  clear hr
  unfold opV
  have F0 : Fr No w (dWorld w 1 a b c (S s) t) := dWorld_fr
  have hop : (dWorld w 1 a b c (S s) t).heap[w.heap.size]? = _ := dWorld_op
  have hres : (dWorld w 1 a b c (S s) t).heap[w.heap.size + 1]? = _ := dWorld_res
  have hans : (dWorld w 1 a b c (S s) t).heap[w.heap.size + 1 + 1]? = _ := dWorld_ans
  have hsz : (dWorld w 1 a b c (S s) t).heap.size = w.heap.size + 3 := dWorld_size
  go_enter Try.func37, Try.ntmps37
  go_upto_region 2 with fail
  change Code.wp _ _ _ _ (dWorld w 1 a b c (S s) t)
  generalize dWorld w 1 a b c (S s) t = W0 at *
  have cs0 : W0.cell? ⟨w.heap.size, 0, none⟩ = some (.int .i64 1) := cell_of 0 hop rfl
  have cs1 : W0.cell? ⟨w.heap.size, 1, none⟩ = some (.int .i64 a) := cell_of 1 hop rfl
  have cs2 : W0.cell? ⟨w.heap.size, 2, none⟩ = some (.int .i64 b) := cell_of 2 hop rfl
  have cs4 : W0.cell? ⟨w.heap.size, 4, none⟩ = some (.string (S s)) := cell_of 4 hop rfl
  have nf : ∀ j, w.heap.size ≤ j → ¬ Foot p vn vo vl j := fun j hj hk => by have := (h.foot hk).2; omega
  have hbW : b0 ≤ W0.heap.size := by omega
  go_wp2_with fail
  refine (mReset_foot (h.no' F0)).mono ?_
  rintro e w1 ⟨rfl, H1, F1⟩
  have hans1 := F1.keep hans (nf _ (by omega))
  have hres1 := F1.keep hres (nf _ (by omega))
  have a0 := cell_of 0 hans1 rfl
  have a1 := cell_of 1 hans1 rfl
  have a2 := cell_of 2 hans1 rfl
  have a3 := cell_of 3 hans1 rfl
  have f0 := frozen_of 0 hans1
  have f1 := frozen_of 1 hans1
  have f3 := frozen_of 3 hans1
  have r0 := cell_of 0 hres1 rfl
  have r1 := cell_of 1 hres1 rfl
  have r2 := cell_of 2 hres1 rfl
  have r3 := cell_of 3 hres1 rfl
  have g0 := frozen_of 0 hres1
  have g1 := frozen_of 1 hres1
  have g2 := frozen_of 2 hres1
  have g3 := frozen_of 3 hres1
  go_wp2_with fail
  refine bodyPost_ret (v := ansV (((([] : List Nd), ([] : List (List Nd))), ((0, 0, []) : Ans))).2) (by simp [results, Try.results37, go_sem, ansV, S_nil, r0, r1, r2, r3, a0, a1, a2, a3]) rfl ?_
  refine mdo_fin h F0 hres1 hans1 H1 F1 ?_ _
  repeat refine Fr.setCell ?_ (fun _ => by simp) _
  exact Fr.refl _ _

set_option maxRecDepth 40000 in
set_option maxHeartbeats 4000000 in
theorem mdo_load {w : World} {b0 p : Nat} {vn vo vl : Value} {ns : List Nd} {saved : List (List Nd)} (hb0 : b0 ≤ w.heap.size) (h : MAt w b0 p vn vo vl ns saved) (ok : OkS ns saved) (a b c : Int) (s : List UInt8) (t : ByteArray) :
    Calls Try.prog 37 #[.pointer (some ⟨p, 0, none⟩), opV 2 a b c (S s) t] w (MDoPost b0 p vn vo vl (doOf ns saved 2 a b s) w) := by
  have hr : doOf ns saved 2 a b s = (((loadAns ns s).2.2, saved), (((loadAns ns s).2.1, (loadAns ns s).1, []) : Ans)) := by rfl
  rw [hr]
  clear hr
  unfold opV
  have F0 : Fr No w (dWorld w 2 a b c (S s) t) := dWorld_fr
  have hop : (dWorld w 2 a b c (S s) t).heap[w.heap.size]? = _ := dWorld_op
  have hres : (dWorld w 2 a b c (S s) t).heap[w.heap.size + 1]? = _ := dWorld_res
  have hans : (dWorld w 2 a b c (S s) t).heap[w.heap.size + 1 + 1]? = _ := dWorld_ans
  have hsz : (dWorld w 2 a b c (S s) t).heap.size = w.heap.size + 3 := dWorld_size
  go_enter Try.func37, Try.ntmps37
  go_upto_region 2 with fail
  change Code.wp _ _ _ _ (dWorld w 2 a b c (S s) t)
  generalize dWorld w 2 a b c (S s) t = W0 at *
  have cs0 : W0.cell? ⟨w.heap.size, 0, none⟩ = some (.int .i64 2) := cell_of 0 hop rfl
  have cs1 : W0.cell? ⟨w.heap.size, 1, none⟩ = some (.int .i64 a) := cell_of 1 hop rfl
  have cs2 : W0.cell? ⟨w.heap.size, 2, none⟩ = some (.int .i64 b) := cell_of 2 hop rfl
  have cs4 : W0.cell? ⟨w.heap.size, 4, none⟩ = some (.string (S s)) := cell_of 4 hop rfl
  have nf : ∀ j, w.heap.size ≤ j → ¬ Foot p vn vo vl j := fun j hj hk => by have := (h.foot hk).2; omega
  have hbW : b0 ≤ W0.heap.size := by omega
  go_wp2_with fail
  refine (mLoad_any hbW (h.no' F0) ok s).mono ?_
  rintro e w1 ⟨rfl, H1, F1⟩
  have hans1 := F1.keep hans (nf _ (by omega))
  have hres1 := F1.keep hres (nf _ (by omega))
  have a0 := cell_of 0 hans1 rfl
  have a1 := cell_of 1 hans1 rfl
  have a2 := cell_of 2 hans1 rfl
  have a3 := cell_of 3 hans1 rfl
  have f0 := frozen_of 0 hans1
  have f1 := frozen_of 1 hans1
  have f3 := frozen_of 3 hans1
  have r0 := cell_of 0 hres1 rfl
  have r1 := cell_of 1 hres1 rfl
  have r2 := cell_of 2 hres1 rfl
  have r3 := cell_of 3 hres1 rfl
  have g0 := frozen_of 0 hres1
  have g1 := frozen_of 1 hres1
  have g2 := frozen_of 2 hres1
  have g3 := frozen_of 3 hres1
  go_wp2_with fail
  refine bodyPost_ret (v := ansV ((((loadAns ns s).2.2, saved), (((loadAns ns s).2.1, (loadAns ns s).1, []) : Ans))).2) (by simp [results, Try.results37, go_sem, ansV, S_nil, r0, r1, r2, r3, a0, a1, a2, a3]) rfl ?_
  refine mdo_fin h F0 hres1 hans1 H1 F1 ?_ _
  repeat refine Fr.setCell ?_ (fun _ => by simp) _
  exact Fr.refl _ _

set_option maxRecDepth 40000 in
set_option maxHeartbeats 4000000 in
theorem mdo_unify {w : World} {b0 p : Nat} {vn vo vl : Value} {ns : List Nd} {saved : List (List Nd)} (hb0 : b0 ≤ w.heap.size) (h : MAt w b0 p vn vo vl ns saved) (ok : OkS ns saved) (a b c : Int) (s : List UInt8) (t : ByteArray) :
    Calls Try.prog 37 #[.pointer (some ⟨p, 0, none⟩), opV 3 a b c (S s) t] w (MDoPost b0 p vn vo vl (doOf ns saved 3 a b s) w) := by
  have hr : doOf ns saved 3 a b s = (((unifyAns ns a b).2.2, saved), (((unifyAns ns a b).2.1, (unifyAns ns a b).1, []) : Ans)) := by rfl
  rw [hr]
  clear hr
  unfold opV
  have F0 : Fr No w (dWorld w 3 a b c (S s) t) := dWorld_fr
  have hop : (dWorld w 3 a b c (S s) t).heap[w.heap.size]? = _ := dWorld_op
  have hres : (dWorld w 3 a b c (S s) t).heap[w.heap.size + 1]? = _ := dWorld_res
  have hans : (dWorld w 3 a b c (S s) t).heap[w.heap.size + 1 + 1]? = _ := dWorld_ans
  have hsz : (dWorld w 3 a b c (S s) t).heap.size = w.heap.size + 3 := dWorld_size
  go_enter Try.func37, Try.ntmps37
  go_upto_region 2 with fail
  change Code.wp _ _ _ _ (dWorld w 3 a b c (S s) t)
  generalize dWorld w 3 a b c (S s) t = W0 at *
  have cs0 : W0.cell? ⟨w.heap.size, 0, none⟩ = some (.int .i64 3) := cell_of 0 hop rfl
  have cs1 : W0.cell? ⟨w.heap.size, 1, none⟩ = some (.int .i64 a) := cell_of 1 hop rfl
  have cs2 : W0.cell? ⟨w.heap.size, 2, none⟩ = some (.int .i64 b) := cell_of 2 hop rfl
  have cs4 : W0.cell? ⟨w.heap.size, 4, none⟩ = some (.string (S s)) := cell_of 4 hop rfl
  have nf : ∀ j, w.heap.size ≤ j → ¬ Foot p vn vo vl j := fun j hj hk => by have := (h.foot hk).2; omega
  have hbW : b0 ≤ W0.heap.size := by omega
  go_wp2_with fail
  refine (mUnify_any hbW (h.no' F0) ok a b).mono ?_
  rintro e w1 ⟨rfl, H1, F1⟩
  have hans1 := F1.keep hans (nf _ (by omega))
  have hres1 := F1.keep hres (nf _ (by omega))
  have a0 := cell_of 0 hans1 rfl
  have a1 := cell_of 1 hans1 rfl
  have a2 := cell_of 2 hans1 rfl
  have a3 := cell_of 3 hans1 rfl
  have f0 := frozen_of 0 hans1
  have f1 := frozen_of 1 hans1
  have f3 := frozen_of 3 hans1
  have r0 := cell_of 0 hres1 rfl
  have r1 := cell_of 1 hres1 rfl
  have r2 := cell_of 2 hres1 rfl
  have r3 := cell_of 3 hres1 rfl
  have g0 := frozen_of 0 hres1
  have g1 := frozen_of 1 hres1
  have g2 := frozen_of 2 hres1
  have g3 := frozen_of 3 hres1
  go_wp2_with fail
  refine bodyPost_ret (v := ansV ((((unifyAns ns a b).2.2, saved), (((unifyAns ns a b).2.1, (unifyAns ns a b).1, []) : Ans))).2) (by simp [results, Try.results37, go_sem, ansV, S_nil, r0, r1, r2, r3, a0, a1, a2, a3]) rfl ?_
  refine mdo_fin h F0 hres1 hans1 H1 F1 ?_ _
  repeat refine Fr.setCell ?_ (fun _ => by simp) _
  exact Fr.refl _ _

set_option maxRecDepth 40000 in
set_option maxHeartbeats 4000000 in
theorem mdo_full {w : World} {b0 p : Nat} {vn vo vl : Value} {ns : List Nd} {saved : List (List Nd)} (hb0 : b0 ≤ w.heap.size) (h : MAt w b0 p vn vo vl ns saved) (ok : OkS ns saved) (hl : 26 ≤ saved.length) (a b c : Int) (s : List UInt8) (t : ByteArray) :
    Calls Try.prog 37 #[.pointer (some ⟨p, 0, none⟩), opV 4 a b c (S s) t] w (MDoPost b0 p vn vo vl (doOf ns saved 4 a b s) w) := by
  have hr : doOf ns saved 4 a b s = ((ns, saved), ((6, 0, []) : Ans)) := doOf_full hl
  rw [hr]
  clear hr
  unfold opV
  have F0 : Fr No w (dWorld w 4 a b c (S s) t) := dWorld_fr
  have hop : (dWorld w 4 a b c (S s) t).heap[w.heap.size]? = _ := dWorld_op
  have hres : (dWorld w 4 a b c (S s) t).heap[w.heap.size + 1]? = _ := dWorld_res
  have hans : (dWorld w 4 a b c (S s) t).heap[w.heap.size + 1 + 1]? = _ := dWorld_ans
  have hsz : (dWorld w 4 a b c (S s) t).heap.size = w.heap.size + 3 := dWorld_size
  go_enter Try.func37, Try.ntmps37
  go_upto_region 2 with fail
  change Code.wp _ _ _ _ (dWorld w 4 a b c (S s) t)
  generalize dWorld w 4 a b c (S s) t = W0 at *
  have cs0 : W0.cell? ⟨w.heap.size, 0, none⟩ = some (.int .i64 4) := cell_of 0 hop rfl
  have cs1 : W0.cell? ⟨w.heap.size, 1, none⟩ = some (.int .i64 a) := cell_of 1 hop rfl
  have cs2 : W0.cell? ⟨w.heap.size, 2, none⟩ = some (.int .i64 b) := cell_of 2 hop rfl
  have cs4 : W0.cell? ⟨w.heap.size, 4, none⟩ = some (.string (S s)) := cell_of 4 hop rfl
  have nf : ∀ j, w.heap.size ≤ j → ¬ Foot p vn vo vl j := fun j hj hk => by have := (h.foot hk).2; omega
  have hbW : b0 ≤ W0.heap.size := by omega
  go_wp2_with fail
  refine (mPush_full (h.no' F0) hl).mono ?_
  rintro e w1 ⟨rfl, H1, F1⟩
  have hans1 := F1.keep hans (nf _ (by omega))
  have hres1 := F1.keep hres (nf _ (by omega))
  have a0 := cell_of 0 hans1 rfl
  have a1 := cell_of 1 hans1 rfl
  have a2 := cell_of 2 hans1 rfl
  have a3 := cell_of 3 hans1 rfl
  have f0 := frozen_of 0 hans1
  have f1 := frozen_of 1 hans1
  have f3 := frozen_of 3 hans1
  have r0 := cell_of 0 hres1 rfl
  have r1 := cell_of 1 hres1 rfl
  have r2 := cell_of 2 hres1 rfl
  have r3 := cell_of 3 hres1 rfl
  have g0 := frozen_of 0 hres1
  have g1 := frozen_of 1 hres1
  have g2 := frozen_of 2 hres1
  have g3 := frozen_of 3 hres1
  go_wp2_with fail
  refine bodyPost_ret (v := ansV (((ns, saved), ((6, 0, []) : Ans))).2) (by simp [results, Try.results37, go_sem, ansV, S_nil, r0, r1, r2, r3, a0, a1, a2, a3]) rfl ?_
  refine mdo_fin h F0 hres1 hans1 H1 F1 ?_ _
  repeat refine Fr.setCell ?_ (fun _ => by simp) _
  exact Fr.refl _ _

set_option maxRecDepth 40000 in
set_option maxHeartbeats 4000000 in
theorem mdo_push {w : World} {b0 p : Nat} {vn vo vl : Value} {ns : List Nd} {saved : List (List Nd)} (hb0 : b0 ≤ w.heap.size) (h : MAt w b0 p vn vo vl ns saved) (ok : OkS ns saved) (hl : saved.length < 26) (a b c : Int) (s : List UInt8) (t : ByteArray) :
    Calls Try.prog 37 #[.pointer (some ⟨p, 0, none⟩), opV 4 a b c (S s) t] w (MDoPost b0 p vn vo vl (doOf ns saved 4 a b s) w) := by
  have hr : doOf ns saved 4 a b s = ((ns, ns :: saved), ((0, 0, []) : Ans)) := doOf_push hl
  rw [hr]
  clear hr
  unfold opV
  have F0 : Fr No w (dWorld w 4 a b c (S s) t) := dWorld_fr
  have hop : (dWorld w 4 a b c (S s) t).heap[w.heap.size]? = _ := dWorld_op
  have hres : (dWorld w 4 a b c (S s) t).heap[w.heap.size + 1]? = _ := dWorld_res
  have hans : (dWorld w 4 a b c (S s) t).heap[w.heap.size + 1 + 1]? = _ := dWorld_ans
  have hsz : (dWorld w 4 a b c (S s) t).heap.size = w.heap.size + 3 := dWorld_size
  go_enter Try.func37, Try.ntmps37
  go_upto_region 2 with fail
  change Code.wp _ _ _ _ (dWorld w 4 a b c (S s) t)
  generalize dWorld w 4 a b c (S s) t = W0 at *
  have cs0 : W0.cell? ⟨w.heap.size, 0, none⟩ = some (.int .i64 4) := cell_of 0 hop rfl
  have cs1 : W0.cell? ⟨w.heap.size, 1, none⟩ = some (.int .i64 a) := cell_of 1 hop rfl
  have cs2 : W0.cell? ⟨w.heap.size, 2, none⟩ = some (.int .i64 b) := cell_of 2 hop rfl
  have cs4 : W0.cell? ⟨w.heap.size, 4, none⟩ = some (.string (S s)) := cell_of 4 hop rfl
  have nf : ∀ j, w.heap.size ≤ j → ¬ Foot p vn vo vl j := fun j hj hk => by have := (h.foot hk).2; omega
  have hbW : b0 ≤ W0.heap.size := by omega
  go_wp2_with fail
  refine (mPush_any hbW (h.no' F0) ok hl).mono ?_
  rintro e w1 ⟨rfl, H1, F1⟩
  have hans1 := F1.keep hans (nf _ (by omega))
  have hres1 := F1.keep hres (nf _ (by omega))
  have a0 := cell_of 0 hans1 rfl
  have a1 := cell_of 1 hans1 rfl
  have a2 := cell_of 2 hans1 rfl
  have a3 := cell_of 3 hans1 rfl
  have f0 := frozen_of 0 hans1
  have f1 := frozen_of 1 hans1
  have f3 := frozen_of 3 hans1
  have r0 := cell_of 0 hres1 rfl
  have r1 := cell_of 1 hres1 rfl
  have r2 := cell_of 2 hres1 rfl
  have r3 := cell_of 3 hres1 rfl
  have g0 := frozen_of 0 hres1
  have g1 := frozen_of 1 hres1
  have g2 := frozen_of 2 hres1
  have g3 := frozen_of 3 hres1
  go_wp2_with fail
  refine bodyPost_ret (v := ansV (((ns, ns :: saved), ((0, 0, []) : Ans))).2) (by simp [results, Try.results37, go_sem, ansV, S_nil, r0, r1, r2, r3, a0, a1, a2, a3]) rfl ?_
  refine mdo_fin h F0 hres1 hans1 H1 F1 ?_ _
  repeat refine Fr.setCell ?_ (fun _ => by simp) _
  exact Fr.refl _ _

set_option maxRecDepth 40000 in
set_option maxHeartbeats 4000000 in
theorem mdo_idle {w : World} {b0 p : Nat} {vn vo vl : Value} {ns : List Nd} (hb0 : b0 ≤ w.heap.size) (h : MAt w b0 p vn vo vl ns []) (a b c : Int) (s : List UInt8) (t : ByteArray) :
    Calls Try.prog 37 #[.pointer (some ⟨p, 0, none⟩), opV 5 a b c (S s) t] w (MDoPost b0 p vn vo vl (doOf ns [] 5 a b s) w) := by
  have hr : doOf ns [] 5 a b s = ((ns, ([] : List (List Nd))), ((3, 0, []) : Ans)) := by rfl
  rw [hr]
  clear hr
  unfold opV
  have F0 : Fr No w (dWorld w 5 a b c (S s) t) := dWorld_fr
  have hop : (dWorld w 5 a b c (S s) t).heap[w.heap.size]? = _ := dWorld_op
  have hres : (dWorld w 5 a b c (S s) t).heap[w.heap.size + 1]? = _ := dWorld_res
  have hans : (dWorld w 5 a b c (S s) t).heap[w.heap.size + 1 + 1]? = _ := dWorld_ans
  have hsz : (dWorld w 5 a b c (S s) t).heap.size = w.heap.size + 3 := dWorld_size
  go_enter Try.func37, Try.ntmps37
  go_upto_region 2 with fail
  change Code.wp _ _ _ _ (dWorld w 5 a b c (S s) t)
  generalize dWorld w 5 a b c (S s) t = W0 at *
  have cs0 : W0.cell? ⟨w.heap.size, 0, none⟩ = some (.int .i64 5) := cell_of 0 hop rfl
  have cs1 : W0.cell? ⟨w.heap.size, 1, none⟩ = some (.int .i64 a) := cell_of 1 hop rfl
  have cs2 : W0.cell? ⟨w.heap.size, 2, none⟩ = some (.int .i64 b) := cell_of 2 hop rfl
  have cs4 : W0.cell? ⟨w.heap.size, 4, none⟩ = some (.string (S s)) := cell_of 4 hop rfl
  have nf : ∀ j, w.heap.size ≤ j → ¬ Foot p vn vo vl j := fun j hj hk => by have := (h.foot hk).2; omega
  have hbW : b0 ≤ W0.heap.size := by omega
  go_wp2_with fail
  refine (mUndo_idle (h.no' F0)).mono ?_
  rintro e w1 ⟨rfl, H1, F1⟩
  have hans1 := F1.keep hans (nf _ (by omega))
  have hres1 := F1.keep hres (nf _ (by omega))
  have a0 := cell_of 0 hans1 rfl
  have a1 := cell_of 1 hans1 rfl
  have a2 := cell_of 2 hans1 rfl
  have a3 := cell_of 3 hans1 rfl
  have f0 := frozen_of 0 hans1
  have f1 := frozen_of 1 hans1
  have f3 := frozen_of 3 hans1
  have r0 := cell_of 0 hres1 rfl
  have r1 := cell_of 1 hres1 rfl
  have r2 := cell_of 2 hres1 rfl
  have r3 := cell_of 3 hres1 rfl
  have g0 := frozen_of 0 hres1
  have g1 := frozen_of 1 hres1
  have g2 := frozen_of 2 hres1
  have g3 := frozen_of 3 hres1
  go_wp2_with fail
  refine bodyPost_ret (v := ansV (((ns, ([] : List (List Nd))), ((3, 0, []) : Ans))).2) (by simp [results, Try.results37, go_sem, ansV, S_nil, r0, r1, r2, r3, a0, a1, a2, a3]) rfl ?_
  refine mdo_fin h F0 hres1 hans1 H1 F1 ?_ _
  repeat refine Fr.setCell ?_ (fun _ => by simp) _
  exact Fr.refl _ _

set_option maxRecDepth 40000 in
set_option maxHeartbeats 4000000 in
theorem mdo_undo {w : World} {b0 p : Nat} {vn vo vl : Value} {ns x : List Nd} {xs : List (List Nd)} (hb0 : b0 ≤ w.heap.size) (h : MAt w b0 p vn vo vl ns (x :: xs)) (ok : OkS ns (x :: xs)) (a b c : Int) (s : List UInt8) (t : ByteArray) :
    Calls Try.prog 37 #[.pointer (some ⟨p, 0, none⟩), opV 5 a b c (S s) t] w (MDoPost b0 p vn vo vl (doOf ns (x :: xs) 5 a b s) w) := by
  have hr : doOf ns (x :: xs) 5 a b s = ((x, x :: xs), ((0, 0, []) : Ans)) := by rfl
  rw [hr]
  clear hr
  unfold opV
  have F0 : Fr No w (dWorld w 5 a b c (S s) t) := dWorld_fr
  have hop : (dWorld w 5 a b c (S s) t).heap[w.heap.size]? = _ := dWorld_op
  have hres : (dWorld w 5 a b c (S s) t).heap[w.heap.size + 1]? = _ := dWorld_res
  have hans : (dWorld w 5 a b c (S s) t).heap[w.heap.size + 1 + 1]? = _ := dWorld_ans
  have hsz : (dWorld w 5 a b c (S s) t).heap.size = w.heap.size + 3 := dWorld_size
  go_enter Try.func37, Try.ntmps37
  go_upto_region 2 with fail
  change Code.wp _ _ _ _ (dWorld w 5 a b c (S s) t)
  generalize dWorld w 5 a b c (S s) t = W0 at *
  have cs0 : W0.cell? ⟨w.heap.size, 0, none⟩ = some (.int .i64 5) := cell_of 0 hop rfl
  have cs1 : W0.cell? ⟨w.heap.size, 1, none⟩ = some (.int .i64 a) := cell_of 1 hop rfl
  have cs2 : W0.cell? ⟨w.heap.size, 2, none⟩ = some (.int .i64 b) := cell_of 2 hop rfl
  have cs4 : W0.cell? ⟨w.heap.size, 4, none⟩ = some (.string (S s)) := cell_of 4 hop rfl
  have nf : ∀ j, w.heap.size ≤ j → ¬ Foot p vn vo vl j := fun j hj hk => by have := (h.foot hk).2; omega
  have hbW : b0 ≤ W0.heap.size := by omega
  go_wp2_with fail
  refine (mUndo_any hbW (h.no' F0) ok).mono ?_
  rintro e w1 ⟨rfl, H1, F1⟩
  have hans1 := F1.keep hans (nf _ (by omega))
  have hres1 := F1.keep hres (nf _ (by omega))
  have a0 := cell_of 0 hans1 rfl
  have a1 := cell_of 1 hans1 rfl
  have a2 := cell_of 2 hans1 rfl
  have a3 := cell_of 3 hans1 rfl
  have f0 := frozen_of 0 hans1
  have f1 := frozen_of 1 hans1
  have f3 := frozen_of 3 hans1
  have r0 := cell_of 0 hres1 rfl
  have r1 := cell_of 1 hres1 rfl
  have r2 := cell_of 2 hres1 rfl
  have r3 := cell_of 3 hres1 rfl
  have g0 := frozen_of 0 hres1
  have g1 := frozen_of 1 hres1
  have g2 := frozen_of 2 hres1
  have g3 := frozen_of 3 hres1
  go_wp2_with fail
  refine bodyPost_ret (v := ansV (((x, x :: xs), ((0, 0, []) : Ans))).2) (by simp [results, Try.results37, go_sem, ansV, S_nil, r0, r1, r2, r3, a0, a1, a2, a3]) rfl ?_
  refine mdo_fin h F0 hres1 hans1 H1 F1 ?_ _
  repeat refine Fr.setCell ?_ (fun _ => by simp) _
  exact Fr.refl _ _

set_option maxRecDepth 40000 in
set_option maxHeartbeats 4000000 in
theorem mdo_cut {w : World} {b0 p : Nat} {vn vo vl : Value} {ns : List Nd} {saved : List (List Nd)} (hb0 : b0 ≤ w.heap.size) (h : MAt w b0 p vn vo vl ns saved) (ok : OkS ns saved) (a b c : Int) (s : List UInt8) (t : ByteArray) :
    Calls Try.prog 37 #[.pointer (some ⟨p, 0, none⟩), opV 6 a b c (S s) t] w (MDoPost b0 p vn vo vl (doOf ns saved 6 a b s) w) := by
  have hr : doOf ns saved 6 a b s = ((ns, (cutAns saved a).2), (((cutAns saved a).1, 0, []) : Ans)) := by rfl
  rw [hr]
  clear hr
  unfold opV
  have F0 : Fr No w (dWorld w 6 a b c (S s) t) := dWorld_fr
  have hop : (dWorld w 6 a b c (S s) t).heap[w.heap.size]? = _ := dWorld_op
  have hres : (dWorld w 6 a b c (S s) t).heap[w.heap.size + 1]? = _ := dWorld_res
  have hans : (dWorld w 6 a b c (S s) t).heap[w.heap.size + 1 + 1]? = _ := dWorld_ans
  have hsz : (dWorld w 6 a b c (S s) t).heap.size = w.heap.size + 3 := dWorld_size
  go_enter Try.func37, Try.ntmps37
  go_upto_region 2 with fail
  change Code.wp _ _ _ _ (dWorld w 6 a b c (S s) t)
  generalize dWorld w 6 a b c (S s) t = W0 at *
  have cs0 : W0.cell? ⟨w.heap.size, 0, none⟩ = some (.int .i64 6) := cell_of 0 hop rfl
  have cs1 : W0.cell? ⟨w.heap.size, 1, none⟩ = some (.int .i64 a) := cell_of 1 hop rfl
  have cs2 : W0.cell? ⟨w.heap.size, 2, none⟩ = some (.int .i64 b) := cell_of 2 hop rfl
  have cs4 : W0.cell? ⟨w.heap.size, 4, none⟩ = some (.string (S s)) := cell_of 4 hop rfl
  have nf : ∀ j, w.heap.size ≤ j → ¬ Foot p vn vo vl j := fun j hj hk => by have := (h.foot hk).2; omega
  have hbW : b0 ≤ W0.heap.size := by omega
  go_wp2_with fail
  refine (mCut_any hbW (h.no' F0) ok a).mono ?_
  rintro e w1 ⟨rfl, H1, F1⟩
  have hans1 := F1.keep hans (nf _ (by omega))
  have hres1 := F1.keep hres (nf _ (by omega))
  have a0 := cell_of 0 hans1 rfl
  have a1 := cell_of 1 hans1 rfl
  have a2 := cell_of 2 hans1 rfl
  have a3 := cell_of 3 hans1 rfl
  have f0 := frozen_of 0 hans1
  have f1 := frozen_of 1 hans1
  have f3 := frozen_of 3 hans1
  have r0 := cell_of 0 hres1 rfl
  have r1 := cell_of 1 hres1 rfl
  have r2 := cell_of 2 hres1 rfl
  have r3 := cell_of 3 hres1 rfl
  have g0 := frozen_of 0 hres1
  have g1 := frozen_of 1 hres1
  have g2 := frozen_of 2 hres1
  have g3 := frozen_of 3 hres1
  go_wp2_with fail
  refine bodyPost_ret (v := ansV (((ns, (cutAns saved a).2), (((cutAns saved a).1, 0, []) : Ans))).2) (by simp [results, Try.results37, go_sem, ansV, S_nil, r0, r1, r2, r3, a0, a1, a2, a3]) rfl ?_
  refine mdo_fin h F0 hres1 hans1 H1 F1 ?_ _
  repeat refine Fr.setCell ?_ (fun _ => by simp) _
  exact Fr.refl _ _

set_option maxRecDepth 40000 in
set_option maxHeartbeats 4000000 in
theorem mdo_write {w : World} {b0 p : Nat} {vn vo vl : Value} {ns : List Nd} {saved : List (List Nd)} (hb0 : b0 ≤ w.heap.size) (h : MAt w b0 p vn vo vl ns saved) (ok : OkS ns saved) (a b c : Int) (s : List UInt8) (t : ByteArray) :
    Calls Try.prog 37 #[.pointer (some ⟨p, 0, none⟩), opV 7 a b c (S s) t] w (MDoPost b0 p vn vo vl (doOf ns saved 7 a b s) w) := by
  have hr : doOf ns saved 7 a b s = ((ns, saved), (((writeAns ns a).2, 0, (writeAns ns a).1) : Ans)) := by rfl
  rw [hr]
  clear hr
  unfold opV
  have F0 : Fr No w (dWorld w 7 a b c (S s) t) := dWorld_fr
  have hop : (dWorld w 7 a b c (S s) t).heap[w.heap.size]? = _ := dWorld_op
  have hres : (dWorld w 7 a b c (S s) t).heap[w.heap.size + 1]? = _ := dWorld_res
  have hans : (dWorld w 7 a b c (S s) t).heap[w.heap.size + 1 + 1]? = _ := dWorld_ans
  have hsz : (dWorld w 7 a b c (S s) t).heap.size = w.heap.size + 3 := dWorld_size
  go_enter Try.func37, Try.ntmps37
  go_upto_region 2 with fail
  change Code.wp _ _ _ _ (dWorld w 7 a b c (S s) t)
  generalize dWorld w 7 a b c (S s) t = W0 at *
  have cs0 : W0.cell? ⟨w.heap.size, 0, none⟩ = some (.int .i64 7) := cell_of 0 hop rfl
  have cs1 : W0.cell? ⟨w.heap.size, 1, none⟩ = some (.int .i64 a) := cell_of 1 hop rfl
  have cs2 : W0.cell? ⟨w.heap.size, 2, none⟩ = some (.int .i64 b) := cell_of 2 hop rfl
  have cs4 : W0.cell? ⟨w.heap.size, 4, none⟩ = some (.string (S s)) := cell_of 4 hop rfl
  have nf : ∀ j, w.heap.size ≤ j → ¬ Foot p vn vo vl j := fun j hj hk => by have := (h.foot hk).2; omega
  have hbW : b0 ≤ W0.heap.size := by omega
  go_wp2_with fail
  refine (mWrite_any (h.no' F0) ok a).mono ?_
  rintro e w1 ⟨rfl, FN⟩
  have H1 : ModAt w1 b0 p ns saved := ⟨_, _, _, h.no' (F0.trans FN (fun _ _ h => h))⟩
  have F1 := FN.mono (S' := Foot p vn vo vl) (fun _ _ e => e.elim)
  have hans1 := F1.keep hans (nf _ (by omega))
  have hres1 := F1.keep hres (nf _ (by omega))
  have a0 := cell_of 0 hans1 rfl
  have a1 := cell_of 1 hans1 rfl
  have a2 := cell_of 2 hans1 rfl
  have a3 := cell_of 3 hans1 rfl
  have f0 := frozen_of 0 hans1
  have f1 := frozen_of 1 hans1
  have f3 := frozen_of 3 hans1
  have r0 := cell_of 0 hres1 rfl
  have r1 := cell_of 1 hres1 rfl
  have r2 := cell_of 2 hres1 rfl
  have r3 := cell_of 3 hres1 rfl
  have g0 := frozen_of 0 hres1
  have g1 := frozen_of 1 hres1
  have g2 := frozen_of 2 hres1
  have g3 := frozen_of 3 hres1
  go_wp2_with fail
  refine bodyPost_ret (v := ansV (((ns, saved), (((writeAns ns a).2, 0, (writeAns ns a).1) : Ans))).2) (by simp [results, Try.results37, go_sem, ansV, S_nil, r0, r1, r2, r3, a0, a1, a2, a3]) rfl ?_
  refine mdo_fin h F0 hres1 hans1 H1 F1 ?_ _
  repeat refine Fr.setCell ?_ (fun _ => by simp) _
  exact Fr.refl _ _

set_option maxRecDepth 40000 in
set_option maxHeartbeats 4000000 in
theorem mdo_deref {w : World} {b0 p : Nat} {vn vo vl : Value} {ns : List Nd} {saved : List (List Nd)} (hb0 : b0 ≤ w.heap.size) (h : MAt w b0 p vn vo vl ns saved) (ok : OkS ns saved) (a b c : Int) (s : List UInt8) (t : ByteArray) :
    Calls Try.prog 37 #[.pointer (some ⟨p, 0, none⟩), opV 8 a b c (S s) t] w (MDoPost b0 p vn vo vl (doOf ns saved 8 a b s) w) := by
  have hr : doOf ns saved 8 a b s = ((ns, saved), ((0, derefAns ns a, []) : Ans)) := by rfl
  rw [hr]
  clear hr
  unfold opV
  have F0 : Fr No w (dWorld w 8 a b c (S s) t) := dWorld_fr
  have hop : (dWorld w 8 a b c (S s) t).heap[w.heap.size]? = _ := dWorld_op
  have hres : (dWorld w 8 a b c (S s) t).heap[w.heap.size + 1]? = _ := dWorld_res
  have hans : (dWorld w 8 a b c (S s) t).heap[w.heap.size + 1 + 1]? = _ := dWorld_ans
  have hsz : (dWorld w 8 a b c (S s) t).heap.size = w.heap.size + 3 := dWorld_size
  go_enter Try.func37, Try.ntmps37
  go_upto_region 2 with fail
  change Code.wp _ _ _ _ (dWorld w 8 a b c (S s) t)
  generalize dWorld w 8 a b c (S s) t = W0 at *
  have cs0 : W0.cell? ⟨w.heap.size, 0, none⟩ = some (.int .i64 8) := cell_of 0 hop rfl
  have cs1 : W0.cell? ⟨w.heap.size, 1, none⟩ = some (.int .i64 a) := cell_of 1 hop rfl
  have cs2 : W0.cell? ⟨w.heap.size, 2, none⟩ = some (.int .i64 b) := cell_of 2 hop rfl
  have cs4 : W0.cell? ⟨w.heap.size, 4, none⟩ = some (.string (S s)) := cell_of 4 hop rfl
  have nf : ∀ j, w.heap.size ≤ j → ¬ Foot p vn vo vl j := fun j hj hk => by have := (h.foot hk).2; omega
  have hbW : b0 ≤ W0.heap.size := by omega
  go_wp2_with fail
  refine (mDeref_any (h.no' F0) ok.wf ok.small a).mono ?_
  rintro e w1 ⟨rfl, rfl⟩
  have H1 : ModAt w1 b0 p ns saved := ⟨_, _, _, h.no' F0⟩
  have F1 : Fr (Foot p vn vo vl) w1 w1 := Fr.refl _ _
  have hans1 := F1.keep hans (nf _ (by omega))
  have hres1 := F1.keep hres (nf _ (by omega))
  have a0 := cell_of 0 hans1 rfl
  have a1 := cell_of 1 hans1 rfl
  have a2 := cell_of 2 hans1 rfl
  have a3 := cell_of 3 hans1 rfl
  have f0 := frozen_of 0 hans1
  have f1 := frozen_of 1 hans1
  have f3 := frozen_of 3 hans1
  have r0 := cell_of 0 hres1 rfl
  have r1 := cell_of 1 hres1 rfl
  have r2 := cell_of 2 hres1 rfl
  have r3 := cell_of 3 hres1 rfl
  have g0 := frozen_of 0 hres1
  have g1 := frozen_of 1 hres1
  have g2 := frozen_of 2 hres1
  have g3 := frozen_of 3 hres1
  go_wp2_with fail
  refine bodyPost_ret (v := ansV (((ns, saved), ((0, derefAns ns a, []) : Ans))).2) (by simp [results, Try.results37, go_sem, ansV, S_nil, r0, r1, r2, r3, a0, a1, a2, a3]) rfl ?_
  refine mdo_fin h F0 hres1 hans1 H1 F1 ?_ _
  repeat refine Fr.setCell ?_ (fun _ => by simp) _
  exact Fr.refl _ _

set_option maxRecDepth 40000 in
set_option maxHeartbeats 4000000 in
theorem mdo_head {w : World} {b0 p : Nat} {vn vo vl : Value} {ns : List Nd} {saved : List (List Nd)} (hb0 : b0 ≤ w.heap.size) (h : MAt w b0 p vn vo vl ns saved) (ok : OkS ns saved) (a b c : Int) (s : List UInt8) (t : ByteArray) :
    Calls Try.prog 37 #[.pointer (some ⟨p, 0, none⟩), opV 9 a b c (S s) t] w (MDoPost b0 p vn vo vl (doOf ns saved 9 a b s) w) := by
  have hr : doOf ns saved 9 a b s = ((ns, saved), ((0, 0, headAns ns a) : Ans)) := by rfl
  rw [hr]
  clear hr
  unfold opV
  have F0 : Fr No w (dWorld w 9 a b c (S s) t) := dWorld_fr
  have hop : (dWorld w 9 a b c (S s) t).heap[w.heap.size]? = _ := dWorld_op
  have hres : (dWorld w 9 a b c (S s) t).heap[w.heap.size + 1]? = _ := dWorld_res
  have hans : (dWorld w 9 a b c (S s) t).heap[w.heap.size + 1 + 1]? = _ := dWorld_ans
  have hsz : (dWorld w 9 a b c (S s) t).heap.size = w.heap.size + 3 := dWorld_size
  go_enter Try.func37, Try.ntmps37
  go_upto_region 2 with fail
  change Code.wp _ _ _ _ (dWorld w 9 a b c (S s) t)
  generalize dWorld w 9 a b c (S s) t = W0 at *
  have cs0 : W0.cell? ⟨w.heap.size, 0, none⟩ = some (.int .i64 9) := cell_of 0 hop rfl
  have cs1 : W0.cell? ⟨w.heap.size, 1, none⟩ = some (.int .i64 a) := cell_of 1 hop rfl
  have cs2 : W0.cell? ⟨w.heap.size, 2, none⟩ = some (.int .i64 b) := cell_of 2 hop rfl
  have cs4 : W0.cell? ⟨w.heap.size, 4, none⟩ = some (.string (S s)) := cell_of 4 hop rfl
  have nf : ∀ j, w.heap.size ≤ j → ¬ Foot p vn vo vl j := fun j hj hk => by have := (h.foot hk).2; omega
  have hbW : b0 ≤ W0.heap.size := by omega
  go_wp2_with fail
  refine (mHead_any (h.no' F0) ok.wf ok.small a).mono ?_
  rintro e w1 ⟨rfl, rfl⟩
  have H1 : ModAt w1 b0 p ns saved := ⟨_, _, _, h.no' F0⟩
  have F1 : Fr (Foot p vn vo vl) w1 w1 := Fr.refl _ _
  have hans1 := F1.keep hans (nf _ (by omega))
  have hres1 := F1.keep hres (nf _ (by omega))
  have a0 := cell_of 0 hans1 rfl
  have a1 := cell_of 1 hans1 rfl
  have a2 := cell_of 2 hans1 rfl
  have a3 := cell_of 3 hans1 rfl
  have f0 := frozen_of 0 hans1
  have f1 := frozen_of 1 hans1
  have f3 := frozen_of 3 hans1
  have r0 := cell_of 0 hres1 rfl
  have r1 := cell_of 1 hres1 rfl
  have r2 := cell_of 2 hres1 rfl
  have r3 := cell_of 3 hres1 rfl
  have g0 := frozen_of 0 hres1
  have g1 := frozen_of 1 hres1
  have g2 := frozen_of 2 hres1
  have g3 := frozen_of 3 hres1
  go_wp2_with fail
  refine bodyPost_ret (v := ansV (((ns, saved), ((0, 0, headAns ns a) : Ans))).2) (by simp [results, Try.results37, go_sem, ansV, S_nil, r0, r1, r2, r3, a0, a1, a2, a3]) rfl ?_
  refine mdo_fin h F0 hres1 hans1 H1 F1 ?_ _
  repeat refine Fr.setCell ?_ (fun _ => by simp) _
  exact Fr.refl _ _

set_option maxRecDepth 40000 in
set_option maxHeartbeats 4000000 in
theorem mdo_arg {w : World} {b0 p : Nat} {vn vo vl : Value} {ns : List Nd} {saved : List (List Nd)} (hb0 : b0 ≤ w.heap.size) (h : MAt w b0 p vn vo vl ns saved) (ok : OkS ns saved) (a b c : Int) (s : List UInt8) (t : ByteArray) :
    Calls Try.prog 37 #[.pointer (some ⟨p, 0, none⟩), opV 10 a b c (S s) t] w (MDoPost b0 p vn vo vl (doOf ns saved 10 a b s) w) := by
  have hr : doOf ns saved 10 a b s = ((ns, saved), ((0, argAns ns a b, []) : Ans)) := by rfl
  rw [hr]
  clear hr
  unfold opV
  have F0 : Fr No w (dWorld w 10 a b c (S s) t) := dWorld_fr
  have hop : (dWorld w 10 a b c (S s) t).heap[w.heap.size]? = _ := dWorld_op
  have hres : (dWorld w 10 a b c (S s) t).heap[w.heap.size + 1]? = _ := dWorld_res
  have hans : (dWorld w 10 a b c (S s) t).heap[w.heap.size + 1 + 1]? = _ := dWorld_ans
  have hsz : (dWorld w 10 a b c (S s) t).heap.size = w.heap.size + 3 := dWorld_size
  go_enter Try.func37, Try.ntmps37
  go_upto_region 2 with fail
  change Code.wp _ _ _ _ (dWorld w 10 a b c (S s) t)
  generalize dWorld w 10 a b c (S s) t = W0 at *
  have cs0 : W0.cell? ⟨w.heap.size, 0, none⟩ = some (.int .i64 10) := cell_of 0 hop rfl
  have cs1 : W0.cell? ⟨w.heap.size, 1, none⟩ = some (.int .i64 a) := cell_of 1 hop rfl
  have cs2 : W0.cell? ⟨w.heap.size, 2, none⟩ = some (.int .i64 b) := cell_of 2 hop rfl
  have cs4 : W0.cell? ⟨w.heap.size, 4, none⟩ = some (.string (S s)) := cell_of 4 hop rfl
  have nf : ∀ j, w.heap.size ≤ j → ¬ Foot p vn vo vl j := fun j hj hk => by have := (h.foot hk).2; omega
  have hbW : b0 ≤ W0.heap.size := by omega
  go_wp2_with fail
  refine (mArg_any (h.no' F0) ok.wf ok.small a b).mono ?_
  rintro e w1 ⟨rfl, rfl⟩
  have H1 : ModAt w1 b0 p ns saved := ⟨_, _, _, h.no' F0⟩
  have F1 : Fr (Foot p vn vo vl) w1 w1 := Fr.refl _ _
  have hans1 := F1.keep hans (nf _ (by omega))
  have hres1 := F1.keep hres (nf _ (by omega))
  have a0 := cell_of 0 hans1 rfl
  have a1 := cell_of 1 hans1 rfl
  have a2 := cell_of 2 hans1 rfl
  have a3 := cell_of 3 hans1 rfl
  have f0 := frozen_of 0 hans1
  have f1 := frozen_of 1 hans1
  have f3 := frozen_of 3 hans1
  have r0 := cell_of 0 hres1 rfl
  have r1 := cell_of 1 hres1 rfl
  have r2 := cell_of 2 hres1 rfl
  have r3 := cell_of 3 hres1 rfl
  have g0 := frozen_of 0 hres1
  have g1 := frozen_of 1 hres1
  have g2 := frozen_of 2 hres1
  have g3 := frozen_of 3 hres1
  go_wp2_with fail
  refine bodyPost_ret (v := ansV (((ns, saved), ((0, argAns ns a b, []) : Ans))).2) (by simp [results, Try.results37, go_sem, ansV, S_nil, r0, r1, r2, r3, a0, a1, a2, a3]) rfl ?_
  refine mdo_fin h F0 hres1 hans1 H1 F1 ?_ _
  repeat refine Fr.setCell ?_ (fun _ => by simp) _
  exact Fr.refl _ _

set_option maxRecDepth 40000 in
set_option maxHeartbeats 4000000 in
theorem mdo_top {w : World} {b0 p : Nat} {vn vo vl : Value} {ns : List Nd} {saved : List (List Nd)} (hb0 : b0 ≤ w.heap.size) (h : MAt w b0 p vn vo vl ns saved) (ok : OkS ns saved) (a b c : Int) (s : List UInt8) (t : ByteArray) :
    Calls Try.prog 37 #[.pointer (some ⟨p, 0, none⟩), opV 11 a b c (S s) t] w (MDoPost b0 p vn vo vl (doOf ns saved 11 a b s) w) := by
  have hr : doOf ns saved 11 a b s = ((ns, saved), ((0, (ns.length : Int), []) : Ans)) := by rfl
  rw [hr]
  clear hr
  unfold opV
  have F0 : Fr No w (dWorld w 11 a b c (S s) t) := dWorld_fr
  have hop : (dWorld w 11 a b c (S s) t).heap[w.heap.size]? = _ := dWorld_op
  have hres : (dWorld w 11 a b c (S s) t).heap[w.heap.size + 1]? = _ := dWorld_res
  have hans : (dWorld w 11 a b c (S s) t).heap[w.heap.size + 1 + 1]? = _ := dWorld_ans
  have hsz : (dWorld w 11 a b c (S s) t).heap.size = w.heap.size + 3 := dWorld_size
  go_enter Try.func37, Try.ntmps37
  go_upto_region 2 with fail
  change Code.wp _ _ _ _ (dWorld w 11 a b c (S s) t)
  generalize dWorld w 11 a b c (S s) t = W0 at *
  have cs0 : W0.cell? ⟨w.heap.size, 0, none⟩ = some (.int .i64 11) := cell_of 0 hop rfl
  have cs1 : W0.cell? ⟨w.heap.size, 1, none⟩ = some (.int .i64 a) := cell_of 1 hop rfl
  have cs2 : W0.cell? ⟨w.heap.size, 2, none⟩ = some (.int .i64 b) := cell_of 2 hop rfl
  have cs4 : W0.cell? ⟨w.heap.size, 4, none⟩ = some (.string (S s)) := cell_of 4 hop rfl
  have nf : ∀ j, w.heap.size ≤ j → ¬ Foot p vn vo vl j := fun j hj hk => by have := (h.foot hk).2; omega
  have hbW : b0 ≤ W0.heap.size := by omega
  go_wp2_with fail
  refine (mTop_any (h.no' F0)).mono ?_
  rintro e w1 ⟨rfl, rfl⟩
  have H1 : ModAt w1 b0 p ns saved := ⟨_, _, _, h.no' F0⟩
  have F1 : Fr (Foot p vn vo vl) w1 w1 := Fr.refl _ _
  have hans1 := F1.keep hans (nf _ (by omega))
  have hres1 := F1.keep hres (nf _ (by omega))
  have a0 := cell_of 0 hans1 rfl
  have a1 := cell_of 1 hans1 rfl
  have a2 := cell_of 2 hans1 rfl
  have a3 := cell_of 3 hans1 rfl
  have f0 := frozen_of 0 hans1
  have f1 := frozen_of 1 hans1
  have f3 := frozen_of 3 hans1
  have r0 := cell_of 0 hres1 rfl
  have r1 := cell_of 1 hres1 rfl
  have r2 := cell_of 2 hres1 rfl
  have r3 := cell_of 3 hres1 rfl
  have g0 := frozen_of 0 hres1
  have g1 := frozen_of 1 hres1
  have g2 := frozen_of 2 hres1
  have g3 := frozen_of 3 hres1
  go_wp2_with fail
  refine bodyPost_ret (v := ansV (((ns, saved), ((0, (ns.length : Int), []) : Ans))).2) (by simp [results, Try.results37, go_sem, ansV, S_nil, r0, r1, r2, r3, a0, a1, a2, a3]) rfl ?_
  refine mdo_fin h F0 hres1 hans1 H1 F1 ?_ _
  repeat refine Fr.setCell ?_ (fun _ => by simp) _
  exact Fr.refl _ _

set_option maxRecDepth 40000 in
set_option maxHeartbeats 4000000 in
theorem mdo_marks {w : World} {b0 p : Nat} {vn vo vl : Value} {ns : List Nd} {saved : List (List Nd)} (hb0 : b0 ≤ w.heap.size) (h : MAt w b0 p vn vo vl ns saved) (ok : OkS ns saved) (a b c : Int) (s : List UInt8) (t : ByteArray) :
    Calls Try.prog 37 #[.pointer (some ⟨p, 0, none⟩), opV 12 a b c (S s) t] w (MDoPost b0 p vn vo vl (doOf ns saved 12 a b s) w) := by
  have hr : doOf ns saved 12 a b s = ((ns, saved), ((0, (saved.length : Int), []) : Ans)) := by rfl
  rw [hr]
  clear hr
  unfold opV
  have F0 : Fr No w (dWorld w 12 a b c (S s) t) := dWorld_fr
  have hop : (dWorld w 12 a b c (S s) t).heap[w.heap.size]? = _ := dWorld_op
  have hres : (dWorld w 12 a b c (S s) t).heap[w.heap.size + 1]? = _ := dWorld_res
  have hans : (dWorld w 12 a b c (S s) t).heap[w.heap.size + 1 + 1]? = _ := dWorld_ans
  have hsz : (dWorld w 12 a b c (S s) t).heap.size = w.heap.size + 3 := dWorld_size
  go_enter Try.func37, Try.ntmps37
  go_upto_region 2 with fail
  change Code.wp _ _ _ _ (dWorld w 12 a b c (S s) t)
  generalize dWorld w 12 a b c (S s) t = W0 at *
  have cs0 : W0.cell? ⟨w.heap.size, 0, none⟩ = some (.int .i64 12) := cell_of 0 hop rfl
  have cs1 : W0.cell? ⟨w.heap.size, 1, none⟩ = some (.int .i64 a) := cell_of 1 hop rfl
  have cs2 : W0.cell? ⟨w.heap.size, 2, none⟩ = some (.int .i64 b) := cell_of 2 hop rfl
  have cs4 : W0.cell? ⟨w.heap.size, 4, none⟩ = some (.string (S s)) := cell_of 4 hop rfl
  have nf : ∀ j, w.heap.size ≤ j → ¬ Foot p vn vo vl j := fun j hj hk => by have := (h.foot hk).2; omega
  have hbW : b0 ≤ W0.heap.size := by omega
  go_wp2_with fail
  refine (mMarks_any (h.no' F0)).mono ?_
  rintro e w1 ⟨rfl, rfl⟩
  have H1 : ModAt w1 b0 p ns saved := ⟨_, _, _, h.no' F0⟩
  have F1 : Fr (Foot p vn vo vl) w1 w1 := Fr.refl _ _
  have hans1 := F1.keep hans (nf _ (by omega))
  have hres1 := F1.keep hres (nf _ (by omega))
  have a0 := cell_of 0 hans1 rfl
  have a1 := cell_of 1 hans1 rfl
  have a2 := cell_of 2 hans1 rfl
  have a3 := cell_of 3 hans1 rfl
  have f0 := frozen_of 0 hans1
  have f1 := frozen_of 1 hans1
  have f3 := frozen_of 3 hans1
  have r0 := cell_of 0 hres1 rfl
  have r1 := cell_of 1 hres1 rfl
  have r2 := cell_of 2 hres1 rfl
  have r3 := cell_of 3 hres1 rfl
  have g0 := frozen_of 0 hres1
  have g1 := frozen_of 1 hres1
  have g2 := frozen_of 2 hres1
  have g3 := frozen_of 3 hres1
  go_wp2_with fail
  refine bodyPost_ret (v := ansV (((ns, saved), ((0, (saved.length : Int), []) : Ans))).2) (by simp [results, Try.results37, go_sem, ansV, S_nil, r0, r1, r2, r3, a0, a1, a2, a3]) rfl ?_
  refine mdo_fin h F0 hres1 hans1 H1 F1 ?_ _
  repeat refine Fr.setCell ?_ (fun _ => by simp) _
  exact Fr.refl _ _

set_option maxRecDepth 40000 in
set_option maxHeartbeats 4000000 in
theorem mdo_show {w : World} {b0 p : Nat} {vn vo vl : Value} {ns : List Nd} {saved : List (List Nd)} (hb0 : b0 ≤ w.heap.size) (h : MAt w b0 p vn vo vl ns saved) (ok : OkS ns saved) (a b c : Int) (s : List UInt8) (t : ByteArray) :
    Calls Try.prog 37 #[.pointer (some ⟨p, 0, none⟩), opV 13 a b c (S s) t] w (MDoPost b0 p vn vo vl (doOf ns saved 13 a b s) w) := by
  have hr : doOf ns saved 13 a b s = ((ns, saved), ((0, 0, showL ns saved) : Ans)) := by rfl
  rw [hr]
  clear hr
  unfold opV
  have F0 : Fr No w (dWorld w 13 a b c (S s) t) := dWorld_fr
  have hop : (dWorld w 13 a b c (S s) t).heap[w.heap.size]? = _ := dWorld_op
  have hres : (dWorld w 13 a b c (S s) t).heap[w.heap.size + 1]? = _ := dWorld_res
  have hans : (dWorld w 13 a b c (S s) t).heap[w.heap.size + 1 + 1]? = _ := dWorld_ans
  have hsz : (dWorld w 13 a b c (S s) t).heap.size = w.heap.size + 3 := dWorld_size
  go_enter Try.func37, Try.ntmps37
  go_upto_region 2 with fail
  change Code.wp _ _ _ _ (dWorld w 13 a b c (S s) t)
  generalize dWorld w 13 a b c (S s) t = W0 at *
  have cs0 : W0.cell? ⟨w.heap.size, 0, none⟩ = some (.int .i64 13) := cell_of 0 hop rfl
  have cs1 : W0.cell? ⟨w.heap.size, 1, none⟩ = some (.int .i64 a) := cell_of 1 hop rfl
  have cs2 : W0.cell? ⟨w.heap.size, 2, none⟩ = some (.int .i64 b) := cell_of 2 hop rfl
  have cs4 : W0.cell? ⟨w.heap.size, 4, none⟩ = some (.string (S s)) := cell_of 4 hop rfl
  have nf : ∀ j, w.heap.size ≤ j → ¬ Foot p vn vo vl j := fun j hj hk => by have := (h.foot hk).2; omega
  have hbW : b0 ≤ W0.heap.size := by omega
  go_wp2_with fail
  refine (mShow_any (h.no' F0) ok).mono ?_
  rintro e w1 ⟨rfl, FN⟩
  have H1 : ModAt w1 b0 p ns saved := ⟨_, _, _, h.no' (F0.trans FN (fun _ _ h => h))⟩
  have F1 := FN.mono (S' := Foot p vn vo vl) (fun _ _ e => e.elim)
  have hans1 := F1.keep hans (nf _ (by omega))
  have hres1 := F1.keep hres (nf _ (by omega))
  have a0 := cell_of 0 hans1 rfl
  have a1 := cell_of 1 hans1 rfl
  have a2 := cell_of 2 hans1 rfl
  have a3 := cell_of 3 hans1 rfl
  have f0 := frozen_of 0 hans1
  have f1 := frozen_of 1 hans1
  have f3 := frozen_of 3 hans1
  have r0 := cell_of 0 hres1 rfl
  have r1 := cell_of 1 hres1 rfl
  have r2 := cell_of 2 hres1 rfl
  have r3 := cell_of 3 hres1 rfl
  have g0 := frozen_of 0 hres1
  have g1 := frozen_of 1 hres1
  have g2 := frozen_of 2 hres1
  have g3 := frozen_of 3 hres1
  go_wp2_with fail
  refine bodyPost_ret (v := ansV (((ns, saved), ((0, 0, showL ns saved) : Ans))).2) (by simp [results, Try.results37, go_sem, ansV, S_nil, r0, r1, r2, r3, a0, a1, a2, a3]) rfl ?_
  refine mdo_fin h F0 hres1 hans1 H1 F1 ?_ _
  repeat refine Fr.setCell ?_ (fun _ => by simp) _
  exact Fr.refl _ _

set_option maxRecDepth 40000 in
set_option maxHeartbeats 4000000 in
theorem mdo_other {w : World} {b0 p : Nat} {vn vo vl : Value} {ns : List Nd} {saved : List (List Nd)} (hb0 : b0 ≤ w.heap.size) (h : MAt w b0 p vn vo vl ns saved) (ok : OkS ns saved) (k : Int) (a b c : Int) (s : List UInt8) (t : ByteArray) (hk1 : k ≠ 1) (hk2 : k ≠ 2) (hk3 : k ≠ 3) (hk4 : k ≠ 4) (hk5 : k ≠ 5) (hk6 : k ≠ 6) (hk7 : k ≠ 7) (hk8 : k ≠ 8) (hk9 : k ≠ 9) (hk10 : k ≠ 10) (hk11 : k ≠ 11) (hk12 : k ≠ 12) (hk13 : k ≠ 13) :
    Calls Try.prog 37 #[.pointer (some ⟨p, 0, none⟩), opV k a b c (S s) t] w (MDoPost b0 p vn vo vl (doOf ns saved k a b s) w) := by
  have hr : doOf ns saved k a b s = ((ns, saved), ((0, 0, []) : Ans)) := by unfold doOf; simp [hk1, hk2, hk3, hk4, hk5, hk6, hk7, hk8, hk9, hk10, hk11, hk12, hk13]
  rw [hr]
  clear hr
  unfold opV
  have F0 : Fr No w (dWorld w k a b c (S s) t) := dWorld_fr
  have hop : (dWorld w k a b c (S s) t).heap[w.heap.size]? = _ := dWorld_op
  have hres : (dWorld w k a b c (S s) t).heap[w.heap.size + 1]? = _ := dWorld_res
  have hans : (dWorld w k a b c (S s) t).heap[w.heap.size + 1 + 1]? = _ := dWorld_ans
  have hsz : (dWorld w k a b c (S s) t).heap.size = w.heap.size + 3 := dWorld_size
  go_enter Try.func37, Try.ntmps37
  go_upto_region 2 with fail
  change Code.wp _ _ _ _ (dWorld w k a b c (S s) t)
  generalize dWorld w k a b c (S s) t = W0 at *
  have cs0 : W0.cell? ⟨w.heap.size, 0, none⟩ = some (.int .i64 k) := cell_of 0 hop rfl
  have cs1 : W0.cell? ⟨w.heap.size, 1, none⟩ = some (.int .i64 a) := cell_of 1 hop rfl
  have cs2 : W0.cell? ⟨w.heap.size, 2, none⟩ = some (.int .i64 b) := cell_of 2 hop rfl
  have cs4 : W0.cell? ⟨w.heap.size, 4, none⟩ = some (.string (S s)) := cell_of 4 hop rfl
  have nf : ∀ j, w.heap.size ≤ j → ¬ Foot p vn vo vl j := fun j hj hk => by have := (h.foot hk).2; omega
  have hbW : b0 ≤ W0.heap.size := by omega
  obtain ⟨w1, rfl⟩ : ∃ w1, w1 = W0 := ⟨W0, rfl⟩
  have H1 : ModAt w1 b0 p ns saved := ⟨_, _, _, h.no' F0⟩
  have F1 : Fr (Foot p vn vo vl) w1 w1 := Fr.refl _ _
  have hans1 := F1.keep hans (nf _ (by omega))
  have hres1 := F1.keep hres (nf _ (by omega))
  have a0 := cell_of 0 hans1 rfl
  have a1 := cell_of 1 hans1 rfl
  have a2 := cell_of 2 hans1 rfl
  have a3 := cell_of 3 hans1 rfl
  have f0 := frozen_of 0 hans1
  have f1 := frozen_of 1 hans1
  have f3 := frozen_of 3 hans1
  have r0 := cell_of 0 hres1 rfl
  have r1 := cell_of 1 hres1 rfl
  have r2 := cell_of 2 hres1 rfl
  have r3 := cell_of 3 hres1 rfl
  have g0 := frozen_of 0 hres1
  have g1 := frozen_of 1 hres1
  have g2 := frozen_of 2 hres1
  have g3 := frozen_of 3 hres1
  go_wp2_with fail
  refine bodyPost_ret (v := ansV (((ns, saved), ((0, 0, []) : Ans))).2) (by simp [results, Try.results37, go_sem, ansV, S_nil, r0, r1, r2, r3, a0, a1, a2, a3]) rfl ?_
  refine mdo_fin h F0 hres1 hans1 H1 F1 ?_ _
  repeat refine Fr.setCell ?_ (fun _ => by simp) _
  exact Fr.refl _ _

theorem DoM_any {w : World} {b0 p : Nat} {vn vo vl : Value} {ns : List Nd} {saved : List (List Nd)} (hb0 : b0 ≤ w.heap.size) (h : MAt w b0 p vn vo vl ns saved) (ok : OkS ns saved) (k a b c : Int) (s t : ByteArray) :
    Calls Try.prog 37 #[.pointer (some ⟨p, 0, none⟩), opV k a b c s t] w (MDoPost b0 p vn vo vl (doOf ns saved k a b s.data.toList) w) := by
  rw [← S_of s]
  generalize s.data.toList = l
  rw [S_list]
  by_cases h1 : k = 1
  · subst h1; exact mdo_reset hb0 h ok a b c l t
  by_cases h2 : k = 2
  · subst h2; exact mdo_load hb0 h ok a b c l t
  by_cases h3 : k = 3
  · subst h3; exact mdo_unify hb0 h ok a b c l t
  by_cases h4 : k = 4
  · subst h4
    by_cases hl : saved.length < 26
    · exact mdo_push hb0 h ok hl a b c l t
    · exact mdo_full hb0 h ok (by omega) a b c l t
  by_cases h5 : k = 5
  · subst h5
    cases saved with
    | nil => exact mdo_idle hb0 h a b c l t
    | cons x xs => exact mdo_undo hb0 h ok a b c l t
  by_cases h6 : k = 6
  · subst h6; exact mdo_cut hb0 h ok a b c l t
  by_cases h7 : k = 7
  · subst h7; exact mdo_write hb0 h ok a b c l t
  by_cases h8 : k = 8
  · subst h8; exact mdo_deref hb0 h ok a b c l t
  by_cases h9 : k = 9
  · subst h9; exact mdo_head hb0 h ok a b c l t
  by_cases h10 : k = 10
  · subst h10; exact mdo_arg hb0 h ok a b c l t
  by_cases h11 : k = 11
  · subst h11; exact mdo_top hb0 h ok a b c l t
  by_cases h12 : k = 12
  · subst h12; exact mdo_marks hb0 h ok a b c l t
  by_cases h13 : k = 13
  · subst h13; exact mdo_show hb0 h ok a b c l t
  exact mdo_other hb0 h ok k a b c l t h1 h2 h3 h4 h5 h6 h7 h8 h9 h10 h11 h12 h13
end Go.Proofs.Qxb6500301a
