import Derived.Test.Qxb6500302aVet4
namespace Go.Proofs.Qxb6500302a
open Go.RowKit
set_option linter.unusedSimpArgs false
set_option linter.unusedVariables false

theorem ta72 (x : Value) (w : World) : (Instr.typeAssert (.iface 72 x) 20 72 true).run Try.prog w = .ok (.tuple #[x, .bool true]) w := by kernel_rfl
attribute [local go_sem] ta72 run_makeFunc

theorem catch_idle (p q : Addr) (w : World) :
    CallsD Try.prog 36 #[.pointer (some p), .pointer (some q)] .returning w fun e u' w' => e = .returned (.tuple #[]) ∧ u' = .returning ∧ w' = w := by
  refine callsD_of_wpS Try.func36 rfl fun c₀ cs hu => ?_
  apply wpS_seq
  apply wpS_region
  simp [wpOpsS, go_sem, recoverD, hu, Try.ntmps36, Exit.thenS]
  apply wpS_seq
  apply wpS_seq
  apply wpS_region
  simp [wpOpsS, go_sem, Exit.thenS]
  refine wpS_cond (t := true) (by simp [Act.eval, Array.replicate]) ?_
  simp only [if_true]
  refine wpS_of_wp (wp_ret ?_)
  cases c₀
  simp_all [bodyPostS, results, Try.results36, Exit.thenS]

theorem catch_panicking (p q : Nat) (b : Nat) (older : List PanicEntry) (vc ve : Value) (w : World) (hp : w.heap[p]? = some (.cells #[vc] 53)) (hq : w.heap[q]? = some (.cells #[ve] 55)) :
    CallsD Try.prog 36 #[.pointer (some ⟨p, 0, none⟩), .pointer (some ⟨q, 0, none⟩)] (.panicking ({ v := .iface 72 (.pointer (some ⟨b, 0, none⟩)), recovered := false } :: older)) w fun e u' w' =>
      e = .returned (.tuple #[]) ∧ u' = .panicking ({ v := .iface 72 (.pointer (some ⟨b, 0, none⟩)), recovered := true } :: older) ∧
        w' = (w.setCell ⟨p, 0, none⟩ (.pointer none)).setCell ⟨q, 0, none⟩ (.iface 72 (.pointer (some ⟨b, 0, none⟩))) := by
  have c0 : w.cell? ⟨p, 0, none⟩ = some vc := cell_of 0 hp rfl
  have f0 : w.frozen? ⟨p, 0, none⟩ = false := frozen_of 0 hp
  have hne : q ≠ p := by intro e; subst e; rw [hp] at hq; simp at hq
  have hq' : (w.setCell ⟨p, 0, none⟩ (.pointer none)).heap[q]? = some (.cells #[ve] 55) := by rw [heap_setCell_other _ hne]; exact hq
  have c1 : (w.setCell ⟨p, 0, none⟩ (.pointer none)).cell? ⟨q, 0, none⟩ = some ve := cell_of 0 hq' rfl
  have f1 : (w.setCell ⟨p, 0, none⟩ (.pointer none)).frozen? ⟨q, 0, none⟩ = false := frozen_of 0 hq'
  have f1' : w.frozen? ⟨q, 0, none⟩ = false := frozen_of 0 hq
  refine callsD_of_wpS Try.func36 rfl fun c₀ cs hu => ?_
  apply wpS_seq
  apply wpS_region
  simp [wpOpsS, go_sem, recoverD, hu, Try.ntmps36, Exit.thenS]
  apply wpS_seq
  apply wpS_seq
  apply wpS_region
  simp [wpOpsS, go_sem, Exit.thenS]
  refine wpS_cond (t := false) (by simp [Act.eval, Array.replicate]) ?_
  simp only [Bool.false_eq_true, if_false]
  refine wpS_of_wp (wp_skip ?_)
  simp only [Exit.thenS]
  apply wpS_seq
  apply wpS_region
  simp [wpOpsS, go_sem, Exit.thenS]
  apply wpS_seq
  apply wpS_seq
  apply wpS_region
  simp [wpOpsS, go_sem, Exit.thenS]
  refine wpS_cond (t := false) (by simp [Act.eval, Array.replicate]) ?_
  simp only [Bool.false_eq_true, if_false]
  refine wpS_of_wp (wp_skip ?_)
  simp only [Exit.thenS]
  apply wpS_region
  simp [wpOpsS, go_sem, c0, f0, c1, f1, f1', bodyPostS, results, Try.results36]
end Go.Proofs.Qxb6500302a
