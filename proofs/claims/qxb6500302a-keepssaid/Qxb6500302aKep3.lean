import Derived.Test.Qxb6500302aKep2
namespace Go.Proofs.Qxb6500302a
open Go.RowKit
set_option linter.unusedSimpArgs false
set_option linter.unusedVariables false
attribute [local go_sem ↓] Go.wp_at_zero Go.wp_at_succ

theorem keeps_any {w : World} {a : Option Addr} {cap : Nat} {ops : List Step} (hsc : ScriptAt w a ops) (hl : ops.length ≤ maxLen) :
    Calls Try.prog 3 #[.slice a ops.length cap] w fun e w' => e = .returned (.bool true) ∧ Fr No w w' := by
  have H7 : Hid (Calls Try.prog 7 #[.slice a ops.length cap] w fun e w' => e = .returned (.int .i64 (-1)) ∧ Fr No w w') := keepsUpTo_any hsc hl
  go_enter Try.func3, Try.ntmps3
  go_wp2_with fail
  refine H7.out.mono ?_
  rintro e w1 ⟨rfl, F1⟩
  go_wp2_with fail
  go_ret
  exact ⟨rfl, F1⟩
end Go.Proofs.Qxb6500302a
