/-
  The proof of 'Rows.EdgeOldHeaderKeepsItsLengthSaid': the shell's frame; the walk by the contracts of New, Add, Bucket.
-/
import Derived.Test.Qxb6500302aRows
import Derived.WalkKit
import Derived.ProofKit
import Derived.OpenShut
import Derived.ShutString
import Derived.Test.Qxb6500302aEdge2
import Derived.Test.Qxb6500302aLift1
namespace Go.Proofs.Qxb6500302a.edgeOldHeaderKeepsItsLength
open Go.ChangeShapes Go.WideShapes Go.ChangeAt Go.RowKit
open Go.ChangeMaps (open_string shut_string)
set_option linter.unusedVariables false      -- a walk need not use every 'w<i>' (that an integer argument fits its kind)

theorem own : ownKnob Try.prog.godebug = none := by kernel_rfl

/-! ### STEP 1: THE WALK: the Go text returns true. 'Grown w w'': the world has at most new blocks (Derived/RowKit3.lean). Part the cases AHEAD of 'go_enter' where a test parts the walk; take each callee by a contract of your own. -/
def sPA : ByteArray := { data := #[112, 40, 97, 41] }
def tPA : Tm := tCall 58 [tCall 112 [tCall 97 []]]
theorem parse_pa : parseOf false sPA.data.toList = some tPA := by
  have hr : rRead false sPA.data.toList = some ([tCall 112 [tCall 97 []]], []) := by rfl
  unfold parseOf
  rw [hr]
  simp [topVar_eq, tCall, tPA, rootOf]

def kPA : K4 := ((112, 49), (97, 48))
theorem two_k : (two { data := #[112, 49] } rfl, two { data := #[97, 48] } rfl) = kPA := rfl
theorem key_pa : keyOf tPA = some (97, 48) := by rfl
theorem pred_pa : predOf tPA = (112, 49) := by rfl
theorem key1 : fKey [tPA] kPA = some [0] := by rfl
theorem key2' : fKey [tPA, tPA] kPA = some [0, 1] := by rfl
theorem add1 : addOf [] sPA.data.toList = ([tPA], 0, 0) := by unfold addOf; rw [parse_pa]; rfl
theorem add2 : addOf [tPA] sPA.data.toList = ([tPA, tPA], 1, 0) := by unfold addOf; rw [parse_pa]; rfl

set_option maxRecDepth 40000 in
set_option maxHeartbeats 4000000 in
theorem walk (w : World) :
    Calls Try.prog 6 #[] w fun e w' => e = .returned (.bool true) ∧ Below w.heap.size w w' := by
  go_enter Try.func6, Try.ntmps6
  go_wp2_with fail
  refine new_any.mono ?_
  rintro e w1 ⟨own1, p, rfl, H1, F1, N1⟩
  go_wp2_with fail
  refine (add_any (s := sPA) H1).mono ?_
  rintro e w2 ⟨rfl, own2, D2, H2, F2, N2⟩
  rw [add1] at H2 ⊢
  simp only at H2 ⊢
  go_wp2_with fail
  refine (bucket_held (s1 := { data := #[112, 49] }) (s2 := { data := #[97, 48] }) rfl rfl H2).mono ?_
  rw [two_k, key1]
  rintro e w3 ⟨bs, cap, rfl, B3, F3, HH⟩
  obtain ⟨g, cap', hb, _, _⟩ := B3.1.form (by simp)
  simp only [Option.getD_some, List.length_cons, List.length_nil, Nat.zero_add, Value.slice.injEq, true_and] at hb HH B3 ⊢
  obtain ⟨rfl, rfl⟩ := hb
  have c3 : w3.cell? ⟨g, 0, none⟩ = some (.int .i8 0) := owns_cell B3.1 0 _ rfl
  have H3 := H2.keep F3 (fun _ _ h => h)
  go_wp2_with fail
  refine (add_held (s := sPA) H3 (by decide) parse_pa (by decide) key_pa key1 (by simp) HH).mono ?_
  rintro e w4 ⟨⟨rfl, own4, D4, H4, F4, N4⟩, g', cap2, cur, hv, hg, htake⟩
  simp only [List.length_cons, List.length_nil, Nat.zero_add, Value.slice.injEq, true_and, Option.some.injEq, Addr.mk.injEq, and_true] at hv
  obtain ⟨rfl, rfl⟩ := hv
  have hcur : cur[0]? = some (.int .i8 0) := by
    have := congrArg (fun l => l[0]?) htake
    simpa [i8s, List.getElem?_take] using this
  rw [add2] at H4 ⊢
  simp only at H4 ⊢
  go_wp2_with fail
  refine (bucket_held (s1 := { data := #[112, 49] }) (s2 := { data := #[97, 48] }) rfl rfl H4).mono ?_
  rw [two_k, key2']
  rintro e w5 ⟨bs5, cap5, rfl, B5, F5, _⟩
  obtain ⟨g5, cap6, hb5, _, _⟩ := B5.1.form (by simp)
  simp only [Option.getD_some, List.length_cons, List.length_nil, Nat.zero_add, Value.slice.injEq, true_and] at hb5 B5 ⊢
  obtain ⟨rfl, rfl⟩ := hb5
  have c5 : w5.cell? ⟨g, 0, none⟩ = some (.int .i8 0) := cell_of 0 (F5.keep hg (fun h => h)) hcur
  have c50 : w5.cell? ⟨g5, 0, none⟩ = some (.int .i8 0) := owns_cell B5.1 0 _ rfl
  have c51 : w5.cell? ⟨g5, 1, none⟩ = some (.int .i8 1) := owns_cell B5.1 1 _ rfl
  go_wp2_with fail
  go_ret
  refine ⟨rfl, ?_⟩
  have F : Fr No w w5 := by
    have f3 : Fr No w w3 := ((F1.trans F2 (fun k hk h => by have := N1 k h; omega)).trans F3 (fun _ _ h => h))
    have f4 : Fr No w w4 := f3.trans F4 (fun k hk h => by
      rcases N2 k h with h | h
      · have := N1 k h; omega
      · have := F1.size; omega)
    exact f4.trans F5 (fun _ _ h => h)
  exact F.below (Nat.le_refl _) (fun _ _ h => h)

/-! ### THE ROW's STEP: WRITTEN OUT: LEAVE IT -/
set_option maxRecDepth 100000 in
theorem lifted (os : Os) (started : os.Started) (H : Type) (enc : TypeId × Value → H) :
    ReturnsInHanded {} Try.checked os 6 .any (Rows.edgeOldHeaderKeepsItsLengthSpec.pre6 enc Try.prog Try.f6 Rows.edgeOldHeaderKeepsItsLengthRow.domain false) (Rows.edgeOldHeaderKeepsItsLengthSpec.post enc Try.prog Try.f6 false true false false) := by
  refine returnsInHanded_of_change (C := Try.checked) own started (by kernel_rfl) Try.func6
    (ChangeSpec.witness6 (enc := enc) (C := Try.checked) false ⟨#[], #[], []⟩ 8 (by kernel_rfl) (by kernel_rfl) (by kernel_rfl) (by kernel_rfl)) ?_
  intro W base args ds gs before hval0 hW hcnd _
  have hval : ∀ (j : Nat) t v, Try.f6.params[j]? = some t → args[j]? = some v → Value.okWide Try.prog W .any base t v := hval0
  have hW' := hW
  obtain ⟨p, q, hA0, hV, rfl, hfz, hnd⟩ := hW
  have hA : DataW.TrodAll enc Try.prog W 0 (fun _ => true) true Try.f6.params.toList args.toList ds p := hA0
  rw [Try.params6] at hA hval
  obtain ⟨rfl, rfl, rfl⟩ := trodAll_none hA
  obtain ⟨rfl, rfl⟩ := trodVars_none hV
  clear hA0 hval0
  simp only [List.append_nil] at hW'
  refine (walk  W).mono fun e W' ⟨he, hg⟩ => ?_
  subst he
  exact ⟨_, rfl, post_of_below (pa := []) (pv := []) hW' (fun _ _ _ => (trodAll_cons_mk (shut_bool Try.underlying4 _) trodAll_mk0)) (fun sp _ => rfl) (fun _ _ => rfl) rfl
    hg (ok_one (by kernel_rfl) rfl (okWide_bool_mk Try.underlying4 _))⟩

theorem over : Rows.edgeOldHeaderKeepsItsLengthRow.holds Try.pinned (OpenSpec.ofChange Rows.edgeOldHeaderKeepsItsLengthSpec) :=
  OpenClaim.holds_of_wide 6 Try.f6 rfl rfl rfl rfl rfl rfl rfl ⟨rfl, rfl, rfl, rfl, rfl⟩ rfl rfl rfl rfl rfl (by kernel_rfl) Try.func6 (by kernel_rfl)
    (of_decide_eq_true (by kernel_rfl)) (by unfold Func.isWrapper; first | (rw [if_pos (by decide +kernel)]; kernel_rfl) | (rw [if_neg (by decide +kernel)]; exact ⟨rfl, rfl⟩))
    (fun os started H enc _ => lifted os started H enc)

/-- ████ THE STATEMENT ████ -/
theorem proved : Rows.EdgeOldHeaderKeepsItsLengthSaid :=
  over
end Go.Proofs.Qxb6500302a.edgeOldHeaderKeepsItsLength
