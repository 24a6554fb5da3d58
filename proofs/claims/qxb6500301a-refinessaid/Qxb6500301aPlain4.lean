import Derived.Test.Qxb6500301aPlain3
namespace Go.Proofs.Qxb6500301a
set_option linter.unusedVariables false
set_option linter.unusedSimpArgs false
/-! ### What is spelt -/
def itoaL (n : Nat) : List UInt8 := if n < 10 then [UInt8.ofNat (48 + n)] else [UInt8.ofNat (48 + n / 10), UInt8.ofNat (48 + n % 10)]
theorem itoaL_len (n : Nat) : 1 ≤ (itoaL n).length ∧ (itoaL n).length ≤ 2 := by unfold itoaL; split <;> simp
def argL (es : List Nat) : List UInt8 := es.flatMap (fun k => 46 :: itoaL k)
def ndL : Nd → List UInt8
  | .v none => [32, 95]
  | .v (some r) => [32, 62] ++ itoaL r
  | .s c d es => [32, c, d] ++ argL es
def rowL (ns : List Nd) : List UInt8 := ns.flatMap ndL
def oldL (saved : List (List Nd)) : List UInt8 := saved.flatMap (fun s => 124 :: rowL s)
def showL (ns : List Nd) (saved : List (List Nd)) : List UInt8 := [72] ++ rowL ns ++ oldL saved
theorem argL_len (es : List Nat) : (argL es).length ≤ 3 * es.length := by
  unfold argL
  induction es with
  | nil => simp
  | cons k es ih => rw [List.flatMap_cons, List.length_append, List.length_cons, List.length_cons]; have := itoaL_len k; omega
theorem ndL_len {ns : List Nd} (h : WfN ns) {i : Nat} {x : Nd} (hx : ns[i]? = some x) : (ndL x).length ≤ 15 := by
  cases x with
  | v q =>
    cases q with
    | none => simp [ndL]
    | some r => have := itoaL_len r; simp [ndL]; omega
  | s c d es =>
    have h1 := h.arg i c d es hx
    have h2 := argL_len es
    simp [ndL]; omega
theorem rowL_len {ns : List Nd} (h : WfN ns) : (rowL ns).length ≤ 15 * ns.length := by
  have : ∀ l : List Nd, (∀ x ∈ l, (ndL x).length ≤ 15) → (rowL l).length ≤ 15 * l.length := by
    intro l
    induction l with
    | nil => intro _; simp [rowL]
    | cons x l ih =>
      intro hx
      have h1 := hx x (by simp)
      have h2 := ih (fun y hy => hx y (by simp [hy]))
      unfold rowL at h2 ⊢
      rw [List.flatMap_cons, List.length_append, List.length_cons]; omega
  refine this ns (fun x hx => ?_)
  obtain ⟨i, hi, e⟩ := List.getElem_of_mem hx
  exact ndL_len h (by rw [List.getElem?_eq_getElem hi, e])
/-! ### The printer -/
def ixOf : List Nat → Nat → Nat
  | [], _ => 0
  | x :: r, c => if x = c then 0 else ixOf r c + 1
theorem ixOf_le : ∀ (l : List Nat) (c : Nat), ixOf l c ≤ l.length
  | [], _ => Nat.le_refl _
  | x :: r, c => by unfold ixOf; split; exact Nat.zero_le _; have := ixOf_le r c; simp; omega
abbrev PS : Type := List UInt8 × List Nat
def sepB (b : Bool) : UInt8 := if b then 40 else 44
def endL (es : List Nat) (out : List UInt8) : List UInt8 := if es = [] then out else out ++ [41]
theorem endL_len (es : List Nat) (out : List UInt8) : out.length ≤ (endL es out).length ∧ (endL es out).length ≤ out.length + 1 := by unfold endL; split <;> simp
def putKids (P : Nat → PS → Option PS) : Bool → List Nat → PS → Option PS
  | _, [], st => some st
  | first, k :: ks, (out, nm) => if 48 < (out ++ [sepB first]).length then none else (P k (out ++ [sepB first], nm)).bind (putKids P false ks)
def shut (es : List Nat) (st : PS) : Option PS := if (endL es st.1).length ≤ 48 then some (endL es st.1, st.2) else none
def nmAdd (nm : List Nat) (a : Nat) : List Nat := if ixOf nm a < nm.length then nm else nm ++ [a]
theorem nmAdd_len (nm : List Nat) (a : Nat) : (nmAdd nm a).length ≤ nm.length + 1 := by unfold nmAdd; split <;> simp
def putVar (a : Nat) (st : PS) : Option PS := if (st.1 ++ [95] ++ itoaL (ixOf st.2 a)).length ≤ 48 then some (st.1 ++ [95] ++ itoaL (ixOf st.2 a), nmAdd st.2 a) else none
def putN : Nat → List Nd → Nat → PS → Option PS
  | 0, _, _, _ => none
  | f + 1, ns, a, st => match ns[deref ns a]? with
    | some (.s c d es) => (putKids (putN f ns) true es (st.1 ++ [c], st.2)).bind (shut es)
    | _ => putVar (deref ns a) st
/-- 'Write', plainly: the text, the error. -/
def writeAns (ns : List Nd) (a : Int) : List UInt8 × Int := if a < 0 ∨ (ns.length : Int) ≤ a then ([], 4) else match putN 49 ns a.toNat ([], []) with
  | none => ([], 8)
  | some st => (st.1, 0)
end Go.Proofs.Qxb6500301a
