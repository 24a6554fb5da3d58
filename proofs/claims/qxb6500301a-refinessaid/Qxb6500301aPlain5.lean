import Derived.Test.Qxb6500301aLoad6
import Derived.Test.Qxb6500301aMk1
import Derived.Test.Qxb6500301aPlain4
namespace Go.Proofs.Qxb6500301a
open Go.RowKit
set_option linter.unusedSimpArgs false
set_option linter.unusedVariables false
/-- A step's answer: E, N, S (M is 0). -/
abbrev Ans : Type := Int × Int × List UInt8
def ansV (a : Ans) : Value := .agg #[.int .i64 a.1, .int .i64 a.2.1, .int .i64 0, .string (S a.2.2)]
def opV (k a b c : Int) (s t : ByteArray) : Value := .agg #[.int .i64 k, .int .i64 a, .int .i64 b, .int .i64 c, .string s, .string t]

/-- One step, plainly. -/
def doOf (ns : List Nd) (saved : List (List Nd)) (k a b : Int) (s : List UInt8) : (List Nd × List (List Nd)) × Ans :=
  if k = 1 then (([], []), 0, 0, []) else
  if k = 2 then (((loadAns ns s).2.2, saved), (loadAns ns s).2.1, (loadAns ns s).1, []) else
  if k = 3 then (((unifyAns ns a b).2.2, saved), (unifyAns ns a b).2.1, (unifyAns ns a b).1, []) else
  if k = 4 then (if 26 ≤ saved.length then ((ns, saved), 6, 0, []) else ((ns, ns :: saved), 0, 0, [])) else
  if k = 5 then (match saved with
    | [] => ((ns, []), 3, 0, [])
    | x :: xs => ((x, x :: xs), 0, 0, [])) else
  if k = 6 then ((ns, (cutAns saved a).2), (cutAns saved a).1, 0, []) else
  if k = 7 then ((ns, saved), (writeAns ns a).2, 0, (writeAns ns a).1) else
  if k = 8 then ((ns, saved), 0, derefAns ns a, []) else
  if k = 9 then ((ns, saved), 0, 0, headAns ns a) else
  if k = 10 then ((ns, saved), 0, argAns ns a b, []) else
  if k = 11 then ((ns, saved), 0, (ns.length : Int), []) else
  if k = 12 then ((ns, saved), 0, (saved.length : Int), []) else
  if k = 13 then ((ns, saved), 0, 0, showL ns saved) else ((ns, saved), 0, 0, [])

/-- The world as the step begins: the op, the result, the answer in the making. -/
def dWorld (w : World) (k a b c : Int) (s t : ByteArray) : World :=
  ((w.alloc (.cells #[.int .i64 k, .int .i64 a, .int .i64 b, .int .i64 c, .string s, .string t] 29)).alloc (.cells #[.int .i64 0, .int .i64 0, .int .i64 0, .string { data := #[] }] 36)).alloc (.cells #[.int .i64 0, .int .i64 0, .int .i64 0, .string { data := #[] }] 36)

section
variable {w : World} {k a b c : Int} {s t : ByteArray}
theorem dWorld_fr : Fr No w (dWorld w k a b c s t) := (((Fr.refl No w).alloc _).alloc _).alloc _
theorem dWorld_op : (dWorld w k a b c s t).heap[w.heap.size]? = some (.cells #[.int .i64 k, .int .i64 a, .int .i64 b, .int .i64 c, .string s, .string t] 29) := heap_alloc_keep (heap_alloc_keep (heap_alloc_same _ _))
theorem dWorld_res : (dWorld w k a b c s t).heap[w.heap.size + 1]? = some (.cells #[.int .i64 0, .int .i64 0, .int .i64 0, .string { data := #[] }] 36) := by
  have := heap_alloc_same (w.alloc (.cells #[.int .i64 k, .int .i64 a, .int .i64 b, .int .i64 c, .string s, .string t] 29)) (.cells #[.int .i64 0, .int .i64 0, .int .i64 0, .string { data := #[] }] 36)
  simp only [World.size_alloc] at this
  exact heap_alloc_keep this
theorem dWorld_ans : (dWorld w k a b c s t).heap[w.heap.size + 1 + 1]? = some (.cells #[.int .i64 0, .int .i64 0, .int .i64 0, .string { data := #[] }] 36) := by
  have := heap_alloc_same ((w.alloc (.cells #[.int .i64 k, .int .i64 a, .int .i64 b, .int .i64 c, .string s, .string t] 29)).alloc (.cells #[.int .i64 0, .int .i64 0, .int .i64 0, .string { data := #[] }] 36)) (.cells #[.int .i64 0, .int .i64 0, .int .i64 0, .string { data := #[] }] 36)
  simp only [World.size_alloc] at this
  exact this
theorem dWorld_size : (dWorld w k a b c s t).heap.size = w.heap.size + 3 := by simp [dWorld]
end
theorem doOf_full {ns : List Nd} {saved : List (List Nd)} {a b : Int} {s : List UInt8} (h : 26 ≤ saved.length) : doOf ns saved 4 a b s = ((ns, saved), 6, 0, []) := by
  have : doOf ns saved 4 a b s = (if 26 ≤ saved.length then ((ns, saved), 6, 0, []) else ((ns, ns :: saved), 0, 0, [])) := rfl
  rw [this, if_pos h]
theorem doOf_push {ns : List Nd} {saved : List (List Nd)} {a b : Int} {s : List UInt8} (h : saved.length < 26) : doOf ns saved 4 a b s = ((ns, ns :: saved), 0, 0, []) := by
  have : doOf ns saved 4 a b s = (if 26 ≤ saved.length then ((ns, saved), 6, 0, []) else ((ns, ns :: saved), 0, 0, [])) := rfl
  rw [this, if_neg (by omega)]
end Go.Proofs.Qxb6500301a
