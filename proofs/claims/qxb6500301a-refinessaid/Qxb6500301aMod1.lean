import Derived.Test.Qxb6500301aPlain5
namespace Go.Proofs.Qxb6500301a
open Go.RowKit
set_option linter.unusedSimpArgs false
set_option linter.unusedVariables false
attribute [local go_sem ↓] Go.wp_at_zero Go.wp_at_succ
attribute [-go_sem] Go.run_string_add_if Go.run_index_string Go.run_slice_string_if

/-! ### The model's heap in memory -/
def hdS : Nd → ByteArray
  | .v _ => { data := #[] }
  | .s c d _ => S [c, d]
def refM (i : Nat) : Nd → Nat
  | .v none => i
  | .v (some r) => r
  | .s _ _ _ => 0
def argM (x : Nd) (j : Nat) : Nat := (argsOf x).getD j 0
def ndM (i : Nat) (x : Nd) : List Value := [.string (hdS x), .int .i64 (refM i x : Int), .int .i64 (argM x 0 : Int), .int .i64 (argM x 1 : Int), .int .i64 (argM x 2 : Int), .int .i64 (argM x 3 : Int)]
def nodesM (k : Nat) : List Nd → List Value
  | [] => []
  | x :: r => ndM k x ++ nodesM (k + 1) r
theorem ndM_len (i : Nat) (x : Nd) : (ndM i x).length = 6 := rfl
theorem nodesM_len : ∀ (k : Nat) (ns : List Nd), (nodesM k ns).length = ns.length * 6
  | k, [] => rfl
  | k, x :: r => by show (ndM k x ++ nodesM (k + 1) r).length = _; rw [List.length_append, ndM_len, nodesM_len (k + 1) r, List.length_cons]; omega
theorem nodesM_append : ∀ (k : Nat) (a b : List Nd), nodesM k (a ++ b) = nodesM k a ++ nodesM (k + a.length) b
  | k, [], b => by simp [nodesM]
  | k, x :: r, b => by
    show ndM k x ++ nodesM (k + 1) (r ++ b) = ndM k x ++ nodesM (k + 1) r ++ nodesM (k + (r.length + 1)) b
    rw [nodesM_append (k + 1) r b, List.append_assoc, show k + 1 + r.length = k + (r.length + 1) by omega]
theorem nodesM_get : ∀ {k : Nat} {ns : List Nd} {i : Nat} {x : Nd}, ns[i]? = some x → ∀ j, j < 6 → (nodesM k ns)[i * 6 + j]? = (ndM (k + i) x)[j]?
  | k, [], i, x, h, j, hj => by simp at h
  | k, y :: r, 0, x, h, j, hj => by
    simp at h; subst h
    show (ndM k y ++ nodesM (k + 1) r)[0 * 6 + j]? = _
    rw [Nat.zero_mul, Nat.zero_add, List.getElem?_append_left (by rw [ndM_len]; exact hj), Nat.add_zero]
  | k, y :: r, i + 1, x, h, j, hj => by
    show (ndM k y ++ nodesM (k + 1) r)[(i + 1) * 6 + j]? = _
    rw [List.getElem?_append_right (by rw [ndM_len]; omega), ndM_len, show (i + 1) * 6 + j - 6 = i * 6 + j by omega, nodesM_get (k := k + 1) (ns := r) (i := i) (by simpa using h) j hj, show k + 1 + i = k + (i + 1) by omega]

def oldN (saved : List (List Nd)) : Nat := (saved.map List.length).sum
def oldM (saved : List (List Nd)) : List Value := saved.reverse.flatMap (nodesM 0)
def lenM (saved : List (List Nd)) : List Value := saved.reverse.map (fun s => .int .i64 (s.length : Int))

structure MAt (w : World) (b0 q : Nat) (vn vo vl : Value) (ns : List Nd) (saved : List (List Nd)) : Prop where
  top : w.heap[q]? = some (.cells #[vn, vo, vl] 97)
  rn : w.ownsRow b0 111 6 vn ns.length (nodesM 0 ns)
  ro : w.ownsRow b0 111 6 vo (oldN saved) (oldM saved)
  rl : w.ownsRow b0 3 1 vl saved.length (lenM saved)
  no : ∀ k, vn.ownBlock = some k → vo.ownBlock ≠ some k
  qb : b0 ≤ q
def ModAt (w : World) (b0 q : Nat) (ns : List Nd) (saved : List (List Nd)) : Prop := ∃ vn vo vl, MAt w b0 q vn vo vl ns saved

/-- What the real side gives. -/
structure OkS (ns : List Nd) (saved : List (List Nd)) : Prop where
  wf : WfN ns
  small : ns.length ≤ 64
  old : ∀ s ∈ saved, WfN s ∧ s.length ≤ 64
  marks : saved.length ≤ 26

section
variable {w w' : World} {b0 q : Nat} {vn vo vl : Value} {ns : List Nd} {saved : List (List Nd)}
theorem MAt.keep (h : MAt w b0 q vn vo vl ns saved) {T : Nat → Prop} (hf : Fr T w w') (hT : ∀ k, b0 ≤ k → ¬ T k) : MAt w' b0 q vn vo vl ns saved :=
  ⟨hf.keep h.top (hT _ h.qb), ownsRow_keep h.rn hf (fun k hk => hT k (h.rn.lt k hk).1), ownsRow_keep h.ro hf (fun k hk => hT k (h.ro.lt k hk).1), ownsRow_keep h.rl hf (fun k hk => hT k (h.rl.lt k hk).1), h.no, h.qb⟩
theorem ModAt.keep (h : ModAt w b0 q ns saved) {T : Nat → Prop} (hf : Fr T w w') (hT : ∀ k, b0 ≤ k → ¬ T k) : ModAt w' b0 q ns saved := by
  obtain ⟨vn, vo, vl, h⟩ := h
  exact ⟨vn, vo, vl, h.keep hf hT⟩
theorem MAt.no' (h : MAt w b0 q vn vo vl ns saved) (hf : Fr No w w') : MAt w' b0 q vn vo vl ns saved := h.keep hf (fun _ _ e => e)
theorem owns_ptr {b0 e sz n : Nat} {v : Value} {xs : List Value} (h : w.ownsRow b0 e sz v n xs) (hn : 0 < n) : ∃ g cap, v = sl g n cap ∧ b0 ≤ g ∧ g < w.heap.size ∧ n ≤ cap := by
  rcases h.2 with ⟨hv, h0⟩ | ⟨g, cap, cur, hv, hb, hg, hc, _⟩
  · omega
  · subst hv
    exact ⟨g, cap, rfl, hb, lt_of_heap hg, hc⟩
theorem nd_cell {g cap i : Nat} {x : Nd} (h : w.ownsRow b0 111 6 (sl g ns.length cap) ns.length (nodesM 0 ns)) (hx : ns[i]? = some x) (j : Nat) (hj : j < 6) : w.cell? ⟨g, i * 6 + j, none⟩ = (ndM i x)[j]? := by
  have hi := lt_of_some hx
  rw [h.cellAt _ (by omega), nodesM_get hx j hj, Nat.zero_add]
theorem nd_cells {g cap i : Nat} {x : Nd} (h : w.ownsRow b0 111 6 (sl g ns.length cap) ns.length (nodesM 0 ns)) (hx : ns[i]? = some x) :
    w.cell? ⟨g, i * 6, none⟩ = some (.string (hdS x)) ∧ w.cell? ⟨g, i * 6 + 1, none⟩ = some (.int .i64 (refM i x : Int)) ∧ ∀ j, j < 4 → w.cell? ⟨g, i * 6 + 2 + j, none⟩ = some (.int .i64 (argM x j : Int)) := by
  refine ⟨nd_cell h hx 0 (by omega), nd_cell h hx 1 (by omega), fun j hj => ?_⟩
  have := nd_cell h hx (2 + j) (by omega)
  rw [← Nat.add_assoc] at this
  rw [this]
  match j, hj with
  | 0, _ => rfl
  | 1, _ => rfl
  | 2, _ => rfl
  | 3, _ => rfl
theorem argM_at {x : Nd} {j k : Nat} (h : (argsOf x)[j]? = some k) : argM x j = k := by unfold argM; simp [List.getD, h]

theorem mTop_any (h : MAt w b0 q vn vo vl ns saved) : Calls Try.prog 57 #[.pointer (some ⟨q, 0, none⟩)] w fun e w' => e = .returned (.int .i64 (ns.length : Int)) ∧ w' = w := by
  obtain ⟨bs, cap, rfl⟩ := owns_slice h.rn
  have c0 := cell_of 0 h.top rfl
  go_enter Try.func57, Try.ntmps57
  go_wp2_with fail
  go_ret
  exact ⟨rfl, rfl⟩
theorem mMarks_any (h : MAt w b0 q vn vo vl ns saved) : Calls Try.prog 58 #[.pointer (some ⟨q, 0, none⟩)] w fun e w' => e = .returned (.int .i64 (saved.length : Int)) ∧ w' = w := by
  obtain ⟨bs, cap, rfl⟩ := owns_slice h.rl
  have c0 := cell_of 2 h.top rfl
  go_enter Try.func58, Try.ntmps58
  go_wp2_with fail
  go_ret
  exact ⟨rfl, rfl⟩
theorem mNew_any (hb : b0 ≤ w.heap.size) : Calls Try.prog 36 #[] w fun e w' => e = .returned (.pointer (some ⟨w.heap.size, 0, none⟩)) ∧ ModAt w' b0 w.heap.size [] [] ∧ Fr No w w' := by
  go_enter Try.func36, Try.ntmps36
  go_wp2_with fail
  go_ret
  refine ⟨rfl, ⟨.slice none 0 0, .slice none 0 0, .slice none 0 0, heap_alloc_same _ _, World.ownsRow_nil _ _ _ _, World.ownsRow_nil _ _ _ _, World.ownsRow_nil _ _ _ _, (fun k hk => by cases hk), hb⟩, (Fr.refl No w).alloc _⟩
theorem mReset_any (h : MAt w b0 q vn vo vl ns saved) : Calls Try.prog 47 #[.pointer (some ⟨q, 0, none⟩)] w fun e w' => e = .returned (.tuple #[]) ∧ ModAt w' b0 q [] [] ∧ Fr (fun k => b0 ≤ k) w w' := by
  have c0 := cell_of 0 h.top rfl
  have c1 := cell_of 1 h.top rfl
  have c2 := cell_of 2 h.top rfl
  have z0 := frozen_of 0 h.top
  have z1 := frozen_of 1 h.top
  have z2 := frozen_of 2 h.top
  go_enter Try.func47, Try.ntmps47
  go_wp2_with fail
  go_end0
  refine ⟨rfl, ⟨.slice none 0 0, .slice none 0 0, .slice none 0 0, ?_, World.ownsRow_nil _ _ _ _, World.ownsRow_nil _ _ _ _, World.ownsRow_nil _ _ _ _, (fun k hk => by cases hk), h.qb⟩, ?_⟩
  · exact heap_setCell_same _ (heap_setCell_same _ (heap_setCell_same _ h.top))
  · exact (((Fr.refl _ w).setCell (fun _ => h.qb) _).setCell (fun _ => h.qb) _).setCell (fun _ => h.qb) _
end
end Go.Proofs.Qxb6500301a
