import Derived.Test.Qxb6500302aRead1
namespace Go.Proofs.Qxb6500302a
open Go.RowKit
set_option linter.unusedSimpArgs false
set_option linter.unusedVariables false

/-- A slice that holds xs, its row's block one of D (or nil, and nothing in it). -/
def RowIn (w : World) (D : Nat → Prop) (e : TypeId) (sl : Value) (xs : List Value) : Prop :=
  (sl = .slice none 0 0 ∧ xs = []) ∨
  ∃ g cap cur, sl = .slice (some ⟨g, 0, none⟩) xs.length cap ∧ D g ∧ w.heap[g]? = some (.cells cur e) ∧ xs.length ≤ cap ∧ cap ≤ maxLen ∧ cur.size = cap ∧ cur.toList.take xs.length = xs

/-- The value v is the tree t, to a depth of n; every block on the way is one of D. -/
def TermN (w : World) (D : Nat → Prop) : Nat → Value → Tm → Prop
  | 0, _, _ => False
  | n + 1, v, t =>
    (t.kind = 0 ∧ t.kids = [] ∧ t.num ≤ 40 ∧ v = .iface 106 (.agg #[.int .u8 (t.letter.toNat : Int), .int .i64 (t.num : Int)])) ∨
    (t.kind = 1 ∧ t.kids = [] ∧ v = .iface 112 (.agg #[])) ∨
    (t.kind = 2 ∧ ∃ b sl xs, v = .iface 80 (.pointer (some ⟨b, 0, none⟩)) ∧ D b ∧ w.heap[b]? = some (.cells #[.int .u8 (t.letter.toNat : Int), sl] 90) ∧
      RowIn w D 95 sl xs ∧ xs.length = t.kids.length ∧ t.kids.length ≤ 50 ∧ ∀ (i : Nat) x u, xs[i]? = some x → t.kids[i]? = some u → TermN w D n x u)

theorem RowIn.mono {w w' : World} {D D' : Nat → Prop} {e : TypeId} {sl : Value} {xs : List Value} (h : RowIn w D e sl xs) (hk : ∀ k, D k → D' k ∧ w'.heap[k]? = w.heap[k]?) : RowIn w' D' e sl xs := by
  rcases h with h | ⟨g, cap, cur, h1, h2, h3, h4⟩
  · exact .inl h
  · exact .inr ⟨g, cap, cur, h1, (hk g h2).1, by rw [(hk g h2).2]; exact h3, h4⟩

theorem TermN.mono {w w' : World} {D D' : Nat → Prop} (hk : ∀ k, D k → D' k ∧ w'.heap[k]? = w.heap[k]?) : ∀ {n : Nat} {v : Value} {t : Tm}, TermN w D n v t → TermN w' D' n v t
  | 0, _, _, h => h.elim
  | n + 1, v, t, h => by
    rcases h with h | h | ⟨h1, b, sl, xs, h2, h3, h4, h5, h6, h6', h7⟩
    · exact .inl h
    · exact .inr (.inl h)
    · exact .inr (.inr ⟨h1, b, sl, xs, h2, (hk b h3).1, by rw [(hk b h3).2]; exact h4, h5.mono hk, h6, h6', fun i x u hx hu => TermN.mono hk (h7 i x u hx hu)⟩)

theorem TermN.up {w : World} {D : Nat → Prop} : ∀ {n m : Nat} {v : Value} {t : Tm}, n ≤ m → TermN w D n v t → TermN w D m v t
  | 0, _, _, _, _, h => h.elim
  | n + 1, 0, _, _, hm, _ => by omega
  | n + 1, m + 1, v, t, hm, h => by
    rcases h with h | h | ⟨h1, b, sl, xs, h2, h3, h4, h5, h6, h6', h7⟩
    · exact .inl h
    · exact .inr (.inl h)
    · exact .inr (.inr ⟨h1, b, sl, xs, h2, h3, h4, h5, h6, h6', fun i x u hx hu => TermN.up (by omega) (h7 i x u hx hu)⟩)

/-- Behind a change that turns none of D. -/
theorem TermN.keep {S : Nat → Prop} {w w' : World} {D : Nat → Prop} (hf : Fr S w w') (hD : ∀ k, D k → k < w.heap.size ∧ ¬ S k) {n : Nat} {v : Value} {t : Tm} (h : TermN w D n v t) : TermN w' D n v t :=
  h.mono fun k hk => ⟨hk, hf.block k (hD k hk).1 (hD k hk).2⟩

/-! ### The reader's map -/
theorem findNow_vars (vs : List UInt8) (c : UInt8) : ∀ (i j : Nat), Instr.findNow (.int .u8) (.int .u8 (c.toNat : Int)) (vs.mapIdx fun k x => (⟨.int .u8 (x.toNat : Int), .int .i64 ((k + i : Nat) : Int), k + i⟩ : MapEntry)) j =
    some (if varIx vs c < vs.length then some (j + varIx vs c, .int .i64 ((varIx vs c + i : Nat) : Int)) else none) := by
  induction vs with
  | nil => intro i j; simp [Instr.findNow, varIx]
  | cons x r ih =>
    intro i j
    simp only [List.mapIdx_cons, Instr.findNow, Instr.sameNow, if_true]
    by_cases hx : x = c
    · subst hx; simp [varIx]
    · have hne : ((c.toNat : Int) == (x.toNat : Int)) = false := by
        simp only [beq_eq_false_iff_ne, ne_eq, Int.natCast_inj]
        exact fun e => hx (UInt8.toNat_inj.1 e.symm)
      have := ih (i + 1) (j + 1)
      simp only [hne, varIx, if_neg hx, List.length_cons]
      have hfun : (fun (k : Nat) (x : UInt8) => (⟨.int .u8 (x.toNat : Int), .int .i64 ((k + (i + 1) : Nat) : Int), k + (i + 1)⟩ : MapEntry)) = fun k x => ⟨.int .u8 (x.toNat : Int), .int .i64 ((k + 1 + i : Nat) : Int), k + 1 + i⟩ := by
        funext k x; rw [show k + (i + 1) = k + 1 + i by omega]
      rw [hfun] at this
      rw [this]
      by_cases hlt : varIx r c < r.length
      · rw [if_pos hlt, if_pos (by omega)]
        congr 3
        · omega
        · congr 2; omega
      · rw [if_neg hlt, if_neg (by omega)]

theorem run_lookup_vars {w : World} {mb : Nat} {vs : List UInt8} {n : Nat} (h : w.heap[mb]? = some (.map (varEnts vs) n)) (c : UInt8) :
    (Instr.lookup 75 (.map (some mb)) (.int .u8 (c.toNat : Int)) true).run Try.prog w =
      .ok (.tuple #[.int .i64 (if hasVar vs c then (varIx vs c : Int) else 0), .bool (hasVar vs c)]) w := by
  have h0 := findNow_vars vs c 0 0
  have hu : Try.prog.underlying 75 = some (.map 5 3) := Try.underlying75
  have hu5 : Try.prog.underlying 5 = some (.int .u8) := Try.underlying5
  simp only [Nat.add_zero, Nat.zero_add] at h0
  have hz : (zeroValue 3).run Try.prog w = .ok (.int .i64 0) w := by kernel_rfl
  have hk : MapKept.IsKey (.int .u8) (.int .u8 (c.toNat : Int)) := rfl
  unfold Instr.lookup
  simp only [Sem.run_bind, run_underlying hu, Result.andThen_ok, MapKept.run_getObj_map h, Sem.run_pure, MapKept.run_checkKey hu5 hk _ 9999]
  rw [MapKept.run_findKey hu5 (show Instr.findNow _ _ (varEnts vs).toList 0 = _ from h0)]
  by_cases hlt : varIx vs c < vs.length
  · simp [hlt, hasVar]
  · simp [hlt, hasVar, hz]

theorem run_len_vars {w : World} {mb : Nat} {vs : List UInt8} {n : Nat} (h : w.heap[mb]? = some (.map (varEnts vs) n)) (ty : TypeId) :
    (Builtin.len_ #[75] ty #[.map (some mb)]).run Try.prog w = .ok (.int .i64 (vs.length : Int)) w := by
  simp [Builtin.len_, run_underlying Try.underlying75, MapKept.run_getObj_map h, varEnts_size, goInt]

theorem run_update_vars {w : World} {mb : Nat} {vs : List UInt8} (h : w.heap[mb]? = some (.map (varEnts vs) vs.length)) (c : UInt8) (hn : hasVar vs c = false) :
    (Instr.mapUpdate 75 (.map (some mb)) (.int .u8 (c.toNat : Int)) (.int .i64 (vs.length : Int))).run Try.prog w =
      .ok () (put w mb (.map (varEnts (vs ++ [c])) (vs.length + 1))) := by
  have h0 := findNow_vars vs c 0 0
  have hu : Try.prog.underlying 75 = some (.map 5 3) := Try.underlying75
  have hu5 : Try.prog.underlying 5 = some (.int .u8) := Try.underlying5
  simp only [Nat.add_zero, Nat.zero_add] at h0
  have hk : MapKept.IsKey (.int .u8) (.int .u8 (c.toNat : Int)) := rfl
  have hlt : ¬ varIx vs c < vs.length := by simpa [hasVar] using hn
  rw [if_neg hlt] at h0
  unfold Instr.mapUpdate
  simp only [Sem.run_bind, run_underlying hu, Result.andThen_ok, MapKept.run_getObj_map h, MapKept.run_checkKey hu5 hk _ 9999]
  rw [MapKept.run_findKey hu5 (show Instr.findNow _ _ (varEnts vs).toList 0 = _ from h0)]
  simp only [Result.andThen_ok, MapKept.run_setObj_map _ h, varEnts_snoc, List.length_append, List.length_cons, List.length_nil, Nat.zero_add, put]
end Go.Proofs.Qxb6500302a
