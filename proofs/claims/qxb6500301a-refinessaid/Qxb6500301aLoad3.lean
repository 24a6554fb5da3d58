import Derived.Test.Qxb6500301aLoad2
import Derived.Test.Qxb6500301aReal5
import Derived.Lib.AppendZeros
namespace Go.Proofs.Qxb6500301a
open Go.RowKit
set_option linter.unusedSimpArgs false
set_option linter.unusedVariables false

/-! ### The places that wait -/
def setArg (ns : List Nd) (i j a : Nat) : List Nd := match ns[i]? with
  | some (.s c d es) => ns.set i (.s c d (es.set j a))
  | _ => ns
def fillS : List Nd → List (Nat × Nat) → List Nat → List Nd
  | ns, [], _ => ns
  | ns, _ :: _, [] => ns
  | ns, (i, j) :: ss, a :: ks => fillS (setArg ns i j a) ss ks

theorem setArg_s {ns : List Nd} {i j a : Nat} {c d : UInt8} {es : List Nat} (h : ns[i]? = some (.s c d es)) : setArg ns i j a = ns.set i (.s c d (es.set j a)) := by unfold setArg; rw [h]
theorem setArg_append {ns m : List Nd} {i j a : Nat} (hi : i < ns.length) : setArg (ns ++ m) i j a = setArg ns i j a ++ m := by
  unfold setArg
  rw [List.getElem?_append_left hi]
  split
  · rw [List.set_append_left _ _ hi]
  · rfl
theorem setArg_len (ns : List Nd) (i j a : Nat) : (setArg ns i j a).length = ns.length := by
  unfold setArg
  split
  · simp
  · rfl
theorem fillS_append : ∀ (s1 : List (Nat × Nat)) (k1 : List Nat) (ns : List Nd) (s2 : List (Nat × Nat)) (k2 : List Nat), s1.length = k1.length → fillS ns (s1 ++ s2) (k1 ++ k2) = fillS (fillS ns s1 k1) s2 k2
  | [], [], ns, s2, k2, _ => rfl
  | (i, j) :: s1, a :: k1, ns, s2, k2, h => by
    simp only [List.cons_append, fillS]
    exact fillS_append s1 k1 _ s2 k2 (by simpa using h)
def newSlots (q j0 m : Nat) : List (Nat × Nat) := (List.range' j0 m).map (fun j => (q, j))
theorem fill_new : ∀ (ks : List Nat) (ns : List Nd) (q : Nat) (c d : UInt8) (pre zs : List Nat), ns[q]? = some (.s c d (pre ++ zs)) → zs.length = ks.length → fillS ns (newSlots q pre.length ks.length) ks = ns.set q (.s c d (pre ++ ks))
  | [], ns, q, c, d, pre, zs, h, hl => by
    have hz : zs = [] := List.eq_nil_of_length_eq_zero (by simpa using hl)
    subst hz
    have hq := lt_of_some h
    show ns = _
    apply List.ext_getElem?
    intro i
    by_cases e : i = q
    · subst e; rw [h]; simp [hq]
    · rw [List.getElem?_set_ne (by omega)]
  | a :: ks, ns, q, c, d, pre, z :: zs, h, hl => by
    have hq := lt_of_some h
    have e1 : newSlots q pre.length (a :: ks).length = (q, pre.length) :: newSlots q (pre ++ [a]).length ks.length := by
      unfold newSlots
      rw [List.length_cons, List.range'_succ]
      simp
    rw [e1]
    simp only [fillS]
    rw [setArg_s h]
    have e2 : (pre ++ z :: zs).set pre.length a = (pre ++ [a]) ++ zs := by
      rw [List.set_append_right _ _ (Nat.le_refl _)]
      simp
    rw [e2]
    rw [fill_new ks _ q c d (pre ++ [a]) zs (by simp [hq]) (by simpa using hl)]
    rw [List.set_set]
    simp

/-- What is still to be laid: the nodes, the places that wait (the next first), the rest of the code, where the variables lie. F: what it comes to. -/
def LInv (F ns : List Nd) (slots : List (Nat × Nat)) (rest : List UInt8) (a : At) : Prop :=
  ∃ ks news at', K slots.length rest ns.length a = some (ks, [], news, at') ∧ fillS (ns ++ news) slots ks = F
theorem LInv.done {F ns : List Nd} {slots : List (Nat × Nat)} {a : At} (h : LInv F ns slots [] a) : slots = [] ∧ F = ns := by
  obtain ⟨ks, news, at', h1, h2⟩ := h
  cases slots with
  | nil =>
    simp only [List.length_nil] at h1
    rw [K_zero] at h1
    simp only [Option.some.injEq, Prod.mk.injEq] at h1
    obtain ⟨rfl, _, rfl, _⟩ := h1
    exact ⟨rfl, by rw [← h2]; simp [fillS]⟩
  | cons s ss => rw [List.length_cons, K_nil] at h1; cases h1
theorem LInv.more {F ns : List Nd} {slots : List (Nat × Nat)} {c : UInt8} {r : List UInt8} {a : At} (h : LInv F ns slots (c :: r) a) : ∃ s ss, slots = s :: ss := by
  obtain ⟨ks, news, at', h1, h2⟩ := h
  cases slots with
  | nil =>
    simp only [List.length_nil] at h1
    rw [K_zero] at h1
    simp only [Option.some.injEq, Prod.mk.injEq] at h1
    exact absurd h1.2.1 (by simp)
  | cons s ss => exact ⟨s, ss, rfl⟩

section
variable {F ns : List Nd} {i j : Nat} {ss : List (Nat × Nat)} {c d : UInt8} {r : List UInt8} {a : At}
theorem LInv.known {x : Nat} (h : LInv F ns ((i, j) :: ss) (c :: r) a) (hi : i < ns.length) (hc : isVarC c = true) (hx : a.getD (c.toNat - 65) none = some x) : LInv F (setArg ns i j x) ss r a := by
  obtain ⟨ks, news, at', h1, h2⟩ := h
  rw [List.length_cons, K_known hc hx] at h1
  cases hk : K ss.length r ns.length a with
  | none => rw [hk] at h1; cases h1
  | some y =>
    rw [hk] at h1
    simp only [Option.map_some, Option.some.injEq, Prod.mk.injEq] at h1
    obtain ⟨e1, e2⟩ := h1
    refine ⟨y.1, news, at', ?_, ?_⟩
    · rw [setArg_len, hk, ← e2]
    · rw [← e1] at h2
      simp only [fillS] at h2
      rw [setArg_append hi] at h2
      exact h2
theorem LInv.fresh (h : LInv F ns ((i, j) :: ss) (c :: r) a) (hi : i < ns.length) (hc : isVarC c = true) (hx : a.getD (c.toNat - 65) none = none) : LInv F (setArg (ns ++ [.v none]) i j ns.length) ss r (a.set (c.toNat - 65) (some ns.length)) := by
  obtain ⟨ks, news, at', h1, h2⟩ := h
  rw [List.length_cons, K_new hc hx] at h1
  cases hk : K ss.length r (ns.length + 1) (a.set (c.toNat - 65) (some ns.length)) with
  | none => rw [hk] at h1; cases h1
  | some y =>
    rw [hk] at h1
    simp only [Option.map_some, Option.some.injEq, Prod.mk.injEq] at h1
    obtain ⟨e1, e2, e3, e4⟩ := h1
    refine ⟨y.1, y.2.2.1, at', ?_, ?_⟩
    · rw [setArg_len, List.length_append]
      show K ss.length r (ns.length + 1) _ = _
      rw [hk, ← e2, ← e4]
    · rw [← e1, ← e3] at h2
      simp only [fillS] at h2
      rw [← setArg_append (by simp; omega)]
      simpa using h2
theorem LInv.func (h : LInv F ns ((i, j) :: ss) (c :: d :: r) a) (hi : i < ns.length) (hc : isVarC c = false) (hf : (isFun c && okD d) = true) :
    LInv F (setArg (ns ++ [.s c d (List.replicate (d.toNat - 48) 0)]) i j ns.length) (newSlots ns.length 0 (d.toNat - 48) ++ ss) r a := by
  obtain ⟨ks, news, at', h1, h2⟩ := h
  rw [List.length_cons, K_fun hc hf] at h1
  cases hk : K (d.toNat - 48) r (ns.length + 1) a with
  | none => rw [hk] at h1; cases h1
  | some x =>
    rw [hk] at h1
    simp only [Option.bind_some] at h1
    cases hk2 : K ss.length x.2.1 (ns.length + 1 + x.2.2.1.length) x.2.2.2 with
    | none => rw [hk2] at h1; cases h1
    | some y =>
      rw [hk2] at h1
      simp only [Option.map_some, Option.some.injEq, Prod.mk.injEq] at h1
      obtain ⟨e1, e2, e3, e4⟩ := h1
      have hxl : x.1.length = d.toNat - 48 := (K_rest hk).2
      refine ⟨x.1 ++ y.1, x.2.2.1 ++ y.2.2.1, at', ?_, ?_⟩
      · have hsl : (newSlots ns.length 0 (d.toNat - 48) ++ ss).length = (d.toNat - 48) + ss.length := by simp [newSlots]
        rw [hsl, setArg_len, List.length_append]
        show K ((d.toNat - 48) + ss.length) r (ns.length + 1) a = _
        rw [K_add r.length _ _ r _ _ (Nat.le_refl _), hk]
        simp only [K2, Option.bind_some]
        rw [hk2]
        simp only [Option.map_some, e2, e4]
      · rw [← e1, ← e3] at h2
        simp only [fillS] at h2
        rw [fillS_append _ _ _ _ _ (by simp [newSlots, hxl])]
        have hq : ((setArg (ns ++ [.s c d (List.replicate (d.toNat - 48) 0)]) i j ns.length) ++ (x.2.2.1 ++ y.2.2.1))[ns.length]? = some (.s c d ([] ++ List.replicate (d.toNat - 48) 0)) := by
          rw [setArg_append hi, List.append_assoc, List.getElem?_append_right (by rw [setArg_len]; exact Nat.le_refl _), setArg_len]
          simp
        have := fill_new x.1 _ ns.length c d [] (List.replicate (d.toNat - 48) 0) hq (by simp [hxl])
        rw [hxl] at this
        simp only [List.length_nil, List.nil_append] at this
        rw [this]
        rw [← h2]
        congr 1
        rw [setArg_append hi, setArg_append hi, List.append_assoc, List.set_append_right _ _ (by rw [setArg_len]; exact Nat.le_refl _), setArg_len]
        simp
end
/-- The first byte of a code: nothing waits. -/
theorem LInv.first_var {ns : List Nd} {c : UInt8} {r : List UInt8} {a : At} {ks : List Nat} {news : List Nd} {at' : At} (h : K 1 (c :: r) ns.length a = some (ks, [], news, at')) (hc : isVarC c = true) (hx : a.getD (c.toNat - 65) none = none) : LInv (ns ++ news) (ns ++ [.v none]) [] r (a.set (c.toNat - 65) (some ns.length)) := by
  rw [K_new hc hx, K_zero] at h
  simp only [Option.map_some, Option.some.injEq, Prod.mk.injEq] at h
  obtain ⟨_, rfl, rfl, _⟩ := h
  exact ⟨[], [], _, rfl, by simp [fillS]⟩
theorem LInv.first_func {ns : List Nd} {c d : UInt8} {r : List UInt8} {a : At} {ks : List Nat} {news : List Nd} {at' : At} (h : K 1 (c :: d :: r) ns.length a = some (ks, [], news, at')) (hc : isVarC c = false) (hf : (isFun c && okD d) = true) : LInv (ns ++ news) (ns ++ [.s c d (List.replicate (d.toNat - 48) 0)]) (newSlots ns.length 0 (d.toNat - 48)) r a := by
  rw [K_fun hc hf] at h
  cases hk : K (d.toNat - 48) r (ns.length + 1) a with
  | none => rw [hk] at h; cases h
  | some x =>
    rw [hk] at h
    simp only [Option.bind_some, K_zero, Option.map_some, Option.some.injEq, Prod.mk.injEq] at h
    obtain ⟨_, e2, e3, _⟩ := h
    have hxl : x.1.length = d.toNat - 48 := (K_rest hk).2
    refine ⟨x.1, x.2.2.1, x.2.2.2, ?_, ?_⟩
    · have hsl : (newSlots ns.length 0 (d.toNat - 48)).length = d.toNat - 48 := by simp [newSlots]
      rw [hsl, List.length_append]
      show K (d.toNat - 48) r (ns.length + 1) a = _
      rw [hk, ← e2]
    · have hq : ((ns ++ [.s c d (List.replicate (d.toNat - 48) 0)]) ++ x.2.2.1)[ns.length]? = some (.s c d ([] ++ List.replicate (d.toNat - 48) 0)) := by simp
      have := fill_new x.1 _ ns.length c d [] (List.replicate (d.toNat - 48) 0) hq (by simp [hxl])
      rw [hxl] at this
      simp only [List.length_nil, List.nil_append] at this
      rw [this, ← e3]
      simp
/-- Places wait no longer than bytes are left. -/
theorem K_bytes : ∀ (n : Nat) (w : Nat) (code : List UInt8) (len : Nat) (a : At) (x : List Nat × List UInt8 × List Nd × At), code.length ≤ n → K w code len a = some x → w + x.2.1.length ≤ code.length := by
  intro n
  induction n with
  | zero =>
    intro w code len a x hn h
    have hc : code = [] := List.eq_nil_of_length_eq_zero (by omega)
    subst hc
    cases w with
    | zero => rw [K_zero] at h; cases h; simp
    | succ w => rw [K_nil] at h; cases h
  | succ n ih =>
    intro w code len a x hn h
    cases w with
    | zero => rw [K_zero] at h; cases h; simp
    | succ w =>
      cases code with
      | nil => rw [K_nil] at h; cases h
      | cons c r =>
        have hr : r.length ≤ n := by simp at hn; omega
        by_cases hc : isVarC c = true
        · cases hx : a.getD (c.toNat - 65) none with
          | some y =>
            rw [K_known hc hx] at h
            cases hk : K w r len a with
            | none => rw [hk] at h; cases h
            | some z => rw [hk] at h; cases h; have := ih _ _ _ _ _ hr hk; simp; omega
          | none =>
            rw [K_new hc hx] at h
            cases hk : K w r (len + 1) (a.set (c.toNat - 65) (some len)) with
            | none => rw [hk] at h; cases h
            | some z => rw [hk] at h; cases h; have := ih _ _ _ _ _ hr hk; simp; omega
        · have hc' : isVarC c = false := by simpa using hc
          cases r with
          | nil => rw [K_one hc'] at h; cases h
          | cons d r' =>
            by_cases hf : (isFun c && okD d) = true
            · rw [K_fun hc' hf] at h
              cases hk : K (d.toNat - 48) r' (len + 1) a with
              | none => rw [hk] at h; cases h
              | some z =>
                rw [hk] at h
                simp only [Option.bind_some] at h
                cases hk2 : K w z.2.1 (len + 1 + z.2.2.1.length) z.2.2.2 with
                | none => rw [hk2] at h; cases h
                | some y =>
                  rw [hk2] at h
                  cases h
                  have h1 := ih _ _ _ _ _ (by simp at hr; omega) hk
                  have h2 := ih _ _ _ _ _ (by simp at hr; omega) hk2
                  simp; omega
            · rw [K_bad hc' (by simpa using hf)] at h; cases h
theorem LInv.bytes {F ns : List Nd} {slots : List (Nat × Nat)} {rest : List UInt8} {a : At} (h : LInv F ns slots rest a) : slots.length ≤ rest.length := by
  obtain ⟨ks, news, at', h1, _⟩ := h
  have := K_bytes _ _ _ _ _ _ (Nat.le_refl _) h1
  simpa using this

/-- 'append(xs, make([]int32, m)...)' where there is room. -/
theorem run_zeros {w : World} {g n cap : Nat} {xs : List Value} (hown : w.ownsRow 0 21 1 (sl g n cap) n xs) (m : Nat) (hm : m ≤ 4) (hroom : n + m ≤ cap) (ty : TypeId) :
    ∃ w', (Builtin.append_ #[52, 3] ty #[sl g n cap, .int .i64 (m : Int)]).run Try.prog w = .ok (sl g (n + m) cap) w' ∧ w'.ownsRow 0 21 1 (sl g (n + m) cap) (n + m) (xs ++ List.replicate m (.int .i32 0)) ∧ w.grownBy w' (some g) := by
  obtain ⟨i, hi, hz0, hz1, hz2⟩ := info_parts Try.info21
  rcases hown.2 with ⟨h0, _⟩ | ⟨g', cap', cur, hv, hbg, hg, hnc, hcm, hcs, htake⟩
  · cases h0
  · cases hv
    have hlen : (xs ++ List.replicate m (Value.int .i32 0)).length = (n + m) * 1 := by rw [List.length_append, hown.1]; simp
    have hst := run_storeCells_at Try.prog g n 21 (List.replicate m (Value.int .i32 0)) 0 cur w hg (by simp; omega) (by simp [Value.oneCell'])
    simp only [Nat.add_zero] at hst
    refine ⟨w.setRow g (cur.toList.take n ++ List.replicate m (Value.int .i32 0) ++ cur.toList.drop (n + (List.replicate m (Value.int .i32 0)).length)).toArray, ?_, ⟨hlen, .inr ⟨g, cap, _, rfl, hbg, setRow_heap w g cur _ 21 _ hg, hroom, hcm, ?_, ?_⟩⟩, ⟨rfl, rfl, rfl, by simp, fun k _ hk => setRow_other w g k _ (fun e => hk (by simp [e]))⟩⟩
    · have hw : IntKind.i64.wrap (m : Int) = m := by rw [IntKind.wrap_i64]; omega
      have hneg : ¬ ((m : Int) < 0) := by omega
      have h48 : ¬ (281474976710656 < (m : Int) * (i.bytes : Int)) := by rw [hz2]; omega
      simp [Builtin.append_, run_underlying Try.underlying52, run_underlying Try.underlying3, sizeOf, typeInfo, hi, hz1, asInt, asIntOf, hw, hneg, h48, hroom, hz2]
      have hz : (Builtin.zeroCells (Value.int IntKind.i32 0).cells m).toList = List.replicate m (Value.int .i32 0) := by
        rw [List.eq_replicate_iff]
        simp [Builtin.zeroCells, Value.cells, Nat.mod_one]
      rw [if_neg (by omega), add_zero_addr, hz]
      simp only [List.length_replicate, List.append_assoc] at hst
      by_cases h0 : m = 0
      · subst h0
        rw [if_pos rfl]
        simp only [List.replicate_zero] at hst
        rw [hst]
        rfl
      · rw [if_neg h0, hst]
        rfl
    · simp only [List.size_toArray, List.length_append, List.length_take, List.length_drop, Array.length_toList, List.length_replicate]
      omega
    · have ht' : cur.toList.take n = xs := by rw [← htake]; simp
      rw [ht', ← hlen]
      exact List.take_left
end Go.Proofs.Qxb6500301a
