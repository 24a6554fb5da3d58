import Derived.Test.Qxb6500301aMod5
import Derived.Lib.AppendZeros
namespace Go.Proofs.Qxb6500301a
open Go.RowKit
set_option linter.unusedSimpArgs false
set_option linter.unusedVariables false
attribute [local go_sem ↓] Go.wp_at_zero Go.wp_at_succ
attribute [-go_sem] Go.run_string_add_if Go.run_index_string Go.run_slice_string_if

theorem Try.info111 : (Try.prog.info? 111).map (fun i => (i.zero, i.size, i.bytes)) = some (some (.agg #[.string { data := #[] }, .int .i64 0, .int .i64 0, .int .i64 0, .int .i64 0, .int .i64 0]), 6, 56) := by kernel_rfl
theorem Try.info3 : (Try.prog.info? 3).map (fun i => (i.zero, i.size, i.bytes)) = some (some (.int .i64 0), 1, 8) := by kernel_rfl

/-- A slice of m nodes with these cells. -/
def SrcAt (w : World) (x : Value) (m : Nat) (news : List Value) : Prop :=
  (x = .slice none 0 0 ∧ m = 0 ∧ news = []) ∨ ∃ ad c, x = .slice (some ad) m c ∧ news.length = m * 6 ∧ ∀ j u, news[j]? = some u → w.cell? (ad.add j) = some u
theorem SrcAt.of {w : World} {b0 n : Nat} {v : Value} {xs : List Value} (h : w.ownsRow b0 111 6 v n xs) : SrcAt w v n xs := by
  rcases h.2 with ⟨hv, h0⟩ | ⟨g, cap, cur, hv, hb, hg, hn, hc, hs, ht⟩
  · exact .inl ⟨hv, h0, List.eq_nil_of_length_eq_zero (by rw [h.1, h0])⟩
  · refine .inr ⟨⟨g, 0, none⟩, cap, hv, h.1, fun j u hj => ?_⟩
    have hlt := (List.getElem?_eq_some_iff.1 hj).1
    rw [add_zero_addr]
    subst hv
    rw [h.cellAt j (by rw [← h.1]; exact hlt)]
    exact hj
theorem SrcAt.no {w w' : World} {x : Value} {m : Nat} {news : List Value} (h : SrcAt w x m news) (hf : Fr No w w') : SrcAt w' x m news := by
  rcases h with h | ⟨ad, c, h1, h2, h3⟩
  · exact .inl h
  · exact .inr ⟨ad, c, h1, h2, fun j u hj => hf.cellNo (h3 j u hj)⟩

theorem ndM_one (i : Nat) (x : Nd) : ∀ u ∈ ndM i x, u.oneCell' = true := by
  intro u hu
  simp only [ndM, List.mem_cons, List.not_mem_nil, or_false] at hu
  rcases hu with rfl | rfl | rfl | rfl | rfl | rfl <;> simp [Value.oneCell']
theorem nodesM_one : ∀ (k : Nat) (ns : List Nd), ∀ u ∈ nodesM k ns, u.oneCell' = true
  | k, [], u, hu => by simp [nodesM] at hu
  | k, x :: r, u, hu => by
    have hu' : u ∈ ndM k x ++ nodesM (k + 1) r := hu
    rcases List.mem_append.1 hu' with h | h
    · exact ndM_one k x u h
    · exact nodesM_one (k + 1) r u h

theorem run_spread {w : World} {b0 n m : Nat} {v x : Value} {xs news : List Value} (hown : w.ownsRow b0 111 6 v n xs) (hx : SrcAt w x m news) (h1 : ∀ u ∈ news, u.oneCell' = true) (hb : n + m ≤ 5000) (hbase : b0 ≤ w.heap.size) (ty : TypeId) :
    ∃ bs cap w', (Builtin.append_ #[94, 94] ty #[v, x]).run Try.prog w = .ok (.slice bs (n + m) cap) w' ∧ w'.ownsRow b0 111 6 (.slice bs (n + m) cap) (n + m) (xs ++ news) ∧ w.grownBy w' v.ownBlock ∧ ((Value.slice bs (n + m) cap).ownBlock = v.ownBlock ∨ (Value.slice bs (n + m) cap).ownBlock = some w.heap.size) := by
  obtain ⟨i, hi, hz0, hz1, hz2⟩ := info_parts Try.info111
  rcases hx with ⟨rfl, rfl, rfl⟩ | ⟨ad, c, rfl, hl, hc⟩
  · have hr := run_append_owned_none (P := Try.prog) (w := w) b0 94 ty 111 i 6 Try.underlying94 hi v n xs hown
    obtain ⟨bs, cap, rfl⟩ := owns_slice hown
    refine ⟨bs, cap, w, hr, by rw [List.append_nil]; exact hown, ⟨rfl, rfl, rfl, Nat.le_refl _, fun _ _ _ => rfl⟩, .inl rfl⟩
  · obtain ⟨v', w', hr, h2, h3, _, h5⟩ := run_append_own_at (P := Try.prog) w b0 94 ty 111 i _ 6 56 Try.underlying94 hi hz0 hz1 hz2 rfl (by omega) v n xs hown ad m c news hl hc h1 (by unfold maxLen; omega) (by omega) hbase
    obtain ⟨bs, cap, rfl⟩ := owns_slice h2
    exact ⟨bs, cap, w', hr, h2, h3, h5⟩
theorem wpList_spread {w : World} {ops : Array Oper} {rest : List Oper} {o : Oper} {a : Act} {Q : Exit → Act → World → Prop} (hgd : o.guard = none) (s x : Operand)
    (ho : o.op = .call { callee := .builtin .append, args := #[s, x], argTypes := #[94, 94] }) {b0 n m : Nat} {v vx : Value} {xs news : List Value} (hs : a.eval s = v) (hvx : a.eval x = vx)
    (hown : w.ownsRow b0 111 6 v n xs) (hx : SrcAt w vx m news) (h1 : ∀ u ∈ news, u.oneCell' = true) (hb : n + m ≤ 5000) (hbase : b0 ≤ w.heap.size)
    (h : ∀ bs cap w', w'.ownsRow b0 111 6 (.slice bs (n + m) cap) (n + m) (xs ++ news) → w.grownBy w' v.ownBlock → ((Value.slice bs (n + m) cap).ownBlock = v.ownBlock ∨ (Value.slice bs (n + m) cap).ownBlock = some w.heap.size) → wpList Try.prog ops Q rest (a.put o.dst (.slice bs (n + m) cap)) w') : wpList Try.prog ops Q (o :: rest) a w := by
  obtain ⟨bs, cap, w', hr, h2, h3, h4⟩ := run_spread hown hx h1 hb hbase o.type
  exact Go.Lib.wpList_append_run w hgd s x 94 94 ho v vx hs hvx _ w' hr (h bs cap w' h2 h3 h4)
theorem step_spread {w : World} {ops : Array Oper} {o : Oper} {a : Act} {K : Act → World → Prop} {Q : Exit → Act → World → Prop} {E : Prop} (hgd : o.guard = none) (s x : Operand)
    (ho : o.op = .call { callee := .builtin .append, args := #[s, x], argTypes := #[94, 94] }) {b0 n m : Nat} {v vx : Value} {xs news : List Value} (hs : a.eval s = v) (hvx : a.eval x = vx)
    (hown : w.ownsRow b0 111 6 v n xs) (hx : SrcAt w vx m news) (h1 : ∀ u ∈ news, u.oneCell' = true) (hb : n + m ≤ 5000) (hbase : b0 ≤ w.heap.size)
    (h : ∀ bs cap w', w'.ownsRow b0 111 6 (.slice bs (n + m) cap) (n + m) (xs ++ news) → w.grownBy w' v.ownBlock → ((Value.slice bs (n + m) cap).ownBlock = v.ownBlock ∨ (Value.slice bs (n + m) cap).ownBlock = some w.heap.size) → K (a.put o.dst (.slice bs (n + m) cap)) w') :
    if Region.wanted o (yielded ops a.tmps) = true then Oper.wp Try.prog o a w K Q else E := by
  have hw : Region.wanted o (yielded ops a.tmps) = true := by simp [Region.wanted, hgd]
  rw [if_pos hw]
  obtain ⟨bs, cap, w', hr, h2, h3, h4⟩ := run_spread hown hx h1 hb hbase o.type
  exact Go.Lib.wp_append_run w s x 94 94 ho v vx hs hvx _ w' hr (h bs cap w' h2 h3 h4)

section
variable {w : World} {b0 q : Nat} {vn vo vl : Value} {ns ns2 : List Nd} {saved saved2 : List (List Nd)}
theorem row_setCell {w : World} {b0 e sz n q i : Nat} {v u : Value} {xs : List Value} (h : w.ownsRow b0 e sz v n xs) (hq : ∀ k, v.ownBlock = some k → q ≠ k) : (w.setCell ⟨q, i, none⟩ u).ownsRow b0 e sz v n xs :=
  ownsRow_keep h (Fr.setCell (S := fun k => k = q) (Fr.refl _ w) (fun _ => rfl) _) (fun k hk e => hq k hk e.symm)
theorem top_ne {w : World} {b0 e sz n q : Nat} {v : Value} {xs : List Value} {cs : Array Value} {T : TypeId} (h : w.ownsRow b0 e sz v n xs) (ht : w.heap[q]? = some (.cells cs T)) (he : e ≠ T) : ∀ k, v.ownBlock = some k → q ≠ k := by
  intro k hk e
  subst e
  obtain ⟨cs', h1⟩ := owns_block h hk
  rw [ht] at h1; simp at h1
  exact he h1.2.symm
/-- Another row of nodes is laid in. -/
theorem MAt.setN (h : MAt w b0 q vn vo vl ns saved) {vn2 : Value} (hr : w.ownsRow b0 111 6 vn2 ns2.length (nodesM 0 ns2)) (hno : ∀ k, vn2.ownBlock = some k → vo.ownBlock ≠ some k) : MAt (w.setCell ⟨q, 0, none⟩ vn2) b0 q vn2 vo vl ns2 saved :=
  ⟨heap_setCell_same _ h.top, row_setCell hr (top_ne hr h.top (by decide)), row_setCell h.ro h.qo, row_setCell h.rl h.ql, hno, h.qb⟩
end

/-- The model's own blocks. -/
def Foot (q : Nat) (vn vo vl : Value) (k : Nat) : Prop := k = q ∨ vn.ownBlock = some k ∨ vo.ownBlock = some k ∨ vl.ownBlock = some k
theorem MAt.foot {w : World} {b0 q : Nat} {vn vo vl : Value} {ns : List Nd} {saved : List (List Nd)} (h : MAt w b0 q vn vo vl ns saved) {k : Nat} (hk : Foot q vn vo vl k) : b0 ≤ k ∧ k < w.heap.size := by
  rcases hk with e | e | e | e
  · rw [e]; exact ⟨h.qb, lt_of_heap h.top⟩
  · exact h.rn.lt k e
  · exact h.ro.lt k e
  · exact h.rl.lt k e
theorem mReset_foot {w : World} {b0 q : Nat} {vn vo vl : Value} {ns : List Nd} {saved : List (List Nd)} (h : MAt w b0 q vn vo vl ns saved) : Calls Try.prog 47 #[.pointer (some ⟨q, 0, none⟩)] w fun e w' => e = .returned (.tuple #[]) ∧ ModAt w' b0 q [] [] ∧ Fr (Foot q vn vo vl) w w' := by
  have c0 := cell_of 0 h.top rfl
  have c1 := cell_of 1 h.top rfl
  have c2 := cell_of 2 h.top rfl
  have z0 := frozen_of 0 h.top
  have z1 := frozen_of 1 h.top
  have z2 := frozen_of 2 h.top
  go_enter Try.func47, Try.ntmps47
  go_wp2_with fail
  go_end0
  refine ⟨rfl, ⟨.slice none 0 0, .slice none 0 0, .slice none 0 0, ?_, World.ownsRow_nil _ _ _ _, World.ownsRow_nil _ _ _ _, World.ownsRow_nil _ _ _ _, (fun k hk => by cases hk), h.qb⟩, ?_⟩
  · exact heap_setCell_same _ (heap_setCell_same _ (heap_setCell_same _ h.top))
  · exact (((Fr.refl _ w).setCell (fun _ => .inl rfl) _).setCell (fun _ => .inl rfl) _).setCell (fun _ => .inl rfl) _

/-- A step of the model that answers two numbers and leaves these nodes. -/
def MPost (b0 q : Nat) (vn vo vl : Value) (saved : List (List Nd)) (r : Int × Int × List Nd) (w : World) (e : Ending) (w' : World) : Prop :=
  e = .returned (.tuple #[.int .i64 r.1, .int .i64 r.2.1]) ∧ ModAt w' b0 q r.2.2 saved ∧ Fr (Foot q vn vo vl) w w'
/-- .. that answers an error. -/
def MOne (b0 q : Nat) (vn vo vl : Value) (ns : List Nd) (saved : List (List Nd)) (r : Int) (w : World) (e : Ending) (w' : World) : Prop :=
  e = .returned (.int .i64 r) ∧ ModAt w' b0 q ns saved ∧ Fr (Foot q vn vo vl) w w'

section
variable {w : World} {b0 q : Nat} {vn vo vl : Value} {ns : List Nd} {saved : List (List Nd)}
set_option maxRecDepth 40000 in
set_option maxHeartbeats 4000000 in
theorem mUnify_any (hb0 : b0 ≤ w.heap.size) (h : MAt w b0 q vn vo vl ns saved) (ok : OkS ns saved) (a b : Int) : Calls Try.prog 49 #[.pointer (some ⟨q, 0, none⟩), .int .i64 a, .int .i64 b] w (MPost b0 q vn vo vl saved (unifyAns ns a b) w) := by
  have hw := ok.wf
  have hs := ok.small
  by_cases hout : a < 0 ∨ (ns.length : Int) ≤ a ∨ b < 0 ∨ (ns.length : Int) ≤ b
  · have HA : Hid (unifyAns ns a b = (0, 4, ns)) := by show _ = _; unfold unifyAns; rw [if_pos hout]
    obtain ⟨bs, cap, rfl⟩ := owns_slice h.rn
    have HM : Hid (ModAt w b0 q ns saved) := ⟨_, vo, vl, h⟩
    have c0 := cell_of 0 h.top rfl
    have hfin : MPost b0 q (.slice bs ns.length cap) vo vl saved (unifyAns ns a b) w (.returned (.tuple #[.int .i64 0, .int .i64 4])) w := by
      rw [HA.out]; exact ⟨rfl, HM.out, Fr.refl _ _⟩
    have HFIN : Hid (MPost b0 q (.slice bs ns.length cap) vo vl saved (unifyAns ns a b) w (.returned (.tuple #[.int .i64 0, .int .i64 4])) w) := hfin
    clear hfin
    by_cases h1 : a < 0
    · have d1 : decide (a < 0) = true := decide_eq_true h1
      clear h hout
      go_enter Try.func49, Try.ntmps49
      go_wp2_with fail
      go_ret2
      exact HFIN.out
    · have d1 : decide (a < 0) = false := decide_eq_false h1
      by_cases h2 : (ns.length : Int) ≤ a
      · have d2 : decide ((ns.length : Int) ≤ a) = true := decide_eq_true h2
        clear h hout
        go_enter Try.func49, Try.ntmps49
        go_wp2_with fail
        go_ret2
        exact HFIN.out
      · have d2 : decide ((ns.length : Int) ≤ a) = false := decide_eq_false h2
        by_cases h3 : b < 0
        · have d3 : decide (b < 0) = true := decide_eq_true h3
          clear h hout
          go_enter Try.func49, Try.ntmps49
          go_wp2_with fail
          go_ret2
          exact HFIN.out
        · have d3 : decide (b < 0) = false := decide_eq_false h3
          have d4 : decide ((ns.length : Int) ≤ b) = true := decide_eq_true (by omega)
          clear h hout
          go_enter Try.func49, Try.ntmps49
          go_wp2_with fail
          go_ret2
          exact HFIN.out
  · obtain ⟨x, rfl⟩ : ∃ k : Nat, a = (k : Int) := ⟨a.toNat, by omega⟩
    obtain ⟨y, rfl⟩ : ∃ k : Nat, b = (k : Int) := ⟨b.toNat, by omega⟩
    have HA : Hid (unifyAns ns (x : Int) (y : Int) = unifyR ns (U 40 ns [(x, y)])) := by show _ = _; unfold unifyAns; rw [if_neg hout, Int.toNat_natCast, Int.toNat_natCast]
    have hx : x < ns.length := by omega
    have hy : y < ns.length := by omega
    have d1 : decide ((x : Int) < 0) = false := decide_eq_false (by omega)
    have d2 : decide ((ns.length : Int) ≤ (x : Int)) = false := decide_eq_false (by omega)
    have d3 : decide ((y : Int) < 0) = false := decide_eq_false (by omega)
    have d4 : decide ((ns.length : Int) ≤ (y : Int)) = false := decide_eq_false (by omega)
    have d2' : decide (ns.length ≤ x) = false := decide_eq_false (by omega)
    have d4' : decide (ns.length ≤ y) = false := decide_eq_false (by omega)
    obtain ⟨g, cap, rfl, hgb, hgl, hcap⟩ := owns_ptr h.rn (by omega)
    have c0 := cell_of 0 h.top rfl
    have hsrc := SrcAt.of h.rn
    have HM : Hid (MAt w b0 q (sl g ns.length cap) vo vl ns saved) := h
    have hn1 := nodesM_one 0 ns
    have HCL : Hid (∀ w', b0 ≤ w'.heap.size → MAt w' b0 q (sl g ns.length cap) vo vl ns saved → Calls Try.prog 64 #[.pointer (some ⟨q, 0, none⟩), .int .i64 (x : Int), .int .i64 (y : Int), .int .i64 0] w' (MUniPost b0 q (sl g ns.length cap) vo vl saved (U 40 ns [(x, y)]) w')) := fun w' hb hm => mUni_any 40 (Nat.le_refl _) w' ns x y hb hm hw hs hx hy
    clear h hout
    go_enter Try.func49, Try.ntmps49
    go_upto_region 5 with (at_builtin; refine wpList_spread (by rfl) _ _ (by rfl) (by rfl) (by rfl) (World.ownsRow_nil w b0 111 6) hsrc hn1 (by omega) hb0 ?_; intro bs2 cap2 w2 hown2 hgrow2 hat2)
    simp only [Nat.zero_add] at hown2 hat2
    obtain ⟨g2, cap3, heq, hg2b, hg2l, hcap2⟩ := owns_ptr hown2 (by omega)
    injection heq with q1 q2 q3
    subst q1 q3
    have hg2 : g2 = w.heap.size := by
      rcases hat2 with e | e
      · cases e
      · simpa [Value.ownBlock] using e
    have hne : g ≠ g2 := by omega
    have F2 : Fr No w w2 := (Fr.refl No w).grown hgrow2 (fun k e => by cases e)
    have HM2 : Hid (MAt w2 b0 q (sl g ns.length cap) vo vl ns saved) := HM.out.no' F2
    have HF2 : Hid (Fr No w w2) := F2
    have HK2 : Hid (w2.ownsRow b0 111 6 (sl g2 ns.length cap2) ns.length (nodesM 0 ns)) := hown2
    have HG2 : Hid (vo.ownBlock ≠ some g2) := fun e => by
      have := (HM.out.ro.lt g2 e).2
      omega
    have hs2 := F2.size
    clear hown2 hgrow2 hat2 c0 hsrc F2 hg2 q2
    go_wp2_with fail
    refine (HCL.out w2 (by omega) HM2.out).mono ?_
    rintro e w3 ⟨n3, er3, rfl, F3, hR3⟩
    have hs3 := F3.size
    have HF3 : Hid (Fr (Foot q (sl g ns.length cap) vo vl) w w3) := (HF2.out.mono (fun _ _ e => e.elim)).trans F3 (fun k _ e => .inr (.inl e))
    cases hU : U 40 ns [(x, y)] with
    | inl er =>
      rw [hU] at hR3 HA
      obtain ⟨hne0, rfl, ns', hM3⟩ := hR3
      have n1 : ((er : Int) == 0) = false := by simp; omega
      have n2 : decide ((er : Int) = 0) = false := decide_eq_false (by omega)
      have hk3 := ownsRow_keep HK2.out F3 (fun k hk e => hne (by
        have e1 : g2 = k := by simpa [Value.ownBlock] using hk
        have e2 : g = k := by simpa [OwnB, Value.ownBlock] using e
        omega))
      have ct := cell_of 0 hM3.top rfl
      have zt := frozen_of 0 hM3.top
      have HKK : Hid (w3.ownsRow b0 111 6 (sl g2 ns.length cap2) ns.length (nodesM 0 ns)) := hk3
      have HM3 : Hid (MAt w3 b0 q (sl g ns.length cap) vo vl ns' saved) := hM3
      clear hU hM3 hk3 F3
      go_wp2_with fail
      go_ret2
      rw [HA.out]
      exact ⟨rfl, ⟨sl g2 ns.length cap2, vo, vl, HM3.out.setN HKK.out (fun k hk e => HG2.out (by rw [e, ← hk]; rfl))⟩, HF3.out.setCell (fun _ => .inl rfl) _⟩
    | inr r3 =>
      obtain ⟨f3, ns3, bs3⟩ := r3
      rw [hU] at hR3 HA
      obtain ⟨rfl, rfl, hM3⟩ := hR3
      have HM3 : Hid (MAt w3 b0 q (sl g ns.length cap) vo vl ns3 saved) := hM3
      clear hU hM3 F3
      go_wp2_with fail
      go_ret2
      rw [HA.out]
      exact ⟨rfl, ⟨_, _, _, HM3.out⟩, HF3.out⟩
end
end Go.Proofs.Qxb6500301a
