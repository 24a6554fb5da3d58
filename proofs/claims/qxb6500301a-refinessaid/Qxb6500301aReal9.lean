import Derived.Test.Qxb6500301aReal8
import Derived.WalkMore
import Derived.ScopeJumps
import Derived.Laws.Cover3
import Derived.Test.Qxb6500301aReal8b
namespace Go.Proofs.Qxb6500301a
open Go.RowKit
set_option linter.unusedSimpArgs false
set_option linter.unusedVariables false
attribute [local go_sem ↓] Go.wp_at_zero Go.wp_at_succ
attribute [-go_sem] Go.run_string_add_if Go.run_index_string Go.run_slice_string_if

/-- A scope in which the run jumps forward to one label: what stands behind the label is walked at each jump. -/
theorem wp_scope_fwd {P : Program} {a : Act} {w : World} {Q : Exit → Act → World → Prop} {c rest : Code} (l : Nat) (hf : findLabel c l = some rest) (h : c.wp P (Exit.jump l (fun a w => rest.wp P (Exit.noGoto Q) a w) Q) a w) : (Code.scope c).wp P Q a w := by
  refine wp_scope_jumps l _ (fun _ _ => 0) hf h (fun a w hJ => Code.wp_mono (fun e a w hq => ?_) hJ)
  cases e with
  | goto l' => exact hq.elim
  | normal => exact hq
  | exit id => exact hq
  | ret => exact hq
  | panic ch => exact hq
  | outgrown => exact hq
theorem jump_ret {l : Nat} {J : Act → World → Prop} {Q : Exit → Act → World → Prop} {a : Act} {w : World} : Exit.jump l J Q .ret a w = Q .ret a w := rfl
theorem jump_goto {l : Nat} {J : Act → World → Prop} {Q : Exit → Act → World → Prop} {a : Act} {w : World} : Exit.jump l J Q (.goto l) a w = J a w := by
  show (l = l ∧ J a w) = _
  simp
attribute [local go_sem] jump_ret jump_goto

section
variable {f : Nat} {ns : List Nd} {a b x y : Nat}
theorem stp_same (hx : deref ns a = x) (hy : deref ns b = y) (e : x = y) : stp f ns a b = .done f ns [] := by
  unfold stp; rw [hx, hy, if_pos e]
theorem stp_vv (hx : deref ns a = x) (hy : deref ns b = y) (e : x ≠ y) (h1 : ns[x]? = some (.v none)) (h2 : ns[y]? = some (.v none)) : stp f ns a b = .done f (ns.set (max x y) (.v (some (min x y)))) [max x y] := by
  unfold stp; rw [hx, hy, if_neg e, h1, h2]
theorem stp_vs {c d : UInt8} {es : List Nat} (hx : deref ns a = x) (hy : deref ns b = y) (h1 : ns[x]? = some (.v none)) (h2 : ns[y]? = some (.s c d es)) : stp f ns a b = bnd f ns x y := by
  have e : x ≠ y := by rintro rfl; rw [h1] at h2; cases h2
  unfold stp; rw [hx, hy, if_neg e, h1, h2]
theorem stp_sv {c d : UInt8} {es : List Nat} (hx : deref ns a = x) (hy : deref ns b = y) (h1 : ns[x]? = some (.s c d es)) (h2 : ns[y]? = some (.v none)) : stp f ns a b = bnd f ns y x := by
  have e : x ≠ y := by rintro rfl; rw [h1] at h2; cases h2
  unfold stp; rw [hx, hy, if_neg e, h1, h2]
theorem stp_ss {c d c' d' : UInt8} {es es' : List Nat} (hx : deref ns a = x) (hy : deref ns b = y) (e : x ≠ y) (h1 : ns[x]? = some (.s c d es)) (h2 : ns[y]? = some (.s c' d' es')) : stp f ns a b = if c = c' ∧ d = d' then .more (es.zip es') else .err 7 := by
  unfold stp; rw [hx, hy, if_neg e, h1, h2]
end

section
variable {w : World} {p : Nat} {B : Blks} {ns : List Nd} {ws : List Int} {tr tms : List Nat} {saved : List (List Nd)}

/-- A step that leaves the nodes as they are, or binds. -/
theorem UAt.next {R : UR} {q : Nat × Nat} {l : List (Nat × Nat)} {k k' : Nat} {v12 v12' : Value} {wr w' : World} {ns1 ns2 : List Nd} {ws1 ws2 : List Int} {bs bs' : List Nat} (h : UAt w p B ns tr tms saved R (q :: l) (k + 1) v12 wr ns1 ws1 bs)
    (hs : stp k ns1 q.1 q.2 = .done k' ns2 bs') (hr : RAt w' p B ns2 ws2 (tr ++ (bs ++ bs')) tms saved) (hst : PStk w.heap.size w' v12' l) (hf : Fr (B.Has p) w w') : UAt w p B ns tr tms saved R l k' v12' w' ns2 ws2 (bs ++ bs') := by
  obtain ⟨h1, h2⟩ := h.lt q (by simp)
  obtain ⟨s1, s2⟩ := (stp_wf (f := k) h.wf (by rw [h.bnd.len]; exact h1) (by rw [h.bnd.len]; exact h2)).1 _ _ _ hs
  refine ⟨hr, h.bnd.trans s2, s1, hst, fun x hx => h.lt x (by simp [hx]), ?_, hf⟩
  have := h.res
  obtain ⟨qa, qb⟩ := q
  rw [U_cons] at this
  simp only at hs
  rw [hs] at this
  rw [this, app_app]
theorem UAt.more {R : UR} {q : Nat × Nat} {l : List (Nat × Nat)} {k : Nat} {v12 v12' : Value} {wr w' : World} {ns1 : List Nd} {ws1 : List Int} {bs : List Nat} {ps : List (Nat × Nat)} (h : UAt w p B ns tr tms saved R (q :: l) (k + 1) v12 wr ns1 ws1 bs)
    (hs : stp k ns1 q.1 q.2 = .more ps) (hr : RAt w' p B ns1 ws1 (tr ++ bs) tms saved) (hst : PStk w.heap.size w' v12' (ps ++ l)) (hf : Fr (B.Has p) w w') : UAt w p B ns tr tms saved R (ps ++ l) k v12' w' ns1 ws1 bs := by
  obtain ⟨h1, h2⟩ := h.lt q (by simp)
  have s1 := (stp_wf (f := k) h.wf (by rw [h.bnd.len]; exact h1) (by rw [h.bnd.len]; exact h2)).2 _ hs
  refine ⟨hr, h.bnd, h.wf, hst, fun x hx => ?_, ?_, hf⟩
  · rcases List.mem_append.1 hx with hx | hx
    · have := s1 x hx; rw [h.bnd.len] at this; exact this
    · exact h.lt x (by simp [hx])
  · have := h.res
    obtain ⟨qa, qb⟩ := q
    rw [U_cons] at this
    simp only at hs
    rw [hs] at this
    exact this
theorem UAt.err {R : UR} {q : Nat × Nat} {l : List (Nat × Nat)} {k e : Nat} {v12 : Value} {wr : World} {ns1 : List Nd} {ws1 : List Int} {bs : List Nat} (h : UAt w p B ns tr tms saved R (q :: l) (k + 1) v12 wr ns1 ws1 bs) (hs : stp k ns1 q.1 q.2 = .err e) : R = .inl e := by
  have := h.res
  obtain ⟨qa, qb⟩ := q
  rw [U_cons] at this
  simp only at hs
  rw [hs] at this
  exact this
theorem UAt.big {R : UR} {q : Nat × Nat} {l : List (Nat × Nat)} {v12 : Value} {wr : World} {ns1 : List Nd} {ws1 : List Int} {bs : List Nat} (h : UAt w p B ns tr tms saved R (q :: l) 0 v12 wr ns1 ws1 bs) : R = .inl 8 := by
  have := h.res
  rw [U_zero] at this
  exact this

theorem Try.info84 : (Try.prog.info? 84).map (fun i => (i.zero, i.size, i.bytes)) = some (some (.agg #[.int .i32 0, .int .i32 0]), 2, 8) := by kernel_rfl
theorem nodup_len : ∀ (n : Nat) (l : List Nat), l.Nodup → (∀ x ∈ l, x < n) → l.length ≤ n
  | 0, l, _, h => by
    cases l with
    | nil => simp
    | cons a l => have := h a (by simp); omega
  | n + 1, l, hn, h => by
    by_cases hm : n ∈ l
    · have := nodup_len n (l.erase n) (hn.erase n) (fun x hx => by
        have h1 := (hn.mem_erase_iff).1 hx
        have := h x h1.2
        have := h1.1
        omega)
      rw [List.length_erase_of_mem hm] at this
      omega
    · have := nodup_len n l hn (fun x hx => by
        have := h x hx
        have : x ≠ n := fun e => hm (e ▸ hx)
        omega)
      omega
/-- There is room on the trail for one binding more. -/
theorem UAt.room {R : UR} {l : List (Nat × Nat)} {k : Nat} {v12 : Value} {wr : World} {ns1 : List Nd} {ws1 : List Int} {bs : List Nat} (h : UAt w p B ns tr tms saved R l k v12 wr ns1 ws1 bs)
    (hi : Inv ns tr ((saved.map List.length).zip tms)) {v : Nat} (hv : ns1[v]? = some (.v none) ∨ False) : (tr ++ bs).length < 64 := by
  have hw := hi.wft.bnds h.bnd h.wf
  have hv' : ns1[v]? = some (.v none) := hv.resolve_right id
  have hnot : v ∉ tr ++ bs := fun e => by
    obtain ⟨r, hr⟩ := (hw.mem v).1 e
    rw [hv'] at hr; cases hr
  have := nodup_len ns1.length (v :: (tr ++ bs)) (List.nodup_cons.2 ⟨hnot, hw.nodup⟩) (fun x hx => by
    rcases List.mem_cons.1 hx with rfl | hx
    · exact lt_of_some hv'
    · obtain ⟨r, hr⟩ := (hw.mem x).1 hx
      exact lt_of_some hr)
  have hs := hw.small
  simp only [List.length_cons] at this
  omega

set_option maxRecDepth 40000 in
set_option maxHeartbeats 16000000 in
theorem Unify_any (h : HeapAt w p B ns saved) (a b : Int) : Calls Try.prog 28 #[.pointer (some ⟨p, 0, none⟩), .int .i64 a, .int .i64 b] w (UniPost p B saved (unifyAns ns a b) w) := by
  obtain ⟨hw, hs⟩ := h.wf
  have HH : Hid (HeapAt w p B ns saved) := h
  obtain ⟨ws, tr, tms, h1, hinv, hsv, htm⟩ := h.main
  have HI : Hid (Inv ns tr ((saved.map List.length).zip tms)) := hinv
  have HV : Hid (saved = savedOf ns tr ((saved.map List.length).zip tms)) := hsv
  have c0 := h1.p0
  have c4 := h1.p4
  by_cases h0 : a < 0 ∨ (ns.length : Int) ≤ a ∨ b < 0 ∨ (ns.length : Int) ≤ b
  · have HA : Hid (unifyAns ns a b = (0, 4, ns)) := by show _ = _; unfold unifyAns; rw [if_pos h0]
    have fin : UniPost p B saved (unifyAns ns a b) w (.returned (.tuple #[.int .i64 0, .int .i64 4])) w := by
      rw [HA.out]; exact ⟨rfl, HH.out, Fr.refl _ _⟩
    have HF : Hid _ := fin
    clear hinv hsv fin h
    by_cases a0 : a < 0
    · have d1 : decide (a < 0) = true := decide_eq_true a0
      go_enter Try.func28, Try.ntmps28
      go_wp2_with fail
      refine wp_scope_fwd 0 rfl ?_
      go_wp2_with fail
      go_ret2
      exact HF.out
    · have d1 : decide (a < 0) = false := decide_eq_false a0
      by_cases a1 : (ns.length : Int) ≤ a
      · have d2 : decide ((ns.length : Int) ≤ a) = true := decide_eq_true a1
        go_enter Try.func28, Try.ntmps28
        go_wp2_with fail
        refine wp_scope_fwd 0 rfl ?_
        go_wp2_with fail
        go_ret2
        exact HF.out
      · have d2 : decide ((ns.length : Int) ≤ a) = false := decide_eq_false a1
        by_cases b0 : b < 0
        · have d3 : decide (b < 0) = true := decide_eq_true b0
          go_enter Try.func28, Try.ntmps28
          go_wp2_with fail
          refine wp_scope_fwd 0 rfl ?_
          go_wp2_with fail
          go_ret2
          exact HF.out
        · have d3 : decide (b < 0) = false := decide_eq_false b0
          have d4 : decide ((ns.length : Int) ≤ b) = true := decide_eq_true (by omega)
          go_enter Try.func28, Try.ntmps28
          go_wp2_with fail
          refine wp_scope_fwd 0 rfl ?_
          go_wp2_with fail
          go_ret2
          exact HF.out
  · obtain ⟨i, rfl⟩ : ∃ i : Nat, a = (i : Int) := ⟨a.toNat, by omega⟩
    obtain ⟨j, rfl⟩ : ∃ j : Nat, b = (j : Int) := ⟨b.toNat, by omega⟩
    have hil : i < ns.length := by omega
    have hjl : j < ns.length := by omega
    have hA : unifyAns ns (i : Int) (j : Int) = unifyR ns (U 40 ns [(i, j)]) := by unfold unifyAns; rw [if_neg h0, Int.toNat_natCast, Int.toNat_natCast]
    generalize hR : U 40 ns [(i, j)] = R at hA
    have HA : Hid (unifyAns ns (i : Int) (j : Int) = unifyR ns R) := hA
    have d1 : decide ((i : Int) < 0) = false := decide_eq_false (by omega)
    have d2 : decide ((ns.length : Int) ≤ (i : Int)) = false := decide_eq_false (by omega)
    have d2' : decide (ns.length ≤ i) = false := decide_eq_false (by omega)
    have d3 : decide ((j : Int) < 0) = false := decide_eq_false (by omega)
    have d4 : decide ((ns.length : Int) ≤ (j : Int)) = false := decide_eq_false (by omega)
    have d4' : decide (ns.length ≤ j) = false := decide_eq_false (by omega)
    have HR : Hid (R = U 40 ns [(i, j)]) := hR.symm
    have H1 : Hid (RAt w p B ns ws tr tms saved) := h1
    clear hinv hsv h h1 h0 hA hR
    go_enter Try.func28, Try.ntmps28
    go_wp2_with fail
    refine wp_scope_fwd 0 rfl ?_
    go_upto_region 7 with fail
    have S0 : PStk w.heap.size (w.alloc (.cells #[.int .i32 (i : Int), .int .i32 (j : Int)] 84)) (.slice (some ⟨w.heap.size, 0, none⟩) 1 1) [(i, j)] := World.ownsRow_lit w #[.int .i32 (i : Int), .int .i32 (j : Int)] 1 (Nat.le_refl _) (by unfold maxLen; omega) rfl
    have F0 : Fr No w (w.alloc (.cells #[.int .i32 (i : Int), .int .i32 (j : Int)] 84)) := (Fr.refl No w).alloc _
    generalize (w.alloc (.cells #[.int .i32 (i : Int), .int .i32 (j : Int)] 84)) = W0 at *
    have HU0 : Hid (UAt w p B ns tr tms saved R [(i, j)] 40 (.slice (some ⟨w.heap.size, 0, none⟩) 1 1) W0 ns ws []) := ⟨by rw [List.append_nil]; exact H1.out.keep F0 (fun _ _ e => e), Bnds.refl _, hw, S0, by simp; omega, by rw [HR.out, app_nil], F0.mono (fun _ _ e => e.elim)⟩
    have HT : Hid (tms.length = saved.length ∧ saved.length ≤ 26) := htm
    have FIN : Hid (∀ (e : Nat) (w' : World), R = .inl e → HeapAt w' p B ns saved → Fr (B.Has p) w w' → UniPost p B saved (unifyAns ns (i : Int) (j : Int)) w (.returned (.tuple #[.int .i64 0, .int .i64 (e : Int)])) w') := fun e w' hR hH hF => by
      rw [HA.out, hR]; exact ⟨rfl, hH, hF⟩
    have FOK : Hid (∀ (k : Nat) (ns1 : List Nd) (bs : List Nat) (w' : World), R = .inr (k, ns1, bs) → HeapAt w' p B ns1 saved → Fr (B.Has p) w w' → UniPost p B saved (unifyAns ns (i : Int) (j : Int)) w (.returned (.tuple #[.int .i64 (40 - (k : Int)), .int .i64 0])) w') := fun k ns1 bs w' hR hH hF => by
      rw [HA.out, hR]; exact ⟨rfl, hH, hF⟩
    clear S0 F0 htm
    go_loopg [10, 11, 12] 41 (URel w p B ns tr tms saved R)
    case atStart => exact ⟨[(i, j)], 40, some ⟨w.heap.size, 0, none⟩, 1, ns, ws, [], rfl, by simp, rfl, by omega, rfl, by simp, HU0.out⟩
    case round =>
      clear HU0 c0 c4
      obtain ⟨l, k, bs, cap, ns1, ws1, bd, rfl, rfl, rfl, hk, hgk, hll, hU⟩ := hrel
      have HU : Hid (UAt w p B ns tr tms saved R l k (.slice bs l.length cap) wr ns1 ws1 bd) := hU
      clear hU
      cases l with
      | nil =>
        obtain ⟨hR1, hH1⟩ := HU.out.done HI.out HV.out HT.out
        have HR1 : Hid (R = .inr (k, ns1, bd)) := hR1
        have HH1 : Hid (HeapAt wr p B ns1 saved) := hH1
        have HF1 : Hid (Fr (B.Has p) w wr) := HU.out.fr
        clear hR1 hH1
        go_wp2_with fail
        go_ret2
        exact FOK.out k ns1 bd wr HR1.out HH1.out HF1.out
      | cons q l =>
        obtain ⟨g, cap', hvv, hc0, hc1, hS1, hcap, hB0⟩ := HU.out.stk.pop
        obtain ⟨q1, q2⟩ := q
        simp only [List.length_cons, Value.slice.injEq, true_and] at hvv
        obtain ⟨rfl, rfl⟩ := hvv
        simp only [n32] at hc0 hc1
        simp only [List.length_cons] at hll
        have HS1 : Hid (PStk w.heap.size wr (.slice (some ⟨g, 0, none⟩) l.length cap) l) := hS1
        have hsub : (((l.length + 1 : Nat)) : Int) - 1 = (l.length : Int) := by omega
        have hsub2 : ((l.length : Int) + 1) - 1 = (l.length : Int) := by omega
        have hq := HU.out.lt (q1, q2) (by simp)
        simp only at hq
        obtain ⟨hq1, hq2⟩ := hq
        clear hS1
        cases k with
        | zero =>
          have HR1 : Hid (R = .inl 8) := HU.out.big
          have e41 : (40 : Int) - ((0 : Nat) : Int) + 1 = 41 := by omega
          have e41' : (40 : Int) - 0 + 1 = 41 := by omega
          go_wp2_with fail
          go_step3
          refine And.intro rfl ?_
          show Code.wp _ _ _ _ _
          go_wp2_with fail
          refine (HU.out.unwind HI.out HV.out HT.out ((Fr.refl No wr).alloc _)).mono ?_
          rintro e w9 ⟨rfl, hH9, hF9⟩
          go_wp2_with fail
          go_ret2
          exact FIN.out 8 w9 HR1.out hH9 hF9
        | succ k =>
          have e41 : (40 : Int) - ((k + 1 : Nat) : Int) + 1 = 40 - (k : Int) := by omega
          have e41' : (40 : Int) - ((k : Int) + 1) + 1 = 40 - (k : Int) := by omega
          have d40 : decide ((40 : Int) < 40 - (k : Int)) = false := decide_eq_false (by omega)
          have hwf1 := HU.out.wf
          have hlen1 := HU.out.bnd.len
          have HL1 : Hid (ns1.length = ns.length) := hlen1
          have HRA : Hid (∀ W, Fr No wr W → RAt W p B ns1 ws1 (tr ++ bd) tms saved) := fun W hF => HU.out.at'.keep hF (fun _ _ e => e)
          have HDa : Hid (∀ W, Fr No wr W → Calls Try.prog 24 #[.pointer (some ⟨p, 0, none⟩), .int .i32 (q1 : Int)] W fun e w' => e = .returned (.int .i32 (deref ns1 q1 : Int)) ∧ w' = W) := fun W hF => deref_any (HRA.out W hF) hwf1 (by omega) (by omega)
          have HDb : Hid (∀ W, Fr No wr W → Calls Try.prog 24 #[.pointer (some ⟨p, 0, none⟩), .int .i32 (q2 : Int)] W fun e w' => e = .returned (.int .i32 (deref ns1 q2 : Int)) ∧ w' = W) := fun W hF => deref_any (HRA.out W hF) hwf1 (by omega) (by omega)
          obtain ⟨hxl, hxk⟩ := deref_end hwf1 q1 (by omega)
          obtain ⟨hyl, hyk⟩ := deref_end hwf1 q2 (by omega)
          generalize hX : deref ns1 q1 = x at *
          generalize hY : deref ns1 q2 = y at *
          have HX : Hid (deref ns1 q1 = x) := hX
          have HY : Hid (deref ns1 q2 = y) := hY
          have hxl' : x < ns.length := by omega
          have hyl' : y < ns.length := by omega
          clear hX hY hlen1
          go_upto_region 10 with fail
          have F1 : Fr No wr (wr.alloc (.cells #[.int .i32 (q1 : Int), .int .i32 (q2 : Int)] 84)) := (Fr.refl No wr).alloc _
          have hP1 : (wr.alloc (.cells #[.int .i32 (q1 : Int), .int .i32 (q2 : Int)] 84)).heap[wr.heap.size]? = some (.cells #[.int .i32 (q1 : Int), .int .i32 (q2 : Int)] 84) := heap_alloc_same _ _
          generalize (wr.alloc (.cells #[.int .i32 (q1 : Int), .int .i32 (q2 : Int)] 84)) = W1 at *
          clear hc0 hc1
          have pc0 := cell_of 0 hP1 rfl
          have pc1 := cell_of 1 hP1 rfl
          go_wp2_with fail
          refine (HDa.out W1 F1).mono ?_
          rintro e w2 ⟨rfl, rfl⟩
          go_wp2_with fail
          refine (HDb.out _ F1).mono ?_
          rintro e w3 ⟨rfl, rfl⟩
          have HF1 : Hid (Fr No wr w3) := F1
          have c30 := (HRA.out _ F1).p0
          rw [HL1.out] at c30
          clear HDa HDb hP1 pc0 pc1 F1
          by_cases hxy : x = y
          · have e1 : ((x : Int) == (y : Int)) = true := by rw [hxy]; simp
            have HN : Hid (stp k ns1 q1 q2 = .done k ns1 []) := stp_same HX.out HY.out hxy
            clear hxy
            go_wp2_with fail
            go_roundg (k + 1)
            case measure => omega
            case rel => exact ⟨l, k, some ⟨g, 0, none⟩, cap, ns1, ws1, bd ++ [], rfl, rfl, rfl, by omega, rfl, by omega, HU.out.next HN.out (by rw [List.append_nil]; exact HRA.out _ HF1.out) (HS1.out.keep HF1.out (fun _ _ e => e)) (HU.out.fr.trans HF1.out (fun _ _ e => e.elim))⟩
          · have e1 : ((x : Int) == (y : Int)) = false := by rw [beq_eq_false_iff_ne]; omega
            rcases hxk with hx | ⟨c, d, es, hx⟩
            · have ctx := (HRA.out _ HF1.out).tag hx
              simp only [tagV] at ctx
              rcases hyk with hy | ⟨c', d', es', hy⟩
              · have cty := (HRA.out _ HF1.out).tag hy
                simp only [tagV] at cty
                as_aux_lemma =>
                have hb1 : bits BinOp.and IntKind.i8 0 1 = 0 := by decide
                have HTL : Hid ((tr ++ bd).length < 64) := HU.out.room HI.out (.inl hx)
                go_upto_region 17 with fail
                go_quiet (fail)
                generalize hW : World.drewN w3 _ = W4
                have HF4 : Hid (Fr No wr W4) := HF1.out.trans (hW ▸ (Fr.refl No w3).drewN _) (fun _ _ e => e)
                clear hW c30 ctx cty
                by_cases hlt : x < y
                · have e2 : decide ((x : Int) < (y : Int)) = true := decide_eq_true (by omega)
                  have e2' : decide (x < y) = true := decide_eq_true (by omega)
                  have HN : Hid (stp k ns1 q1 q2 = .done k (ns1.set y (.v (some x))) [y]) := by
                    have := stp_vv (f := k) HX.out HY.out hxy hx hy
                    rw [Nat.max_eq_right (by omega), Nat.min_eq_left (by omega)] at this
                    exact this
                  have HBN : Hid (Calls Try.prog 42 #[.pointer (some ⟨p, 0, none⟩), .int .i32 (y : Int), .int .i32 (x : Int)] W4 fun e w' => e = .returned (.tuple #[]) ∧ RAt w' p B (ns1.set y (.v (some x))) (ws1.set y (x : Int)) ((tr ++ bd) ++ [y]) tms saved ∧ Fr (B.Has p) W4 w') := bind_any (HRA.out _ HF4.out) hy (by have := HL1.out; omega) hxl HTL.out
                  clear hx hy hxy
                  go_wp2_with fail
                  refine HBN.out.mono ?_
                  rintro e w5 ⟨rfl, h5, F5⟩
                  go_wp2_with fail
                  go_roundg (k + 1)
                  case measure => omega
                  case rel => exact ⟨l, k, some ⟨g, 0, none⟩, cap, _, _, bd ++ [y], rfl, rfl, rfl, by omega, rfl, by omega, HU.out.next HN.out (by rw [← List.append_assoc]; exact h5) ((HS1.out.keep HF4.out (fun _ _ e => e)).keep F5 (fun q hq e => by have := H1.out.lt e; omega)) ((HU.out.fr.trans HF4.out (fun _ _ e => e.elim)).trans F5 (fun _ _ e => e))⟩
                · have e2 : decide ((x : Int) < (y : Int)) = false := decide_eq_false (by omega)
                  have e2' : decide (x < y) = false := decide_eq_false (by omega)
                  have HN : Hid (stp k ns1 q1 q2 = .done k (ns1.set x (.v (some y))) [x]) := by
                    have := stp_vv (f := k) HX.out HY.out hxy hx hy
                    rw [Nat.max_eq_left (by omega), Nat.min_eq_right (by omega)] at this
                    exact this
                  have HBN : Hid (Calls Try.prog 42 #[.pointer (some ⟨p, 0, none⟩), .int .i32 (x : Int), .int .i32 (y : Int)] W4 fun e w' => e = .returned (.tuple #[]) ∧ RAt w' p B (ns1.set x (.v (some y))) (ws1.set x (y : Int)) ((tr ++ bd) ++ [x]) tms saved ∧ Fr (B.Has p) W4 w') := bind_any (HRA.out _ HF4.out) hx (by have := HL1.out; omega) hyl HTL.out
                  clear hx hy hxy
                  go_wp2_with fail
                  refine HBN.out.mono ?_
                  rintro e w5 ⟨rfl, h5, F5⟩
                  go_wp2_with fail
                  go_roundg (k + 1)
                  case measure => omega
                  case rel => exact ⟨l, k, some ⟨g, 0, none⟩, cap, _, _, bd ++ [x], rfl, rfl, rfl, by omega, rfl, by omega, HU.out.next HN.out (by rw [← List.append_assoc]; exact h5) ((HS1.out.keep HF4.out (fun _ _ e => e)).keep F5 (fun q hq e => by have := H1.out.lt e; omega)) ((HU.out.fr.trans HF4.out (fun _ _ e => e.elim)).trans F5 (fun _ _ e => e))⟩
              · have cty := (HRA.out _ HF1.out).tag hy
                simp only [tagV] at cty
                as_aux_lemma =>
                have hb1 : bits BinOp.and IntKind.i8 0 1 = 0 := by decide
                have hb2 : bits BinOp.and IntKind.i8 1 1 = 1 := by decide
                have HTL : Hid ((tr ++ bd).length < 64) := HU.out.room HI.out (.inl hx)
                have HSP : Hid (stp k ns1 q1 q2 = bnd k ns1 x y) := stp_vs HX.out HY.out hx hy
                go_upto_region 17 with fail
                go_quiet (fail)
                generalize hW : World.drewN w3 _ = W4
                have HF4 : Hid (Fr No wr W4) := HF1.out.trans (hW ▸ (Fr.refl No w3).drewN _) (fun _ _ e => e)
                clear hW c30 ctx cty
                have hole := occ_le ns1 x k [y]
                have HOC : Hid (Calls Try.prog 43 #[.pointer (some ⟨p, 0, none⟩), .int .i32 (x : Int), .int .i32 (y : Int), .int .i64 (40 - (k : Int))] W4 fun e w' =>
                  ∃ z : Int, e = .returned (.tuple #[.int .i64 z, .int .i64 ((occ k ns1 x [y]).2 : Int)]) ∧ ((occ k ns1 x [y]).2 = 0 → z = 40 - ((occ k ns1 x [y]).1 : Int)) ∧ Fr No W4 w') := occurs_any (HRA.out _ HF4.out) hwf1 (by have := HL1.out; omega) hxl hyl (by omega)
                by_cases ho : (occ k ns1 x [y]).2 = 0
                · have HN : Hid (stp k ns1 q1 q2 = .done (occ k ns1 x [y]).1 (ns1.set x (.v (some y))) [x]) := by
                    show _ = _
                    rw [HSP.out]; unfold bnd; rw [if_pos ho]
                  have HBN : Hid (∀ W, Fr No wr W → Calls Try.prog 42 #[.pointer (some ⟨p, 0, none⟩), .int .i32 (x : Int), .int .i32 (y : Int)] W fun e w' => e = .returned (.tuple #[]) ∧ RAt w' p B (ns1.set x (.v (some y))) (ws1.set x (y : Int)) ((tr ++ bd) ++ [x]) tms saved ∧ Fr (B.Has p) W w') := fun W hF => bind_any (HRA.out _ hF) hx (by have := HL1.out; omega) hyl HTL.out
                  generalize hoc : occ k ns1 x [y] = oc at *
                  obtain ⟨k', e'⟩ := oc
                  simp only at ho hole HOC HN
                  subst ho
                  clear hx hy hxy hoc
                  go_wp2_with fail
                  refine HOC.out.mono ?_
                  rintro e w5 ⟨z, rfl, hz, F5⟩
                  have hz' := hz (by simp)
                  subst hz'
                  clear hz
                  go_wp2_with fail
                  refine (HBN.out _ (HF4.out.trans F5 (fun _ _ e => e))).mono ?_
                  rintro e w6 ⟨rfl, h6, F6⟩
                  go_wp2_with fail
                  go_roundg (k' + 1)
                  case measure => omega
                  case rel => exact ⟨l, k', some ⟨g, 0, none⟩, cap, _, _, bd ++ [x], rfl, rfl, rfl, by omega, rfl, by omega, HU.out.next HN.out (by rw [← List.append_assoc]; exact h6) (((HS1.out.keep HF4.out (fun _ _ e => e)).keep F5 (fun _ _ e => e)).keep F6 (fun q hq e => by have := H1.out.lt e; omega)) (((HU.out.fr.trans HF4.out (fun _ _ e => e.elim)).trans F5 (fun _ _ e => e.elim)).trans F6 (fun _ _ e => e))⟩
                · have HN : Hid (stp k ns1 q1 q2 = .err (occ k ns1 x [y]).2) := by
                    show _ = _
                    rw [HSP.out]; unfold bnd; rw [if_neg ho]
                  have HR1 : Hid (R = .inl (occ k ns1 x [y]).2) := HU.out.err HN.out
                  generalize hoc : occ k ns1 x [y] = oc at *
                  obtain ⟨k', e'⟩ := oc
                  simp only at ho hole HOC HN HR1
                  have en : ((e' : Int) != 0) = true := by rw [bne_iff_ne]; omega
                  have en' : ((e' : Int) == 0) = false := by rw [beq_eq_false_iff_ne]; omega
                  clear hx hy hxy hoc
                  go_wp2_with fail
                  refine HOC.out.mono ?_
                  rintro e w5 ⟨z, rfl, hz, F5⟩
                  clear hz
                  go_wp2_with fail
                  go_step3
                  refine And.intro rfl ?_
                  show Code.wp _ _ _ _ _
                  go_wp2_with fail
                  refine (HU.out.unwind HI.out HV.out HT.out (HF4.out.trans F5 (fun _ _ e => e))).mono ?_
                  rintro e w9 ⟨rfl, hH9, hF9⟩
                  go_wp2_with fail
                  go_ret2
                  exact FIN.out e' w9 HR1.out hH9 hF9
            · have ctx := (HRA.out _ HF1.out).tag hx
              simp only [tagV] at ctx
              rcases hyk with hy | ⟨c', d', es', hy⟩
              · have cty := (HRA.out _ HF1.out).tag hy
                simp only [tagV] at cty
                as_aux_lemma =>
                have hb1 : bits BinOp.and IntKind.i8 0 1 = 0 := by decide
                have hb2 : bits BinOp.and IntKind.i8 1 1 = 1 := by decide
                have HTL : Hid ((tr ++ bd).length < 64) := HU.out.room HI.out (.inl hy)
                have HSP : Hid (stp k ns1 q1 q2 = bnd k ns1 y x) := stp_sv HX.out HY.out hx hy
                go_upto_region 17 with fail
                go_quiet (fail)
                generalize hW : World.drewN w3 _ = W4
                have HF4 : Hid (Fr No wr W4) := HF1.out.trans (hW ▸ (Fr.refl No w3).drewN _) (fun _ _ e => e)
                clear hW c30 ctx cty
                have hole := occ_le ns1 y k [x]
                have HOC : Hid (Calls Try.prog 43 #[.pointer (some ⟨p, 0, none⟩), .int .i32 (y : Int), .int .i32 (x : Int), .int .i64 (40 - (k : Int))] W4 fun e w' =>
                  ∃ z : Int, e = .returned (.tuple #[.int .i64 z, .int .i64 ((occ k ns1 y [x]).2 : Int)]) ∧ ((occ k ns1 y [x]).2 = 0 → z = 40 - ((occ k ns1 y [x]).1 : Int)) ∧ Fr No W4 w') := occurs_any (HRA.out _ HF4.out) hwf1 (by have := HL1.out; omega) hyl hxl (by omega)
                by_cases ho : (occ k ns1 y [x]).2 = 0
                · have HN : Hid (stp k ns1 q1 q2 = .done (occ k ns1 y [x]).1 (ns1.set y (.v (some x))) [y]) := by
                    show _ = _
                    rw [HSP.out]; unfold bnd; rw [if_pos ho]
                  have HBN : Hid (∀ W, Fr No wr W → Calls Try.prog 42 #[.pointer (some ⟨p, 0, none⟩), .int .i32 (y : Int), .int .i32 (x : Int)] W fun e w' => e = .returned (.tuple #[]) ∧ RAt w' p B (ns1.set y (.v (some x))) (ws1.set y (x : Int)) ((tr ++ bd) ++ [y]) tms saved ∧ Fr (B.Has p) W w') := fun W hF => bind_any (HRA.out _ hF) hy (by have := HL1.out; omega) hxl HTL.out
                  generalize hoc : occ k ns1 y [x] = oc at *
                  obtain ⟨k', e'⟩ := oc
                  simp only at ho hole HOC HN
                  subst ho
                  clear hx hy hxy hoc
                  go_wp2_with fail
                  refine HOC.out.mono ?_
                  rintro e w5 ⟨z, rfl, hz, F5⟩
                  have hz' := hz (by simp)
                  subst hz'
                  clear hz
                  go_wp2_with fail
                  refine (HBN.out _ (HF4.out.trans F5 (fun _ _ e => e))).mono ?_
                  rintro e w6 ⟨rfl, h6, F6⟩
                  go_wp2_with fail
                  go_roundg (k' + 1)
                  case measure => omega
                  case rel => exact ⟨l, k', some ⟨g, 0, none⟩, cap, _, _, bd ++ [y], rfl, rfl, rfl, by omega, rfl, by omega, HU.out.next HN.out (by rw [← List.append_assoc]; exact h6) (((HS1.out.keep HF4.out (fun _ _ e => e)).keep F5 (fun _ _ e => e)).keep F6 (fun q hq e => by have := H1.out.lt e; omega)) (((HU.out.fr.trans HF4.out (fun _ _ e => e.elim)).trans F5 (fun _ _ e => e.elim)).trans F6 (fun _ _ e => e))⟩
                · have HN : Hid (stp k ns1 q1 q2 = .err (occ k ns1 y [x]).2) := by
                    show _ = _
                    rw [HSP.out]; unfold bnd; rw [if_neg ho]
                  have HR1 : Hid (R = .inl (occ k ns1 y [x]).2) := HU.out.err HN.out
                  generalize hoc : occ k ns1 y [x] = oc at *
                  obtain ⟨k', e'⟩ := oc
                  simp only at ho hole HOC HN HR1
                  have en : ((e' : Int) != 0) = true := by rw [bne_iff_ne]; omega
                  have en' : ((e' : Int) == 0) = false := by rw [beq_eq_false_iff_ne]; omega
                  clear hx hy hxy hoc
                  go_wp2_with fail
                  refine HOC.out.mono ?_
                  rintro e w5 ⟨z, rfl, hz, F5⟩
                  clear hz
                  go_wp2_with fail
                  go_step3
                  refine And.intro rfl ?_
                  show Code.wp _ _ _ _ _
                  go_wp2_with fail
                  refine (HU.out.unwind HI.out HV.out HT.out (HF4.out.trans F5 (fun _ _ e => e))).mono ?_
                  rintro e w9 ⟨rfl, hH9, hF9⟩
                  go_wp2_with fail
                  go_ret2
                  exact FIN.out e' w9 HR1.out hH9 hF9
              · have cty := (HRA.out _ HF1.out).tag hy
                simp only [tagV] at cty
                as_aux_lemma =>
                have hb2 : bits BinOp.and IntKind.i8 1 1 = 1 := by decide
                have HSP : Hid (stp k ns1 q1 q2 = if c = c' ∧ d = d' then .more (es.zip es') else .err 7) := stp_ss HX.out HY.out hxy hx hy
                go_upto_region 17 with fail
                go_quiet (fail)
                generalize hW : World.drewN w3 _ = W4
                have HF4 : Hid (Fr No wr W4) := HF1.out.trans (hW ▸ (Fr.refl No w3).drewN _) (fun _ _ e => e)
                clear hW c30 ctx cty
                have chx0 := (HRA.out _ HF4.out).head0 hx
                have chx1 := (HRA.out _ HF4.out).head1 hx
                have chy0 := (HRA.out _ HF4.out).head0 hy
                have chy1 := (HRA.out _ HF4.out).head1 hy
                have c42 := (HRA.out _ HF4.out).p2
                rw [HL1.out] at c42
                obtain ⟨gx1, gx2, gx3, gx4⟩ := hwf1.arg x c d es hx
                obtain ⟨gy1, gy2, gy3, gy4⟩ := hwf1.arg y c' d' es' hy
                have e2x : ((2 : Int) * (x : Int)).toNat = 2 * x := by omega
                have e2y : ((2 : Int) * (y : Int)).toNat = 2 * y := by omega
                have n128x : ¬ 128 = 2 * x := by omega
                have n128y : ¬ 128 = 2 * y := by omega
                have rax := fun w => run_arrayAt (P := Try.prog) w 88 5 2 (some ⟨B.h, 2 * x, none⟩) (2 * ns.length - 2 * x) (128 - 2 * x) Try.underlying88 (by omega)
                have ray := fun w => run_arrayAt (P := Try.prog) w 88 5 2 (some ⟨B.h, 2 * y, none⟩) (2 * ns.length - 2 * y) (128 - 2 * y) Try.underlying88 (by omega)
                go_upto_region 24 with fail
                have F5 : Fr No W4 (W4.alloc (.cells #[.int .u8 (c.toNat : Int), .int .u8 (d.toNat : Int)] 88)) := (Fr.refl No W4).alloc _
                have hA5 : (W4.alloc (.cells #[.int .u8 (c.toNat : Int), .int .u8 (d.toNat : Int)] 88)).heap[W4.heap.size]? = some (.cells #[.int .u8 (c.toNat : Int), .int .u8 (d.toNat : Int)] 88) := heap_alloc_same _ _
                generalize (W4.alloc (.cells #[.int .u8 (c.toNat : Int), .int .u8 (d.toNat : Int)] 88)) = W5 at *
                have c52 := F5.cellNo c42
                have dhy0 := F5.cellNo chy0
                have dhy1 := F5.cellNo chy1
                have HF5 : Hid (Fr No wr W5) := HF4.out.trans F5 (fun _ _ e => e)
                clear chx0 chx1 chy0 chy1 c42 rax
                go_upto_region 25 with fail
                have F6 : Fr No W5 (W5.alloc (.cells #[.int .u8 (c'.toNat : Int), .int .u8 (d'.toNat : Int)] 88)) := (Fr.refl No W5).alloc _
                have hB6 : (W5.alloc (.cells #[.int .u8 (c'.toNat : Int), .int .u8 (d'.toNat : Int)] 88)).heap[W5.heap.size]? = some (.cells #[.int .u8 (c'.toNat : Int), .int .u8 (d'.toNat : Int)] 88) := heap_alloc_same _ _
                generalize (W5.alloc (.cells #[.int .u8 (c'.toNat : Int), .int .u8 (d'.toNat : Int)] 88)) = W6 at *
                have hA6 := F6.keep hA5 (fun e => e)
                have HF6 : Hid (Fr No wr W6) := HF5.out.trans F6 (fun _ _ e => e)
                have ha0 := cell_of 0 hA6 rfl
                have ha1 := cell_of 1 hA6 rfl
                have hb0 := cell_of 0 hB6 rfl
                have hb1 := cell_of 1 hB6 rfl
                clear c52 dhy0 dhy1 ray hA5 hB6 hA6 F5 F6
                by_cases hcd : c = c' ∧ d = d'
                · obtain ⟨rfl, rfl⟩ := hcd
                  have HN : Hid (stp k ns1 q1 q2 = .more (es.zip es')) := by show _ = _; rw [HSP.out, if_pos ⟨rfl, rfl⟩]
                  have heq := fun w => eq2 c d c d w
                  rw [decide_eq_true (⟨rfl, rfl⟩ : c = c ∧ d = d)] at heq
                  have hel : es'.length = es.length := by omega
                  have hzl : (es.zip es').length = es.length := by rw [List.length_zip]; omega
                  have HK1 : Hid (∀ W, Fr No wr W → Calls Try.prog 39 #[.pointer (some ⟨p, 0, none⟩), .int .i32 (x : Int)] W (KidsPost B es W)) := fun W hF => by
                    have := kids_any (HRA.out W hF) hwf1 (by have := HL1.out; omega) hxl
                    have e : kidsOf ns1 x = es := by unfold kidsOf; rw [hx]
                    rw [e] at this
                    exact this
                  have HK2 : Hid (∀ W, Fr No wr W → Calls Try.prog 39 #[.pointer (some ⟨p, 0, none⟩), .int .i32 (y : Int)] W (KidsPost B es' W)) := fun W hF => by
                    have := kids_any (HRA.out W hF) hwf1 (by have := HL1.out; omega) hyl
                    have e : kidsOf ns1 y = es' := by unfold kidsOf; rw [hy]
                    rw [e] at this
                    exact this
                  have HEL : Hid (es'.length = es.length) := hel
                  have HZL : Hid ((es.zip es').length = es.length) := hzl
                  have hel4 : es.length ≤ 4 := by omega
                  obtain ⟨i84, hi84, hy0, hy1, hy2⟩ := info_parts Try.info84
                  clear hx hy hxy hel hzl gx3 gy3
                  go_wp2_with fail
                  refine (HK1.out W6 HF6.out).mono ?_
                  rintro e w7 ⟨bx, kx, rfl, rfl, hkx, hkcx⟩
                  go_wp2_with fail
                  refine (HK2.out _ HF6.out).mono ?_
                  rintro e w8 ⟨byy, ky, rfl, rfl, hky, hkcy⟩
                  clear HK1 HK2 ha0 ha1 hb0 hb1
                  rw [HEL.out] at hky ⊢
                  go_wp2_with fail
                  generalize hW8 : w8 = W8 at *
                  clear hW8
                  obtain ⟨wo, hwo⟩ : ∃ wo, wo = wr := ⟨_, rfl⟩
                  subst hwo
                  go_loopg [12, 20] (es.length + 1) (fun gk2 v12 v20 wr => ∃ (m : Nat) (bs : Option Addr) (cap : Nat), m ≤ es.length ∧ v20 = .int .i64 ((m : Int) - 1) ∧ v12 = .slice bs ((es.zip es').drop m ++ l).length cap ∧ gk2 = m + 1 ∧ PStk w.heap.size wr v12 ((es.zip es').drop m ++ l) ∧ Fr (fun k => w.heap.size ≤ k) W8 wr)
                  case atStart => exact ⟨es.length, some ⟨g, 0, none⟩, cap, Nat.le_refl _, rfl, by rw [List.drop_eq_nil_of_le (by rw [HZL.out]; exact Nat.le_refl _)]; rfl, rfl, by rw [List.drop_eq_nil_of_le (by rw [HZL.out]; exact Nat.le_refl _)]; exact HS1.out.keep HF6.out (fun _ _ e => e), Fr.refl _ _⟩
                  case round =>
                    obtain ⟨m, bs2, cap2, hm, rfl, rfl, hgk2, hS2, hf2⟩ := hrel
                    have hsz : w.heap.size ≤ W8.heap.size := Nat.le_trans HU.out.fr.size HF6.out.size
                    have hsz2 := hf2.size
                    cases m with
                    | zero =>
                      have em : ((0 : Nat) : Int) - 1 = -1 := by omega
                      have em' : (0 : Int) - 1 = -1 := by omega
                      rw [List.drop_zero] at hS2
                      have hlz : (es.zip es' ++ l).length ≤ es.length + l.length := by rw [List.length_append, HZL.out]; exact Nat.le_refl _
                      have FQ : Hid (Fr (fun k => w.heap.size ≤ k) wo wr) := (HF6.out.mono (fun _ _ e => e.elim)).trans hf2 (fun _ _ e => e)
                      go_wp2_with fail
                      go_roundg (k + 1)
                      case measure => omega
                      case rel => exact ⟨es.zip es' ++ l, k, bs2, cap2, ns1, ws1, bd, by simp, rfl, rfl, by omega, rfl, by omega, HU.out.more HN.out (HU.out.at'.keep FQ.out (fun q hq e => by have := H1.out.lt hq; omega)) hS2 (HU.out.fr.trans FQ.out (fun q hq e => by omega))⟩
                    | succ m =>
                      have em : ((m + 1 : Nat) : Int) - 1 = (m : Int) := by omega
                      have em' : ((m : Int) + 1) - 1 = (m : Int) := by omega
                      obtain ⟨a1, ha1⟩ : ∃ a1, es[m]? = some a1 := ⟨_, List.getElem?_eq_getElem (by omega)⟩
                      obtain ⟨a2, ha2⟩ : ∃ a2, es'[m]? = some a2 := ⟨_, List.getElem?_eq_getElem (by have := HEL.out; omega)⟩
                      obtain ⟨o1, rfl, hd1⟩ := hkcx m a1 ha1
                      obtain ⟨o2, rfl, hd2⟩ := hkcy m a2 ha2
                      have hBa : ¬ w.heap.size ≤ B.a := by have := H1.out.lt (k := B.a) (by simp [Blks.Has]); omega
                      have hd1' := hf2.cellAt hd1 hBa
                      have hd2' := hf2.cellAt hd2 hBa
                      simp only [n32] at hd1' hd2'
                      have edr : (es.zip es').drop m = (a1, a2) :: (es.zip es').drop (m + 1) := by
                        rw [List.drop_eq_getElem_cons (by rw [HZL.out]; omega)]
                        congr 1
                        have : (es.zip es')[m]? = some (a1, a2) := by rw [List.getElem?_zip_eq_some]; exact ⟨ha1, ha2⟩
                        exact (List.getElem?_eq_some_iff.1 this).2
                      have hll2 : ((es.zip es').drop (m + 1) ++ l).length ≤ 300 := by rw [List.length_append, List.length_drop, HZL.out]; omega
                      generalize hL : ((es.zip es').drop (m + 1) ++ l) = L at *
                      have HL : Hid ((es.zip es').drop m ++ l = (a1, a2) :: L) := by show _ = _; rw [edr, List.cons_append, hL]
                      have FA : Fr No wr (wr.alloc (.cells #[.int .i32 (a1 : Int), .int .i32 (a2 : Int)] 84)).drew := ((Fr.refl No wr).alloc _).drew
                      have hrow : (wr.alloc (.cells #[.int .i32 (a1 : Int), .int .i32 (a2 : Int)] 84)).drew.ownsRow w.heap.size 84 2 (.slice bs2 L.length cap2) L.length (L.reverse.flatMap pairV) := hS2.keep FA (fun _ _ e => e)
                      have hnb : (wr.alloc (.cells #[.int .i32 (a1 : Int), .int .i32 (a2 : Int)] 84)).drew.heap[wr.heap.size]? = some (.cells #[.int .i32 (a1 : Int), .int .i32 (a2 : Int)] 84) := heap_alloc_same _ _
                      clear hd1 hd2 edr ha1 ha2 hL
                      have S0 : wr.cell? ⟨B.a, o1 + m, none⟩ = some (.int .i32 (a1 : Int)) ∧ wr.cell? ⟨B.a, o2 + m, none⟩ = some (.int .i32 (a2 : Int)) := ⟨hd1', hd2'⟩
                      have hm0 : (0 : Int) ≤ (m : Int) := by omega
                      have hm1 : (m : Int) < (es.length : Int) := by omega
                      go_upto_region 32 with fail
                      go_region_held3 (fun w' => w'.cell? ⟨B.a, o1 + m, none⟩ = some (.int .i32 (a1 : Int)) ∧ w'.cell? ⟨B.a, o2 + m, none⟩ = some (.int .i32 (a2 : Int)))
                        (first | exact S0 | exact S9 | go_keep)
                        ((refine step_append_lies _ (by rfl) _ _ 85 (by rfl) w.heap.size 84 i84 (.agg #[.int .i32 0, .int .i32 0]) 2 8 Try.underlying85 hi84 hy0 hy1 hy2 rfl (by omega) _ L.length (L.reverse.flatMap pairV) (by rfl) hrow ⟨wr.heap.size, 0, none⟩ 1 1 [.int .i32 (a1 : Int), .int .i32 (a2 : Int)] (by rfl) (by rfl) (World.news_of_block (cs := #[.int .i32 (a1 : Int), .int .i32 (a2 : Int)]) hnb) (by simp [Value.oneCell']) (by omega) (by unfold maxLen; omega) (by omega) (by simp; omega) (wr.heap.size + 1) (by simp) ?_; intro g2 cap3 w9 hown9 hgrow9 hat9 hlt9; have FW9 : Fr (fun k => w.heap.size ≤ k) wr w9 := Fr.grown (S := fun k => w.heap.size ≤ k) (FA.mono (fun _ _ e => e.elim)) hgrow9 (fun q hq _ => (hS2.lt q hq).1); have S9 : w9.cell? ⟨B.a, o1 + m, none⟩ = some (.int .i32 (a1 : Int)) ∧ w9.cell? ⟨B.a, o2 + m, none⟩ = some (.int .i32 (a2 : Int)) := ⟨FW9.cellAt hd1' hBa, FW9.cellAt hd2' hBa⟩))
                      go_wp2_with fail
                      go_roundg (m + 1)
                      case measure => omega
                      case rel =>
                        refine ⟨m, some ⟨g2, 0, none⟩, cap3, by omega, rfl, by rw [HL.out]; rfl, rfl, ?_, hf2.trans FW9 (fun _ _ e => e)⟩
                        rw [HL.out]
                        unfold PStk
                        rw [List.reverse_cons, List.flatMap_append, List.length_cons]
                        exact hown9
                · have HN : Hid (stp k ns1 q1 q2 = .err 7) := by show _ = _; rw [HSP.out, if_neg hcd]
                  have HR1 : Hid (R = .inl 7) := HU.out.err HN.out
                  have heq := fun w => eq2 c d c' d' w
                  rw [decide_eq_false hcd] at heq
                  clear hx hy hxy hcd gx3 gy3
                  go_wp2_with fail
                  go_step3
                  refine And.intro rfl ?_
                  show Code.wp _ _ _ _ _
                  go_wp2_with fail
                  refine (HU.out.unwind HI.out HV.out HT.out HF6.out).mono ?_
                  rintro e w9 ⟨rfl, hH9, hF9⟩
                  go_wp2_with fail
                  go_ret2
                  exact FIN.out 7 w9 HR1.out hH9 hF9
end
end Go.Proofs.Qxb6500301a
