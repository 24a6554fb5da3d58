import Derived.Test.Qxb6500302aRead5
import Derived.Test.Qxb6500302aPlain1
namespace Go.Proofs.Qxb6500302a
open Go.RowKit
set_option linter.unusedSimpArgs false
set_option linter.unusedVariables false

/-- What the collected arguments and those still to come give together. -/
def joined (acc : List Tm) : Rds → Rds
  | none => none
  | some (ts, s, vs) => some (acc ++ ts, s, vs)

def argsRes (f : UInt8) : Rds → Rd
  | none => none
  | some (ts, s, vs) => some (tCall f ts, s, vs)

theorem owns_pos {w : World} {base e size n : Nat} {v : Value} {xs : List Value} (h : w.ownsRow base e size v (n + 1) xs) : ∃ g cap, v = .slice (some ⟨g, 0, none⟩) (n + 1) cap := by
  rcases h.2 with ⟨_, h0⟩ | ⟨g, cap, cur, hv, _⟩
  · omega
  · exact ⟨g, cap, hv⟩

theorem owns_slice {w : World} {base e size n : Nat} {v : Value} {xs : List Value} (h : w.ownsRow base e size v n xs) : ∃ bs cap, v = .slice bs n cap := by
  rcases h.2 with ⟨hv, h0⟩ | ⟨g, cap, cur, hv, _⟩
  · subst h0; exact ⟨_, _, hv⟩
  · exact ⟨_, _, hv⟩

theorem heap_grown {w w' : World} {row : Option Nat} {b : Nat} {o : Obj} (hg : w.grownBy w' row) (hb : w.heap[b]? = some o) (hn : row ≠ some b) : w'.heap[b]? = some o :=
  (hg.block b (lt_of_heap hb) (fun e => hn e.symm)).trans hb

theorem joined_snoc {rec : List UInt8 → List UInt8 → Rd} {acc : List Tm} {t : Tm} {k : Nat} {s s1 vs vs1 : List UInt8} (ht : rTerm rec s vs = some (t, s1, vs1)) (h44 : hd s1 = 44) :
    joined acc (rArgs rec (k + 1) s vs) = joined (acc ++ [t]) (rArgs rec k s1.tail vs1) := by
  rw [rArgs, ht]
  simp only [h44, if_true]
  cases hr : rArgs rec k s1.tail vs1 with
  | none => rfl
  | some x => obtain ⟨ts, s2, vs2⟩ := x; simp [joined]
theorem joined_end {rec : List UInt8 → List UInt8 → Rd} {acc : List Tm} {t : Tm} {k : Nat} {s s1 vs vs1 : List UInt8} (ht : rTerm rec s vs = some (t, s1, vs1)) (h44 : hd s1 ≠ 44) (h41 : hd s1 = 41) :
    joined acc (rArgs rec (k + 1) s vs) = some (acc ++ [t], s1.tail, vs1) := by
  rw [rArgs, ht]; simp [h44, h41, joined]
theorem joined_bad {rec : List UInt8 → List UInt8 → Rd} {acc : List Tm} {t : Tm} {k : Nat} {s s1 vs vs1 : List UInt8} (ht : rTerm rec s vs = some (t, s1, vs1)) (h44 : hd s1 ≠ 44) (h41 : hd s1 ≠ 41) :
    joined acc (rArgs rec (k + 1) s vs) = none := by
  rw [rArgs, ht]; simp [h44, h41, joined]
theorem joined_none {rec : List UInt8 → List UInt8 → Rd} {acc : List Tm} {k : Nat} {s vs : List UInt8} (ht : rTerm rec s vs = none) : joined acc (rArgs rec k s vs) = none := by
  cases k with
  | zero => rfl
  | succ k => rw [rArgs, ht]; rfl

set_option maxRecDepth 20000 in
set_option maxHeartbeats 1000000 in
theorem call_args {n : Nat} (hcall : CallSaid n) {r mb : Nat} {s : ByteArray} {pre rest vs : List UInt8} {w : World} {c : UInt8} (h : RdAt w r mb s pre (c :: 40 :: rest) vs) (hn : rest.length < n) (hlow : isLow c = true) :
    Calls Try.prog 55 #[.pointer (some ⟨r, 0, none⟩)] w (ReadPost asCall (argsRes c (rArgs (rCall n) 3 rest vs)) r mb s w) := by
  obtain ⟨t1, t2⟩ := low_of hlow
  have c1 : w.cell? ⟨r, 1, none⟩ = some (.int .i64 (pre.length : Int)) := cell_of 1 h.rd rfl
  have f1 : w.frozen? ⟨r, 1, none⟩ = false := frozen_of 1 h.rd
  have hl := h.lens
  have hm := h.len
  have hlt := h.lt
  have HC : Hid (CallSaid n) := @hcall
  clear hcall
  go_enter Try.func55, Try.ntmps55
  go_wp2_with fail
  refine (peek_any h (c := c) rfl).mono ?_
  rintro e w' ⟨rfl, k, rfl⟩
  have h1 := ((h.drewN k).step).alloc (.cells #[.int .u8 (c.toNat : Int), .slice none 0 0] 90)
  go_wp2_with fail
  refine (peek_any h1 (c := 40) rfl).mono ?_
  rintro e w' ⟨rfl, k2, rfl⟩
  have hf2 : Fr (RM r mb) w (((w.drewN k).setCell ⟨r, 1, none⟩ (.int .i64 ((pre.length : Int) + 1))).alloc (.cells #[.int .u8 (c.toNat : Int), .slice none 0 0] 90)) :=
    Fr.alloc (Fr.setCell (S := RM r mb) ((Fr.refl _ _).drewN k) (fun _ => .inl rfl) _) _
  have hb2 := heap_alloc_same ((w.drewN k).setCell ⟨r, 1, none⟩ (.int .i64 ((pre.length : Int) + 1))) (.cells #[.int .u8 (c.toNat : Int), .slice none 0 0] 90)
  have hsz2 : ((w.drewN k).setCell ⟨r, 1, none⟩ (.int .i64 ((pre.length : Int) + 1))).heap.size = w.heap.size := by simp [World.setCell]
  rw [hsz2] at hb2
  clear hsz2
  have h2 := h1.drewN k2
  generalize hW : (((w.drewN k).setCell ⟨r, 1, none⟩ (.int .i64 ((pre.length : Int) + 1))).alloc (.cells #[.int .u8 (c.toNat : Int), .slice none 0 0] 90)) = W at *
  clear hW h1
  have c2 : W.cell? ⟨r, 1, none⟩ = some (.int .i64 ((pre.length : Int) + 1)) := by have := cell_of 1 h2.rd rfl; simpa using this
  have f2 : W.frozen? ⟨r, 1, none⟩ = false := frozen_of 1 h2.rd
  go_wp2_with fail
  have h3 : RdAt ((W.drewN k2).setCell ⟨r, 1, none⟩ (.int .i64 ((pre.length : Int) + 1 + 1))) r mb s (pre ++ [c] ++ [40]) rest vs := by
    have := h2.step
    simpa using this
  have hb3 : ((W.drewN k2).setCell ⟨r, 1, none⟩ (.int .i64 ((pre.length : Int) + 1 + 1))).heap[w.heap.size]? = some (.cells #[.int .u8 (c.toNat : Int), .slice none 0 0] 90) := by
    rw [heap_setCell_other _ (by omega)]; exact hb2
  have hf3 : Fr (RM r mb) w ((W.drewN k2).setCell ⟨r, 1, none⟩ (.int .i64 ((pre.length : Int) + 1 + 1))) := Fr.setCell (hf2.drewN k2) (fun _ => .inl rfl) _
  generalize ((W.drewN k2).setCell ⟨r, 1, none⟩ (.int .i64 ((pre.length : Int) + 1 + 1))) = W3 at *
  clear hf2 hb2 h2 c2 f2 c1 f1 h
  go_loopg [5] 4 (fun gk _u wr => ∃ (pre' rest' vs' : List UInt8) (acc : List Tm) (sl : Value) (xs : List Value) (m : Nat) (D : Nat → Prop), gk = 4 - acc.length ∧ acc.length ≤ 3 ∧ RdAt wr r mb s pre' rest' vs' ∧ rest'.length < n ∧ wr.heap[w.heap.size]? = some (.cells #[.int .u8 (c.toNat : Int), sl] 90) ∧ ArgsAt w.heap.size wr sl xs acc m D ∧ Fr (RM r mb) w wr ∧ Hid (rArgs (rCall n) 3 rest vs = joined acc (rArgs (rCall n) (3 - acc.length) rest' vs')))
  case atStart =>
    refine ⟨_, rest, vs, [], _, [], 0, No, rfl, by simp, h3, hn, hb3, ArgsAt.nil _ _, hf3, ?_⟩
    show rArgs (rCall n) 3 rest vs = joined [] (rArgs (rCall n) 3 rest vs)
    cases rArgs (rCall n) 3 rest vs with
    | none => rfl
    | some x => rfl
  case round =>
    obtain ⟨pre', rest', vs', acc, sl, xs, m, D, hgk, ha3, hr, hn', hcb, hargs, hf, HJ⟩ := hrel
    clear h3 hb3 hf3
    cases hres : rTerm (rCall n) rest' vs' with
    | none =>
      have HR : Hid (rTerm (rCall n) rest' vs' = none) := hres
      clear hres
      go_wp2_with fail
      refine (term_any HC.out hr hn').mono ?_
      rw [HR.out]
      rintro e w' ⟨⟨b, rfl⟩, hf'⟩
      go_wp2_with fail
      have e1 : argsRes c (rArgs (rCall n) 3 rest vs) = none := by rw [HJ.out, joined_none HR.out]; rfl
      rw [e1]
      exact ⟨rfl, ⟨_, rfl⟩, hf.trans hf' (fun _ _ h => h)⟩
    | some x =>
      obtain ⟨t, rest1, vs1⟩ := x
      have HR : Hid (rTerm (rCall n) rest' vs' = some (t, rest1, vs1)) := hres
      clear hres
      have hlen1 := rTerm_len (rCall_len n) _ _ _ _ _ HR.out
      obtain ⟨i0, hi, hz0, hz1, hz2⟩ := info_parts Try.info95
      go_wp2_with fail
      refine (term_any HC.out hr hn').mono ?_
      rw [HR.out]
      rintro e w1 ⟨v, pre1, m2, D2, rfl, ht, hr1, hf1, hD2⟩
      have hcb1 := hf1.keep hcb (by unfold RM; omega)
      have hargs1 := hargs.keep hf1 (fun k hk => by unfold RM at hk; omega)
      have hfw := hf.trans hf1 (fun _ _ h => h)
      have c5 : w1.cell? ⟨w.heap.size, 1, none⟩ = some sl := cell_of 1 hcb1 rfl
      obtain ⟨T, vx, hvx⟩ := ht.iface
      subst hvx
      obtain ⟨bs, cap0, hsl⟩ := owns_slice hargs1.own
      subst hsl
      have hone : ∀ u ∈ [Value.iface T vx], u.oneCell' = true := by intro u hu; simp at hu; subst hu; rfl
      have h63 : acc.length + 1 ≤ maxLen := by unfold maxLen; omega
      have hbytes : (acc.length + 1) * 16 ≤ 140737488355328 := by omega
      have hbase : ∀ o, w.heap.size + 1 ≤ (w1.alloc o).heap.size := by intro o; have := lt_of_heap hcb1; simp; omega
      go_wp2_with (at_builtin; refine wpList_append_own_at _ rfl _ _ 87 rfl (w.heap.size + 1) 95 i0 .nilIface 1 16 Try.underlying87 hi hz0 hz1 hz2 rfl (by decide) _ acc.length xs rfl (hargs1.own.alloc _) ⟨w1.heap.size, 0, none⟩ 1 1 [.iface T vx] rfl rfl (cell_one_new _ _ _) hone h63 hbytes (hbase _) ?_; intro v' w2 hown' hgrow hnil hloc; obtain ⟨g', cap', hv'⟩ := owns_pos hown'; rw [hv'] at hown' hloc ⊢; clear hnil hv'; have hcb2 := heap_grown hgrow (heap_alloc_keep hcb1) (fun e => by have := hargs1.own.lt _ e; omega); have c6 := cell_of 1 hcb2 rfl; have f6 := frozen_of 1 hcb2)
      all_goals
        have hf4 : Fr (fun k => w.heap.size ≤ k) w1 (w2.setCell ⟨w.heap.size, 1, none⟩ (.slice (some ⟨g', 0, none⟩) (acc.length + 1) cap')) :=
          Fr.setCell (S := fun k => w.heap.size ≤ k) (Fr.grown (S := fun k => w.heap.size ≤ k) ((Fr.refl _ w1).alloc _) hgrow (fun k hk _ => by have := hargs1.own.lt k hk; omega)) (fun _ => Nat.le_refl _) _
        have hr4 := hr1.keep hf4 (by omega) (by omega)
        have hargs4 := hargs1.snoc ht (fun k hk => ⟨by have := hD2 k hk; have := lt_of_heap hcb; omega, (hD2 k hk).2, fun e => by have h1 := hargs.own.lt k e; have h2 := (hD2 k hk).1; omega⟩) hown' hgrow hloc (.slice (some ⟨g', 0, none⟩) (acc.length + 1) cap')
        have hcb4 : (w2.setCell ⟨w.heap.size, 1, none⟩ (.slice (some ⟨g', 0, none⟩) (acc.length + 1) cap')).heap[w.heap.size]? = some (.cells #[.int .u8 (c.toNat : Int), .slice (some ⟨g', 0, none⟩) (acc.length + 1) cap'] 90) := by
          rw [heap_setCell_same _ hcb2]; simp
        have hfw4 := hfw.trans hf4 (fun k hk h => by omega)
        generalize (w2.setCell ⟨w.heap.size, 1, none⟩ (.slice (some ⟨g', 0, none⟩) (acc.length + 1) cap')) = W4 at *
        clear hf4 hgrow hown' hloc hargs1 hargs hone h63 hbytes hbase ht hD2 hcb2 hcb1 hcb c5 hf1 hfw hr1 hi hz0 hz1 hz2 hr c6 f6
      · refine (fail_any hr4 _).mono ?_
        rintro e w' ⟨⟨b, rfl⟩, hf'⟩
        go_wp2_with fail
        have e0 : 3 - acc.length = 0 := by omega
        have e1 : argsRes c (rArgs (rCall n) 3 rest vs) = none := by rw [HJ.out, e0]; rfl
        rw [e1]
        exact ⟨rfl, ⟨_, rfl⟩, hfw4.trans hf' (fun _ _ h => h.elim)⟩
      · have hlt3 : acc.length < 3 := by omega
        obtain ⟨k3, hk3⟩ : ∃ k3, 3 - acc.length = k3 + 1 := ⟨2 - acc.length, by omega⟩
        by_cases h44 : hd rest1 = 44
        · obtain ⟨rest2, rfl⟩ : ∃ rest2, rest1 = 44 :: rest2 := ⟨_, hd_cons h44 (by decide)⟩
          refine (peek_any hr4 (c := 44) rfl).mono ?_
          rintro e w' ⟨rfl, k4, rfl⟩
          have c7 : W4.cell? ⟨r, 1, none⟩ = some (.int .i64 (pre1.length : Int)) := cell_of 1 hr4.rd rfl
          have f7 : W4.frozen? ⟨r, 1, none⟩ = false := frozen_of 1 hr4.rd
          have hl4 := hr4.lens
          go_wp2_with fail
          go_roundg (4 - (acc ++ [t]).length)
          case measure => simp; omega
          case rel =>
            have hstep := (hr4.drewN k4).step
            refine ⟨_, rest2, vs1, acc ++ [t], _, _, _, _, rfl, by simp; omega, hstep, by simp at hlen1; omega, ?_, hargs4.keep (Fr.setCell (S := fun k => k = r) ((Fr.refl _ W4).drewN k4) (fun _ => rfl) _) (fun k hk => by omega), Fr.setCell (hfw4.drewN k4) (fun _ => .inl rfl) _, ?_⟩
            · rw [heap_setCell_other _ (by omega)]; exact hcb4
            · show rArgs (rCall n) 3 rest vs = _
              rw [HJ.out, hk3, joined_snoc HR.out rfl]
              congr 2
              simp; omega
        · have t4 : (((hd rest1).toNat : Int) != 44) = true := neq_of h44
          by_cases h41 : hd rest1 = 41
          · obtain ⟨rest2, rfl⟩ : ∃ rest2, rest1 = 41 :: rest2 := ⟨_, hd_cons h41 (by decide)⟩
            have t5 : ((41 : Int) != 44) = true := by decide
            refine (peek_any hr4 (c := 41) rfl).mono ?_
            rintro e w' ⟨rfl, k4, rfl⟩
            go_wp2_with fail
            refine (expect_yes 41 (hr4.drewN k4) _).mono ?_
            rintro e w5 ⟨rfl, hr5, hf5⟩
            go_wp2_with fail
            go_ret
            have e1 : argsRes c (rArgs (rCall n) 3 rest vs) = some (tCall c (acc ++ [t]), rest2, vs1) := by rw [HJ.out, hk3, joined_end HR.out h44 h41]; rfl
            rw [e1]
            have hf5' : Fr (fun k => k = r) W4 w5 := (Fr.drewN (Fr.refl _ W4) k4).trans hf5 (fun _ _ h => h)
            obtain ⟨D', hT, hD'⟩ := (hargs4.keep hf5' (fun k hk => by omega)).done (by simp; omega) (hf5'.keep hcb4 (by omega))
            exact ⟨_, _, _, D', rfl, hT, hr5, hfw4.trans hf5' (fun _ _ h => .inl h), hD'⟩
          · refine (peek_any hr4 rfl).mono ?_
            rintro e w' ⟨rfl, k4, rfl⟩
            go_wp2_with fail
            refine (expect_no 41 (hr4.drewN k4) h41 _).mono ?_
            rintro e w5 ⟨⟨b, rfl⟩, hf5⟩
            go_wp2_with fail
            have e1 : argsRes c (rArgs (rCall n) 3 rest vs) = none := by rw [HJ.out, hk3, joined_bad HR.out h44 h41]; rfl
            rw [e1]
            exact ⟨rfl, ⟨_, rfl⟩, (hfw4.drewN k4).trans hf5 (fun _ _ h => h.elim)⟩

theorem call_all : ∀ (n r mb : Nat) (s : ByteArray) (pre rest vs : List UInt8) (w : World), RdAt w r mb s pre rest vs → rest.length < n →
    Calls Try.prog 55 #[.pointer (some ⟨r, 0, none⟩)] w (ReadPost asCall (rCall n rest vs) r mb s w)
  | 0, r, mb, s, pre, rest, vs, w, h, hn => absurd hn (by omega)
  | n + 1, r, mb, s, pre, rest, vs, w, h, hn => by
    by_cases hlow : isLow (hd rest) = true
    · by_cases ho : hd rest.tail = 40
      · obtain ⟨c, rest1, rfl⟩ : ∃ c rest1, rest = c :: rest1 := ⟨_, _, hd_cons rfl (isLow_ne hlow)⟩
        simp only [List.tail_cons] at ho
        obtain ⟨rest2, rfl⟩ : ∃ rest2, rest1 = 40 :: rest2 := ⟨_, hd_cons ho (by decide)⟩
        have e : rCall (n + 1) (c :: 40 :: rest2) vs = argsRes c (rArgs (rCall n) 3 rest2 vs) := by
          have h1 : hd (c :: 40 :: rest2) = c := rfl
          rw [rCall, if_pos hlow, if_pos (show hd (c :: 40 :: rest2).tail = 40 from rfl)]
          simp only [List.tail_cons, h1]
          cases rArgs (rCall n) 3 rest2 vs with
          | none => rfl
          | some x => rfl
        rw [e]
        exact call_args (fun h hn => call_all n _ _ _ _ _ _ _ h hn) h (by simp at hn; omega) hlow
      · exact call_atom h hlow ho
    · exact call_not h (by simpa using hlow)
theorem call_any (n : Nat) : CallSaid n := fun h hn => call_all n _ _ _ _ _ _ _ h hn
end Go.Proofs.Qxb6500302a
