import Derived.Test.Qxb6500301aMod8
import Derived.Test.Qxb6500301aMod14
namespace Go.Proofs.Qxb6500301a
open Go.RowKit
set_option linter.unusedSimpArgs false
set_option linter.unusedVariables false
attribute [local go_sem ↓] Go.wp_at_zero Go.wp_at_succ
attribute [-go_sem] Go.run_string_add_if Go.run_index_string Go.run_slice_string_if

theorem K_step {m i : Nat} {code : List UInt8} {len : Nat} {a : At} {x : List Nat × List UInt8 × List Nd × At} (h : K m code len a = some x) (hi : i < m) {y : List Nat × List UInt8 × List Nd × At} (hy : K i code len a = some y) :
    ∃ k z, K 1 y.2.1 (len + y.2.2.1.length) y.2.2.2 = some ([k], z) ∧ K (i + 1) code len a = some (y.1 ++ [k], z.1, y.2.2.1 ++ z.2.1, z.2.2) ∧ y.2.2.1.length + z.2.1.length ≤ x.2.2.1.length := by
  have h1 := K_add code.length i (m - i) code len a (Nat.le_refl _)
  rw [show i + (m - i) = m by omega, h, hy] at h1
  simp only [K2, Option.bind_some] at h1
  have h2 := K_add y.2.1.length 1 (m - i - 1) y.2.1 (len + y.2.2.1.length) y.2.2.2 (Nat.le_refl _)
  rw [show 1 + (m - i - 1) = m - i by omega] at h2
  rw [h2] at h1
  cases hz : K 1 y.2.1 (len + y.2.2.1.length) y.2.2.2 with
  | none => rw [hz] at h1; simp [K2] at h1
  | some z =>
    obtain ⟨ks, z⟩ := z
    have hl := (K_rest hz).2
    obtain ⟨k, rfl⟩ : ∃ k, ks = [k] := by
      match ks, hl with
      | [k], _ => exact ⟨k, rfl⟩
    refine ⟨k, z, rfl, ?_, ?_⟩
    · rw [K_add code.length i 1 code len a (Nat.le_refl _), hy]
      simp only [K2, Option.bind_some, hz, Option.map_some]
    · rw [hz] at h1
      simp only [K2, Option.bind_some] at h1
      cases hu : K (m - i - 1) z.1 (len + y.2.2.1.length + z.2.1.length) z.2.2 with
      | none => rw [hu] at h1; simp at h1
      | some u =>
        rw [hu] at h1
        simp only [Option.map_some, Option.some.injEq] at h1
        rw [h1]
        simp only [List.length_append]
        omega

def atV : Option Nat → Value
  | none => .int .i64 (-1)
  | some x => .int .i64 (x : Int)
def AtAt (w : World) (g : Nat) (a : At) : Prop := w.heap[g]? = some (.cells (a.map atV).toArray 101) ∧ a.length = 6
theorem AtAt.cell {w : World} {g k : Nat} {a : At} (h : AtAt w g a) (hk : k < 6) : w.cell? ⟨g, k, none⟩ = some (atV (a.getD k none)) := by
  refine cell_of k h.1 ?_
  have : k < a.length := by have := h.2; omega
  simp [List.getD, this]
theorem AtAt.set {w : World} {g : Nat} {a : At} (h : AtAt w g a) (k x : Nat) : AtAt (w.setCell ⟨g, k, none⟩ (.int .i64 (x : Int))) g (a.set k (some x)) := by
  refine ⟨?_, by rw [List.length_set]; exact h.2⟩
  rw [heap_setCell_same _ h.1]
  congr 2
  simp [atV]
theorem AtAt.keep {w w' : World} {g : Nat} {a : At} (h : AtAt w g a) {T : Nat → Prop} (hf : Fr T w w') (hn : ¬ T g) : AtAt w' g a := ⟨hf.keep h.1 hn, h.2⟩
theorem AtAt.ne {w : World} {g b0 e sz n : Nat} {a : At} {v : Value} {xs : List Value} (h : AtAt w g a) (hr : w.ownsRow b0 e sz v n xs) (he : e ≠ 101) : ∀ k, v.ownBlock = some k → g ≠ k := top_ne hr h.1 he

def BFoot (q : Nat) (vn : Value) (ga : Nat) (k : Nat) : Prop := vn.ownBlock = some k ∨ k = q ∨ k = ga
def BuildPost (b0 q : Nat) (vn vo vl : Value) (saved : List (List Nd)) (code : List UInt8) (ga : Nat) (ns : List Nd) (x : List Nat × List UInt8 × List Nd × At) (w : World) (e : Ending) (w' : World) : Prop :=
  ∃ (k pe : Nat) (vn' : Value), e = .returned (.tuple #[.int .i64 (k : Int), .int .i64 (pe : Int)]) ∧ x.1 = [k] ∧ x.2.1 = code.drop pe ∧ pe ≤ code.length ∧ MAt w' b0 q vn' vo vl (ns ++ x.2.2.1) saved ∧ AtAt w' ga x.2.2.2 ∧ Fr (BFoot q vn ga) w w' ∧ ∀ k, vn'.ownBlock = some k → vn.ownBlock = some k ∨ w.heap.size ≤ k

section
variable {w w2 : World} {b0 q : Nat} {vn vo vl : Value} {ns : List Nd} {saved : List (List Nd)}
/-- A node more. -/
theorem MAt.grow (h : MAt w b0 q vn vo vl ns saved) (F : Fr (fun k => vn.ownBlock = some k) w w2) {v2 : Value} {x : Nd} (hr : w2.ownsRow b0 111 6 v2 (ns.length + 1) (nodesM 0 ns ++ ndM ns.length x)) (hat : v2.ownBlock = vn.ownBlock ∨ (∃ k, v2.ownBlock = some k ∧ w.heap.size ≤ k)) :
    MAt (w2.setCell ⟨q, 0, none⟩ v2) b0 q v2 vo vl (ns ++ [x]) saved ∧ Fr (fun k => vn.ownBlock = some k ∨ k = q) w (w2.setCell ⟨q, 0, none⟩ v2) := by
  have ht := F.keep h.top (fun e => h.qn q e rfl)
  have ho := ownsRow_keep h.ro F (fun k hk e => h.no k e hk)
  have hl := ownsRow_keep h.rl F (fun k hk e => owns_ne h.rn h.rl (by decide) k e hk)
  refine ⟨⟨heap_setCell_same _ ht, ?_, row_setCell ho (top_ne ho ht (by decide)), row_setCell hl (top_ne hl ht (by decide)), ?_, h.qb⟩, (F.mono (fun k _ e => .inl e)).setCell (fun _ => .inr rfl) _⟩
  · have e : nodesM 0 (ns ++ [x]) = nodesM 0 ns ++ ndM ns.length x := by
      rw [nodesM_append, Nat.zero_add]
      show _ ++ (ndM ns.length x ++ []) = _
      rw [List.append_nil]
    rw [e, List.length_append]
    exact row_setCell hr (top_ne hr ht (by decide))
  · intro k hk hk'
    rcases hat with e | ⟨k', e, hle⟩
    · exact h.no k (by rw [← e]; exact hk) hk'
    · rw [e] at hk
      have := (h.ro.lt k hk').2
      have : k' = k := by simpa using hk
      omega
theorem src_one {w : World} {g : Nat} {i : Nat} {x : Nd} (h : w.heap[g]? = some (.cells (ndM i x).toArray 111)) : SrcAt w (.slice (some ⟨g, 0, none⟩) 1 1) 1 (ndM i x) := by
  refine .inr ⟨⟨g, 0, none⟩, 1, rfl, rfl, fun j u hj => ?_⟩
  rw [add_zero_addr]
  refine cell_of j h ?_
  simpa using hj
end

def BuildOK (b0 q : Nat) (vo vl : Value) (saved : List (List Nd)) (code : List UInt8) (ga : Nat) (n : Nat) : Prop :=
  ∀ (p : Nat) (w : World) (vn : Value) (ns : List Nd) (a : At) (x : List Nat × List UInt8 × List Nd × At), (code.drop p).length ≤ n → p ≤ code.length → b0 ≤ w.heap.size → MAt w b0 q vn vo vl ns saved → AtAt w ga a → K 1 (code.drop p) ns.length a = some x → ns.length + x.2.2.1.length ≤ 64 →
    Calls Try.prog 63 #[.pointer (some ⟨q, 0, none⟩), .string (S code), .int .i64 (p : Int), .pointer (some ⟨ga, 0, none⟩)] w (BuildPost b0 q vn vo vl saved code ga ns x w)

section
variable {w : World} {b0 q : Nat} {vn vo vl : Value} {ns : List Nd} {saved : List (List Nd)} {code : List UInt8} {ga p : Nat} {a : At}
set_option maxRecDepth 40000 in
set_option maxHeartbeats 4000000 in
theorem build_known {c : UInt8} {x : Nat} (hl : code.length ≤ 48) (hb0 : b0 ≤ w.heap.size) (h : MAt w b0 q vn vo vl ns saved) (ha : AtAt w ga a) (hc : code[p]? = some c) (hv : isVarC c = true) (hx : a.getD (c.toNat - 65) none = some x) (hs : ns.length ≤ 64) :
    Calls Try.prog 63 #[.pointer (some ⟨q, 0, none⟩), .string (S code), .int .i64 (p : Int), .pointer (some ⟨ga, 0, none⟩)] w (BuildPost b0 q vn vo vl saved code ga ns ([x], code.drop (p + 1), [], a) w) := by
  have hpl := (List.getElem?_eq_some_iff.1 hc).1
  have hcr : 65 ≤ c.toNat ∧ c.toNat ≤ 70 := by simpa [isVarC] using hv
  have xc := fun w => idx_Int (l := code) (i := (p : Int)) (by omega) (c := c) (by rw [Int.toNat_natCast]; exact hc) w
  have HV : Hid (∀ w : World, Calls Try.prog 67 #[.int .u8 (c.toNat : Int)] w fun e w' => e = .returned (.bool true) ∧ w' = w) := fun w => by have := mIsVar_any (w := w) c; rw [hv] at this; exact this
  have ca := ha.cell (k := c.toNat - 65) (by omega)
  rw [hx] at ca
  simp only [atV] at ca
  have esc : ((c.toNat : Int) - 65).toNat = c.toNat - 65 := by omega
  obtain ⟨bsn, capn, rfl⟩ := owns_slice h.rn
  have c0 := cell_of 0 h.top rfl
  have HFIN : Hid (BuildPost b0 q (.slice bsn ns.length capn) vo vl saved code ga ns ([x], code.drop (p + 1), [], a) w (.returned (.tuple #[.int .i64 (x : Int), .int .i64 ((p : Int) + 1)])) w) := ⟨x, p + 1, _, by go_num, rfl, rfl, by omega, by simpa using h, ha, Fr.refl _ _, fun k hk => .inl hk⟩
  have d1 : decide ((x : Int) < 0) = false := decide_eq_false (by omega)
  clear h ha hx hv hc
  go_enter Try.func63, Try.ntmps63
  go_wp2_with fail
  refine (HV.out _).mono ?_
  rintro e w1 ⟨rfl, rfl⟩
  go_wp2_with fail
  go_ret2
  exact HFIN.out
set_option maxRecDepth 40000 in
set_option maxHeartbeats 4000000 in
theorem build_fresh {c : UInt8} (hl : code.length ≤ 48) (hb0 : b0 ≤ w.heap.size) (h : MAt w b0 q vn vo vl ns saved) (ha : AtAt w ga a) (hga : b0 ≤ ga) (hc : code[p]? = some c) (hv : isVarC c = true) (hx : a.getD (c.toNat - 65) none = none) (hs : ns.length + 1 ≤ 64) :
    Calls Try.prog 63 #[.pointer (some ⟨q, 0, none⟩), .string (S code), .int .i64 (p : Int), .pointer (some ⟨ga, 0, none⟩)] w (BuildPost b0 q vn vo vl saved code ga ns ([ns.length], code.drop (p + 1), [.v none], a.set (c.toNat - 65) (some ns.length)) w) := by
  have hpl := (List.getElem?_eq_some_iff.1 hc).1
  have hcr : 65 ≤ c.toNat ∧ c.toNat ≤ 70 := by simpa [isVarC] using hv
  have xc := fun w => idx_Int (l := code) (i := (p : Int)) (by omega) (c := c) (by rw [Int.toNat_natCast]; exact hc) w
  have HV : Hid (∀ w : World, Calls Try.prog 67 #[.int .u8 (c.toNat : Int)] w fun e w' => e = .returned (.bool true) ∧ w' = w) := fun w => by have := mIsVar_any (w := w) c; rw [hv] at this; exact this
  have ca := ha.cell (k := c.toNat - 65) (by omega)
  rw [hx] at ca
  simp only [atV] at ca
  have za := frozen_of (c.toNat - 65) ha.1
  have esc : ((c.toNat : Int) - 65).toNat = c.toNat - 65 := by omega
  obtain ⟨bsn, capn, rfl⟩ := owns_slice h.rn
  have c0 := cell_of 0 h.top rfl
  have hgq : ga ≠ q := fun e => by have h1 := ha.1; rw [e, h.top] at h1; simp at h1
  have F1 : Fr (fun k => k = ga) w (w.setCell ⟨ga, c.toNat - 65, none⟩ (.int .i64 (ns.length : Int))) := Fr.setCell (S := fun k => k = ga) (Fr.refl _ w) (fun _ => rfl) _
  have hM1 : MAt (w.setCell ⟨ga, c.toNat - 65, none⟩ (.int .i64 (ns.length : Int))) b0 q (.slice bsn ns.length capn) vo vl ns saved :=
    ⟨F1.keep h.top (fun e => hgq e.symm), ownsRow_keep h.rn F1 (fun k hk e => ha.ne h.rn (by decide) k hk e.symm), ownsRow_keep h.ro F1 (fun k hk e => ha.ne h.ro (by decide) k hk e.symm), ownsRow_keep h.rl F1 (fun k hk e => ha.ne h.rl (by decide) k hk e.symm), h.no, h.qb⟩
  have hA1 := ha.set (c.toNat - 65) ns.length
  have hsz1 : (w.setCell ⟨ga, c.toNat - 65, none⟩ (.int .i64 (ns.length : Int))).heap.size = w.heap.size := by simp [World.setCell]
  have HAS : Hid (a.set (c.toNat - 65) (some ns.length) = a.set (c.toNat - 65) (some ns.length)) := rfl
  have hgd : (a.set (c.toNat - 65) (some ns.length)).getD (c.toNat - 65) none = some ns.length := by
    have := ha.2
    simp [List.getD, show c.toNat - 65 < a.length by omega]
  have cw := hA1.cell (k := c.toNat - 65) (by omega)
  rw [hgd] at cw
  simp only [atV] at cw
  clear hx hv hc h ha
  go_enter Try.func63, Try.ntmps63
  go_wp2_with fail
  refine (HV.out _).mono ?_
  rintro e w1 ⟨rfl, rfl⟩
  go_upto_region 6 with fail
  have HF1 : Hid (Fr (BFoot q (.slice bsn ns.length capn) ga) w1 (w1.setCell ⟨ga, c.toNat - 65, none⟩ (.int .i64 (ns.length : Int)))) := F1.mono (fun k _ e => .inr (.inr e))
  have HSZ1 : Hid (w1.heap.size ≤ (w1.setCell ⟨ga, c.toNat - 65, none⟩ (.int .i64 (ns.length : Int))).heap.size) := F1.size
  clear F1
  generalize (w1.setCell ⟨ga, c.toNat - 65, none⟩ (.int .i64 (ns.length : Int))) = W1 at *
  have hb1 : b0 ≤ W1.heap.size := by omega
  clear hsz1
  have HM1 : Hid (MAt W1 b0 q (.slice bsn ns.length capn) vo vl ns saved) := hM1
  have HA1 : Hid (AtAt W1 ga (a.set (c.toNat - 65) (some ns.length))) := hA1
  clear c0 ca za
  have c0 := cell_of 0 hM1.top rfl
  have z0 := frozen_of 0 hM1.top
  have FA : Fr No W1 (W1.alloc (.cells #[.string { data := #[] }, .int .i64 (ns.length : Int), .int .i64 0, .int .i64 0, .int .i64 0, .int .i64 0] 111)) := (Fr.refl No W1).alloc _
  have hrow := ownsRow_keep hM1.rn FA (fun _ _ e => e)
  have hsrc : SrcAt (W1.alloc (.cells #[.string { data := #[] }, .int .i64 (ns.length : Int), .int .i64 0, .int .i64 0, .int .i64 0, .int .i64 0] 111)) (.slice (some ⟨W1.heap.size, 0, none⟩) 1 1) 1 (ndM ns.length (.v none)) := src_one (heap_alloc_same _ _)
  have hone := ndM_one ns.length (.v none)
  have hbd : b0 ≤ (W1.alloc (.cells #[.string { data := #[] }, .int .i64 (ns.length : Int), .int .i64 0, .int .i64 0, .int .i64 0, .int .i64 0] 111)).heap.size := by simp; omega
  clear hM1 hA1
  go_upto_region 7 with (at_builtin; refine wpList_spread (by rfl) _ _ (by rfl) (by rfl) (by rfl) hrow hsrc hone (by omega) hbd ?_; intro bs2 cap2 w2 hown2 hgrow2 hat2; have G2 : Fr (fun k => (Value.slice bsn ns.length capn).ownBlock = some k) W1 w2 := Fr.grown (S := fun k => (Value.slice bsn ns.length capn).ownBlock = some k) (FA.mono (fun _ _ e => e.elim)) hgrow2 (fun k hk _ => hk); have hp2 := G2.keep HM1.out.top (fun e => HM1.out.qn q e rfl); have cp2 := cell_of 0 hp2 rfl; have fp2 := frozen_of 0 hp2)
  obtain ⟨hM2, hF2⟩ := HM1.out.grow (x := .v none) G2 hown2 (by
    rcases hat2 with e | e
    · exact .inl e
    · exact .inr ⟨_, e, by simp⟩)
  have hA2 := HA1.out.keep hF2 (fun e => by
    rcases e with e | e
    · exact HA1.out.ne HM1.out.rn (by decide) ga e rfl
    · exact hgq e)
  have HF2 : Hid (Fr (BFoot q (.slice bsn ns.length capn) ga) w1 (w2.setCell ⟨q, 0, none⟩ (.slice bs2 (ns.length + 1) cap2))) := HF1.out.trans hF2 (fun k _ e => e.elim .inl (fun e => .inr (.inl e)))
  have HOW : Hid (∀ k, (Value.slice bs2 (ns.length + 1) cap2).ownBlock = some k → (Value.slice bsn ns.length capn).ownBlock = some k ∨ w1.heap.size ≤ k) := by
    intro k hk
    rcases hat2 with e | e
    · exact .inl (by rw [← e]; exact hk)
    · right
      rw [e] at hk
      have h1 := HSZ1.out
      have h2 : (W1.alloc (.cells #[.string { data := #[] }, .int .i64 (ns.length : Int), .int .i64 0, .int .i64 0, .int .i64 0, .int .i64 0] 111)).heap.size = k := by simpa using hk
      simp at h2
      omega
  generalize (w2.setCell ⟨q, 0, none⟩ (.slice bs2 (ns.length + 1) cap2)) = W2 at *
  have cw2 := hA2.cell (k := c.toNat - 65) (by omega)
  rw [hgd] at cw2
  simp only [atV] at cw2
  have HFIN : Hid (BuildPost b0 q (.slice bsn ns.length capn) vo vl saved code ga ns ([ns.length], code.drop (p + 1), [.v none], a.set (c.toNat - 65) (some ns.length)) w1 (.returned (.tuple #[.int .i64 (ns.length : Int), .int .i64 ((p : Int) + 1)])) W2) := ⟨ns.length, p + 1, _, by go_num, rfl, rfl, by omega, hM2, hA2, HF2.out, HOW.out⟩
  clear hM2 hA2 hF2 hgd hown2 hgrow2 hat2 G2 hp2 cp2 fp2 hrow hsrc hone hbd FA c0 z0 cw
  go_wp2_with fail
  go_ret2
  exact HFIN.out
end
end Go.Proofs.Qxb6500301a
