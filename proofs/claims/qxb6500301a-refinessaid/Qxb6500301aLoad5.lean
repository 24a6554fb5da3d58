import Derived.Test.Qxb6500301aLoad4
import Derived.Test.Qxb6500301aReal7
import Derived.Deep.RegionLaw
namespace Go.Proofs.Qxb6500301a
open Go.RowKit
set_option linter.unusedSimpArgs false
set_option linter.unusedVariables false
attribute [local go_sem ↓] Go.wp_at_zero Go.wp_at_succ
attribute [-go_sem] Go.run_string_add_if Go.run_index_string Go.run_slice_string_if

def ArrAt (w : World) (g : Nat) (a : At) : Prop := ∃ xs : List Int, xs.length = 6 ∧ w.heap[g]? = some (.cells (xs.map (fun x => Value.int .i32 x)).toArray 100) ∧ ∀ (k x : Nat), a.getD k none = some x → xs[k]? = some (x : Int)
theorem ArrAt.keep {w w' : World} {g : Nat} {a : At} (h : ArrAt w g a) {T : Nat → Prop} (hf : Fr T w w') (hT : ¬ T g) : ArrAt w' g a := by
  obtain ⟨xs, h1, h2, h3⟩ := h
  exact ⟨xs, h1, hf.keep h2 hT, h3⟩
theorem ArrAt.cell {w : World} {g k x : Nat} {a : At} (h : ArrAt w g a) (hx : a.getD k none = some x) : w.cell? ⟨g, k, none⟩ = some (.int .i32 (x : Int)) := by
  obtain ⟨xs, h1, h2, h3⟩ := h
  refine cell_of k h2 ?_
  simp [h3 k x hx]
theorem ArrAt.any {w : World} {g k : Nat} {a : At} (h : ArrAt w g a) (hk : k < 6) : (∃ x : Int, w.cell? ⟨g, k, none⟩ = some (.int .i32 x)) ∧ w.frozen? ⟨g, k, none⟩ = false := by
  obtain ⟨xs, h1, h2, h3⟩ := h
  refine ⟨⟨xs[k]'(by omega), cell_of k h2 ?_⟩, frozen_of k h2⟩
  simp [h1, hk]
theorem ArrAt.set {w : World} {g k x : Nat} {a : At} (h : ArrAt w g a) (ha : a.length = 6) (hk : k < 6) : ArrAt (w.setCell ⟨g, k, none⟩ (.int .i32 (x : Int))) g (a.set k (some x)) := by
  obtain ⟨xs, h1, h2, h3⟩ := h
  refine ⟨xs.set k (x : Int), by simp [h1], ?_, fun j y hj => ?_⟩
  · rw [heap_setCell_same _ h2]
    congr 2
    apply Array.ext'
    simp [List.map_set]
  · rw [List.getD_eq_getElem?_getD] at hj
    by_cases e : j = k
    · subst e
      rw [List.getElem?_set_self (by omega)] at hj ⊢
      simp at hj
      rw [hj]
    · rw [List.getElem?_set_ne (by omega)] at hj ⊢
      exact h3 j y (by rw [List.getD_eq_getElem?_getD]; exact hj)
theorem some_getD (a : At) (k : Nat) : (a.map Option.isSome).getD k false = (a.getD k none).isSome := by
  rw [List.getD_eq_getElem?_getD, List.getD_eq_getElem?_getD, List.getElem?_map]
  cases a[k]? <;> rfl
theorem some_set (a : At) (k x : Nat) : (a.map Option.isSome).set k true = (a.set k (some x)).map Option.isSome := by rw [List.map_set]; rfl

theorem Try.info63 : (Try.prog.info? 63).map (fun i => (i.zero, i.size, i.bytes)) = some (some (.int .i8 0), 1, 1) := by kernel_rfl
theorem Try.info5 : (Try.prog.info? 5).map (fun i => (i.zero, i.size, i.bytes)) = some (some (.int .u8 0), 1, 1) := by kernel_rfl
section
variable {w w2 : World} {p : Nat} {B : Blks} {T Wd Hd A R M : List Value} {nm : Nat}
theorem Loose.q0 (h : Loose w p B T Wd Hd A R M nm) : w.cell? ⟨p, 0, none⟩ = some (.slice (some ⟨B.t, 0, none⟩) T.length 64) := cell_of 0 h.top rfl
theorem Loose.q1 (h : Loose w p B T Wd Hd A R M nm) : w.cell? ⟨p, 1, none⟩ = some (.slice (some ⟨B.w, 0, none⟩) Wd.length 64) := cell_of 1 h.top rfl
theorem Loose.q2 (h : Loose w p B T Wd Hd A R M nm) : w.cell? ⟨p, 2, none⟩ = some (.slice (some ⟨B.h, 0, none⟩) Hd.length 128) := cell_of 2 h.top rfl
theorem Loose.q3 (h : Loose w p B T Wd Hd A R M nm) : w.cell? ⟨p, 3, none⟩ = some (.slice (some ⟨B.a, 0, none⟩) A.length 256) := cell_of 3 h.top rfl
end

/-- Behind a byte: its node laid (but for its arguments' window), its address known. -/
def Mid (w wx : World) (p : Nat) (B : Blks) (F ns1 : List Nd) (slots : List (Nat × Nat)) (tr tms : List Nat) (saved : List (List Nd)) (code : List UInt8) (p0 : Nat) (v4 v7 v9 v10 : Value) : Prop :=
  ∃ (m : List Nd) (ws2 : List Int) (a2 : At) (p2 n x : Nat), v4 = .int .u8 (maskOf (a2.map Option.isSome)) ∧ v7 = .int .i64 (p2 : Int) ∧ v9 = .int .i32 (x : Int) ∧ v10 = .int .i64 (n : Int) ∧
    p0 < p2 ∧ p2 ≤ code.length ∧ a2.length = 6 ∧ n ≤ 4 ∧ allArgs m = List.replicate n 0 ∧ (n = 0 ∨ ∃ c d, m = [.s c d (List.replicate n 0)]) ∧ Four (ns1 ++ m) ∧ (ns1 ++ m).length ≤ 64 ∧
    Loose wx p B ((ns1 ++ m).map tagV) (ws2.map (fun x => .int .i32 x)) (headsV (ns1 ++ m)) ((allArgs ns1).map n32) (tr.map n32) (marksV tms saved) tms.length ∧ Words (ns1 ++ m) ws2 ∧
    ArrAt wx w.heap.size a2 ∧ LInv F (fillTop (ns1 ++ m) slots x) (newSlots ns1.length 0 n ++ slots.tail) (code.drop p2) a2

section
variable {w : World} {p : Nat} {B : Blks} {ns : List Nd} {ws : List Int} {tr tms : List Nat} {saved : List (List Nd)}
set_option maxRecDepth 40000 in
set_option maxHeartbeats 4000000 in
theorem lay_any (h : RAt w p B ns ws tr tms saved) (hw : WfN ns) {code : List UInt8} {news : List Nd} {ks : List Nat} {at' : At} (hl : code.length ≤ 48) (hk : K 1 code ns.length (List.replicate 6 none) = some (ks, [], news, at')) (hF : (ns ++ news).length ≤ 64) : Calls Try.prog 41 #[.pointer (some ⟨p, 0, none⟩), .string (S code)] w fun e w' =>
    e = .returned (.tuple #[]) ∧ (∃ ws', RAt w' p B (ns ++ news) ws' tr tms saved) ∧ Fr (B.Has p) w w' := by
  have hsz := S_size code
  have hmk : ∀ w : World, (Instr.makeSlice 52 (.int .i64 0) (.int .i64 48)).run Try.prog w = .ok (.slice (some ⟨w.heap.size, 0, none⟩) 0 48) (w.alloc (.cells (Array.replicate 48 (.int .i32 0)) 21)) := fun _ => by kernel_rfl
  have HLR : Hid (LRel (ns ++ news) ns [] code (List.replicate 6 none)) := .inl ⟨rfl, rfl, ks, news, at', hk, rfl⟩
  have HF4 : Hid (Four ns) := Four.of hw
  have HB : Hid (∀ k, B.Has p k → k < w.heap.size) := fun k hk => h.lt hk
  have HR : Hid (RAt w p B ns ws tr tms saved) := h
  clear hk h hw
  obtain ⟨F, hFe⟩ : ∃ F, F = ns ++ news := ⟨_, rfl⟩
  have HFE : Hid (F = ns ++ news) := hFe
  rw [← hFe] at hF HLR
  rw [← hFe]
  clear hFe
  go_enter Try.func41, Try.ntmps41
  go_upto_region 4 with fail
  have F0 : Fr No w ((w.alloc (.cells #[.int .i32 0, .int .i32 0, .int .i32 0, .int .i32 0, .int .i32 0, .int .i32 0] 100)).alloc (.cells (Array.replicate 48 (.int .i32 0)) 21)) := ((Fr.refl No w).alloc _).alloc _
  have A0 : ArrAt ((w.alloc (.cells #[.int .i32 0, .int .i32 0, .int .i32 0, .int .i32 0, .int .i32 0, .int .i32 0] 100)).alloc (.cells (Array.replicate 48 (.int .i32 0)) 21)) w.heap.size (List.replicate 6 none) :=
    ⟨[0, 0, 0, 0, 0, 0], rfl, heap_alloc_keep (heap_alloc_same _ _), fun k x hx => by rw [getD_none] at hx; cases hx⟩
  have S0 : Stk (w.heap.size + 1) ((w.alloc (.cells #[.int .i32 0, .int .i32 0, .int .i32 0, .int .i32 0, .int .i32 0, .int .i32 0] 100)).alloc (.cells (Array.replicate 48 (.int .i32 0)) 21)) (.slice (some ⟨w.heap.size + 1, 0, none⟩) 0 48) [] := by
    refine ⟨rfl, .inr ⟨w.heap.size + 1, 48, Array.replicate 48 (.int .i32 0), rfl, Nat.le_refl _, ?_, by simp, by unfold maxLen; omega, by simp, by simp⟩⟩
    have := heap_alloc_same (w.alloc (.cells #[.int .i32 0, .int .i32 0, .int .i32 0, .int .i32 0, .int .i32 0, .int .i32 0] 100)) (.cells (Array.replicate 48 (.int .i32 0)) 21)
    simpa using this
  have hsz0 := F0.size
  generalize ((w.alloc (.cells #[.int .i32 0, .int .i32 0, .int .i32 0, .int .i32 0, .int .i32 0, .int .i32 0] 100)).alloc (.cells (Array.replicate 48 (.int .i32 0)) 21)) = W0 at *
  go_loopg [4, 6, 7] (code.length + 1) (fun gk v4 v6 v7 wr => ∃ (ns1 : List Nd) (ws1 : List Int) (slots : List (Nat × Nat)) (a : At) (q : Nat) (bs : Option Addr) (cap : Nat),
    v4 = .int .u8 (maskOf (a.map Option.isSome)) ∧ v6 = .slice bs slots.length cap ∧ v7 = .int .i64 (q : Int) ∧ q ≤ code.length ∧ gk = code.length + 1 - q ∧ a.length = 6 ∧ slots.length ≤ 48 ∧ Hid (RAt wr p B ns1 ws1 tr tms saved) ∧ Hid (Four ns1 ∧ ns1.length ≤ 64) ∧ Slots ns1 slots ∧ Hid (LRel F ns1 slots (code.drop q) a) ∧ ArrAt wr w.heap.size a ∧ Hid (Stk (w.heap.size + 1) wr v6 (offs ns1 slots)) ∧ Hid (Fr (fun k => B.Has p k ∨ w.heap.size ≤ k) w wr))
  case atStart =>
    have hnl : ns.length ≤ 64 := by
      have := HFE.out
      rw [this, List.length_append] at hF
      omega
    exact ⟨ns, ws, [], List.replicate 6 none, 0, _, 48, rfl, rfl, rfl, Nat.zero_le _, rfl, rfl, by simp, HR.out.keep F0 (fun _ _ e => e), ⟨HF4.out, hnl⟩, (fun s hs => by cases hs), HLR.out, A0, S0, F0.mono (fun _ _ e => e.elim)⟩
  case round =>
    clear F0 A0 S0 hsz0 HLR HF4 HR
    obtain ⟨ns1, ws1, slots, a, q, bs, cap, rfl, rfl, rfl, hq, hgk, ha6, hs48, HR1, HF1, hSl, HLR, hAr, HS, HFR⟩ := hrel
    by_cases hql : q < code.length
    case neg =>
      have hqe : q = code.length := by omega
      have HFN : Hid (F = ns1) := by
        have := HLR.out
        rw [hqe, List.drop_length] at this
        exact this.end'.2
      have d1 : decide ((q : Int) < (code.length : Int)) = false := decide_eq_false (by omega)
      have d1' : decide (q < code.length) = false := decide_eq_false hql
      clear hqe
      go_wp2_with fail
      go_end0
      refine ⟨rfl, ⟨ws1, ?_⟩, HFR.out.mono (fun k hk e => e.elim id (fun e => by omega))⟩
      rw [HFN.out]; exact HR1.out
    case pos =>
      have d1 : decide ((q : Int) < (code.length : Int)) = true := decide_eq_true (by omega)
      have d1' : decide (q < code.length) = true := decide_eq_true hql
      obtain ⟨c, hc⟩ : ∃ c, code[q]? = some c := ⟨_, List.getElem?_eq_getElem hql⟩
      have xc := fun w => idx_Int (l := code) (i := (q : Int)) (by omega) (c := c) (by rw [Int.toNat_natCast]; exact hc) w
      have HDR : Hid (code.drop q = c :: code.drop (q + 1)) := drop_cons hc
      clear hc
      have HV : Hid (∀ w : World, Calls Try.prog 60 #[.int .u8 (c.toNat : Int)] w fun e w' => e = .returned (.bool (isVarC c)) ∧ w' = w) := fun w => isVar_any c
      obtain ⟨b, hb⟩ : ∃ b, isVarC c = b := ⟨_, rfl⟩
      rw [hb] at HV
      have HVC : Hid (isVarC c = b) := hb
      clear hb
      have c0 := HR1.out.p0
      have hn64 := HF1.out.2
      go_wp2_with fail
      refine (HV.out _).mono ?_
      rintro e w1 ⟨rfl, rfl⟩
      clear HV
      go_upto_if 28 with fail
      go_cut [4, 7, 9, 10, 11] from 14 to 168 (fun v4 v7 v9 v10 v11 wx => Mid w wx p B F ns1 slots tr tms saved code q v4 v7 v9 v10 ∧ Fr (fun k => B.Has p k ∨ k = w.heap.size) w1 wx)
      case first =>
        cases b with
        | true =>
          have hcr : 65 ≤ c.toNat ∧ c.toNat ≤ 70 := by have := HVC.out; simpa [isVarC] using this
          have hsl : (a.map Option.isSome).length = 6 := by simp [ha6]
          obtain ⟨m1, m2⟩ := mask_at hsl (k := c.toNat - 65) (by omega)
          rw [some_getD] at m1
          cases hax : a.getD (c.toNat - 65) none with
          | some x =>
            have cx := hAr.cell hax
            rw [hax] at m1
            have HLI : Hid (LInv F (fillTop (ns1 ++ []) slots x) (newSlots ns1.length 0 0 ++ slots.tail) (code.drop (q + 1)) a) := by
              have h1 := HLR.out
              rw [HDR.out] at h1
              obtain ⟨s, ss, rfl, h2⟩ := h1.known hSl HVC.out hax
              rw [List.append_nil]
              exact h2
            clear hax
            go_wp2_with fail
            go_meet
            refine ⟨⟨[], ws1, a, q + 1, 0, x, rfl, by go_num, rfl, rfl, by omega, by omega, ha6, by omega, rfl, .inl rfl, ?_, ?_, ?_, ?_, hAr, HLI.out⟩, Fr.refl _ _⟩
            · rw [List.append_nil]; exact HF1.out.1
            · rw [List.append_nil]; exact HF1.out.2
            · rw [List.append_nil]; exact HR1.out.loose
            · rw [List.append_nil]; exact HR1.out.words
          | none =>
            obtain ⟨⟨x0, cx⟩, zx⟩ := hAr.any (k := c.toNat - 65) (by omega)
            rw [hax] at m1
            have HLI : Hid (LInv F (fillTop (ns1 ++ [.v none]) slots ns1.length) (newSlots ns1.length 0 0 ++ slots.tail) (code.drop (q + 1)) (a.set (c.toNat - 65) (some ns1.length))) := by
              have h1 := HLR.out
              rw [HDR.out] at h1
              exact h1.fresh hSl HVC.out hax
            clear hax
            go_upto_region 13 with fail
            have hn63 : ns1.length + 1 ≤ 64 := by
              have := HLI.out.le
              rw [fillTop_len, List.length_append] at this
              simp at this
              omega
            have ap := HR1.out.apart
            have hwl : ws1.length = ns1.length := HR1.out.words.1
            have hhs : ∀ k, B.Has p k → ¬ k = w.heap.size := fun k hk e => by have := HB.out k hk; omega
            obtain ⟨i63, hi63, hz63, hs63, hb63⟩ := info_parts Try.info63
            obtain ⟨i21, hi21, hz21, hs21, hb21⟩ := info_parts Try.info21
            obtain ⟨i5, hi5, hz5, hs5, hb5⟩ := info_parts Try.info5
            have F1 : Fr (fun k => k = w.heap.size) w1 (w1.setCell ⟨w.heap.size, c.toNat - 65, none⟩ (.int .i32 (ns1.length : Int))) := (Fr.refl (fun k => k = w.heap.size) w1).setCell (fun _ => rfl) _
            have A1 : ArrAt (w1.setCell ⟨w.heap.size, c.toNat - 65, none⟩ (.int .i32 (ns1.length : Int))) w.heap.size (a.set (c.toNat - 65) (some ns1.length)) := hAr.set ha6 (by omega)
            have L1 : LooseOf (w1.setCell ⟨w.heap.size, c.toNat - 65, none⟩ (.int .i32 (ns1.length : Int))) p B ns1 ws1 tr tms saved := HR1.out.loose.keep F1 hhs
            clear c0 cx zx
            generalize (w1.setCell ⟨w.heap.size, c.toNat - 65, none⟩ (.int .i32 (ns1.length : Int))) = W1 at *
            have cW2 : W1.cell? ⟨p, 0, none⟩ = some (.slice (some ⟨B.t, 0, none⟩) ns1.length 64) := by have := L1.q0; rw [List.length_map] at this; exact this
            have hrowW2 : (W1.alloc (.cells #[.int .i8 0] 63)).ownsRow 0 63 1 (sl B.t ns1.length 64) ns1.length (ns1.map tagV) := by have := ((Fr.refl No W1).alloc (.cells #[.int .i8 0] 63)).rows L1.rt (fun h => h); rw [List.length_map] at this; exact this
            have hnbW2 : (W1.alloc (.cells #[.int .i8 0] 63)).heap[W1.heap.size]? = some (.cells #[.int .i8 0] 63) := heap_alloc_same _ _
            have hneW2 : p ≠ B.t := ap.p.1
            go_upto_region 14 with (at_builtin; refine wpList_append_own_spare _ (by rfl) _ _ 51 (by rfl) 0 63 i63 1 Try.underlying51 hi63 hs63 B.t (ns1.length) 64 (ns1.map tagV) (by rfl) hrowW2 ⟨W1.heap.size, 0, none⟩ 1 1 [.int .i8 0] (by rfl) (by rfl) (World.news_of_block (cs := #[.int .i8 0]) hnbW2) (by simp [Value.oneCell']) (by omega) ?_; intro wW2 hownW2 hgrowW2; have hpW2 := heap_grown hgrowW2 (heap_alloc_keep L1.top) (fun e => hneW2 (Option.some.inj e).symm); have cpW2 := cell_of 0 hpW2 rfl; have fpW2 := frozen_of 0 hpW2)
            have GW2 : Fr (fun k => k = B.t) W1 wW2 := grown_fr ((Fr.refl No W1).alloc _) hgrowW2
            have L2 : Loose (wW2.setCell ⟨p, 0, none⟩ (sl B.t (ns1.length + 1) 64)) p B (ns1.map tagV ++ [.int .i8 0]) (ws1.map (fun x => Value.int .i32 x)) (headsV ns1) ((allArgs ns1).map n32) (tr.map n32) (marksV tms saved) tms.length := by
              have := L1.addT (news := [.int .i8 0]) GW2 (by rw [List.length_map]; exact hownW2)
              rw [List.length_map] at this
              exact this
            have TW2 : Fr (fun k => k = B.t ∨ k = p) W1 (wW2.setCell ⟨p, 0, none⟩ (sl B.t (ns1.length + 1) 64)) := Fr.setCell (S := fun k => k = B.t ∨ k = p) (GW2.mono (fun _ _ e => .inl e)) (fun _ => .inr rfl) _
            clear cpW2 fpW2 hpW2 cW2 hrowW2 hnbW2
            generalize (wW2.setCell ⟨p, 0, none⟩ (sl B.t (ns1.length + 1) 64)) = W2 at *
            have cW3 : W2.cell? ⟨p, 1, none⟩ = some (.slice (some ⟨B.w, 0, none⟩) ns1.length 64) := by have := L2.q1; rw [List.length_map, HR1.out.words.1] at this; exact this
            have hrowW3 : (W2.alloc (.cells #[.int .i32 (ns1.length : Int)] 21)).ownsRow 0 21 1 (sl B.w ns1.length 64) ns1.length (ws1.map (fun x => Value.int .i32 x)) := by have := ((Fr.refl No W2).alloc (.cells #[.int .i32 (ns1.length : Int)] 21)).rows L2.rw (fun h => h); rw [List.length_map, HR1.out.words.1] at this; exact this
            have hnbW3 : (W2.alloc (.cells #[.int .i32 (ns1.length : Int)] 21)).heap[W2.heap.size]? = some (.cells #[.int .i32 (ns1.length : Int)] 21) := heap_alloc_same _ _
            have hneW3 : p ≠ B.w := ap.p.2.1
            go_upto_region 15 with (at_builtin; refine wpList_append_own_spare _ (by rfl) _ _ 52 (by rfl) 0 21 i21 1 Try.underlying52 hi21 hs21 B.w (ns1.length) 64 (ws1.map (fun x => Value.int .i32 x)) (by rfl) hrowW3 ⟨W2.heap.size, 0, none⟩ 1 1 [.int .i32 (ns1.length : Int)] (by rfl) (by rfl) (World.news_of_block (cs := #[.int .i32 (ns1.length : Int)]) hnbW3) (by simp [Value.oneCell']) (by omega) ?_; intro wW3 hownW3 hgrowW3; have hpW3 := heap_grown hgrowW3 (heap_alloc_keep L2.top) (fun e => hneW3 (Option.some.inj e).symm); have cpW3 := cell_of 1 hpW3 rfl; have fpW3 := frozen_of 1 hpW3)
            have GW3 : Fr (fun k => k = B.w) W2 wW3 := grown_fr ((Fr.refl No W2).alloc _) hgrowW3
            have L3 : Loose (wW3.setCell ⟨p, 1, none⟩ (sl B.w (ns1.length + 1) 64)) p B (ns1.map tagV ++ [.int .i8 0]) (ws1.map (fun x => Value.int .i32 x) ++ [.int .i32 (ns1.length : Int)]) (headsV ns1) ((allArgs ns1).map n32) (tr.map n32) (marksV tms saved) tms.length := by
              have := L2.addW (news := [.int .i32 (ns1.length : Int)]) GW3 (by rw [List.length_map, HR1.out.words.1]; exact hownW3)
              rw [List.length_map, HR1.out.words.1] at this
              exact this
            have TW3 : Fr (fun k => k = B.w ∨ k = p) W2 (wW3.setCell ⟨p, 1, none⟩ (sl B.w (ns1.length + 1) 64)) := Fr.setCell (S := fun k => k = B.w ∨ k = p) (GW3.mono (fun _ _ e => .inl e)) (fun _ => .inr rfl) _
            clear cpW3 fpW3 hpW3 cW3 hrowW3 hnbW3
            generalize (wW3.setCell ⟨p, 1, none⟩ (sl B.w (ns1.length + 1) 64)) = W3 at *
            have cW4 : W3.cell? ⟨p, 2, none⟩ = some (.slice (some ⟨B.h, 0, none⟩) (2 * ns1.length) 128) := by have := L3.q2; rw [headsV_len] at this; exact this
            have hrowW4 : (W3.alloc (.cells #[.int .u8 0, .int .u8 0] 5)).ownsRow 0 5 1 (sl B.h (2 * ns1.length) 128) (2 * ns1.length) (headsV ns1) := by have := ((Fr.refl No W3).alloc (.cells #[.int .u8 0, .int .u8 0] 5)).rows L3.rh (fun h => h); rw [headsV_len] at this; exact this
            have hnbW4 : (W3.alloc (.cells #[.int .u8 0, .int .u8 0] 5)).heap[W3.heap.size]? = some (.cells #[.int .u8 0, .int .u8 0] 5) := heap_alloc_same _ _
            have hneW4 : p ≠ B.h := ap.p.2.2.1
            go_upto_region 16 with (at_builtin; refine wpList_append_own_spare _ (by rfl) _ _ 53 (by rfl) 0 5 i5 1 Try.underlying53 hi5 hs5 B.h ((2 * ns1.length)) 128 (headsV ns1) (by rfl) hrowW4 ⟨W3.heap.size, 0, none⟩ 2 2 [.int .u8 0, .int .u8 0] (by rfl) (by rfl) (World.news_of_block (cs := #[.int .u8 0, .int .u8 0]) hnbW4) (by simp [Value.oneCell']) (by omega) ?_; intro wW4 hownW4 hgrowW4; have hpW4 := heap_grown hgrowW4 (heap_alloc_keep L3.top) (fun e => hneW4 (Option.some.inj e).symm); have cpW4 := cell_of 2 hpW4 rfl; have fpW4 := frozen_of 2 hpW4)
            have GW4 : Fr (fun k => k = B.h) W3 wW4 := grown_fr ((Fr.refl No W3).alloc _) hgrowW4
            have L4 : Loose (wW4.setCell ⟨p, 2, none⟩ (sl B.h ((2 * ns1.length) + 2) 128)) p B (ns1.map tagV ++ [.int .i8 0]) (ws1.map (fun x => Value.int .i32 x) ++ [.int .i32 (ns1.length : Int)]) (headsV ns1 ++ [.int .u8 0, .int .u8 0]) ((allArgs ns1).map n32) (tr.map n32) (marksV tms saved) tms.length := by
              have := L3.addH (news := [.int .u8 0, .int .u8 0]) GW4 (by rw [headsV_len]; exact hownW4)
              rw [headsV_len] at this
              exact this
            have TW4 : Fr (fun k => k = B.h ∨ k = p) W3 (wW4.setCell ⟨p, 2, none⟩ (sl B.h ((2 * ns1.length) + 2) 128)) := Fr.setCell (S := fun k => k = B.h ∨ k = p) (GW4.mono (fun _ _ e => .inl e)) (fun _ => .inr rfl) _
            clear cpW4 fpW4 hpW4 cW4 hrowW4 hnbW4
            generalize (wW4.setCell ⟨p, 2, none⟩ (sl B.h ((2 * ns1.length) + 2) 128)) = W4 at *
            have T14 : Fr (fun k => B.Has p k) W1 W4 := ((TW2.mono (fun k _ e => by rcases e with e | e <;> simp [Blks.Has, e])).trans TW3 (fun k _ e => by rcases e with e | e <;> simp [Blks.Has, e])).trans TW4 (fun k _ e => by rcases e with e | e <;> simp [Blks.Has, e])
            have A4 : ArrAt W4 w.heap.size (a.set (c.toNat - 65) (some ns1.length)) := A1.keep T14 (fun hk => hhs _ hk rfl)
            have cx := A4.cell (k := c.toNat - 65) (x := ns1.length) (by rw [List.getD_eq_getElem?_getD, List.getElem?_set_self (by omega)]; rfl)
            go_wp2_with fail
            go_meet
            refine ⟨⟨[.v none], ws1 ++ [(ns1.length : Int)], a.set (c.toNat - 65) (some ns1.length), q + 1, 0, ns1.length, by rw [some_set], by go_num, rfl, rfl, by omega, by omega, by simp [ha6], by omega, rfl, .inl rfl, HF1.out.1.add (by simp [argsOf]), by simpa using hn63, ?_, HR1.out.words.add _ _ (fun r e => by cases e) (fun _ _ _ e => by cases e), A4, HLI.out⟩, ?_⟩
            · rw [heads_add, List.map_append, List.map_append]
              exact L4
            · exact (F1.mono (fun k _ e => .inr e)).trans T14 (fun k _ e => .inl e)
        | false =>
          have HSH : Hid (∃ d r', code.drop (q + 1) = d :: r' ∧ (isFun c && okD d) = true) := by
            have h1 := HLR.out
            rw [HDR.out] at h1
            exact h1.shape HVC.out
          obtain ⟨d, r', hdr1, hfd⟩ := HSH.out
          have hq1 : q + 1 < code.length := by
            rcases Nat.lt_or_ge (q + 1) code.length with h | h
            · exact h
            · rw [List.drop_eq_nil_of_le h] at hdr1; cases hdr1
          have hdc : code[q + 1]? = some d := by
            have := List.drop_eq_getElem_cons hq1
            rw [hdr1] at this
            rw [List.getElem?_eq_getElem hq1]
            exact congrArg some (List.cons.inj this).1.symm
          have hdr2 := drop_cons hdc
          have hdd : 48 ≤ d.toNat ∧ d.toNat ≤ 52 := by
            have : okD d = true := by revert hfd; cases isFun c <;> simp
            simpa [okD] using this
          have xd := fun w => idx_Int (l := code) (i := (q : Int) + 1) (by omega) (c := d) (by rw [show ((q : Int) + 1).toNat = q + 1 by omega]; exact hdc) w
          have HLI : Hid (LInv F (fillTop (ns1 ++ [.s c d (List.replicate (d.toNat - 48) 0)]) slots ns1.length) (newSlots ns1.length 0 (d.toNat - 48) ++ slots.tail) (code.drop (q + 2)) a) := by
            have h1 := HLR.out
            rw [HDR.out, hdr2] at h1
            exact h1.func hSl HVC.out hfd
          clear HSH hdr1 hdr2 hdc hfd
          have hq46 : q + 1 ≤ 47 := by omega
          have hq45 : q ≤ 46 := by omega
          have hn63 : ns1.length + 1 ≤ 64 := by
            have := HLI.out.le
            rw [fillTop_len, List.length_append] at this
            simp at this
            omega
          have ap := HR1.out.apart
          have hwl : ws1.length = ns1.length := HR1.out.words.1
          have hhs : ∀ k, B.Has p k → ¬ k = w.heap.size := fun k hk e => by have := HB.out k hk; omega
          obtain ⟨i63, hi63, hz63, hs63, hb63⟩ := info_parts Try.info63
          obtain ⟨i21, hi21, hz21, hs21, hb21⟩ := info_parts Try.info21
          obtain ⟨i5, hi5, hz5, hs5, hb5⟩ := info_parts Try.info5
          have L1 : LooseOf w1 p B ns1 ws1 tr tms saved := HR1.out.loose
          have ha256 : aLen ns1 ≤ 256 := by have := HF1.out.1.len; omega
          clear c0
          go_upto_region 19 with fail
          have cW2 : w1.cell? ⟨p, 0, none⟩ = some (.slice (some ⟨B.t, 0, none⟩) ns1.length 64) := by have := L1.q0; rw [List.length_map] at this; exact this
          have hrowW2 : (w1.alloc (.cells #[.int .i8 1] 63)).ownsRow 0 63 1 (sl B.t ns1.length 64) ns1.length (ns1.map tagV) := by have := ((Fr.refl No w1).alloc (.cells #[.int .i8 1] 63)).rows L1.rt (fun h => h); rw [List.length_map] at this; exact this
          have hnbW2 : (w1.alloc (.cells #[.int .i8 1] 63)).heap[w1.heap.size]? = some (.cells #[.int .i8 1] 63) := heap_alloc_same _ _
          have hneW2 : p ≠ B.t := ap.p.1
          go_upto_region 20 with (at_builtin; refine wpList_append_own_spare _ (by rfl) _ _ 51 (by rfl) 0 63 i63 1 Try.underlying51 hi63 hs63 B.t (ns1.length) 64 (ns1.map tagV) (by rfl) hrowW2 ⟨w1.heap.size, 0, none⟩ 1 1 [.int .i8 1] (by rfl) (by rfl) (World.news_of_block (cs := #[.int .i8 1]) hnbW2) (by simp [Value.oneCell']) (by omega) ?_; intro wW2 hownW2 hgrowW2; have hpW2 := heap_grown hgrowW2 (heap_alloc_keep L1.top) (fun e => hneW2 (Option.some.inj e).symm); have cpW2 := cell_of 0 hpW2 rfl; have fpW2 := frozen_of 0 hpW2)
          have GW2 : Fr (fun k => k = B.t) w1 wW2 := grown_fr ((Fr.refl No w1).alloc _) hgrowW2
          have L2 : Loose (wW2.setCell ⟨p, 0, none⟩ (sl B.t (ns1.length + 1) 64)) p B (ns1.map tagV ++ [.int .i8 1]) (ws1.map (fun x => Value.int .i32 x)) (headsV ns1) ((allArgs ns1).map n32) (tr.map n32) (marksV tms saved) tms.length := by
            have := L1.addT (news := [.int .i8 1]) GW2 (by rw [List.length_map]; exact hownW2)
            rw [List.length_map] at this
            exact this
          have TW2 : Fr (fun k => k = B.t ∨ k = p) w1 (wW2.setCell ⟨p, 0, none⟩ (sl B.t (ns1.length + 1) 64)) := Fr.setCell (S := fun k => k = B.t ∨ k = p) (GW2.mono (fun _ _ e => .inl e)) (fun _ => .inr rfl) _
          clear cpW2 fpW2 hpW2 cW2 hrowW2 hnbW2
          generalize (wW2.setCell ⟨p, 0, none⟩ (sl B.t (ns1.length + 1) 64)) = W2 at *
          have cW3 : W2.cell? ⟨p, 1, none⟩ = some (.slice (some ⟨B.w, 0, none⟩) ns1.length 64) := by have := L2.q1; rw [List.length_map, HR1.out.words.1] at this; exact this
          have SW2 : W2.cell? ⟨p, 3, none⟩ = some (.slice (some ⟨B.a, 0, none⟩) (aLen ns1) 256) := by have := L2.q3; rw [List.length_map] at this; exact this
          have FAW3 : Fr No W2 (W2.alloc (.cells #[.int .i32 (aLen ns1 : Int)] 21)).drew := ((Fr.refl No W2).alloc (.cells #[.int .i32 (aLen ns1 : Int)] 21)).drew
          have hrowW3 : (W2.alloc (.cells #[.int .i32 (aLen ns1 : Int)] 21)).drew.ownsRow 0 21 1 (sl B.w ns1.length 64) ns1.length (ws1.map (fun x => Value.int .i32 x)) := by have := FAW3.rows L2.rw (fun h => h); rw [List.length_map, HR1.out.words.1] at this; exact this
          have hnbW3 : (W2.alloc (.cells #[.int .i32 (aLen ns1 : Int)] 21)).drew.heap[W2.heap.size]? = some (.cells #[.int .i32 (aLen ns1 : Int)] 21) := heap_alloc_same _ _
          have hneW3 : p ≠ B.w := ap.p.2.1
          have nnW3 := World.new_ne W2 _ SW2
          have nmW3 := World.new_ne W2 _ cW3
          have kaW3 := ((Fr.refl No W2).alloc (.cells #[.int .i32 (aLen ns1 : Int)] 21)).cellNo cW3
          have kbW3 := ((Fr.refl No W2).alloc (.cells #[.int .i32 (aLen ns1 : Int)] 21)).cellNo SW2
          go_cut [] from 14 to 168 (fun wx => Loose wx p B (ns1.map tagV ++ [.int .i8 1]) (ws1.map (fun x => Value.int .i32 x) ++ [.int .i32 (aLen ns1 : Int)]) (headsV ns1) ((allArgs ns1).map n32) (tr.map n32) (marksV tms saved) tms.length ∧ Fr (fun k => k = B.w ∨ k = p) W2 wx)
          case first =>
            have hwr : IntKind.i32.wrap (aLen ns1 : Int) = (aLen ns1 : Int) := by rw [IntKind.wrap_i32]; omega
            go_region_law ((refine step_spare (by rfl) _ _ 52 (by rfl) 0 21 i21 1 Try.underlying52 hi21 hs21 B.w ns1.length 64 (ws1.map (fun x => Value.int .i32 x)) (by rfl) hrowW3 ⟨W2.heap.size, 0, none⟩ 1 1 [.int .i32 (aLen ns1 : Int)] (by rfl) (by rfl) (World.news_of_block (cs := #[.int .i32 (aLen ns1 : Int)]) hnbW3) (by simp [Value.oneCell']) (by omega) ?_; intro wW3 hownW3 hgrowW3; have GW3 : Fr (fun k => k = B.w) W2 wW3 := Fr.grown (S := fun k => k = B.w) (FAW3.mono (fun _ _ e => e.elim)) hgrowW3 (fun k hk _ => (Option.some.inj hk).symm); have hpW3 := GW3.keep L2.top hneW3; have cpW3 := cell_of 1 hpW3 rfl; have fpW3 := frozen_of 1 hpW3; have SW3 : wW3.cell? ⟨p, 3, none⟩ = some (.slice (some ⟨B.a, 0, none⟩) (aLen ns1) 256) := GW3.cellAt SW2 hneW3))
            all_goals (go_wp2_with fail)
            all_goals go_meet
            all_goals (refine ⟨?_, Fr.setCell (S := fun k => k = B.w ∨ k = p) (GW3.mono (fun _ _ e => .inl e)) (fun _ => .inr rfl) _⟩)
            all_goals (have := L2.addW (news := [.int .i32 (aLen ns1 : Int)]) GW3 (by rw [List.length_map, HR1.out.words.1]; exact hownW3); rw [List.length_map, HR1.out.words.1] at this; exact this)
          case rest =>
            obtain ⟨L3, TW3⟩ := hcut
            clear kaW3 kbW3 cW3 hrowW3 hnbW3 nnW3 nmW3 SW2 FAW3
            generalize wc = W3 at *
            go_upto_region 21 with fail
            have cW4 : W3.cell? ⟨p, 2, none⟩ = some (.slice (some ⟨B.h, 0, none⟩) (2 * ns1.length) 128) := by have := L3.q2; rw [headsV_len] at this; exact this
            have SW3 : W3.cell? ⟨p, 3, none⟩ = some (.slice (some ⟨B.a, 0, none⟩) (aLen ns1) 256) := by have := L3.q3; rw [List.length_map] at this; exact this
            have FAW4 : Fr No W3 (W3.alloc (.cells #[.int .u8 (c.toNat : Int), .int .u8 (d.toNat : Int)] 5)).drew := ((Fr.refl No W3).alloc (.cells #[.int .u8 (c.toNat : Int), .int .u8 (d.toNat : Int)] 5)).drew
            have hrowW4 : (W3.alloc (.cells #[.int .u8 (c.toNat : Int), .int .u8 (d.toNat : Int)] 5)).drew.ownsRow 0 5 1 (sl B.h (2 * ns1.length) 128) (2 * ns1.length) (headsV ns1) := by have := FAW4.rows L3.rh (fun h => h); rw [headsV_len] at this; exact this
            have hnbW4 : (W3.alloc (.cells #[.int .u8 (c.toNat : Int), .int .u8 (d.toNat : Int)] 5)).drew.heap[W3.heap.size]? = some (.cells #[.int .u8 (c.toNat : Int), .int .u8 (d.toNat : Int)] 5) := heap_alloc_same _ _
            have hneW4 : p ≠ B.h := ap.p.2.2.1
            have nnW4 := World.new_ne W3 _ SW3
            have nmW4 := World.new_ne W3 _ cW4
            have kaW4 := ((Fr.refl No W3).alloc (.cells #[.int .u8 (c.toNat : Int), .int .u8 (d.toNat : Int)] 5)).cellNo cW4
            have kbW4 := ((Fr.refl No W3).alloc (.cells #[.int .u8 (c.toNat : Int), .int .u8 (d.toNat : Int)] 5)).cellNo SW3
            go_cut [] from 14 to 168 (fun wx => Loose wx p B (ns1.map tagV ++ [.int .i8 1]) (ws1.map (fun x => Value.int .i32 x) ++ [.int .i32 (aLen ns1 : Int)]) (headsV ns1 ++ [.int .u8 (c.toNat : Int), .int .u8 (d.toNat : Int)]) ((allArgs ns1).map n32) (tr.map n32) (marksV tms saved) tms.length ∧ Fr (fun k => k = B.h ∨ k = p) W3 wx)
            case first =>
              have hw64 : IntKind.i64.wrap ((q : Int) + 1) = (q : Int) + 1 := by rw [IntKind.wrap_i64]; omega
              go_region_law ((refine step_spare (by rfl) _ _ 53 (by rfl) 0 5 i5 1 Try.underlying53 hi5 hs5 B.h (2 * ns1.length) 128 (headsV ns1) (by rfl) hrowW4 ⟨W3.heap.size, 0, none⟩ 2 2 [.int .u8 (c.toNat : Int), .int .u8 (d.toNat : Int)] (by rfl) (by rfl) (World.news_of_block (cs := #[.int .u8 (c.toNat : Int), .int .u8 (d.toNat : Int)]) hnbW4) (by simp [Value.oneCell']) (by omega) ?_; intro wW4 hownW4 hgrowW4; have GW4 : Fr (fun k => k = B.h) W3 wW4 := Fr.grown (S := fun k => k = B.h) (FAW4.mono (fun _ _ e => e.elim)) hgrowW4 (fun k hk _ => (Option.some.inj hk).symm); have hpW4 := GW4.keep L3.top hneW4; have cpW4 := cell_of 2 hpW4 rfl; have fpW4 := frozen_of 2 hpW4; have SW4 : wW4.cell? ⟨p, 3, none⟩ = some (.slice (some ⟨B.a, 0, none⟩) (aLen ns1) 256) := GW4.cellAt SW3 hneW4))
              all_goals (go_wp2_with fail)
              all_goals go_meet
              all_goals (refine ⟨?_, Fr.setCell (S := fun k => k = B.h ∨ k = p) (GW4.mono (fun _ _ e => .inl e)) (fun _ => .inr rfl) _⟩)
              all_goals (have := L3.addH (news := [.int .u8 (c.toNat : Int), .int .u8 (d.toNat : Int)]) GW4 (by rw [headsV_len]; exact hownW4); rw [headsV_len] at this; exact this)
            case rest =>
              obtain ⟨L4, TW4⟩ := hcut
              clear kaW4 kbW4 cW4 hrowW4 hnbW4 nnW4 nmW4 SW3 FAW4
              generalize wc = W4 at *
              have T14 : Fr (fun k => B.Has p k) w1 W4 := ((TW2.mono (fun k _ e => by rcases e with e | e <;> simp [Blks.Has, e])).trans TW3 (fun k _ e => by rcases e with e | e <;> simp [Blks.Has, e])).trans TW4 (fun k _ e => by rcases e with e | e <;> simp [Blks.Has, e])
              have A4 : ArrAt W4 w.heap.size a := hAr.keep T14 (fun hk => hhs _ hk rfl)
              go_wp2_with fail
              go_meet
              refine ⟨⟨[.s c d (List.replicate (d.toNat - 48) 0)], ws1 ++ [(aLen ns1 : Int)], a, q + 2, d.toNat - 48, ns1.length, rfl, by go_num, rfl, by go_num, by omega, by omega, ha6, by omega, by simp [allArgs, argsOf], .inr ⟨c, d, rfl⟩, HF1.out.1.add (by simp [argsOf]; omega), by simpa using hn63, ?_, HR1.out.words.add _ _ (fun r e => by cases e) (fun _ _ _ e => rfl), A4, HLI.out⟩, ?_⟩
              · rw [heads_add, List.map_append, List.map_append]
                exact L4
              · exact T14.mono (fun k _ e => .inl e)
      case rest =>
        obtain ⟨⟨m, ws2, a2, p2, n, x, rfl, rfl, rfl, rfl, hp2, hpl2, ha2, hn4, hargs, hmn, hF4, hm64, hL, hW2, hA2, hLI⟩, hFx⟩ := hcut
        have HMN : Hid (allArgs m = List.replicate n 0 ∧ (n = 0 ∨ ∃ c d, m = [.s c d (List.replicate n 0)])) := ⟨hargs, hmn⟩
        have HF4 : Hid (Four (ns1 ++ m) ∧ (ns1 ++ m).length ≤ 64) := ⟨hF4, hm64⟩
        have HL : Hid (Loose wc p B ((ns1 ++ m).map tagV) (ws2.map (fun x => .int .i32 x)) (headsV (ns1 ++ m)) ((allArgs ns1).map n32) (tr.map n32) (marksV tms saved) tms.length) := hL
        have HW2 : Hid (Words (ns1 ++ m) ws2) := hW2
        have HLI : Hid (LInv F (fillTop (ns1 ++ m) slots x) (newSlots ns1.length 0 n ++ slots.tail) (code.drop p2) a2) := hLI
        have HA2 : Hid (ArrAt wc w.heap.size a2) := hA2
        have HFX : Hid (Fr (fun k => B.Has p k ∨ k = w.heap.size) w1 wc) := hFx
        have hsl48 : n + slots.tail.length ≤ 48 := by
          have := hLI.bytes
          simp [newSlots] at this
          simp; omega
        have ha256 : aLen ns1 + n ≤ 256 := by
          have h1 := hF4.len
          have h2 : aLen (ns1 ++ m) = aLen ns1 + n := by unfold aLen allArgs; rw [List.flatMap_append, List.length_append]; show (allArgs ns1).length + (allArgs m).length = _; rw [hargs]; simp [allArgs]
          omega
        have hhs : ∀ k, B.Has p k → k < w.heap.size := HB.out
        have HSX : Hid (Stk (w.heap.size + 1) wc (Value.slice bs slots.length cap) (offs ns1 slots)) := by
          refine ownsRow_keep HS.out HFX.out (fun k hk e => ?_)
          have h1 := (HS.out.lt k hk).1
          rcases e with e | e
          · have := hhs k e; omega
          · omega
        clear hargs hmn hF4 hm64 hL hW2 hLI hA2 hFx xc hAr HS HR1 HF1 HLR c0
        go_upto_if 125 with fail
        go_cut [6] from 14 to 168 (fun v6 wx => ∃ (bs : Option Addr) (cap : Nat), v6 = .slice bs slots.tail.length cap ∧ Loose wx p B ((ns1 ++ m).map tagV) (ws2.map (fun x => .int .i32 x)) (headsV (ns1 ++ m)) ((allArgs (fillTop ns1 slots x)).map n32) (tr.map n32) (marksV tms saved) tms.length ∧ Stk (w.heap.size + 1) wx v6 (offs ns1 slots.tail) ∧ Fr (fun k => B.Has p k) wc wx)
        case first =>
          cases slots with
          | nil =>
            go_wp2_with fail
            go_meet
            exact ⟨bs, cap, rfl, HL.out, HSX.out, Fr.refl _ _⟩
          | cons s ss =>
            have hoff := hSl.off
            have hslt := hSl
            have ho1 : offs ns1 (s :: ss) = (aLen (ns1.take s.1) + s.2) :: offs ns1 ss := rfl
            have hS := HSX.out
            rw [ho1] at hS
            obtain ⟨g, cap', hvv, hc, hS1, hcap, hB0⟩ := hS.pop
            have hol : (offs ns1 ss).length = ss.length := by simp [offs]
            rw [hol] at hvv hc hS1 hcap
            simp only [List.length_cons, Value.slice.injEq, true_and] at hvv
            obtain ⟨rfl, rfl⟩ := hvv
            simp only [n32] at hc
            have HARG : Hid (allArgs (fillTop ns1 (s :: ss) x) = (allArgs ns1).set (aLen (ns1.take s.1) + s.2) x) := by
              obtain ⟨c', d', es, h1, h2⟩ := hSl s (by simp)
              exact args_setArg h1 h2
            generalize hO : aLen (ns1.take s.1) + s.2 = o at *
            have c3 : wc.cell? ⟨p, 3, none⟩ = some (.slice (some ⟨B.a, 0, none⟩) (aLen ns1) 256) := by have := HL.out.q3; rw [List.length_map] at this; exact this
            have za := World.ownsRow.frozenAt HL.out.ra o
            obtain ⟨y0, hy0⟩ : ∃ y, (allArgs ns1)[o]? = some y := ⟨_, List.getElem?_eq_getElem (by unfold aLen at hoff; omega)⟩
            have ca : wc.cell? ⟨B.a, o, none⟩ = some (.int .i32 (y0 : Int)) := by
              have := HL.out.ra.cellAt o (by rw [List.length_map]; unfold aLen at hoff; omega)
              rw [this, List.getElem?_map, hy0]; rfl
            have hsub : (((ss.length + 1 : Nat)) : Int) - 1 = (ss.length : Int) := by omega
            have hsub2 : ((ss.length : Int) + 1) - 1 = (ss.length : Int) := by omega
            have hpa : p ≠ B.a := HL.out.apart.p.2.2.2.1
            have hgs : g ≠ B.a := fun e => by have := hhs B.a (by simp [Blks.Has]); omega
            have hss : ss.length ≤ 47 := by simp at hs48; omega
            clear hS hO hy0 ho1 hs48
            dsimp only [List.length_cons]
            go_upto_region 24 with fail
            go_region
            go_wp2_with fail
            go_meet
            have FS : Fr (fun k => k = B.a) wc (wc.setCell ⟨B.a, o, none⟩ (.int .i32 (x : Int))).drew := ((Fr.refl (fun k => k = B.a) wc).setCell (fun _ => rfl) _).drew
            refine ⟨some ⟨g, 0, none⟩, cap, rfl, ?_, ?_, FS.mono (fun k _ e => by simp [Blks.Has, e])⟩
            · rw [HARG.out, List.map_set]
              exact (HL.out.setA o (n32 x)).keep (S := No) ((Fr.refl No _).drew) (fun _ _ e => e)
            · have hol2 : (offs ns1 (s :: ss).tail).length = ss.length := hol
              unfold Stk
              rw [hol2]
              exact ownsRow_keep (by have := hS1; unfold Stk at this; rw [hol] at this; exact this) FS (fun k hk e => by have := own_sl hk; omega)
        case rest =>
          obtain ⟨bs3, cap3, rfl, hL3, hS3, hF3⟩ := hcut
          have ea3 : aLen (fillTop ns1 slots x) = aLen ns1 := by
            unfold fillTop
            split
            · rfl
            · exact aLen_setArg _ _ _ _
          have c3 : wc.cell? ⟨p, 3, none⟩ = some (.slice (some ⟨B.a, 0, none⟩) (aLen ns1) 256) := by have := hL3.q3; rw [List.length_map] at this; rw [← ea3]; exact this
          have hol3 : (offs ns1 slots.tail).length = slots.tail.length := by simp [offs]
          obtain ⟨OT, hOT⟩ : ∃ OT, offs ns1 slots.tail = OT := ⟨_, rfl⟩
          rw [hOT] at hS3 hol3
          have HOT : Hid (offs ns1 slots.tail = OT) := hOT
          have HL3 : Hid (Loose wc p B ((ns1 ++ m).map tagV) (ws2.map (fun x => .int .i32 x)) (headsV (ns1 ++ m)) ((allArgs (fillTop ns1 slots x)).map n32) (tr.map n32) (marksV tms saved) tms.length) := hL3
          have HF3 : Hid (Fr (fun k => B.Has p k) _ wc) := hF3
          have HEA : Hid (aLen (fillTop ns1 slots x) = aLen ns1) := ea3
          have hOl : n + OT.length ≤ 48 := by omega
          rw [← hol3] at hS3
          rw [← hol3]
          have HOL3 : Hid (OT.length = slots.tail.length) := hol3
          clear hol3 hOT ea3 hL3 hF3 hsl48
          go_upto_region 27 with fail
          go_loopg [6, 12] (n + 1) (fun gk2 v6 v12 wr => ∃ (i : Nat) (bs : Option Addr) (cap : Nat), i ≤ n ∧ v12 = .int .i64 ((i : Int) - 1) ∧ v6 = .slice bs ((((List.range n).drop i).map (fun j => aLen ns1 + j)) ++ OT).length cap ∧ gk2 = i + 1 ∧ Stk (w.heap.size + 1) wr v6 ((((List.range n).drop i).map (fun j => aLen ns1 + j)) ++ OT) ∧ Fr (fun k => w.heap.size + 1 ≤ k) wc wr)
          case atStart =>
            have hz : ((List.range n).drop n).map (fun j => aLen ns1 + j) ++ OT = OT := by rw [List.drop_eq_nil_of_le (by simp)]; rfl
            refine ⟨n, bs3, cap3, Nat.le_refl _, rfl, by rw [hz], rfl, ?_, Fr.refl _ _⟩
            rw [hz]; exact hS3
          case round =>
            obtain ⟨i, bs, cap2, hi, rfl, rfl, hgk2, hS2, hf2⟩ := hrel
            have hBlt : ∀ k, B.Has p k → ¬ w.heap.size + 1 ≤ k := fun k hk e => by have := hhs k hk; omega
            have hsz2 := hf2.size
            have hwsz : w.heap.size + 1 ≤ wc.heap.size := by
              have h1 := lt_of_heap HA2.out.choose_spec.2.1
              have := HF3.out.size
              omega
            have L5 := HL3.out.keep hf2 hBlt
            have c35 := hf2.cellAt c3 (hBlt _ (by simp [Blks.Has]))
            cases i with
            | zero =>
              have em : ((0 : Nat) : Int) - 1 = -1 := by omega
              have em' : (0 : Int) - 1 = -1 := by omega
              simp only [List.drop_zero] at hS2 ⊢
              obtain ⟨G0, hG0⟩ : ∃ G0, ((List.range n).map (fun j => aLen ns1 + j) ++ OT) = G0 := ⟨_, rfl⟩
              have HG0 : Hid (((List.range n).map (fun j => aLen ns1 + j) ++ OT) = G0) := hG0
              have hG0l : G0.length ≤ 48 := by rw [← hG0]; simp; omega
              rw [hG0] at hS2 ⊢
              clear hG0
              have hra : wr.ownsRow 0 21 1 (sl B.a (aLen ns1) 256) (aLen ns1) ((allArgs (fillTop ns1 slots x)).map n32) := by
                have := L5.ra
                rw [List.length_map] at this
                have e : (allArgs (fillTop ns1 slots x)).length = aLen ns1 := HEA.out
                rw [e] at this
                exact this
              obtain ⟨w6, hrun, hown6, hgrow6⟩ := run_zeros hra n hn4 ha256 52
              have G6 : Fr (fun k => k = B.a) wr w6 := Fr.grown (S := fun k => k = B.a) (Fr.refl _ _) hgrow6 (fun k hk _ => (Option.some.inj hk).symm)
              have hp6 := G6.keep L5.top (fun e => L5.apart.p.2.2.2.1 e)
              have cp6 := cell_of 3 hp6 rfl
              have fp6 := frozen_of 3 hp6
              have T6 : Fr (fun k => k = B.a ∨ k = p) wr (w6.setCell ⟨p, 3, none⟩ (sl B.a (aLen ns1 + n) 256)) := Fr.setCell (S := fun k => k = B.a ∨ k = p) (G6.mono (fun _ _ e => .inl e)) (fun _ => .inr rfl) _
              have L6 : Loose (w6.setCell ⟨p, 3, none⟩ (sl B.a (aLen ns1 + n) 256)) p B ((ns1 ++ m).map tagV) (ws2.map (fun x => .int .i32 x)) (headsV (ns1 ++ m)) ((allArgs (fillTop ns1 slots x)).map n32 ++ List.replicate n (.int .i32 0)) (tr.map n32) (marksV tms saved) tms.length := by
                have e : ((allArgs (fillTop ns1 slots x)).map n32).length = aLen ns1 := by rw [List.length_map]; exact HEA.out
                have := L5.addA (news := List.replicate n (.int .i32 0)) G6 (by rw [e, List.length_replicate]; exact hown6)
                rw [e, List.length_replicate] at this
                exact this
              have HL6 : Hid (Loose (w6.setCell ⟨p, 3, none⟩ (sl B.a (aLen ns1 + n) 256)) p B ((ns1 ++ m).map tagV) (ws2.map (fun x => .int .i32 x)) (headsV (ns1 ++ m)) ((allArgs (fillTop ns1 slots x)).map n32 ++ List.replicate n (.int .i32 0)) (tr.map n32) (marksV tms saved) tms.length) := L6
              have HT6 : Hid (Fr (fun k => k = B.a ∨ k = p) wr (w6.setCell ⟨p, 3, none⟩ (sl B.a (aLen ns1 + n) 256))) := T6
              have HF2 : Hid (Fr (fun k => w.heap.size + 1 ≤ k) wc wr) := hf2
              clear L6 T6 L5 hra hown6 hgrow6 G6 hp6 hf2 c3
              go_wp2_with (at_builtin; refine Go.Lib.wpList_append_run _ (by rfl) _ _ _ _ (by rfl) _ _ (by rfl) (by rfl) _ _ hrun ?_)
              go_roundg (code.length + 1 - p2)
              case measure => omega
              case rel =>
                have hfa : fillTop (ns1 ++ m) slots x = fillTop ns1 slots x ++ m := by
                  unfold fillTop
                  split
                  · rfl
                  · rename_i i' j' ss'
                    exact setArg_append (hSl.lt)
                have hSl1 : Slots (fillTop (ns1 ++ m) slots x) (newSlots ns1.length 0 n ++ slots.tail) := by
                  refine Slots.append ?_ ?_
                  · rcases HMN.out.2 with h0 | ⟨c', d', hm⟩
                    · subst h0; intro s hs; simp [newSlots] at hs
                    · rw [hfa, hm]
                      have hlen : (fillTop ns1 slots x).length = ns1.length := fillTop_len _ _ _
                      exact Slots.new (c := c') (d := d') (es := List.replicate n 0) (by rw [← hlen]; simp) (by simp)
                  · cases slots with
                    | nil => intro s hs; cases hs
                    | cons s ss => exact (Slots.add hSl.tail m).setArg _ _ _
                have hofs : offs (fillTop (ns1 ++ m) slots x) (newSlots ns1.length 0 n ++ slots.tail) = G0 := by
                  rw [← HG0.out]
                  have ht : offs (fillTop (ns1 ++ m) slots x) slots.tail = OT := by
                    rw [← HOT.out]
                    cases slots with
                    | nil => rfl
                    | cons s ss =>
                      show offs (setArg (ns1 ++ m) s.1 s.2 x) ss = offs ns1 ss
                      rw [offs_setArg, offs_add hSl.tail]
                  have e1 : offs (fillTop (ns1 ++ m) slots x) (newSlots ns1.length 0 n ++ slots.tail) = offs (fillTop (ns1 ++ m) slots x) (newSlots ns1.length 0 n) ++ offs (fillTop (ns1 ++ m) slots x) slots.tail := by unfold offs; rw [List.map_append]
                  rw [e1, ht]
                  congr 1
                  rcases HMN.out.2 with h0 | ⟨c', d', hm⟩
                  · subst h0; simp [newSlots, offs]
                  · rw [hfa, hm]
                    have hlen : (fillTop ns1 slots x).length = ns1.length := fillTop_len _ _ _
                    have := offs_new (fillTop ns1 slots x) (.s c' d' (List.replicate n 0)) [] n
                    rw [hlen, HEA.out] at this
                    exact this
                have htag : (fillTop (ns1 ++ m) slots x).map tagV = (ns1 ++ m).map tagV := by
                  unfold fillTop
                  split
                  · rfl
                  · exact tag_setArg _ _ _ _
                have hhd : headsV (fillTop (ns1 ++ m) slots x) = headsV (ns1 ++ m) := by
                  unfold fillTop
                  split
                  · rfl
                  · exact heads_setArg _ _ _ _
                have hwo : Words (fillTop (ns1 ++ m) slots x) ws2 := by
                  unfold fillTop
                  split
                  · exact HW2.out
                  · exact HW2.out.setArg _ _ _
                have hfo : Four (fillTop (ns1 ++ m) slots x) := by
                  unfold fillTop
                  split
                  · exact HF4.out.1
                  · exact HF4.out.1.setArg _ _ _
                have hag : (allArgs (fillTop (ns1 ++ m) slots x)).map n32 = (allArgs (fillTop ns1 slots x)).map n32 ++ List.replicate n (.int .i32 0) := by
                  rw [hfa]
                  have : allArgs (fillTop ns1 slots x ++ m) = allArgs (fillTop ns1 slots x) ++ allArgs m := by unfold allArgs; rw [List.flatMap_append]
                  rw [this, HMN.out.1, List.map_append, List.map_replicate]
                  rfl
                have hnl : (newSlots ns1.length 0 n ++ slots.tail).length = G0.length := by
                  rw [← hofs]; unfold offs; simp
                refine ⟨fillTop (ns1 ++ m) slots x, ws2, newSlots ns1.length 0 n ++ slots.tail, a2, p2, bs, cap2, rfl, by rw [hnl], rfl, hpl2, rfl, ha2, ?_, ?_, ⟨hfo, by rw [fillTop_len]; exact HF4.out.2⟩, hSl1, .inr HLI.out, ?_, ?_, ?_⟩
                · rw [hnl]; exact hG0l
                · refine Loose.rat ?_ hwo
                  have := HL6.out
                  rw [← htag, ← hhd, ← hag] at this
                  exact this
                · refine ((HA2.out.keep HF3.out (fun hk => by have := hhs _ hk; omega)).keep HF2.out (by omega)).keep HT6.out ?_
                  rintro (e | e)
                  · have := hhs B.a (by simp [Blks.Has]); omega
                  · have := hhs p (by simp [Blks.Has]); omega
                · rw [hofs]
                  refine ownsRow_keep hS2 HT6.out (fun k hk e => ?_)
                  have h1 := (hS2.lt k hk).1
                  rcases e with e | e
                  · have := hhs B.a (by simp [Blks.Has]); omega
                  · have := hhs p (by simp [Blks.Has]); omega
                · refine (((HFR.out.trans HFX.out ?_).trans HF3.out ?_).trans HF2.out ?_).trans HT6.out ?_
                  · rintro k _ (e | e)
                    · exact .inl e
                    · exact .inr (by omega)
                  · intro k _ e; exact .inl e
                  · intro k _ e; exact .inr (by omega)
                  · rintro k _ (e | e) <;> exact .inl (by simp [Blks.Has, e])
            | succ i =>
              have em : ((i + 1 : Nat) : Int) - 1 = (i : Int) := by omega
              have em' : ((i : Int) + 1) - 1 = (i : Int) := by omega
              have HED : Hid (((List.range n).drop i).map (fun j => aLen ns1 + j) ++ OT = (aLen ns1 + i) :: (((List.range n).drop (i + 1)).map (fun j => aLen ns1 + j) ++ OT)) := by
                show _ = _
                rw [List.drop_eq_getElem_cons (by simp; omega)]
                simp
              have hll2 : ((((List.range n).drop (i + 1)).map (fun j => aLen ns1 + j)) ++ OT).length ≤ 48 := by simp; omega
              generalize hGL : ((((List.range n).drop (i + 1)).map (fun j => aLen ns1 + j)) ++ OT) = GL at *
              clear hGL
              have hval : ((aLen ns1 : Int) + (i : Int)) = ((aLen ns1 + i : Nat) : Int) := by omega
              have hrow : (wr.alloc (.cells #[.int .i32 ((aLen ns1 : Int) + (i : Int))] 21)).ownsRow (w.heap.size + 1) 21 1 (.slice bs GL.length cap2) GL.length (GL.reverse.map n32) := hS2.keep ((Fr.refl No wr).alloc _)
              have hnb : (wr.alloc (.cells #[.int .i32 ((aLen ns1 : Int) + (i : Int))] 21)).heap[wr.heap.size]? = some (.cells #[.int .i32 ((aLen ns1 : Int) + (i : Int))] 21) := heap_alloc_same _ _
              have HVAL : Hid (((aLen ns1 : Int) + (i : Int)) = ((aLen ns1 + i : Nat) : Int)) := hval
              obtain ⟨i0, hi0, hz0, hz1, hz2⟩ := info_parts Try.info21
              clear hval L5 c3
              go_wp2_with (at_builtin; refine wpList_append_lies _ (by rfl) _ _ 52 (by rfl) (w.heap.size + 1) 21 i0 (.int .i32 0) 1 4 Try.underlying52 hi0 hz0 hz1 hz2 rfl (by omega) _ GL.length (GL.reverse.map n32) (by rfl) hrow ⟨wr.heap.size, 0, none⟩ 1 1 [.int .i32 ((aLen ns1 : Int) + (i : Int))] (by rfl) (by rfl) (World.news_of_block (cs := #[.int .i32 ((aLen ns1 : Int) + (i : Int))]) hnb) (by simp [Value.oneCell']) (by omega) (by unfold maxLen; omega) (by omega) (by simp; omega) (wr.heap.size + 1) (by simp) ?_; intro g2 cap4 w3 hown3 hgrow3 hat3 hlt3)
              go_roundg (i + 1)
              case measure => omega
              case rel =>
                refine ⟨i, some ⟨g2, 0, none⟩, cap4, by omega, rfl, by rw [HED.out]; rfl, rfl, ?_, ?_⟩
                · rw [HED.out]
                  unfold Stk
                  rw [List.reverse_cons, List.map_append, List.length_cons]
                  have hv := HVAL.out
                  rw [hv] at hown3
                  exact hown3
                · refine Fr.grown (S := fun k => w.heap.size + 1 ≤ k) (hf2.alloc _) hgrow3 (fun k hk _ => ?_)
                  have := hS2.lt k hk
                  omega
end
end Go.Proofs.Qxb6500301a
