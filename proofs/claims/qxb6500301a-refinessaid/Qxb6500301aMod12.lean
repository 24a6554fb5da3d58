import Derived.Test.Qxb6500301aMod9b
import Derived.Test.Qxb6500301aPrn5
import Derived.Deep.RegionLaw
namespace Go.Proofs.Qxb6500301a
open Go.RowKit
set_option linter.unusedSimpArgs false
set_option linter.unusedVariables false
attribute [local go_sem ↓] Go.wp_at_zero Go.wp_at_succ
attribute [-go_sem] Go.run_string_add_if Go.run_index_string Go.run_slice_string_if

def hdOut (d : Nat) (x : Nd) (st : PS) : PS := match x with
  | .v _ => (st.1 ++ [95] ++ itoaL (ixOf st.2 d), nmAdd st.2 d)
  | .s c _ _ => (st.1 ++ [c], st.2)
theorem putN_eq {f : Nat} {ns : List Nd} {a : Nat} {st : PS} {x : Nd} (hx : ns[deref ns a]? = some x) : putN (f + 1) ns a st = (putKids (putN f ns) true (argsOf x) (hdOut (deref ns a) x st)).bind (shut (argsOf x)) := by
  cases x with
  | s c d es => simp only [putN, hx]; rfl
  | v r => simp only [putN, hx]; rfl
theorem ixOf_lt : ∀ {nm : List Nat} {a k : Nat}, k < ixOf nm a → ∃ y, nm[k]? = some y ∧ y ≠ a
  | [], a, k, h => by simp [ixOf] at h
  | x :: r, a, k, h => by
    unfold ixOf at h
    split at h
    · omega
    · rename_i hx
      cases k with
      | zero => exact ⟨x, rfl, hx⟩
      | succ k =>
        obtain ⟨y, h1, h2⟩ := ixOf_lt (nm := r) (a := a) (k := k) (by omega)
        exact ⟨y, by simpa using h1, h2⟩
theorem ixOf_at : ∀ {nm : List Nat} {a : Nat}, ixOf nm a < nm.length → nm[ixOf nm a]? = some a
  | [], a, h => by simp at h
  | x :: r, a, h => by
    unfold ixOf at h ⊢
    split
    · rename_i hx; subst hx; rfl
    · rename_i hx
      rw [if_neg hx] at h
      have := ixOf_at (nm := r) (a := a) (by simpa using h)
      simpa using this
theorem putKids_at' {P : Nat → PS → Option PS} {es : List Nat} {j k : Nat} (hk : es[j]? = some k) (b : Bool) (o : List UInt8) (nm : List Nat) : putKids P b (es.drop j) (o, nm) = if 48 < (o ++ [sepB b]).length then none else (P k (o ++ [sepB b], nm)).bind (putKids P false (es.drop (j + 1))) := by
  have hj := (List.getElem?_eq_some_iff.1 hk).1
  have h2 := (List.getElem?_eq_some_iff.1 hk).2
  rw [List.drop_eq_getElem_cons hj, h2]
  rfl
def isV : Nd → Bool
  | .v _ => true
  | .s _ _ _ => false
def i64v (k : Nat) : Value := .int .i64 (k : Int)

/-- The model's pen. -/
structure MPen (bb : Nat) (w : World) (g : Nat) (vN : Value) (st : PS) : Prop where
  pen : w.heap[g]? = some (.cells #[.string (S st.1), vN] 107)
  row : w.ownsRow bb 3 1 vN st.2.length (st.2.map i64v)
  gb : bb ≤ g
theorem MPen.no {bb : Nat} {w w' : World} {g : Nat} {vN : Value} {st : PS} (h : MPen bb w g vN st) (hf : Fr No w w') : MPen bb w' g vN st :=
  ⟨hf.keep h.pen (fun e => e), ownsRow_keep h.row hf (fun _ _ e => e), h.gb⟩
theorem MPen.out {bb : Nat} {w : World} {g : Nat} {vN : Value} {st : PS} (h : MPen bb w g vN st) (o : List UInt8) : MPen bb (w.setCell ⟨g, 0, none⟩ (.string (S o))) g vN (o, st.2) ∧ Fr (fun k => bb ≤ k) w (w.setCell ⟨g, 0, none⟩ (.string (S o))) :=
  ⟨⟨heap_setCell_same _ h.pen, row_setCell h.row (top_ne h.row h.pen (by decide)), h.gb⟩, (Fr.refl _ w).setCell (fun _ => h.gb) _⟩
theorem MAt.keepLt {w w' : World} {b0 q : Nat} {vn vo vl : Value} {ns : List Nd} {saved : List (List Nd)} (h : MAt w b0 q vn vo vl ns saved) {T : Nat → Prop} (hf : Fr T w w') (hT : ∀ k, k < w.heap.size → ¬ T k) : MAt w' b0 q vn vo vl ns saved :=
  ⟨hf.keep h.top (hT _ (lt_of_heap h.top)), ownsRow_keep h.rn hf (fun k hk => hT k (h.rn.lt k hk).2), ownsRow_keep h.ro hf (fun k hk => hT k (h.ro.lt k hk).2), ownsRow_keep h.rl hf (fun k hk => hT k (h.rl.lt k hk).2), h.no, h.qb⟩

def MPutPost (bb : Nat) (w : World) (g : Nat) (r : Option PS) (e : Ending) (w' : World) : Prop :=
  e = .returned (.bool r.isSome) ∧ Fr (fun k => bb ≤ k) w w' ∧ ∀ st', r = some st' → ∃ vN, MPen bb w' g vN st'
def MPutOK (q : Nat) (w0 : World) (ns : List Nd) (f : Nat) : Prop := ∀ (a : Nat) (st : PS) (w : World) (g : Nat) (vN : Value), Fr (fun k => w0.heap.size ≤ k) w0 w → MPen w0.heap.size w g vN st → st.1.length ≤ 48 → st.2.length ≤ st.1.length → 49 ≤ st.1.length + f → a < ns.length →
  Calls Try.prog 65 #[.pointer (some ⟨q, 0, none⟩), .pointer (some ⟨g, 0, none⟩), .int .i64 (a : Int)] w (MPutPost w0.heap.size w g (putN f ns a st))

section
variable {w0 w : World} {b0 q : Nat} {vn vo vl : Value} {ns : List Nd} {saved : List (List Nd)}
set_option maxRecDepth 40000 in
set_option maxHeartbeats 8000000 in
theorem mput_step (h : MAt w0 b0 q vn vo vl ns saved) (hw : WfN ns) (hs : ns.length ≤ 64) {f a : Nat} (IH : MPutOK q w0 ns f) {st : PS} {g : Nat} {vN : Value} (hF : Fr (fun k => w0.heap.size ≤ k) w0 w) (hP : MPen w0.heap.size w g vN st) (h48 : st.1.length ≤ 48) (hnm : st.2.length ≤ st.1.length) (h49 : 49 ≤ st.1.length + (f + 1)) (ha : a < ns.length) :
    Calls Try.prog 65 #[.pointer (some ⟨q, 0, none⟩), .pointer (some ⟨g, 0, none⟩), .int .i64 (a : Int)] w (MPutPost w0.heap.size w g (putN (f + 1) ns a st)) := by
  have hw1 : MAt w b0 q vn vo vl ns saved := h.keepLt hF (fun k hk e => by omega)
  have HD : Hid (Calls Try.prog 54 #[.pointer (some ⟨q, 0, none⟩), .int .i64 (a : Int)] w fun e w'' => e = .returned (.int .i64 (deref ns a : Int)) ∧ w'' = w) := mderef_at hw1 hw hs ha
  have hdl := (deref_end hw a ha).1
  have hFs := hF.size
  obtain ⟨x, hx⟩ : ∃ x, ns[deref ns a]? = some x := ⟨_, List.getElem?_eq_getElem hdl⟩
  obtain ⟨gn, cap, rfl, hgb, hgl, hcap⟩ := owns_ptr h.rn (by omega)
  have HR0 : Hid (putN (f + 1) ns a st = (putKids (putN f ns) true (argsOf x) (hdOut (deref ns a) x st)).bind (shut (argsOf x))) := putN_eq hx
  have hkl : ∀ k ∈ argsOf x, k < ns.length := by
    have := kids_lt hw (deref ns a)
    have e : kidsOf ns (deref ns a) = argsOf x := by unfold kidsOf; rw [hx]; cases x <;> rfl
    rw [e] at this
    exact this
  have hk4 : (argsOf x).length ≤ 4 := by
    have := kids_len hw (deref ns a)
    have e : kidsOf ns (deref ns a) = argsOf x := by unfold kidsOf; rw [hx]; cases x <;> rfl
    rw [e] at this
    exact this
  have HAY : Hid (∀ w, Calls Try.prog 66 #[.string (hdS x)] w fun e w' => e = .returned (.int .i64 ((argsOf x).length : Int)) ∧ w' = w) := fun w => arity_nd hw hx w
  have HC : Hid (∀ w', Fr (fun k => w0.heap.size ≤ k) w0 w' → w'.cell? ⟨q, 0, none⟩ = some (.slice (some ⟨gn, 0, none⟩) ns.length cap) ∧ w'.cell? ⟨gn, deref ns a * 6, none⟩ = some (.string (hdS x)) ∧ ∀ (j k : Nat), (argsOf x)[j]? = some k → w'.cell? ⟨gn, deref ns a * 6 + 2 + j, none⟩ = some (.int .i64 (k : Int))) := by
    intro w' hf'
    have hm : MAt w' b0 q (sl gn ns.length cap) vo vl ns saved := h.keepLt hf' (fun k hk e => by omega)
    refine ⟨cell_of 0 hm.top rfl, (nd_cells hm.rn hx).1, fun j k hjk => ?_⟩
    have hj := (List.getElem?_eq_some_iff.1 hjk).1
    rw [(nd_cells hm.rn hx).2.2 j (by omega), argM_at hjk]
  obtain ⟨c0, ch, -⟩ := HC.out w hF
  have HFW : Hid (Fr (fun k => w0.heap.size ≤ k) w0 w) := hF
  have HIH : Hid (MPutOK q w0 ns f) := IH
  have HPN : Hid (MPen w0.heap.size w g vN st) := hP
  obtain ⟨i3, hi3, hz30, hz31, hz32⟩ := info_parts Try.info3
  have hxe := (deref_end hw a ha).2
  have hdx : (∃ r, x = .v r) ∨ ∃ c d es, x = .s c d es := by
    cases x with
    | v r => exact .inl ⟨r, rfl⟩
    | s c d es => exact .inr ⟨c, d, es, rfl⟩
  clear hw1 h hx IH hF hP hxe
  obtain ⟨o1, nm⟩ := st
  simp only at hnm h48 h49
  generalize deref ns a = da at *
  generalize hR : putN (f + 1) ns a (o1, nm) = R at *
  clear hR
  obtain ⟨st1, hst1⟩ : ∃ st1, hdOut da x (o1, nm) = st1 := ⟨_, rfl⟩
  go_enter Try.func65, Try.ntmps65
  go_wp2_with fail
  refine HD.out.mono ?_
  rintro e w1 ⟨rfl, rfl⟩
  go_upto_region 3 with fail
  go_cut [22] from 21 to 21 (fun v22 wx => v22 = .bool (isV x) ∧ wx = w1)
  case first =>
    rcases hdx with ⟨r, rfl⟩ | ⟨c, d, es, rfl⟩
    · dsimp only [hdS, isV]
      have e0 := e_nil
      go_wp2_with fail
      go_meet
      exact ⟨rfl, rfl⟩
    · dsimp only [hdS, isV]
      have e1 := e_cd c d
      have e1' := e_cd' c d
      go_wp2_with fail
      go_meet
      exact ⟨rfl, rfl⟩
  case rest =>
  obtain ⟨rfl, hwc⟩ := hcut
  rw [hwc]
  clear hwc
  go_upto_if 22 with fail
  go_cut [] from 23 to 80 (fun wx => ∃ vN1, MPen w0.heap.size wx g vN1 st1 ∧ Fr (fun k => w0.heap.size ≤ k) w1 wx)
  case first =>
    subst hst1
    rcases hdx with ⟨r, rfl⟩ | ⟨c, d, es, rfl⟩
    · dsimp only [hdS, isV]
      have cp0 := cell_of 0 HPN.out.pen rfl
      have hix := ixOf_le nm da
      obtain ⟨bsN, capN, rfl⟩ := owns_slice HPN.out.row
      simp only at HPN cp0
      have cp1 := cell_of 1 HPN.out.pen rfl
      have HNC : Hid (∀ (k y : Nat), nm[k]? = some y → ∃ gN, bsN = some ⟨gN, 0, none⟩ ∧ w1.cell? ⟨gN, k, none⟩ = some (.int .i64 (y : Int))) := by
        intro k y hy
        have hkl := (List.getElem?_eq_some_iff.1 hy).1
        obtain ⟨gN, cN, heq, _, _, _⟩ := owns_ptr HPN.out.row (by first | omega | (simp only; omega))
        injection heq with q1 q2 q3
        subst q1 q3
        refine ⟨gN, rfl, ?_⟩
        rw [HPN.out.row.cellAt k (by first | omega | (simp only; omega))]
        simp [hy, i64v]
      have HIX1 : Hid (∀ k, k < ixOf nm da → ∃ y, nm[k]? = some y ∧ y ≠ da) := fun k hk => ixOf_lt hk
      have HIX2 : Hid (ixOf nm da < nm.length → nm[ixOf nm da]? = some da) := ixOf_at
      obtain ⟨kk, hkk⟩ : ∃ kk, ixOf nm da = kk := ⟨_, rfl⟩
      have HHD : Hid (hdOut da (.v r) (o1, nm) = (o1 ++ [95] ++ itoaL kk, if kk < nm.length then nm else nm ++ [da])) := by
        show _ = _
        unfold hdOut nmAdd
        rw [hkk]
      rw [hkk] at hix HIX1 HIX2
      have HIT : Hid (∀ w, Calls Try.prog 34 #[.int .i64 (kk : Int)] w fun e w' => e = .returned (.string (S (itoaL kk))) ∧ Fr No w w') := fun w => Itoa_any (by omega)
      have hit := itoaL_len kk
      have ha1 : ∀ w, (Op.stringOp .add (S o1) { data := #[95] }).run Try.prog w = .ok (.string (S (o1 ++ [95]))) w := fun w => add_S o1 [95] (by simp; omega) w
      have ha2 : ∀ w, (Op.stringOp .add (S (o1 ++ [95])) (S (itoaL kk))).run Try.prog w = .ok (.string (S (o1 ++ [95] ++ itoaL kk))) w := fun w => add_S (o1 ++ [95]) (itoaL kk) (by simp; omega) w
      clear hkk HC ch c0
      go_wp2_with fail
      go_loopg [8] (nm.length + 1) (fun gk v8 wr => ∃ k : Nat, k ≤ kk ∧ gk = nm.length + 1 - k ∧ v8 = .int .i64 (k : Int) ∧ wr = w1)
      case atStart => exact ⟨0, Nat.zero_le _, rfl, rfl, rfl⟩
      case round =>
        obtain ⟨k, hk, hgk, rfl, rfl⟩ := hrel
        by_cases hlt : k < kk
        · obtain ⟨y, hy, hyd⟩ := HIX1.out k hlt
          obtain ⟨gN, rfl, cy⟩ := HNC.out k y hy
          have d1 : decide ((k : Int) < (nm.length : Int)) = true := decide_eq_true (by omega)
          have d1' : decide (k < nm.length) = true := decide_eq_true (by omega)
          have n1 : ((y : Int) == (da : Int)) = false := by simp; omega
          have n2 : decide ((y : Int) = (da : Int)) = false := decide_eq_false (by omega)
          clear hy HNC HIX1 HIX2
          go_wp2_with fail
          go_roundg (nm.length + 1 - (k + 1))
          case measure => omega
          case rel => exact ⟨k + 1, by omega, rfl, by go_num, rfl⟩
        · have hke : k = kk := by omega
          subst hke
          by_cases hin : k < nm.length
          · obtain ⟨gN, rfl, cy⟩ := HNC.out k da (HIX2.out hin)
            have d1 : decide ((k : Int) < (nm.length : Int)) = true := decide_eq_true (by omega)
            have d1' : decide (k < nm.length) = true := decide_eq_true (by omega)
            have n1 : ((k : Int) == (nm.length : Int)) = false := by simp; omega
            have n2 : decide ((k : Int) = (nm.length : Int)) = false := decide_eq_false (by omega)
            have n3 : k ≠ nm.length := by omega
            have HE : Hid (hdOut da (.v r) (o1, nm) = (o1 ++ [95] ++ itoaL k, nm)) := by show _ = _; rw [HHD.out, if_pos hin]
            have HFX : Hid (Fr (fun k => w0.heap.size ≤ k) wr wr) := Fr.refl _ _
            clear HNC HIX1 HIX2 HHD
            have cq0 := cell_of 0 HPN.out.pen rfl
            have zq0 := frozen_of 0 HPN.out.pen
            simp only at cq0
            go_upto_region 9 with fail
            go_region_law (first
              | (go_simp; refine (HIT.out _).mono ?_; rintro e w4 ⟨rfl, F4⟩; have FF4 : Fr No wr w4 := (Fr.refl No wr).drew.trans F4 (fun _ _ e => e); have cq4 := FF4.cellNo cq0; have zq4 := frozen_of 0 (HPN.out.no FF4).pen; go_wp2_with fail)
              | fail)
            all_goals (go_wp2_with fail)
            all_goals go_meet
            all_goals (
              obtain ⟨k1, k2⟩ := (HPN.out.no FF4).out (o1 ++ 95 :: itoaL k)
              rw [HE.out, show o1 ++ [95] ++ itoaL k = o1 ++ 95 :: itoaL k by simp]
              exact ⟨_, k1, (HFX.out.trans FF4 (fun _ _ e => e.elim)).trans k2 (fun _ _ e => e)⟩)
          · have hkn : k = nm.length := by omega
            have d1 : decide ((k : Int) < (nm.length : Int)) = false := decide_eq_false (by omega)
            have d1' : decide (k < nm.length) = false := decide_eq_false (by omega)
            have HE : Hid (hdOut da (.v r) (o1, nm) = (o1 ++ [95] ++ itoaL k, nm ++ [da])) := by show _ = _; rw [HHD.out, if_neg hin]
            have hFs2 := HFW.out.size
            have n0 : ((k : Int) == (nm.length : Int)) = true := by simp; omega
            have n00 : decide ((k : Int) = (nm.length : Int)) = true := decide_eq_true (by omega)
            have hrow8 : (wr.alloc (.cells #[.int .i64 (da : Int)] 3)).ownsRow w0.heap.size 3 1 (.slice bsN nm.length capN) nm.length (nm.map i64v) := ownsRow_keep HPN.out.row ((Fr.refl No wr).alloc _) (fun _ _ e => e)
            have hnb8 : (wr.alloc (.cells #[.int .i64 (da : Int)] 3)).heap[wr.heap.size]? = some (.cells #[.int .i64 (da : Int)] 3) := heap_alloc_same _ _
            clear HNC HIX1 HIX2 HHD
            have cz1 := frozen_of 1 HPN.out.pen
            have HKN : Hid (k = nm.length) := hkn
            clear hkn
            go_upto_region 9 with (at_builtin; refine wpList_append_lies _ (by rfl) _ _ 95 (by rfl) w0.heap.size 3 i3 (.int .i64 0) 1 8 Try.underlying95 hi3 hz30 hz31 hz32 rfl (by omega) _ nm.length (nm.map i64v) (by rfl) hrow8 ⟨wr.heap.size, 0, none⟩ 1 1 [.int .i64 (da : Int)] (by rfl) (by rfl) (World.news_of_block (cs := #[.int .i64 (da : Int)]) hnb8) (by simp [Value.oneCell']) (by omega) (by unfold maxLen; omega) (by omega) (by simp; omega) (wr.heap.size + 1) (by simp) ?_; intro g8 cap8 w8 hown8 hgrow8 hat8 hlt8; have G8 : Fr (fun k => (Value.slice bsN nm.length capN).ownBlock = some k) wr w8 := Fr.grown (S := fun k => (Value.slice bsN nm.length capN).ownBlock = some k) ((Fr.refl _ wr).alloc _) hgrow8 (fun k hk _ => hk); have hp8 := G8.keep HPN.out.pen (fun e => top_ne HPN.out.row HPN.out.pen (by decide) g e rfl); have cp8 := cell_of 1 hp8 rfl; have fp8 := frozen_of 1 hp8)
            have hP8 : MPen w0.heap.size (w8.setCell ⟨g, 1, none⟩ (.slice (some ⟨g8, 0, none⟩) (nm.length + 1) cap8)) g (.slice (some ⟨g8, 0, none⟩) (nm.length + 1) cap8) (o1, nm ++ [da]) := by
              refine ⟨heap_setCell_same _ hp8, ?_, HPN.out.gb⟩
              simp only [List.length_append, List.map_append]
              exact row_setCell hown8 (top_ne hown8 hp8 (by decide))
            have HFX : Hid (Fr (fun k => w0.heap.size ≤ k) wr (w8.setCell ⟨g, 1, none⟩ (.slice (some ⟨g8, 0, none⟩) (nm.length + 1) cap8))) := (G8.mono (fun k _ e => (HPN.out.row.lt k e).1)).setCell (fun _ => HPN.out.gb) _
            generalize (w8.setCell ⟨g, 1, none⟩ (.slice (some ⟨g8, 0, none⟩) (nm.length + 1) cap8)) = W8 at *
            have HP8 : Hid (MPen w0.heap.size W8 g (.slice (some ⟨g8, 0, none⟩) (nm.length + 1) cap8) (o1, nm ++ [da])) := hP8
            clear hP8 hown8 hgrow8 hat8 hlt8 G8 hp8 cp8 fp8 hrow8 hnb8 cp0 cp1 cz1
            have cq0 := cell_of 0 HP8.out.pen rfl
            have zq0 := frozen_of 0 HP8.out.pen
            simp only at cq0
            go_region_law (first
              | (go_simp; refine (HIT.out _).mono ?_; rintro e w4 ⟨rfl, F4⟩; have FF4 : Fr No W8 w4 := (Fr.refl No W8).drew.trans F4 (fun _ _ e => e); have cq4 := FF4.cellNo cq0; have zq4 := frozen_of 0 (HP8.out.no FF4).pen; go_wp2_with fail)
              | fail)
            all_goals (go_wp2_with fail)
            all_goals go_meet
            all_goals (
              obtain ⟨k1, k2⟩ := (HP8.out.no FF4).out (o1 ++ 95 :: itoaL k)
              rw [HE.out, show o1 ++ [95] ++ itoaL k = o1 ++ 95 :: itoaL k by simp]
              exact ⟨_, k1, (HFX.out.trans FF4 (fun _ _ e => e.elim)).trans k2 (fun _ _ e => e)⟩)
    · dsimp only [hdS, isV]
      have cp0 := cell_of 0 HPN.out.pen rfl
      have zp0 := frozen_of 0 HPN.out.pen
      have hsl : ∀ w, (Instr.slice 9 (.string (S [c, d])) (some (.int .i64 0)) (some (.int .i64 1)) none).run Try.prog w = .ok (.string (S [c])) w := fun w => slice_Int (l := [c, d]) (by omega) (by omega) (by simp) rfl w
      have hadd : ∀ w, (Op.stringOp .add (S o1) (S [c])).run Try.prog w = .ok (.string (S (o1 ++ [c]))) w := fun w => add_S o1 [c] (by simp; omega) w
      simp only at cp0
      clear HC ch c0
      go_upto_region 10 with fail
      go_region
      go_wp2_with fail
      go_meet
      obtain ⟨k1, k2⟩ := HPN.out.out (o1 ++ [c])
      exact ⟨vN, k1.no ((Fr.refl No _).drew), k2.drew⟩
  case rest =>
    obtain ⟨vN1, hP1, hF1⟩ := hcut
    have hl1 : st1.1.length ≤ 51 ∧ st1.2.length ≤ st1.1.length ∧ 49 ≤ st1.1.length + f := by
      rw [← hst1]
      rcases hdx with ⟨r, rfl⟩ | ⟨c, d, es, rfl⟩
      · have := itoaL_len (ixOf nm da)
        have := nmAdd_len nm da
        simp only [hdOut, List.length_append, List.length_cons, List.length_nil]
        omega
      · simp only [hdOut, List.length_append, List.length_cons, List.length_nil]
        omega
    rw [hst1] at HR0
    have HP1 : Hid (MPen w0.heap.size wc g vN1 st1) := hP1
    have HF1 : Hid (Fr (fun k => w0.heap.size ≤ k) w1 wc) := hF1
    have hs1 := hF1.size
    clear hP1 hF1 hst1 hdx HPN c0 ch
    obtain ⟨es, hes⟩ : ∃ es, argsOf x = es := ⟨_, rfl⟩
    rw [hes] at HAY HC HR0 hk4 hkl
    clear hes
    go_wp2_with fail
    go_loopg [9] (es.length + 1) (fun gk v9 wr => ∃ (j : Nat) (vj : Value) (oj : List UInt8) (nj : List Nat), j ≤ es.length ∧ gk = es.length + 1 - j ∧ v9 = .int .i64 (j : Int) ∧ Hid (R = (putKids (putN f ns) (decide (j = 0)) (es.drop j) (oj, nj)).bind (shut es)) ∧ Hid (MPen w0.heap.size wr g vj (oj, nj)) ∧ oj.length ≤ 51 ∧ nj.length ≤ oj.length ∧ 49 ≤ oj.length + f ∧ Hid (Fr (fun k => w0.heap.size ≤ k) w1 wr))
    case atStart =>
      obtain ⟨oo, nn⟩ := st1
      exact ⟨0, vN1, oo, nn, Nat.zero_le _, rfl, rfl, HR0, HP1, hl1.1, hl1.2.1, hl1.2.2, HF1⟩
    case round =>
      obtain ⟨j, vj, oj, nj, hj, hgk, rfl, HRj, HPj, hoj, hnj, h49j, HFj⟩ := hrel
      have hszj := HFj.out.size
      have HF0 : Hid (Fr (fun k => w0.heap.size ≤ k) w0 wr) := HFW.out.trans HFj.out (fun _ _ e => e)
      by_cases hjlt : j < es.length
      case neg =>
        have hje : j = es.length := by omega
        have d2 : decide ((j : Int) < (es.length : Int)) = false := decide_eq_false (by omega)
        have d2' : decide (j < es.length) = false := decide_eq_false (by omega)
        have HRs : Hid (R = shut es (oj, nj)) := by
          show _ = _
          rw [HRj.out, hje, List.drop_length]
          rfl
        have cj0 := cell_of 0 HPj.out.pen rfl
        have zj0 := frozen_of 0 HPj.out.pen
        simp only at cj0
        clear hje
        by_cases he : es = []
        · have HV : Hid (R = if oj.length ≤ 48 then some (oj, nj) else none) := by
            show _ = _
            rw [HRs.out]
            unfold shut endL
            rw [if_pos he]
          have hel : es.length = 0 := by rw [he]; rfl
          have d3 : decide ((0 : Int) < (es.length : Int)) = false := decide_eq_false (by omega)
          have d3' : decide (0 < es.length) = false := decide_eq_false (by omega)
          have hss : (S oj).size = oj.length := S_size _
          clear he
          by_cases h4x : oj.length ≤ 48
          · have d4 : decide ((oj.length : Int) ≤ 48) = true := decide_eq_true (by omega)
            have d4' : decide (oj.length ≤ 48) = true := decide_eq_true h4x
            go_wp2_with fail
            refine (HAY.out _).mono ?_
            rintro e w6 ⟨rfl, rfl⟩
            go_wp2_with fail
            refine (HAY.out _).mono ?_
            rintro e w6' ⟨rfl, rfl⟩
            go_wp2_with fail
            go_ret
            unfold MPutPost
            rw [HV.out, if_pos h4x]
            refine ⟨rfl, HFj.out, fun st' e => ?_⟩
            cases e
            exact ⟨_, HPj.out⟩
          · have d4 : decide ((oj.length : Int) ≤ 48) = false := decide_eq_false (by omega)
            have d4' : decide (oj.length ≤ 48) = false := decide_eq_false h4x
            go_wp2_with fail
            refine (HAY.out _).mono ?_
            rintro e w6 ⟨rfl, rfl⟩
            go_wp2_with fail
            refine (HAY.out _).mono ?_
            rintro e w6' ⟨rfl, rfl⟩
            go_wp2_with fail
            go_ret
            unfold MPutPost
            rw [HV.out, if_neg h4x]
            exact ⟨rfl, HFj.out, fun st' e => by cases e⟩
        · have HV : Hid (R = if (oj ++ [41]).length ≤ 48 then some (oj ++ [41], nj) else none) := by
            show _ = _
            rw [HRs.out]
            unfold shut endL
            rw [if_neg he]
          have hel : 0 < es.length := List.length_pos_iff.2 he
          have d3 : decide ((0 : Int) < (es.length : Int)) = true := decide_eq_true (by omega)
          have d3' : decide (0 < es.length) = true := decide_eq_true (by omega)
          have hadd : ∀ w, (Op.stringOp .add (S oj) { data := #[41] }).run Try.prog w = .ok (.string (S (oj ++ [41]))) w := fun w => add_S oj [41] (by simp; omega) w
          have HO6 := HPj.out.out (oj ++ [41])
          have HO : Hid (MPen w0.heap.size (wr.setCell ⟨g, 0, none⟩ (.string (S (oj ++ [41])))) g vj (oj ++ [41], nj) ∧ Fr (fun k => w0.heap.size ≤ k) wr (wr.setCell ⟨g, 0, none⟩ (.string (S (oj ++ [41]))))) := HO6
          obtain ⟨o6, ho6⟩ : ∃ o6, oj ++ [41] = o6 := ⟨_, rfl⟩
          rw [ho6] at hadd HO HV
          have hss : (S o6).size = o6.length := S_size _
          clear he HO6 ho6
          by_cases h4x : o6.length ≤ 48
          · have d4 : decide ((o6.length : Int) ≤ 48) = true := decide_eq_true (by omega)
            have d4' : decide (o6.length ≤ 48) = true := decide_eq_true h4x
            go_wp2_with fail
            refine (HAY.out _).mono ?_
            rintro e w6 ⟨rfl, rfl⟩
            go_wp2_with fail
            refine (HAY.out _).mono ?_
            rintro e w6' ⟨rfl, rfl⟩
            go_wp2_with fail
            go_ret
            unfold MPutPost
            rw [HV.out, if_pos h4x]
            refine ⟨rfl, HFj.out.trans HO.out.2 (fun _ _ e => e), fun st' e => ?_⟩
            cases e
            exact ⟨_, HO.out.1⟩
          · have d4 : decide ((o6.length : Int) ≤ 48) = false := decide_eq_false (by omega)
            have d4' : decide (o6.length ≤ 48) = false := decide_eq_false h4x
            go_wp2_with fail
            refine (HAY.out _).mono ?_
            rintro e w6 ⟨rfl, rfl⟩
            go_wp2_with fail
            refine (HAY.out _).mono ?_
            rintro e w6' ⟨rfl, rfl⟩
            go_wp2_with fail
            go_ret
            unfold MPutPost
            rw [HV.out, if_neg h4x]
            exact ⟨rfl, HFj.out.trans HO.out.2 (fun _ _ e => e), fun st' e => by cases e⟩
      case pos =>
        have d2 : decide ((j : Int) < (es.length : Int)) = true := decide_eq_true (by omega)
        have d2' : decide (j < es.length) = true := decide_eq_true (by omega)
        obtain ⟨k, hk⟩ : ∃ k, es[j]? = some k := ⟨_, List.getElem?_eq_getElem hjlt⟩
        have hkn : k < ns.length := hkl k (List.mem_of_getElem? hk)
        obtain ⟨sb, hsb⟩ : ∃ sb, sepB (decide (j = 0)) = sb := ⟨_, rfl⟩
        have HRk : Hid (R = (if 48 < (oj ++ [sb]).length then none else (putN f ns k (oj ++ [sb], nj)).bind (putKids (putN f ns) false (es.drop (j + 1)))).bind (shut es)) := by
          show _ = _
          rw [HRj.out, putKids_at' hk, hsb]
        have HCK : Hid (∀ w', Fr (fun k => w0.heap.size ≤ k) w0 w' → w'.cell? ⟨q, 0, none⟩ = some (.slice (some ⟨gn, 0, none⟩) ns.length cap) ∧ w'.cell? ⟨gn, da * 6 + 2 + j, none⟩ = some (.int .i64 (k : Int))) := fun w' hf' => ⟨(HC.out w' hf').1, (HC.out w' hf').2.2 j k hk⟩
        have HSB : Hid (sepB (decide (j = 0)) = sb) := hsb
        have hadd40 : ∀ w, (Op.stringOp .add (S oj) { data := #[40] }).run Try.prog w = .ok (.string (S (oj ++ [40]))) w := fun w => add_S oj [40] (by simp; omega) w
        have hadd44 : ∀ w, (Op.stringOp .add (S oj) { data := #[44] }).run Try.prog w = .ok (.string (S (oj ++ [44]))) w := fun w => add_S oj [44] (by simp; omega) w
        have cj0 := cell_of 0 HPj.out.pen rfl
        have zj0 := frozen_of 0 HPj.out.pen
        simp only at cj0
        clear hk hsb
        go_wp2_with fail
        refine (HAY.out _).mono ?_
        rintro e w6 ⟨rfl, rfl⟩
        go_upto_region 14 with fail
        go_cut [88] from 81 to 87 (fun v88 wx => v88 = .bool (decide (j = 0)) ∧ wx = w6)
        case first =>
          by_cases hj0 : j = 0
          · subst hj0
            go_wp2_with fail
            go_meet
            exact ⟨rfl, rfl⟩
          · have n1 : ((j : Int) == 0) = false := by simp; omega
            have n2 : decide ((j : Int) = 0) = false := decide_eq_false (by omega)
            have n3 : decide (j = 0) = false := decide_eq_false hj0
            go_wp2_with fail
            go_meet
            exact ⟨by rw [n3], rfl⟩
        case rest =>
        obtain ⟨rfl, hwc⟩ := hcut
        rw [hwc]
        clear hwc
        go_upto_if 88 with fail
        go_cut [] from 81 to 124 (fun wx => MPen w0.heap.size wx g vj (oj ++ [sb], nj) ∧ Fr (fun k => w0.heap.size ≤ k) w6 wx)
        case first =>
          by_cases hj0 : j = 0
          · have e1 : sb = 40 := by rw [← HSB.out, decide_eq_true hj0]; rfl
            subst e1
            rw [decide_eq_true hj0]
            go_wp2_with fail
            go_meet
            exact HPj.out.out (oj ++ [40])
          · have e1 : sb = 44 := by rw [← HSB.out, decide_eq_false hj0]; rfl
            subst e1
            rw [decide_eq_false hj0]
            go_wp2_with fail
            go_meet
            exact HPj.out.out (oj ++ [44])
        case rest =>
          obtain ⟨hP7, hF7⟩ := hcut
          have HP7 : Hid (MPen w0.heap.size wc g vj (oj ++ [sb], nj)) := hP7
          have HF7 : Hid (Fr (fun k => w0.heap.size ≤ k) w1 wc) := HFj.out.trans hF7 (fun _ _ e => e)
          have hl7 : (oj ++ [sb]).length ≤ 52 ∧ oj.length + 1 ≤ (oj ++ [sb]).length := by simp; omega
          obtain ⟨o7, ho7⟩ : ∃ o7, oj ++ [sb] = o7 := ⟨_, rfl⟩
          rw [ho7] at HP7 hl7 HRk
          have c70 := cell_of 0 HP7.out.pen rfl
          simp only at c70
          have hss : (S o7).size = o7.length := S_size _
          obtain ⟨k70, k71⟩ := HCK.out wc (HFW.out.trans HF7.out (fun _ _ e => e))
          clear hP7 hF7 ho7 cj0 zj0 hadd40 hadd44
          by_cases h4y : 48 < o7.length
          · have d4 : decide ((48 : Int) < (o7.length : Int)) = true := decide_eq_true (by omega)
            have d4' : decide (48 < o7.length) = true := decide_eq_true h4y
            have HN : Hid (R = none) := by show _ = _; rw [HRk.out, if_pos h4y]; rfl
            go_wp2_with fail
            go_ret
            unfold MPutPost
            rw [HN.out]
            exact ⟨rfl, HF7.out, fun st' e => by cases e⟩
          · have d4 : decide ((48 : Int) < (o7.length : Int)) = false := decide_eq_false (by omega)
            have d4' : decide (48 < o7.length) = false := decide_eq_false h4y
            have HRl : Hid (R = ((putN f ns k (o7, nj)).bind (putKids (putN f ns) false (es.drop (j + 1)))).bind (shut es)) := by show _ = _; rw [HRk.out, if_neg h4y]
            have HCL : Hid (Calls Try.prog 65 #[.pointer (some ⟨q, 0, none⟩), .pointer (some ⟨g, 0, none⟩), .int .i64 (k : Int)] wc (MPutPost w0.heap.size wc g (putN f ns k (o7, nj)))) := HIH.out k (o7, nj) wc g vj (HFW.out.trans HF7.out (fun _ _ e => e)) HP7.out (by simp only; omega) (by simp only; omega) (by simp only; omega) hkn
            go_wp2_with fail
            refine HCL.out.mono ?_
            rintro e w8 ⟨rfl, F8, hst⟩
            cases hr8 : putN f ns k (o7, nj) with
            | none =>
              have HN : Hid (R = none) := by show _ = _; rw [HRl.out, hr8]; rfl
              have HF8 : Hid (Fr (fun k => w0.heap.size ≤ k) w1 w8) := HF7.out.trans F8 (fun _ _ e => e)
              clear hr8 hst F8
              simp only [Option.isSome_none]
              go_wp2_with fail
              go_ret
              unfold MPutPost
              rw [HN.out]
              exact ⟨rfl, HF8.out, fun st' e => by cases e⟩
            | some st8 =>
              obtain ⟨o8, n8⟩ := st8
              obtain ⟨v8, hP8⟩ := hst _ hr8
              have pk := putN_ok _ _ _ _ _ hr8
              have pk1 := pk.ge
              have pk2 := pk.le
              have pk3 := pk.nm (by simp only; omega)
              simp only at pk1 pk2 pk3
              have HN : Hid (R = (putKids (putN f ns) (decide (j + 1 = 0)) (es.drop (j + 1)) (o8, n8)).bind (shut es)) := by
                show _ = _
                rw [HRl.out, hr8, Option.bind_some, decide_eq_false (Nat.succ_ne_zero j)]
              have HP8 : Hid (MPen w0.heap.size w8 g v8 (o8, n8)) := hP8
              have HF8 : Hid (Fr (fun k => w0.heap.size ≤ k) w1 w8) := HF7.out.trans F8 (fun _ _ e => e)
              clear hr8 hst F8 hP8 pk
              simp only [Option.isSome_some]
              go_wp2_with fail
              go_roundg (es.length + 1 - (j + 1))
              case measure => omega
              case rel => exact ⟨j + 1, v8, o8, n8, by omega, rfl, by go_num, HN, HP8, by omega, pk3, by omega, HF8⟩

theorem mput_any (h : MAt w0 b0 q vn vo vl ns saved) (hw : WfN ns) (hs : ns.length ≤ 64) : ∀ f, MPutOK q w0 ns f := by
  intro f
  induction f with
  | zero => intro a st w g vN hF hP h48 hnm h49 ha; omega
  | succ f ih =>
    intro a st w g vN hF hP h48 hnm h49 ha
    exact mput_step h hw hs ih hF hP h48 hnm h49 ha
end
end Go.Proofs.Qxb6500301a
