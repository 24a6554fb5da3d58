import Derived.Test.Qxb6500301aMod9b
namespace Go.Proofs.Qxb6500301a
open Go.RowKit
set_option linter.unusedSimpArgs false
set_option linter.unusedVariables false
attribute [local go_sem ↓] Go.wp_at_zero Go.wp_at_succ
attribute [-go_sem] Go.run_string_add_if Go.run_index_string Go.run_slice_string_if

def headL : Nd → List UInt8
  | .v none => [32, 95]
  | .v (some r) => [32, 62] ++ itoaL r
  | .s c d _ => [32] ++ [c, d]
theorem ndL_head (x : Nd) : ndL x = headL x ++ argL (argsOf x) := by
  cases x with
  | v r => cases r <;> simp [ndL, headL, argsOf, argL]
  | s c d es => simp [ndL, headL, argsOf]
theorem headL_len (x : Nd) : (headL x).length ≤ 4 := by
  cases x with
  | v r =>
    cases r with
    | none => simp [headL]
    | some r => have := itoaL_len r; simp [headL]; omega
  | s c d es => simp [headL]

def isU : Nd → Bool
  | .v none => true
  | _ => false
/-- A window of nodes, below a block. -/
def RowAt (w : World) (bb : Nat) (x : Value) (ns : List Nd) : Prop :=
  (ns = [] ∧ ∃ bs c, x = .slice bs 0 c) ∨ ∃ g off c, x = .slice (some ⟨g, off, none⟩) ns.length c ∧ g < bb ∧ ∀ (i : Nat) (y : Nd), ns[i]? = some y →
    w.cell? ⟨g, off + i * 6, none⟩ = some (.string (hdS y)) ∧ w.cell? ⟨g, off + i * 6 + 1, none⟩ = some (.int .i64 (refM i y : Int)) ∧ ∀ j, j < 4 → w.cell? ⟨g, off + i * 6 + 2 + j, none⟩ = some (.int .i64 (argM y j : Int))

def RowPost (bb : Nat) (L : List UInt8) (w : World) (e : Ending) (w' : World) : Prop :=
  ∃ bs cap, e = .returned (.slice bs L.length cap) ∧ BufX bb w' (.slice bs L.length cap) L ∧ Fr (fun k => bb ≤ k) w w'

section
variable {w : World}
set_option maxRecDepth 40000 in
set_option maxHeartbeats 8000000 in
theorem mRow_any {bb : Nat} {bs0 : Option Addr} {cap0 : Nat} {x : Value} {L : List UInt8} {ns : List Nd} (hbb : bb ≤ w.heap.size) (hB : BufX bb w (.slice bs0 L.length cap0) L) (hx : RowAt w bb x ns) (hw : WfN ns) (hs : ns.length ≤ 64) (hL : L.length ≤ 100000) :
    Calls Try.prog 59 #[.slice bs0 L.length cap0, x] w (RowPost bb (L ++ rowL ns) w) := by
  obtain ⟨i5, hi5, hz5, hs5, hy5⟩ := info_parts Try.info5p
  rcases hx with ⟨rfl, bs, c, rfl⟩ | ⟨g, off, c, rfl, hgb, hcells⟩
  · have HB : Hid (BufX bb w (.slice bs0 L.length cap0) L) := hB
    have HE : Hid (L ++ rowL [] = L) := by show _ = _; simp [rowL]
    rw [HE.out]
    clear hB
    go_enter Try.func59, Try.ntmps59
    go_wp2_with fail
    go_loopg [0, 5] 1 (fun gk v0 v5 wr => v0 = .slice bs0 L.length cap0 ∧ v5 = .int .i64 0 ∧ wr = w)
    case atStart => exact ⟨rfl, rfl, rfl⟩
    case round =>
      obtain ⟨rfl, rfl, rfl⟩ := hrel
      go_wp2_with fail
      go_ret
      exact ⟨_, _, rfl, HB.out, Fr.refl _ _⟩
  · have hRb : (rowL ns).length ≤ 960 := by have := rowL_len hw; omega
    have HC : Hid (∀ (i : Nat) (y : Nd), ns[i]? = some y → w.cell? ⟨g, off + i * 6, none⟩ = some (.string (hdS y)) ∧ w.cell? ⟨g, off + i * 6 + 1, none⟩ = some (.int .i64 (refM i y : Int)) ∧ ∀ j, j < 4 → w.cell? ⟨g, off + i * 6 + 2 + j, none⟩ = some (.int .i64 (argM y j : Int))) := hcells
    have HW : Hid (WfN ns) := hw
    have hgw : g < w.heap.size := by omega
    clear hcells hw
    go_enter Try.func59, Try.ntmps59
    go_wp2_with fail
    go_loopg [0, 5] (ns.length + 1) (fun gk v0 v5 wr => ∃ (i : Nat) (bs : Option Addr) (cap : Nat), i ≤ ns.length ∧ gk = ns.length + 1 - i ∧ v5 = .int .i64 (i : Int) ∧ v0 = .slice bs (L ++ rowL (ns.take i)).length cap ∧ BufX bb wr (.slice bs (L ++ rowL (ns.take i)).length cap) (L ++ rowL (ns.take i)) ∧ Fr (fun k => bb ≤ k) w wr)
    case atStart => exact ⟨0, bs0, cap0, Nat.zero_le _, rfl, rfl, by simp [rowL], by simpa [rowL] using hB, Fr.refl _ _⟩
    case round =>
      obtain ⟨i, bs, cap, hi, hgk, rfl, rfl, hBuf, hF⟩ := hrel
      have hRi := rowL_take_le ns i
      have hFs := hF.size
      have HBUF : Hid (BufX bb wr (.slice bs (L ++ rowL (ns.take i)).length cap) (L ++ rowL (ns.take i))) := hBuf
      have hLl : (L ++ rowL (ns.take i)).length ≤ 101000 := by rw [List.length_append]; omega
      have HNX : Hid (∀ y, ns[i]? = some y → L ++ rowL (ns.take (i + 1)) = (L ++ rowL (ns.take i)) ++ headL y ++ argL (argsOf y)) := by
        intro y hy
        rw [rowL_snoc hy, ndL_head]
        simp
      have HFU : Hid (i = ns.length → L ++ rowL ns = L ++ rowL (ns.take i)) := by intro e; rw [e, List.take_length]
      generalize L ++ rowL (ns.take i) = L1 at *
      clear hBuf
      by_cases hlt : i < ns.length
      case neg =>
        have d1 : decide ((i : Int) < (ns.length : Int)) = false := decide_eq_false (by omega)
        have d1' : decide (i < ns.length) = false := decide_eq_false (by omega)
        have HF2 : Hid (L ++ rowL ns = L1) := HFU.out (by omega)
        clear HFU HNX
        go_wp2_with fail
        go_ret
        rw [HF2.out]
        exact ⟨_, _, rfl, HBUF.out, hF⟩
      case pos =>
        have d1 : decide ((i : Int) < (ns.length : Int)) = true := decide_eq_true (by omega)
        have d1' : decide (i < ns.length) = true := decide_eq_true (by omega)
        obtain ⟨y, hy⟩ : ∃ y, ns[i]? = some y := ⟨_, List.getElem?_eq_getElem hlt⟩
        obtain ⟨ch, cr, ca⟩ := HC.out i y hy
        have ch1 := hF.cellAt ch (by simp only; omega)
        have cr1 := hF.cellAt cr (by simp only; omega)
        have HCA : Hid (∀ j, j < 4 → ∀ w', Fr (fun k => bb ≤ k) wr w' → w'.cell? ⟨g, off + i * 6 + 2 + j, none⟩ = some (.int .i64 (argM y j : Int))) := fun j hj w' hf' => hf'.cellAt (hF.cellAt (ca j hj) (by simp only; omega)) (by simp only; omega)
        have HN : Hid (L ++ rowL (ns.take (i + 1)) = L1 ++ headL y ++ argL (argsOf y)) := HNX.out y hy
        have HAY : Hid (∀ w, Calls Try.prog 66 #[.string (hdS y)] w fun e w' => e = .returned (.int .i64 ((argsOf y).length : Int)) ∧ w' = w) := fun w => arity_nd HW.out hy w
        have hkl : ∀ k ∈ argsOf y, k < ns.length := by
          have := kids_lt HW.out i
          have e : kidsOf ns i = argsOf y := by unfold kidsOf; rw [hy]; cases y <;> rfl
          rw [e] at this
          exact this
        have hk4 : (argsOf y).length ≤ 4 := by
          have := kids_len HW.out i
          have e : kidsOf ns i = argsOf y := by unfold kidsOf; rw [hy]; cases y <;> rfl
          rw [e] at this
          exact this
        have HREF : Hid (∀ r, y = .v (some r) → r < ns.length ∧ r ≠ i) := by
          intro r e
          subst e
          obtain ⟨q1, q2⟩ := HW.out.ref i r hy
          refine ⟨q1, fun e => ?_⟩
          subst e
          exact absurd (q2 _ hy) (by omega)
        clear ch cr ca hy HNX HFU
        go_upto_region 5 with fail
        go_cut [29] from 14 to 28 (fun v29 wx => v29 = .bool (isU y) ∧ wx = wr)
        case first =>
          cases y with
          | v q =>
            cases q with
            | none =>
              simp only [hdS, refM] at ch1 cr1
              dsimp only [hdS]
              have e0 := e_nil
              go_wp2_with fail
              go_meet
              exact ⟨rfl, rfl⟩
            | some r =>
              obtain ⟨hr1, hr2⟩ := HREF.out r rfl
              have n1 : ((r : Int) == (i : Int)) = false := by simp; omega
              have n2 : decide ((r : Int) = (i : Int)) = false := decide_eq_false (by omega)
              simp only [hdS, refM] at ch1 cr1
              dsimp only [hdS]
              have e0 := e_nil
              go_wp2_with fail
              go_meet
              exact ⟨rfl, rfl⟩
          | s c d es =>
            simp only [hdS, refM] at ch1 cr1
            dsimp only [hdS]
            have e1 := e_cd c d
            have e1' := e_cd' c d
            go_wp2_with fail
            go_meet
            exact ⟨rfl, rfl⟩
        case rest =>
        obtain ⟨rfl, hwc⟩ := hcut
        rw [hwc]
        clear hwc
        go_upto_if 29 with fail
        go_cut [0] from 8 to 68 (fun v0 wx => ∃ bs2 cap2, v0 = .slice bs2 (L1 ++ headL y).length cap2 ∧ BufX bb wx (.slice bs2 (L1 ++ headL y).length cap2) (L1 ++ headL y) ∧ Fr (fun k => bb ≤ k) wr wx)
        case first =>
          have hbf := HBUF.out
          cases y with
          | v q =>
            cases q with
            | none =>
              simp only [hdS, refM] at ch1 cr1
              dsimp only [hdS, isU]
              have e0 := e_nil
              clear HAY HCA
              go_wp2_with (at_builtin; refine wpList_bx_str (by rfl) _ _ (by rfl) (by rfl) hbf [32, 95] (by rfl) (by simp) (by show _ + 2 ≤ _; omega) (by omega) ?_; intro bs3 cap3 w3 hbx3 hfx3)
              go_meet
              exact ⟨bs3, cap3, by simp [headL], by rw [List.length_append]; exact hbx3, hfx3⟩
            | some r =>
              obtain ⟨hr1, hr2⟩ := HREF.out r rfl
              have hr64 : r < 64 := by omega
              have n1 : ((r : Int) == (i : Int)) = false := by simp; omega
              have n2 : decide ((r : Int) = (i : Int)) = false := decide_eq_false (by omega)
              simp only [hdS, refM] at ch1 cr1
              dsimp only [hdS, isU]
              have e0 := e_nil
              have HIT : Hid (∀ w, Calls Try.prog 34 #[.int .i64 (r : Int)] w fun e w' => e = .returned (.string (S (itoaL r))) ∧ Fr No w w') := fun w => Itoa_any (by omega)
              have hit := itoaL_len r
              clear HAY HCA hr1
              go_upto_region 9 with (at_builtin; refine wpList_bx_str (by rfl) _ _ (by rfl) (by rfl) hbf [32, 62] (by rfl) (by simp) (by show _ + 2 ≤ _; omega) (by omega) ?_; intro bs3 cap3 w3 hbx3 hfx3)
              have F3 : Fr (fun k => bb ≤ k) wr w3 := hfx3
              have cr3 := F3.cellAt cr1 (by simp only; omega)
              have HB3 : Hid (BufX bb w3 (.slice bs3 (L1 ++ [32, 62]).length cap3) (L1 ++ [32, 62])) := by
                show BufX _ _ _ _
                rw [List.length_append]
                exact hbx3
              have hsz3 := F3.size
              have HF3 : Hid (Fr (fun k => bb ≤ k) wr w3) := F3
              have e3 : (L1 ++ [32, 62]).length = L1.length + 2 := by simp
              clear hbx3 hfx3 ch1 cr1 F3
              rw [← e3]
              obtain ⟨L3, hL3⟩ : ∃ L3, L1 ++ [32, 62] = L3 := ⟨_, rfl⟩
              rw [hL3] at HB3 e3 ⊢
              have HL3 : Hid (L1 ++ [32, 62] = L3) := hL3
              have hl3 : L3.length ≤ 101002 := by omega
              clear hL3 e3
              go_wp2_with fail
              refine (HIT.out _).mono ?_
              rintro e w4 ⟨rfl, F4⟩
              have hb4 := HB3.out.no F4
              have hsz4 := F4.size
              have hss : (S (itoaL r)).size = (itoaL r).length := S_size _
              go_wp2_with (at_builtin; refine wpList_bx_str (by rfl) _ _ (by rfl) (by rfl) hb4 (itoaL r) (by rfl) (by omega) (by omega) (by omega) ?_; intro bs5 cap5 w5 hbx5 hfx5)
              go_meet
              have hE : L1 ++ headL (.v (some r)) = L3 ++ itoaL r := by rw [← HL3.out]; simp [headL]
              rw [hE]
              exact ⟨bs5, cap5, by rw [List.length_append], by rw [List.length_append]; exact hbx5, (HF3.out.trans F4 (fun _ _ e => e.elim)).trans hfx5 (fun _ _ e => e)⟩
          | s c d es =>
            simp only [hdS, refM] at ch1 cr1
            dsimp only [hdS, isU]
            have e1 := e_cd c d
            have e1' := e_cd' c d
            clear HAY HCA
            have hrow1 : BufX bb (wr.alloc (.cells #[.int .u8 32] 5)) (.slice bs L1.length cap) L1 := hbf.no ((Fr.refl No wr).alloc _)
            have hnb1 : (wr.alloc (.cells #[.int .u8 32] 5)).heap[wr.heap.size]? = some (.cells #[.int .u8 32] 5) := heap_alloc_same _ _
            go_upto_region 11 with (at_builtin; refine wpList_bx_one (by rfl) _ _ (by rfl) (by rfl) hrow1 32 wr.heap.size (by rfl) hnb1 (by omega) (by simp; omega) ?_; intro bg3 cap3 w3 hbx3 hfx3)
            have F3 : Fr (fun k => bb ≤ k) wr w3 := ((Fr.refl _ wr).alloc _).trans hfx3 (fun _ _ e => e)
            have hb3 : BufX bb w3 (.slice bg3 (L1 ++ [32]).length cap3) (L1 ++ [32]) := by
              rw [List.length_append]
              exact hbx3
            have hsz3 := F3.size
            have HF3 : Hid (Fr (fun k => bb ≤ k) wr w3) := F3
            have e3 : (L1 ++ [32]).length = L1.length + 1 := by simp
            clear hbx3 hfx3 ch1 cr1 F3 hrow1 hnb1
            rw [← e3]
            obtain ⟨L3, hL3⟩ : ∃ L3, L1 ++ [32] = L3 := ⟨_, rfl⟩
            rw [hL3] at hb3 e3 ⊢
            have HL3 : Hid (L1 ++ [32] = L3) := hL3
            have hl3 : L3.length ≤ 101002 := by omega
            clear hL3 e3
            go_wp2_with (at_builtin; refine wpList_bx_str (by rfl) _ _ (by rfl) (by rfl) hb3 [c, d] (by rfl) (by simp) (by show _ + 2 ≤ _; omega) (by omega) ?_; intro bs5 cap5 w5 hbx5 hfx5)
            go_meet
            have hE : L1 ++ headL (.s c d es) = L3 ++ [c, d] := by rw [← HL3.out]; simp [headL]
            rw [hE]
            exact ⟨bs5, cap5, by rw [List.length_append]; rfl, by rw [List.length_append]; exact hbx5, HF3.out.trans hfx5 (fun _ _ e => e)⟩
        case rest =>
          obtain ⟨bs2, cap2, rfl, hB2, hF2⟩ := hcut
          have hhl := headL_len y
          have HB2 : Hid (BufX bb wc (.slice bs2 (L1 ++ headL y).length cap2) (L1 ++ headL y)) := hB2
          have hl2 : (L1 ++ headL y).length ≤ 101010 := by rw [List.length_append]; omega
          have hs2 := hF2.size
          have HF2 : Hid (Fr (fun k => bb ≤ k) wr wc) := hF2
          generalize L1 ++ headL y = L2 at *
          clear hB2 hF2 ch1 cr1
          obtain ⟨es, hes⟩ : ∃ es, argsOf y = es := ⟨_, rfl⟩
          have HAM : Hid (∀ (j k : Nat), es[j]? = some k → argM y j = k) := by
            intro j k hjk
            rw [← hes] at hjk
            exact argM_at hjk
          rw [hes] at HAY HN hk4 hkl
          clear hes
          go_wp2_with fail
          go_loopg [0, 7] (es.length + 1) (fun gk2 v0 v7 wr2 => ∃ (j : Nat) (bs : Option Addr) (cap : Nat), j ≤ es.length ∧ gk2 = es.length + 1 - j ∧ v7 = .int .i64 (j : Int) ∧ v0 = .slice bs (L2 ++ argL (es.take j)).length cap ∧ BufX bb wr2 (.slice bs (L2 ++ argL (es.take j)).length cap) (L2 ++ argL (es.take j)) ∧ Fr (fun k => bb ≤ k) wr wr2)
          case atStart => exact ⟨0, bs2, cap2, Nat.zero_le _, rfl, rfl, by simp [argL], by simpa [argL] using HB2.out, HF2.out⟩
          case round =>
            obtain ⟨j, bs5, cap5, hj, hgk2, rfl, rfl, hb5', hf5⟩ := hrel
            have hsz5 := hf5.size
            have haj := argL_len (es.take j)
            have hjl : (es.take j).length ≤ 4 := by simp; omega
            have HB5 : Hid (BufX bb wr (.slice bs5 (L2 ++ argL (es.take j)).length cap5) (L2 ++ argL (es.take j))) := hb5'
            have e5 : (L2 ++ argL (es.take j)).length ≤ 102000 := by rw [List.length_append]; omega
            have HSN : Hid (∀ k, es[j]? = some k → L2 ++ argL (es.take (j + 1)) = ((L2 ++ argL (es.take j)) ++ [46]) ++ itoaL k) := by
              intro k hk
              rw [argL_snoc hk]; simp
            have HEN : Hid (j = es.length → L2 ++ argL es = L2 ++ argL (es.take j)) := by intro e; rw [e, List.take_length]
            generalize L2 ++ argL (es.take j) = L5 at *
            clear hb5'
            by_cases hjlt : j < es.length
            case neg =>
              have d2 : decide ((j : Int) < (es.length : Int)) = false := decide_eq_false (by omega)
              have d2' : decide (j < es.length) = false := decide_eq_false (by omega)
              have HN2 : Hid (L ++ rowL (ns.take (i + 1)) = L5) := by
                show _ = _
                rw [HN.out, HEN.out (by omega)]
              clear HEN HSN
              go_wp2_with fail
              refine (HAY.out _).mono ?_
              rintro e w6 ⟨rfl, rfl⟩
              go_wp2_with fail
              go_roundg (ns.length + 1 - (i + 1))
              case measure => omega
              case rel => exact ⟨i + 1, bs5, cap5, by omega, rfl, by go_num, by rw [HN2.out], by rw [HN2.out]; exact HB5.out, hF.trans hf5 (fun _ _ e => e)⟩
            case pos =>
              have d2 : decide ((j : Int) < (es.length : Int)) = true := decide_eq_true (by omega)
              have d2' : decide (j < es.length) = true := decide_eq_true (by omega)
              obtain ⟨k, hk⟩ : ∃ k, es[j]? = some k := ⟨_, List.getElem?_eq_getElem hjlt⟩
              have hk64 : k < 64 := by have := hkl k (List.mem_of_getElem? hk); omega
              have HCJ : Hid (∀ w', Fr (fun k => bb ≤ k) wr w' → w'.cell? ⟨g, off + i * 6 + 2 + j, none⟩ = some (.int .i64 (k : Int))) := by
                intro w' hf'
                have := HCA.out j (by omega) w' (hf5.trans hf' (fun _ _ e => e))
                rw [HAM.out j k hk] at this
                exact this
              have HN3 : Hid (L2 ++ argL (es.take (j + 1)) = (L5 ++ [46]) ++ itoaL k) := HSN.out k hk
              have HIT : Hid (∀ w, Calls Try.prog 34 #[.int .i64 (k : Int)] w fun e w' => e = .returned (.string (S (itoaL k))) ∧ Fr No w w') := fun w => Itoa_any (by omega)
              have hit := itoaL_len k
              clear hk HEN HSN
              have hb5 := HB5.out
              have hrow6 : BufX bb (wr.alloc (.cells #[.int .u8 46] 5)) (.slice bs5 L5.length cap5) L5 := hb5.no ((Fr.refl No wr).alloc _)
              have hnb6 : (wr.alloc (.cells #[.int .u8 46] 5)).heap[wr.heap.size]? = some (.cells #[.int .u8 46] 5) := heap_alloc_same _ _
              go_wp2_with fail
              refine (HAY.out _).mono ?_
              rintro e w6' ⟨rfl, rfl⟩
              go_upto_region 16 with (at_builtin; refine wpList_bx_one (by rfl) _ _ (by rfl) (by rfl) hrow6 46 w6'.heap.size (by rfl) hnb6 (by omega) (by simp; omega) ?_; intro bg6 cap6 w6 hbx6 hfx6)
              have F6 : Fr (fun k => bb ≤ k) w6' w6 := ((Fr.refl _ w6').alloc _).trans hfx6 (fun _ _ e => e)
              have ck6 := HCJ.out w6 F6
              have HB6 : Hid (BufX bb w6 (.slice bg6 (L5 ++ [46]).length cap6) (L5 ++ [46])) := by
                show BufX _ _ _ _
                rw [List.length_append]
                exact hbx6
              have hsz6 := F6.size
              have HF6 : Hid (Fr (fun k => bb ≤ k) _ w6) := hf5.trans F6 (fun _ _ e => e)
              have e6 : (L5 ++ [46]).length = L5.length + 1 := by simp
              clear hbx6 hfx6 F6 hrow6 hnb6 hb5
              rw [← e6]
              obtain ⟨L6, hL6⟩ : ∃ L6, L5 ++ [46] = L6 := ⟨_, rfl⟩
              rw [hL6] at HB6 e6 HN3 ⊢
              have hl6 : L6.length ≤ 102001 := by omega
              clear hL6 e6
              go_wp2_with fail
              refine (HIT.out _).mono ?_
              rintro e w7 ⟨rfl, F7⟩
              have hb7 := HB6.out.no F7
              have hsz7 := F7.size
              have hss : (S (itoaL k)).size = (itoaL k).length := S_size _
              go_wp2_with (at_builtin; refine wpList_bx_str (by rfl) _ _ (by rfl) (by rfl) hb7 (itoaL k) (by rfl) (by omega) (by omega) (by omega) ?_; intro bs8 cap8 w8 hbx8 hfx8)
              go_roundg (es.length + 1 - (j + 1))
              case measure => omega
              case rel =>
                refine ⟨j + 1, bs8, cap8, by omega, rfl, by go_num, ?_, ?_, ?_⟩
                · rw [HN3.out, List.length_append]
                · rw [HN3.out, List.length_append]
                  exact hbx8
                · exact (HF6.out.trans F7 (fun _ _ e => e.elim)).trans hfx8 (fun _ _ e => e)
end
end Go.Proofs.Qxb6500301a
