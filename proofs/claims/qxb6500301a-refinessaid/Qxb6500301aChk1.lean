import Derived.Test.Qxb6500301aReal2
namespace Go.Proofs.Qxb6500301a
open Go.RowKit
set_option linter.unusedSimpArgs false
set_option linter.unusedVariables false
attribute [local go_sem ↓] Go.wp_at_zero Go.wp_at_succ
attribute [-go_sem] Go.run_string_add_if Go.run_index_string Go.run_slice_string_if

def isB : Option Nd → Bool
  | some (.v (some _)) => true
  | _ => false
def cntB (ns : List Nd) (i : Nat) : Nat := ((List.range i).filter (fun j => isB ns[j]?)).length
theorem cntB_zero (ns : List Nd) : cntB ns 0 = 0 := rfl
theorem cntB_succ (ns : List Nd) (i : Nat) : cntB ns (i + 1) = cntB ns i + if isB ns[i]? then 1 else 0 := by
  unfold cntB
  rw [List.range_succ, List.filter_append, List.length_append]
  congr 1
  by_cases h : isB ns[i]? = true
  · simp [h]
  · simp [h]
theorem cntB_le (ns : List Nd) (i : Nat) : cntB ns i ≤ i := by
  unfold cntB
  exact Nat.le_trans (List.length_filter_le _ _) (by simp)
theorem cntB_all {ns : List Nd} {tr : List Nat} (h : WfT ns tr) : cntB ns ns.length = tr.length := by
  unfold cntB
  apply List.Perm.length_eq
  rw [List.perm_ext_iff_of_nodup (List.nodup_range.sublist List.filter_sublist) h.nodup]
  intro v
  rw [h.mem v, List.mem_filter, List.mem_range]
  constructor
  · rintro ⟨h1, h2⟩
    cases hx : ns[v]? with
    | none => rw [hx] at h2; cases h2
    | some x =>
      rw [hx] at h2
      cases x with
      | s c d es => cases h2
      | v q =>
        cases q with
        | none => cases h2
        | some r => exact ⟨r, rfl⟩
  · rintro ⟨r, hr⟩
    exact ⟨lt_of_some hr, by rw [hr]; rfl⟩
theorem aLen_take_succ {ns : List Nd} {i : Nat} {x : Nd} (h : ns[i]? = some x) : aLen (ns.take (i + 1)) = aLen (ns.take i) + (argsOf x).length := by
  unfold aLen allArgs
  rw [List.take_add_one, h, List.flatMap_append, List.length_append]
  simp
theorem mem_allArgs {ns : List Nd} (hw : WfN ns) {k : Nat} (h : k ∈ allArgs ns) : k < ns.length := by
  unfold allArgs at h
  rw [List.mem_flatMap] at h
  obtain ⟨x, hx, hk⟩ := h
  obtain ⟨i, hi, e⟩ := List.getElem_of_mem hx
  cases x with
  | v q => cases hk
  | s c d es => exact (hw.arg i c d es (by rw [List.getElem?_eq_getElem hi, e])).2.2.2 k hk

section
variable {w : World} {p : Nat} {B : Blks} {ns : List Nd} {saved : List (List Nd)}
set_option maxRecDepth 40000 in
set_option maxHeartbeats 4000000 in
theorem nodesOK_any (h : HeapAt w p B ns saved) : Calls Try.prog 45 #[.pointer (some ⟨p, 0, none⟩)] w fun e w' => e = .returned (.bool true) ∧ w' = w := by
  obtain ⟨ws, tr, tms, h1, hinv, -⟩ := h.main
  have hwt := hinv.wft
  have hw := hwt.wf
  have hs := hwt.small
  have c0 := h1.p0
  have c1 := h1.p1
  have c2 := h1.p2
  have c3 := h1.p3
  have c4 := h1.p4
  have hal := aLen_le hw
  have HC : Hid (cntB ns ns.length = tr.length) := cntB_all hwt
  have HT : Hid (∀ i x, ns[i]? = some x → w.cell? ⟨B.t, i, none⟩ = some (tagV x)) := fun i x hx => h1.tag hx
  have HW : Hid (∀ i, i < ns.length → ∃ x : Int, w.cell? ⟨B.w, i, none⟩ = some (.int .i32 x)) := fun i hi => by
    have := h1.words.1
    exact ⟨_, h1.word (List.getElem?_eq_getElem (by omega))⟩
  have HWr : Hid (∀ i r : Nat, ns[i]? = some (.v (some r)) → w.cell? ⟨B.w, i, none⟩ = some (.int .i32 (r : Int))) := fun i r hx => h1.word (h1.words.2 i _ hx)
  have HWs : Hid (∀ i c d es, ns[i]? = some (.s c d es) → w.cell? ⟨B.w, i, none⟩ = some (.int .i32 (aLen (ns.take i) : Int)) ∧ w.cell? ⟨B.h, 2 * i + 1, none⟩ = some (.int .u8 (d.toNat : Int)) ∧ 48 ≤ d.toNat ∧ d.toNat ≤ 52 ∧ es.length = d.toNat - 48) := fun i c d es hx => ⟨h1.word (h1.words.2 i _ hx), h1.head1 hx, (hw.arg i c d es hx).1, (hw.arg i c d es hx).2.1, (hw.arg i c d es hx).2.2.1⟩
  have HREF : Hid (∀ (i r : Nat), ns[i]? = some (Nd.v (some r)) → r < ns.length ∧ ∀ q : Option Nat, ns[r]? = some (Nd.v q) → r < i) := hw.ref
  have HARG : Hid (∀ j, j < aLen ns → ∃ k : Nat, w.cell? ⟨B.a, j, none⟩ = some (.int .i32 (k : Int)) ∧ k < ns.length) := by
    intro j hj
    have hj' : j < (allArgs ns).length := hj
    refine ⟨(allArgs ns)[j], ?_, mem_allArgs hw (List.getElem_mem hj')⟩
    rw [h1.ra.cellAt j (by omega)]
    simp [n32, hj']
  have HAT : Hid (∀ i, aLen (ns.take i) ≤ aLen ns) := by
    intro i
    have : aLen ns = aLen (ns.take i) + aLen (ns.drop i) := by unfold aLen allArgs; rw [← List.length_append, ← List.flatMap_append, List.take_append_drop]
    omega
  clear h h1 hinv hwt hw
  go_enter Try.func45, Try.ntmps45
  go_wp2_with fail
  go_loopg [4, 5, 6] (ns.length + 1) (fun gk v4 v5 v6 wr => ∃ (i : Nat), i ≤ ns.length ∧ gk = ns.length + 1 - i ∧ v6 = .int .i32 (i : Int) ∧ v4 = .int .i32 (aLen (ns.take i) : Int) ∧ v5 = .int .i64 (cntB ns i : Int) ∧ wr = w)
  case atStart => exact ⟨0, Nat.zero_le _, rfl, rfl, rfl, rfl, rfl⟩
  case round =>
    obtain ⟨i, hi, hgk, rfl, rfl, rfl, rfl⟩ := hrel
    have hat := HAT.out i
    have hcb := cntB_le ns i
    by_cases hlt : i < ns.length
    case neg =>
      have hie : i = ns.length := by omega
      have e1 : aLen (ns.take i) = aLen ns := by rw [hie, List.take_length]
      have e2 : cntB ns i = tr.length := by rw [hie, HC.out]
      rw [e1, e2]
      have d1 : decide ((i : Int) < (ns.length : Int)) = false := decide_eq_false (by omega)
      have d1' : decide (i < ns.length) = false := decide_eq_false (by omega)
      clear e1 e2 hie hat hcb
      generalize aLen ns = al at *
      go_wp2_with fail
      go_loopg [114] (al + 1) (fun gk2 v114 wr' => ∃ (j : Nat), j ≤ al ∧ gk2 = al + 1 - j ∧ v114 = .int .i64 (j : Int) ∧ wr' = wr)
      case atStart => exact ⟨0, Nat.zero_le _, rfl, rfl, rfl⟩
      case round =>
        obtain ⟨j, hj, hgk2, rfl, rfl⟩ := hrel
        by_cases hjl : j < al
        case neg =>
          have d2 : decide ((j : Int) < (al : Int)) = false := decide_eq_false (by omega)
          have d2' : decide (j < al) = false := decide_eq_false (by omega)
          go_wp2_with fail
          go_ret
          exact ⟨rfl, rfl⟩
        case pos =>
          have d2 : decide ((j : Int) < (al : Int)) = true := decide_eq_true (by omega)
          have d2' : decide (j < al) = true := decide_eq_true (by omega)
          obtain ⟨k, ck, hk⟩ := HARG.out j hjl
          have d3 : decide ((ns.length : Int) ≤ (k : Int)) = false := decide_eq_false (by omega)
          have d3' : decide (ns.length ≤ k) = false := decide_eq_false (by omega)
          go_wp2_with fail
          go_roundg (al + 1 - (j + 1))
          case measure => omega
          case rel => exact ⟨j + 1, by omega, rfl, by go_num, rfl⟩
    case pos =>
      have d1 : decide ((i : Int) < (ns.length : Int)) = true := decide_eq_true (by omega)
      have d1' : decide (i < ns.length) = true := decide_eq_true (by omega)
      obtain ⟨x, hx⟩ : ∃ x, ns[i]? = some x := ⟨_, List.getElem?_eq_getElem hlt⟩
      have ct := HT.out i x hx
      have HL : Hid (aLen (ns.take (i + 1)) = aLen (ns.take i) + (argsOf x).length) := aLen_take_succ hx
      have HB : Hid (cntB ns (i + 1) = cntB ns i + if isB (some x) then 1 else 0) := by show _ = _; rw [cntB_succ, hx]
      cases x with
      | v q =>
        cases q with
        | none =>
          obtain ⟨y, cw⟩ := HW.out i hlt
          simp only [tagV] at ct
          clear hx
          go_wp2_with fail
          go_roundg (ns.length + 1 - (i + 1))
          case measure => omega
          case rel => exact ⟨i + 1, by omega, rfl, by go_num, by rw [HL.out]; rfl, by rw [HB.out]; rfl, rfl⟩
        | some r =>
          have cw := HWr.out i r hx
          obtain ⟨hr, hq⟩ := HREF.out i r hx
          obtain ⟨y, hy⟩ : ∃ y, ns[r]? = some y := ⟨_, List.getElem?_eq_getElem hr⟩
          have cy := HT.out r y hy
          simp only [tagV] at ct
          have d3 : decide ((ns.length : Int) ≤ (r : Int)) = false := decide_eq_false (by omega)
          have d3' : decide (ns.length ≤ r) = false := decide_eq_false (by omega)
          have HB1 : Hid (cntB ns (i + 1) = cntB ns i + 1) := HB.out
          clear hx
          have HFIN : Hid (∃ i_1, i_1 ≤ ns.length ∧ ns.length + 1 - (i + 1) = ns.length + 1 - i_1 ∧ Value.int .i32 ((i : Int) + 1) = .int .i32 (i_1 : Int) ∧ Value.int .i32 (aLen (ns.take i) : Int) = .int .i32 (aLen (ns.take i_1) : Int) ∧ Value.int .i64 ((cntB ns i : Int) + 1) = .int .i64 (cntB ns i_1 : Int) ∧ wr = wr) := by
            refine ⟨i + 1, by omega, rfl, by go_num, by rw [HL.out]; rfl, ?_, rfl⟩
            rw [HB1.out]; go_num
          cases y with
          | s c d es =>
            simp only [tagV] at cy
            clear hy hq
            go_wp2_with fail
            go_roundg (ns.length + 1 - (i + 1))
            case measure => omega
            case rel => obtain ⟨i', a1, a2, a3, a4, a5, -⟩ := HFIN.out; exact ⟨i', a1, a2, a3, a4, a5, rfl⟩
          | v q =>
            have hri := hq q hy
            have d4 : decide ((i : Int) ≤ (r : Int)) = false := decide_eq_false (by omega)
            have d4' : decide (i ≤ r) = false := decide_eq_false (by omega)
            clear hy hq
            cases q with
            | none =>
              simp only [tagV] at cy
              go_wp2_with fail
              go_roundg (ns.length + 1 - (i + 1))
              case measure => omega
              case rel => obtain ⟨i', a1, a2, a3, a4, a5, -⟩ := HFIN.out; exact ⟨i', a1, a2, a3, a4, a5, rfl⟩
            | some r' =>
              simp only [tagV] at cy
              go_wp2_with fail
              go_roundg (ns.length + 1 - (i + 1))
              case measure => omega
              case rel => obtain ⟨i', a1, a2, a3, a4, a5, -⟩ := HFIN.out; exact ⟨i', a1, a2, a3, a4, a5, rfl⟩
      | s c d es =>
        obtain ⟨cw, ch, hd1, hd2, hel⟩ := HWs.out i c d es hx
        have hat2 := HAT.out (i + 1)
        have HL2 : Hid (aLen (ns.take (i + 1)) = aLen (ns.take i) + (d.toNat - 48)) := by show _ = _; rw [HL.out, ← hel]; rfl
        rw [HL2.out] at hat2
        have HB2 : Hid (cntB ns (i + 1) = cntB ns i) := HB.out
        have e21 : ((2 : Int) * (i : Int) + 1).toNat = 2 * i + 1 := by omega
        have i1 : (2 : Int) * (i : Int) + 1 < ((2 * ns.length : Nat) : Int) := by omega
        have d3 : decide ((d.toNat : Int) < 48) = false := decide_eq_false (by omega)
        have d3' : decide (d.toNat < 48) = false := decide_eq_false (by omega)
        have d4 : decide ((52 : Int) < (d.toNat : Int)) = false := decide_eq_false (by omega)
        have d4' : decide (52 < d.toNat) = false := decide_eq_false (by omega)
        simp only [tagV] at ct
        clear hx HL HB hel
        generalize ho : aLen (ns.take i) = off at *
        generalize hcn : cntB ns i = cn at *
        have HO : Hid (aLen (ns.take i) = off) := ho
        have HCN : Hid (cntB ns i = cn) := hcn
        clear ho hcn
        go_wp2_with fail
        go_roundg (ns.length + 1 - (i + 1))
        case measure => omega
        case rel => exact ⟨i + 1, by omega, rfl, by go_num, by rw [HL2.out]; go_num, by rw [HB2.out], rfl⟩
end
end Go.Proofs.Qxb6500301a
