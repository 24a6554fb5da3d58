import Derived.Test.Qxb6500302aPrint4
import Derived.Test.Qxb6500302aPlain3
namespace Go.Proofs.Qxb6500302a
open Go.RowKit
set_option linter.unusedSimpArgs false
set_option linter.unusedVariables false
attribute [local go_sem ↓] Go.wp_at_zero Go.wp_at_succ

section
variable {w : World} {own : Own} {D : Nat → Prop} {p : Nat} {cs : List Tm}

theorem ProgAt.shape (h : ProgAt w own D p cs) {t : Tm} (ht : t ∈ cs) : (∃ hd ts, t = tCall 58 (hd :: ts) ∧ hd.kind = 2) ∧ (clauseText t).length ≤ 40 ∧ (codeOf t).length ≤ 43 := by
  obtain ⟨s, hs, hp⟩ := h.fine t ht
  have h1 := parse_back hp
  have h2 := parse_code hp
  exact ⟨parse_shape hp, by rw [h1]; exact hs, by omega⟩

/-- The row of the clauses, for the walk. -/
theorem ProgAt.row (h : ProgAt w own D p cs) : ∃ (ba bo bk : Nat) (bs : Option Addr) (cap : Nat), w.heap[p]? = some (.cells #[.slice bs cs.length cap, .map (some ba), .map (some bo), .map (some bk)] 52) ∧
    ∀ (i : Nat) (t : Tm), cs[i]? = some t → ∃ g v m, bs = some ⟨g, 0, none⟩ ∧ w.cell? ⟨g, i, none⟩ = some (.pointer (some ⟨v, 0, none⟩)) ∧ ClauseN w D m (.pointer (some ⟨v, 0, none⟩)) t := by
  obtain ⟨ba, bo, bk, sl, xs, h1, h2, h3, h4, h5⟩ := h.main
  obtain ⟨bs, cap, rfl⟩ := owns_slice h2
  refine ⟨ba, bo, bk, bs, cap, h1, fun i t ht => ?_⟩
  have hi : i < cs.length := (List.getElem?_eq_some_iff.1 ht).1
  have hxl : xs.length = cs.length := by have := h2.1; omega
  obtain ⟨x, hx⟩ := val_at (l := xs) (i := i) (by omega)
  obtain ⟨m, hc⟩ := h5 i x t hx ht
  obtain ⟨g, cap', hv, _, _⟩ := h2.form (by omega)
  simp only [Value.slice.injEq, true_and] at hv
  obtain ⟨rfl, rfl⟩ := hv
  have hcell := owns_cell h2 i x hx
  have hadd : (⟨g, 0, none⟩ : Addr).add i = ⟨g, i, none⟩ := by
    by_cases h0 : i = 0
    · subst h0; rfl
    · simp [Addr.add, h0]
  rw [hadd] at hcell
  obtain ⟨b, rb, hxv, _⟩ := id hc
  subst hxv
  exact ⟨g, b, m, rfl, hcell, hc⟩

theorem len_any (h : ProgAt w own D p cs) : Calls Try.prog 27 #[.pointer (some ⟨p, 0, none⟩)] w fun e w' => e = .returned (.int .i64 (cs.length : Int)) ∧ w' = w := by
  obtain ⟨ba, bo, bk, bs, cap, h1, _⟩ := h.row
  have cp : w.cell? ⟨p, 0, none⟩ = some (.slice bs cs.length cap) := cell_of 0 h1 rfl
  go_enter Try.func27, Try.ntmps27
  go_wp2_with fail
  go_ret
  exact ⟨rfl, rfl⟩

def AtPost (D : Nat → Prop) (cs : List Tm) (id : Int) (w : World) (e : Ending) (w' : World) : Prop :=
  w' = w ∧ (((id < 0 ∨ (cs.length : Int) ≤ id) ∧ e = .returned (.pointer none)) ∨ ∃ (i : Nat) (t : Tm) (m b : Nat), id = (i : Int) ∧ cs[i]? = some t ∧ e = .returned (.pointer (some ⟨b, 0, none⟩)) ∧ ClauseN w D m (.pointer (some ⟨b, 0, none⟩)) t)

set_option maxRecDepth 20000 in
theorem at_any (h : ProgAt w own D p cs) (id : Int) : Calls Try.prog 29 #[.pointer (some ⟨p, 0, none⟩), .int .i64 id] w (AtPost D cs id w) := by
  obtain ⟨ba, bo, bk, bs, cap, h1, hrow⟩ := h.row
  have cp : w.cell? ⟨p, 0, none⟩ = some (.slice bs cs.length cap) := cell_of 0 h1 rfl
  have hlen := h.len
  by_cases h0 : id < 0
  · have hd : decide ((0 : Int) ≤ id) = false := decide_eq_false (by omega)
    go_enter Try.func29, Try.ntmps29
    go_wp2_with fail
    go_ret
    exact ⟨rfl, .inl ⟨.inl h0, rfl⟩⟩
  · have hd : decide ((0 : Int) ≤ id) = true := decide_eq_true (by omega)
    by_cases h1' : (cs.length : Int) ≤ id
    · have hd2 : decide (id < (cs.length : Int)) = false := decide_eq_false (by omega)
      go_enter Try.func29, Try.ntmps29
      go_wp2_with fail
      go_ret
      exact ⟨rfl, .inl ⟨.inr h1', rfl⟩⟩
    · obtain ⟨i, rfl⟩ : ∃ i : Nat, id = (i : Int) := ⟨id.toNat, by omega⟩
      have hi : i < cs.length := by omega
      obtain ⟨t, ht⟩ := kid_at hi
      obtain ⟨g, v, m, rfl, hcell, hc⟩ := hrow i t ht
      have hd2 : decide ((i : Int) < (cs.length : Int)) = true := decide_eq_true (by omega)
      go_enter Try.func29, Try.ntmps29
      go_wp2_with fail
      go_ret
      exact ⟨rfl, .inr ⟨i, t, m, v, rfl, ht, rfl, hc⟩⟩

/-- 'Text', 'Code': the answer, the error. -/
def textAns (cs : List Tm) (id : Int) : List UInt8 × Int := if id < 0 then ([], 4) else match cs[id.toNat]? with
  | none => ([], 4)
  | some t => (clauseText t, 0)
def codeAns (cs : List Tm) (id : Int) : List UInt8 × Int := if id < 0 then ([], 4) else match cs[id.toNat]? with
  | none => ([], 4)
  | some t => (codeOf t, 0)

theorem S_nil : S [] = { data := #[] } := rfl

set_option maxRecDepth 20000 in
theorem Text_any (h : ProgAt w own D p cs) (id : Int) : Calls Try.prog 25 #[.pointer (some ⟨p, 0, none⟩), .int .i64 id] w fun e w' =>
    e = .returned (.tuple #[.string (S (textAns cs id).1), .int .i64 (textAns cs id).2]) ∧ Fr No w w' := by
  go_enter Try.func25, Try.ntmps25
  go_wp2_with fail
  refine (at_any h id).mono ?_
  rintro e w1 ⟨rfl, ⟨hid, rfl⟩ | ⟨i, t, m, b, rfl, ht, rfl, hc⟩⟩
  · have ha : textAns cs id = ([], 4) := by
      unfold textAns
      by_cases h0 : id < 0
      · rw [if_pos h0]
      · rw [if_neg h0, List.getElem?_eq_none (by omega)]
    go_wp2_with fail
    go_ret2
    rw [ha]
    exact ⟨rfl, Fr.refl _ _⟩
  · have ha : textAns cs (i : Int) = (clauseText t, 0) := by
      unfold textAns
      rw [if_neg (by omega), Int.toNat_natCast, ht]
    obtain ⟨⟨hd, ts, rfl, _⟩, hl, _⟩ := h.shape (List.mem_of_getElem? ht)
    go_wp2_with fail
    refine (text_any hc (by omega)).mono ?_
    rintro e w2 ⟨rfl, hf⟩
    go_wp2_with fail
    go_ret2
    rw [ha]
    exact ⟨rfl, hf⟩

set_option maxRecDepth 20000 in
theorem Code_any (h : ProgAt w own D p cs) (id : Int) : Calls Try.prog 15 #[.pointer (some ⟨p, 0, none⟩), .int .i64 id] w fun e w' =>
    e = .returned (.tuple #[.string (S (codeAns cs id).1), .int .i64 (codeAns cs id).2]) ∧ Fr No w w' := by
  go_enter Try.func15, Try.ntmps15
  go_wp2_with fail
  refine (at_any h id).mono ?_
  rintro e w1 ⟨rfl, ⟨hid, rfl⟩ | ⟨i, t, m, b, rfl, ht, rfl, hc⟩⟩
  · have ha : codeAns cs id = ([], 4) := by
      unfold codeAns
      by_cases h0 : id < 0
      · rw [if_pos h0]
      · rw [if_neg h0, List.getElem?_eq_none (by omega)]
    go_wp2_with fail
    go_ret2
    rw [ha]
    exact ⟨rfl, Fr.refl _ _⟩
  · have ha : codeAns cs (i : Int) = (codeOf t, 0) := by
      unfold codeAns
      rw [if_neg (by omega), Int.toNat_natCast, ht]
    obtain ⟨_, _, hl⟩ := h.shape (List.mem_of_getElem? ht)
    go_wp2_with fail
    refine (code_any hc (by omega)).mono ?_
    rintro e w2 ⟨rfl, hf⟩
    go_wp2_with fail
    go_ret2
    rw [ha]
    exact ⟨rfl, hf⟩

def queryAns (s : List UInt8) : List UInt8 × Int := if 40 < s.length then ([], 1) else match parseOf true s with
  | none => ([], 5)
  | some t => (codeOf t, 0)

set_option maxRecDepth 20000 in
theorem Query_any (h : ProgAt w own D p cs) (s : ByteArray) : Calls Try.prog 24 #[.pointer (some ⟨p, 0, none⟩), .string s] w fun e w' =>
    e = .returned (.tuple #[.string (S (queryAns s.data.toList).1), .int .i64 (queryAns s.data.toList).2]) ∧ Fr No w w' := by
  have hsz : s.data.toList.length = s.size := by rw [Array.length_toList]; rfl
  by_cases h40 : 40 < s.size
  · have hd : decide ((40 : Int) < (s.size : Int)) = true := by simp; omega
    have ha : queryAns s.data.toList = ([], 1) := by unfold queryAns; rw [if_pos (by omega)]
    go_enter Try.func24, Try.ntmps24
    go_wp2_with fail
    go_ret2
    rw [ha]
    exact ⟨rfl, Fr.refl _ _⟩
  · have hd : decide ((40 : Int) < (s.size : Int)) = false := by simp; omega
    have HP := parse_any (q := true) (w := w) (s := s) (by omega)
    cases hp : parseOf true s.data.toList with
    | none =>
      have ha : queryAns s.data.toList = ([], 5) := by unfold queryAns; rw [if_neg (by omega), hp]
      rw [hp] at HP
      go_enter Try.func24, Try.ntmps24
      go_wp2_with fail
      refine HP.mono ?_
      rintro e w' ⟨⟨b, rfl⟩, hf⟩
      go_wp2_with fail
      go_ret2
      rw [ha]
      exact ⟨rfl, hf⟩
    | some t =>
      have ha : queryAns s.data.toList = (codeOf t, 0) := by unfold queryAns; rw [if_neg (by omega), hp]
      have hl := parse_code hp
      rw [hp] at HP
      go_enter Try.func24, Try.ntmps24
      go_wp2_with fail
      refine HP.mono ?_
      rintro e w' ⟨v, m, Dc, rfl, hcl, hDc, hf⟩
      go_wp2_with fail
      refine (code_any hcl (by omega)).mono ?_
      rintro e w2 ⟨rfl, hf2⟩
      go_wp2_with fail
      go_ret2
      rw [ha]
      exact ⟨rfl, hf.trans hf2 (fun _ _ h => h)⟩
end
end Go.Proofs.Qxb6500302a
