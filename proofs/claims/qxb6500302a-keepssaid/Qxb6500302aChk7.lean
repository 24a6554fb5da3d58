import Derived.Test.Qxb6500302aChk6
namespace Go.Proofs.Qxb6500302a
open Go.RowKit
set_option linter.unusedSimpArgs false
set_option linter.unusedVariables false
attribute [local go_sem ↓] Go.wp_at_zero Go.wp_at_succ

set_option maxRecDepth 20000 in
theorem Check_any {w : World} {own : Own} {D : Nat → Prop} {p : Nat} {cs : List Tm} (h : ProgAt w own D p cs) :
    Calls Try.prog 28 #[.pointer (some ⟨p, 0, none⟩)] w fun e w' => e = .returned (.bool true) ∧ Fr No w w' := by
  obtain ⟨ba, bo, bk, bs, cap, h1, hrow⟩ := h.row
  have cp : w.cell? ⟨p, 0, none⟩ = some (.slice bs cs.length cap) := cell_of 0 h1 rfl
  have hlen := h.len
  have HR : Hid (∀ (i : Nat) (t : Tm), cs[i]? = some t → ∃ g v m, bs = some ⟨g, 0, none⟩ ∧ w.cell? ⟨g, i, none⟩ = some (.pointer (some ⟨v, 0, none⟩)) ∧ ClauseN w D m (.pointer (some ⟨v, 0, none⟩)) t) := hrow
  clear hrow
  have hq : decide ((8 : Int) < (cs.length : Int)) = false := decide_eq_false (by omega)
  go_enter Try.func28, Try.ntmps28
  go_wp2_with fail
  go_loopg [16] (cs.length + 1) (fun gk u wr => ∃ i : Nat, u = .int .i64 (i : Int) ∧ i ≤ cs.length ∧ gk = cs.length + 1 - i ∧ Fr No w wr)
  case atStart => exact ⟨0, rfl, Nat.zero_le _, rfl, Fr.refl _ _⟩
  case round =>
    obtain ⟨i, rfl, hi, hgk, hf⟩ := hrel
    by_cases hlt : i < cs.length
    · obtain ⟨t, ht⟩ := kid_at hlt
      obtain ⟨g, v, m, rfl, hcell, hc⟩ := HR.out i t ht
      have hcell' : wr.cell? ⟨g, i, none⟩ = some (.pointer (some ⟨v, 0, none⟩)) := hf.cellNo hcell
      have HC : Hid (ClauseN wr D m (.pointer (some ⟨v, 0, none⟩)) t) := hc.kept hf (fun _ _ h => h)
      obtain ⟨s, hs, hp⟩ := h.fine t (List.mem_of_getElem? ht)
      clear hc
      go_wp2_with fail
      refine (sound_any HC.out hs hp).mono ?_
      rintro e w2 ⟨rfl, F2⟩
      go_wp2_with fail
      go_roundg (cs.length + 1 - (i + 1))
      case measure => omega
      case rel => exact ⟨i + 1, by go_num, by omega, rfl, hf.trans F2 (fun _ _ h => h)⟩
    · go_wp2_with fail
      refine (indexed_any (h.keep hf (fun _ _ h => h))).mono ?_
      rintro e w2 ⟨rfl, F2⟩
      go_wp2_with fail
      go_ret
      exact ⟨rfl, hf.trans F2 (fun _ _ h => h)⟩
end Go.Proofs.Qxb6500302a
