import Derived.Test.Qxb6500302aObs1
namespace Go.Proofs.Qxb6500302a
open Go.RowKit
set_option linter.unusedSimpArgs false
set_option linter.unusedVariables false
attribute [local go_sem ↓] Go.wp_at_zero Go.wp_at_succ

theorem S_append (a b : List UInt8) : S a ++ S b = S (a ++ b) := by
  apply ByteArray.ext
  simp [S]

theorem add_S (a b : List UInt8) (h : a.length + b.length ≤ 1000000) (w : World) : (Op.stringOp .add (S a) (S b)).run Try.prog w = .ok (.string (S (a ++ b))) w := by
  rw [run_string_add_sum w (S a) (S b) (by rw [S_size, S_size]; omega), S_append]
theorem add_S' (a : List UInt8) {b : ByteArray} (l : List UInt8) (hb : b = S l) (h : a.length + l.length ≤ 1000000) (w : World) : (Op.stringOp .add (S a) b).run Try.prog w = .ok (.string (S (a ++ l))) w := by
  rw [hb]; exact add_S a l h w

def showOf (cs : List Tm) : List UInt8 := 80 :: (cs.map (fun t => 32 :: clauseText t)).flatten

theorem flat_bound {f : Tm → List UInt8} {B : Nat} : ∀ {l : List Tm}, (∀ t ∈ l, (f t).length ≤ B) → ((l.map f).flatten).length ≤ B * l.length
  | [], _ => by simp
  | t :: l, h => by
    have h1 := h t (by simp)
    have h2 := flat_bound (l := l) (fun u hu => h u (by simp [hu]))
    simp only [List.map_cons, List.flatten_cons, List.length_append, List.length_cons, Nat.mul_add]
    omega

attribute [-go_sem] Go.run_string_add_if

/-- What was read behind an address is still read. -/
theorem Fr.cellNo {w w' : World} (h : Fr No w w') {a : Addr} {v : Value} (hc : w.cell? a = some v) : w'.cell? a = some v := by
  have hlt : a.block < w.heap.size := by
    rcases Nat.lt_or_ge a.block w.heap.size with h | h
    · exact h
    · unfold World.cell? at hc
      rw [Array.getElem?_eq_none h] at hc
      simp at hc
  rw [← hc]
  exact World.cell?_of_block (h.block a.block hlt (fun h => h))

section
variable {w : World} {own : Own} {D : Nat → Prop} {p : Nat} {cs : List Tm}

set_option maxRecDepth 20000 in
theorem Show_any (h : ProgAt w own D p cs) : Calls Try.prog 13 #[.pointer (some ⟨p, 0, none⟩)] w fun e w' => e = .returned (.string (S (showOf cs))) ∧ Fr No w w' := by
  obtain ⟨ba, bo, bk, bs, cap, h1, hrow⟩ := h.row
  have cp : w.cell? ⟨p, 0, none⟩ = some (.slice bs cs.length cap) := cell_of 0 h1 rfl
  have hlen := h.len
  have HR : Hid (∀ (i : Nat) (t : Tm), cs[i]? = some t → ∃ g v m, bs = some ⟨g, 0, none⟩ ∧ w.cell? ⟨g, i, none⟩ = some (.pointer (some ⟨v, 0, none⟩)) ∧ ClauseN w D m (.pointer (some ⟨v, 0, none⟩)) t) := hrow
  clear hrow
  go_enter Try.func13, Try.ntmps13
  go_wp2_with fail
  go_loopg [3, 11] (cs.length + 1) (fun gk v0 u wr => ∃ (i : Nat) (zs : List UInt8), v0 = .string (S zs) ∧ u = .int .i64 (i : Int) ∧ i ≤ cs.length ∧ gk = cs.length + 1 - i ∧ Hid (zs = 80 :: ((cs.take i).map (fun t => 32 :: clauseText t)).flatten) ∧ Fr No w wr)
  case atStart => exact ⟨0, [80], rfl, rfl, Nat.zero_le _, rfl, rfl, Fr.refl _ _⟩
  case round =>
    obtain ⟨i, zs, rfl, rfl, hi, hgk, HZ, hf⟩ := hrel
    by_cases hlt : i < cs.length
    · obtain ⟨t, ht⟩ := kid_at hlt
      obtain ⟨g, v, m, rfl, hcell, hc⟩ := HR.out i t ht
      have hcell' : wr.cell? ⟨g, i, none⟩ = some (.pointer (some ⟨v, 0, none⟩)) := hf.cellNo hcell
      have HC : Hid (ClauseN wr D m (.pointer (some ⟨v, 0, none⟩)) t) := hc.kept hf (fun _ _ h => h)
      obtain ⟨⟨hd, ts, ht2, _⟩, hl, _⟩ := h.shape (List.mem_of_getElem? ht)
      have HT : Hid (t = tCall 58 (hd :: ts)) := ht2
      clear ht2
      have hzl : zs.length ≤ 1000 := by
        rw [HZ.out, List.length_cons]
        have := flat_bound (f := fun t => 32 :: clauseText t) (B := 41) (l := cs.take i) (fun u hu => by
          have := (h.shape (List.mem_of_mem_take hu)).2.1
          simp; omega)
        have h2 : (cs.take i).length ≤ 8 := by simp; omega
        omega
      have A1 := add_S' zs (b := { data := #[32] }) [32] rfl (by simp; omega)
      have A2 := add_S (zs ++ [32]) (clauseText t) (by simp; omega)
      go_wp2_with fail
      have hC := HC.out
      rw [HT.out] at hC
      refine (text_any hC (by rw [← HT.out]; omega)).mono ?_
      rw [← HT.out]
      rintro e w2 ⟨rfl, hf2⟩
      go_wp2_with fail
      go_roundg (cs.length + 1 - (i + 1))
      case measure => omega
      case rel =>
        refine ⟨i + 1, zs ++ 32 :: clauseText t, rfl, by go_num, by omega, rfl, ?_, hf.trans hf2 (fun _ _ h => h)⟩
        show _ = _
        rw [List.take_add_one, ht, HZ.out]
        simp
    · go_wp2_with fail
      go_ret
      have hieq : i = cs.length := by omega
      rw [HZ.out, hieq, List.take_length]
      exact ⟨rfl, hf⟩
end
end Go.Proofs.Qxb6500302a
