import Derived.Test.Qxb6500302aCan4
namespace Go.Proofs.Qxb6500302a
open Go.RowKit
set_option linter.unusedSimpArgs false
set_option linter.unusedVariables false
attribute [local go_sem ↓] Go.wp_at_zero Go.wp_at_succ
attribute [-go_sem] Go.run_string_add_if Go.run_index_string Go.run_slice_string_if

theorem uns_parse {q : Bool} {s : List UInt8} {t : Tm} (h : parseOf q s = some t) (hs : s.length ≤ 40) (w : World) :
    Calls Try.prog 31 #[.string (S (codeOf t)), .int .i64 0] w fun e w' => e = .returned (.tuple #[.string (S (clauseTextN t)), .int .i64 ((codeOf t).length : Int)]) ∧ w' = w := by
  obtain ⟨ts, ht, hne, hl, hg⟩ := parse_good h
  have hc := parse_code h
  cases q with
  | true =>
    have ht' : t = tCall 63 ts := ht
    subst ht'
    exact uns_query hne hl (fun u hu => uns_good _ u (hg u hu)) rfl (by omega) w
  | false =>
    have ht' : t = tCall 58 ts := ht
    subst ht'
    exact uns_clause hne hl (fun u hu => uns_good _ u (hg u hu)) rfl (by omega) w

theorem code_hd {q : Bool} {s : List UInt8} {t : Tm} (h : parseOf q s = some t) : ∃ r, codeOf t = rootOf q :: r := by
  obtain ⟨ts, rfl, _⟩ := parse_good h
  unfold tCall
  rw [codeOf_eq, if_neg (by omega), if_neg (by omega)]
  exact ⟨_, rfl⟩

set_option maxRecDepth 20000 in
theorem spells_any {q : Bool} {s : List UInt8} {t : Tm} (h : parseOf q s = some t) (hs : s.length ≤ 40) {w : World} :
    Calls Try.prog 16 #[.string (S (codeOf t)), .string (S s), .int .u8 ((rootOf q).toNat : Int)] w fun e w' => e = .returned (.bool true) ∧ Fr No w w' := by
  obtain ⟨r, hr⟩ := code_hd h
  have hcl := parse_code h
  have hcan := parse_can h
  have HU : Hid (∀ w : World, Calls Try.prog 31 #[.string (S (codeOf t)), .int .i64 0] w fun e w' => e = .returned (.tuple #[.string (S (clauseTextN t)), .int .i64 ((codeOf t).length : Int)]) ∧ w' = w) := fun w => uns_parse h hs w
  have hsz := S_size (codeOf t)
  have hpos : 0 < (codeOf t).length := by rw [hr]; simp
  have d1 : decide ((48 : Int) < ((S (codeOf t)).size : Int)) = false := decide_eq_false (by omega)
  have hne : ¬ codeOf t = [] := by rw [hr]; simp
  have q1 : ((S (codeOf t)).toList == ByteArray.toList { data := #[] }) = false := by
    rw [ByteArray.toList_eq, ByteArray.toList_eq, S_list]
    exact beq_eq_false_iff_ne.2 hne
  have q1' : ((S (codeOf t)).toList == []) = false := by
    rw [ByteArray.toList_eq, S_list]
    exact beq_eq_false_iff_ne.2 hne
  have i0 := idx_Int (l := codeOf t) (i := 0) (by omega) (c := rootOf q) (by rw [hr]; rfl)
  have q2 : (((rootOf q).toNat : Int) != ((rootOf q).toNat : Int)) = false := by simp
  have q3 : (((codeOf t).length : Int) == ((S (codeOf t)).size : Int)) = true := by rw [hsz]; simp
  have q4 : ((S (clauseTextN t)).toList == (S (canonGo [] s)).toList) = true := by rw [hcan]; simp
  clear hr hcan
  go_enter Try.func16, Try.ntmps16
  go_wp2_with fail
  refine (HU.out w).mono ?_
  rintro e w1 ⟨rfl, rfl⟩
  go_wp2_with fail
  refine (canon_any hs).mono ?_
  rintro e w2 ⟨rfl, F2⟩
  go_wp2_with fail
  go_ret
  exact ⟨rfl, F2⟩
end Go.Proofs.Qxb6500302a
