import Derived.Test.Qxb6500301aLoad4
import Derived.Test.Qxb6500301aReal6
import Derived.Deep.RegionLaw
namespace Go.Proofs.Qxb6500301a
open Go.RowKit
set_option linter.unusedSimpArgs false
set_option linter.unusedVariables false
attribute [local go_sem ↓] Go.wp_at_zero Go.wp_at_succ
attribute [-go_sem] Go.run_string_add_if Go.run_index_string Go.run_slice_string_if

theorem drop_zip' {α β : Type} : ∀ (j : Nat) (l : List α) (m : List β), (l.zip m).drop j = (l.drop j).zip (m.drop j)
  | 0, l, m => rfl
  | j + 1, [], m => by simp
  | j + 1, x :: l, [] => by simp
  | j + 1, x :: l, y :: m => by simpa using drop_zip' j l m
theorem flat3_take (l : List (Nat × List Nd)) (k : Nat) : (l.flatMap markV).take (k * 3) = (l.take k).flatMap markV := by
  induction k generalizing l with
  | zero => simp
  | succ k ih =>
    cases l with
    | nil => simp
    | cons x l =>
      have e : (k + 1) * 3 = (markV x).length + k * 3 := by show _ = 3 + _; omega
      rw [List.flatMap_cons, e, List.take_succ_cons, List.flatMap_cons, List.take_length_add_append, ih]
theorem marks_len (l : List (Nat × List Nd)) : (l.flatMap markV).length = l.length * 3 := by
  induction l with
  | nil => rfl
  | cons x l ih => rw [List.flatMap_cons, List.length_append, ih]; simp [markV]; omega
theorem args_take : ∀ (ns : List Nd) (k : Nat), (allArgs ns).take (aLen (ns.take k)) = allArgs (ns.take k)
  | [], k => by simp [allArgs, aLen]
  | x :: ns, 0 => by simp [allArgs, aLen]
  | x :: ns, k + 1 => by
    have ih := args_take ns k
    have e1 : allArgs (x :: ns) = argsOf x ++ allArgs ns := rfl
    have e2 : allArgs ((x :: ns).take (k + 1)) = argsOf x ++ allArgs (ns.take k) := rfl
    unfold aLen at ih ⊢
    rw [e1, e2, List.length_append, List.take_length_add_append, ih]
theorem heads_take : ∀ (ns : List Nd) (k : Nat), (headsV ns).take (2 * k) = headsV (ns.take k)
  | [], k => by simp [headsV]
  | x :: ns, 0 => by simp [headsV]
  | x :: ns, k + 1 => by
    have ih := heads_take ns k
    have e1 : headsV (x :: ns) = headV x ++ headsV ns := rfl
    have e2 : headsV ((x :: ns).take (k + 1)) = headV x ++ headsV (ns.take k) := rfl
    have e3 : (headV x).length = 2 := by cases x <;> rfl
    have e4 : 2 * (k + 1) = (headV x).length + 2 * k := by omega
    rw [e1, e2, e4, List.take_length_add_append, ih]
theorem Words.take {ns : List Nd} {ws : List Int} (h : Words ns ws) (k : Nat) : Words (ns.take k) (ws.take k) := by
  refine ⟨by rw [List.length_take, List.length_take, h.1], fun i x hx => ?_⟩
  rw [List.getElem?_take] at hx
  split at hx
  · rename_i hik
    have := h.2 i x hx
    cases x with
    | v q =>
      cases q with
      | none => trivial
      | some r => simp only at this ⊢; rw [List.getElem?_take, if_pos hik]; exact this
    | s c d es => simp only at this ⊢; rw [List.getElem?_take, if_pos hik, List.take_take, Nat.min_eq_left (by omega)]; exact this
  · cases hx
theorem aLen_take_le (ns : List Nd) (k : Nat) : aLen (ns.take k) ≤ aLen ns := by
  have := congrArg List.length (args_take ns k)
  rw [List.length_take] at this
  unfold aLen at this ⊢
  omega
theorem marksV_push (t : Nat) (tms : List Nat) (ns : List Nd) (saved : List (List Nd)) : marksV (t :: tms) (ns :: saved) = marksV tms saved ++ markV (t, ns) := by
  unfold marksV
  simp
theorem marksV_drop {tms : List Nat} {saved : List (List Nd)} (h : tms.length = saved.length) {k : Nat} (hk : k ≤ saved.length) : marksV (tms.drop (saved.length - k)) (saved.drop (saved.length - k)) = (marksV tms saved).take (k * 3) := by
  unfold marksV
  rw [flat3_take, ← drop_zip', List.reverse_drop]
  congr 2
  simp
  omega

section
variable {w : World} {p : Nat} {B : Blks} {ns : List Nd} {ws : List Int} {tr tms : List Nat} {saved : List (List Nd)}
def cutAns (saved : List (List Nd)) (k : Int) : Int × List (List Nd) := if k < 0 ∨ (saved.length : Int) < k then (4, saved) else (0, saved.drop (saved.length - k.toNat))
def OnePost (p : Nat) (B : Blks) (ns : List Nd) (saved : List (List Nd)) (r : Int) (w : World) (e : Ending) (w' : World) : Prop :=
  e = .returned (.int .i64 r) ∧ HeapAt w' p B ns saved ∧ Fr (B.Has p) w w'

set_option maxRecDepth 20000 in
theorem Cut_any (h : HeapAt w p B ns saved) (k : Int) : Calls Try.prog 31 #[.pointer (some ⟨p, 0, none⟩), .int .i64 k] w (OnePost p B ns (cutAns saved k).2 (cutAns saved k).1 w) := by
  obtain ⟨ws, tr, tms, h1, hinv, hsv, htm, hs26⟩ := h.main
  have HH : Hid (HeapAt w p B ns saved) := h
  have c5 := h1.p5
  rw [htm] at c5
  have z5 := frozen_of 5 h1.top
  by_cases h0 : k < 0
  · have d0 : decide (k < 0) = true := decide_eq_true h0
    have HA : Hid (cutAns saved k = (4, saved)) := by show _ = _; unfold cutAns; rw [if_pos (.inl h0)]
    clear h h1 hinv hsv htm
    go_enter Try.func31, Try.ntmps31
    go_wp2_with fail
    go_ret
    unfold OnePost
    rw [HA.out]
    exact ⟨rfl, HH.out, Fr.refl _ _⟩
  · have d0 : decide (k < 0) = false := decide_eq_false h0
    obtain ⟨i, rfl⟩ : ∃ i : Nat, k = (i : Int) := ⟨k.toNat, by omega⟩
    by_cases hl : saved.length < i
    · have d1 : decide ((saved.length : Int) < (i : Int)) = true := decide_eq_true (by omega)
      have d1' : decide (saved.length < i) = true := decide_eq_true (by omega)
      have HA : Hid (cutAns saved (i : Int) = (4, saved)) := by show _ = _; unfold cutAns; rw [if_pos (.inr (by omega))]
      clear h h1 hinv hsv htm
      go_enter Try.func31, Try.ntmps31
      go_wp2_with fail
      go_ret
      unfold OnePost
      rw [HA.out]
      exact ⟨rfl, HH.out, Fr.refl _ _⟩
    · have d1 : decide ((saved.length : Int) < (i : Int)) = false := decide_eq_false (by omega)
      have d1' : decide (saved.length < i) = false := decide_eq_false (by omega)
      have HA : Hid (cutAns saved (i : Int) = (0, saved.drop (saved.length - i))) := by show _ = _; unfold cutAns; rw [if_neg (by omega), Int.toNat_natCast]
      have HFIN : Hid (∀ w', w' = w.setCell ⟨p, 5, none⟩ (sl B.m i 26) → HeapAt w' p B ns (saved.drop (saved.length - i)) ∧ Fr (B.Has p) w w') := by
        rintro w' rfl
        have ap := h1.apart
        have F : Fr (fun k => k = p) w (w.setCell ⟨p, 5, none⟩ (sl B.m i 26)) := setP (Fr.refl _ w) _ _
        have hlen : (tms.drop (saved.length - i)).length = i := by rw [List.length_drop]; omega
        refine ⟨⟨ws, tr, tms.drop (saved.length - i), ⟨?_, F.rows h1.rt (fun e => ap.p.1 e.symm), F.rows h1.rw (fun e => ap.p.2.1 e.symm), F.rows h1.rh (fun e => ap.p.2.2.1 e.symm), F.rows h1.ra (fun e => ap.p.2.2.2.1 e.symm), F.rows h1.rr (fun e => ap.p.2.2.2.2.1 e.symm), ?_, h1.words, ap⟩, ?_⟩, F.mono (fun k _ e => .inl e)⟩
        · rw [heap_setCell_same _ h1.top, hlen]; rfl
        · rw [hlen, marksV_drop htm (by omega)]
          exact F.rows (ownsRow_cut h1.rm (by omega)) (fun e => ap.p.2.2.2.2.2 e.symm)
        · obtain ⟨i1, i2⟩ := hinv.cut (saved.length - i)
          rw [drop_zip', ← List.map_drop] at i1 i2
          exact ⟨i1, by rw [i2, ← hsv], by simp; omega, by simp; omega⟩
      have hi : i ≤ 26 := by omega
      clear h h1 hinv hsv htm
      go_enter Try.func31, Try.ntmps31
      go_wp2_with fail
      go_ret
      unfold OnePost
      rw [HA.out]
      obtain ⟨f1, f2⟩ := HFIN.out _ rfl
      exact ⟨rfl, f1, f2⟩
end
end Go.Proofs.Qxb6500301a
