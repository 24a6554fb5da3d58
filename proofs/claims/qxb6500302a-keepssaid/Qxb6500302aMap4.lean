import Derived.Test.Qxb6500302aMap3
namespace Go.Proofs.Qxb6500302a
open Go.RowKit
set_option linter.unusedSimpArgs false
set_option linter.unusedVariables false
set_option linter.unusedSectionVars false
set_option maxRecDepth 40000

section
variable {K : Type} [DecidableEq K] {enc : K → Value} {mt kt : TypeId}

/-! ### The entries after a change -/
theorem getE_setV (k k' : K) (v : Value) : ∀ (E : List (K × Value × Nat)), getE k' (setV k v E) = if k' = k then (getE k E).map (fun _ => v) else getE k' E
  | [] => by simp [getE, setV]
  | e :: es => by
    simp only [setV]
    by_cases h : k = e.1
    · rw [if_pos h]
      simp only [getE]
      by_cases h' : k' = k
      · simp [h', h]
      · have : ¬ k' = e.1 := fun e' => h' (e'.trans h.symm)
        simp [h', this]
    · rw [if_neg h]
      simp only [getE]
      by_cases h' : k' = e.1
      · have : ¬ k' = k := fun e' => h (e'.symm.trans h')
        simp [h', this]
        intro e'; exact absurd e'.symm h
      · rw [if_neg h', getE_setV k k' v es]
        by_cases h2 : k' = k
        · simp [h2, h]
        · simp [h2, h']
theorem getE_snoc (k k' : K) (v : Value) (c : Nat) : ∀ (E : List (K × Value × Nat)), getE k E = none → getE k' (E ++ [(k, v, c)]) = if k' = k then some v else getE k' E
  | [], _ => by simp [getE]
  | e :: es, h => by
    simp only [getE] at h
    by_cases hk : k = e.1
    · rw [if_pos hk] at h; cases h
    · rw [if_neg hk] at h
      simp only [List.cons_append, getE]
      by_cases h' : k' = e.1
      · have : ¬ k' = k := fun e' => hk (e'.symm.trans h')
        simp [h', this]
        intro e'; exact absurd e'.symm hk
      · rw [if_neg h', getE_snoc k k' v c es h, if_neg h']
theorem keys_setV (k : K) (v : Value) : ∀ (E : List (K × Value × Nat)), (setV k v E).map (fun e => (e.1, e.2.2)) = E.map (fun e => (e.1, e.2.2))
  | [] => rfl
  | e :: es => by
    simp only [setV]
    split
    · simp
    · simp [keys_setV k v es]
theorem Stamps.setV {E : List (K × Value × Nat)} {clock : Nat} (h : Stamps E clock) (k : K) (v : Value) : Stamps (setV k v E) clock := by
  have e1 : (Go.Proofs.Qxb6500302a.setV k v E).map (·.2.2) = E.map (·.2.2) := by
    have := congrArg (List.map Prod.snd) (keys_setV k v E)
    rw [List.map_map, List.map_map] at this
    exact this
  refine ⟨by rw [e1]; exact h.1, fun e he => ?_⟩
  have : e.2.2 ∈ (Go.Proofs.Qxb6500302a.setV k v E).map (·.2.2) := List.mem_map.2 ⟨e, he, rfl⟩
  rw [e1] at this
  obtain ⟨e', he', e2⟩ := List.mem_map.1 this
  rw [← e2]; exact h.2 e' he'
theorem Stamps.snoc {E : List (K × Value × Nat)} {clock : Nat} (h : Stamps E clock) (k : K) (v : Value) : Stamps (E ++ [(k, v, clock)]) (clock + 1) := by
  refine ⟨?_, fun e he => ?_⟩
  · simp only [List.map_append, List.map_cons, List.map_nil]
    rw [List.nodup_append]
    refine ⟨h.1, by simp, fun a ha b hb => ?_⟩
    simp at hb
    subst hb
    obtain ⟨e', he', e2⟩ := List.mem_map.1 ha
    have := h.2 e' he'
    omega
  · rcases List.mem_append.1 he with he | he
    · have := h.2 e he; omega
    · simp at he; subst he; simp
theorem Stamps.nil (clock : Nat) : Stamps ([] : List (K × Value × Nat)) clock := ⟨by simp, by simp⟩

theorem bornE_snoc {k : K} {v : Value} {c : Nat} : ∀ {E : List (K × Value × Nat)}, getE k E = none → bornE k (E ++ [(k, v, c)]) = c
  | [], _ => by simp [bornE]
  | e :: es, h => by
    simp only [getE] at h
    by_cases hk : k = e.1
    · rw [if_pos hk] at h; cases h
    · rw [if_neg hk] at h
      simp only [List.cons_append, bornE, if_neg hk]
      exact bornE_snoc h

/-! ### Ranging -/
theorem run_rangeE (T : KeyT enc mt kt) {w : World} {b clock : Nat} {es : Array MapEntry} (h : w.heap[b]? = some (.map es clock)) :
    (Instr.range mt (.map (some b))).run Try.prog w = .ok (.pointer (some ⟨w.heap.size, 0, none⟩)) (w.alloc (.mapIter (some b) clock #[] clock)) := by
  unfold Instr.range
  simp only [Sem.run_bind, run_underlying T.mu, Result.andThen_ok, MapKept.run_getObj_map h, Sem.run_pure]
  rfl

theorem getObj_iter {w : World} {r : Nat} {m : Option Nat} {s l : Nat} {seen : Array Nat} (h : w.heap[r]? = some (.mapIter m s seen l)) : (getObj r).run Try.prog w = .ok (.mapIter m s seen l) w := by
  simp [getObj, Sem.run, h]
theorem setObj_iter {w : World} {r : Nat} {m : Option Nat} {s l : Nat} {seen : Array Nat} (o : Obj) (h : w.heap[r]? = some (.mapIter m s seen l)) : (setObj r o).run Try.prog w = .ok () (put w r o) := by
  simp [setObj, Sem.run, h, put]

/-- What is still to come. -/
def leftE (E : List (K × Value × Nat)) (seen : Array Nat) : List (K × Value × Nat) := E.filter (fun e => !seen.contains e.2.2)

theorem left_ents (E : List (K × Value × Nat)) (seen : Array Nat) : ((ents enc E).filter fun e => !seen.contains e.born) = ents enc (leftE E seen) := by
  simp only [ents, leftE, List.filter_toArray]
  congr 1
  induction E with
  | nil => rfl
  | cons e E ih =>
    simp only [List.map_cons, List.filter_cons]
    have : (ent enc e).born = e.2.2 := rfl
    rw [this]
    split
    · rw [ih, List.map_cons]
    · exact ih

theorem run_next_end {w : World} {b r clock : Nat} {E : List (K × Value × Nat)} {seen : Array Nat} (hr : w.heap[r]? = some (.mapIter (some b) clock seen clock)) (hb : w.heap[b]? = some (.map (ents enc E) clock)) (hs : Stamps E clock)
    (hl : leftE E seen = []) (ty : TypeId) : (Instr.next (.pointer (some ⟨r, 0, none⟩)) false ty).run Try.prog w = .ok (.tuple #[.bool false]) w := by
  have hall : (!seen.isEmpty && !(ents enc E).isEmpty && (ents enc E).all (fun e => decide (e.born ≥ clock))) = false := by
    cases E with
    | nil => simp [ents]
    | cons e E =>
      have : ¬ (e.2.2 ≥ clock) := by have := hs.2 e (by simp); omega
      simp [ents, ent, this]
  unfold Instr.next
  simp only [Sem.run_bind, getObj_iter hr, Result.andThen_ok, MapKept.run_getObj_map hb, hall, Bool.false_eq_true, if_false, Sem.run_pure, left_ents, hl]
  simp [ents, choose, Sem.run, Question.forced]

theorem run_next_some {w : World} {b r clock : Nat} {E : List (K × Value × Nat)} {seen : Array Nat} (hr : w.heap[r]? = some (.mapIter (some b) clock seen clock)) (hb : w.heap[b]? = some (.map (ents enc E) clock)) (hs : Stamps E clock)
    (hl : leftE E seen ≠ []) (ty : TypeId) : ∃ e n, e ∈ leftE E seen ∧ (Instr.next (.pointer (some ⟨r, 0, none⟩)) false ty).run Try.prog w = .ok (.tuple #[.bool true, enc e.1, e.2.1]) (put (w.drewN n) r (.mapIter (some b) clock (seen.push e.2.2) clock)) := by
  have hall : (!seen.isEmpty && !(ents enc E).isEmpty && (ents enc E).all (fun e => decide (e.born ≥ clock))) = false := by
    cases E with
    | nil => simp [ents]
    | cons e E =>
      have : ¬ (e.2.2 ≥ clock) := by have := hs.2 e (by simp); omega
      simp [ents, ent, this]
  have hlt : ∀ e ∈ leftE E seen, e.2.2 < clock := fun e he => hs.2 e (List.mem_filter.1 he).1
  have hold : ((ents enc (leftE E seen)).filter fun e => decide (e.born < clock)) = ents enc (leftE E seen) := by
    simp only [ents, List.filter_toArray]
    congr 1
    rw [List.filter_eq_self]
    intro x hx
    obtain ⟨e, he, rfl⟩ := List.mem_map.1 hx
    exact decide_eq_true (hlt e he)
  have hnew : ((ents enc (leftE E seen)).filter fun e => decide (e.born ≥ clock)) = #[] := by
    simp only [ents, List.filter_toArray]
    have : List.filter (fun e : MapEntry => decide (e.born ≥ clock)) (List.map (ent enc) (leftE E seen)) = [] := by
      rw [List.filter_eq_nil_iff]
      intro x hx
      obtain ⟨e, he, rfl⟩ := List.mem_map.1 hx
      have := hlt e he
      simp [ent]; omega
    rw [this]
  generalize hL : leftE E seen = L at *
  have hne : (ents enc L).isEmpty = false := by cases L with
    | nil => exact absurd rfl hl
    | cons x L => simp [ents]
  have hsz : (ents enc L).size = L.length := by simp [ents]
  -- whatever is drawn, an entry comes
  have fin : ∀ (i : Nat) (W : World), i < L.length → W.heap[r]? = some (.mapIter (some b) clock seen clock) → ∃ e, e ∈ L ∧
      Sem.run Try.prog (match (Array.map some (ents enc L))[i]? with
        | some (some e) => do
          setObj r (.mapIter (some b) clock (seen.push e.born) clock)
          pure (Value.tuple #[.bool true, e.key, e.val])
        | some none => pure (.tuple #[.bool false])
        | none => stuck "Next: no such candidate") W = .ok (.tuple #[.bool true, enc e.1, e.2.1]) (put W r (.mapIter (some b) clock (seen.push e.2.2) clock)) := by
    intro i W hi hW
    have hg : (Array.map some (ents enc L))[i]? = some (some (ent enc L[i])) := by
      simp [ents, hi]
    refine ⟨L[i], List.getElem_mem _, ?_⟩
    rw [hg]
    simp only [Sem.run_bind, setObj_iter _ hW, Result.andThen_ok, Sem.run_pure, ent]
  by_cases h1 : L.length ≤ 1
  · obtain ⟨e, he, hrun⟩ := fin 0 w (by cases L with
      | nil => exact absurd rfl hl
      | cons _ _ => simp) hr
    refine ⟨e, 0, he, ?_⟩
    rw [World.drewN_zero]
    rw [← hrun]
    unfold Instr.next
    simp only [Sem.run_bind, getObj_iter hr, Result.andThen_ok, MapKept.run_getObj_map hb, hall, Bool.false_eq_true, if_false, Sem.run_pure, left_ents, hL, hold, hnew, hne, Array.empty_append, Array.append_empty]
    rw [Array.size_map, hsz]
    have hforced : (Question.mapNext L.length).forced = true := by simp [Question.forced, h1]
    simp only [choose, Sem.run, hforced, if_true, Result.andThen_ok]
    rfl
  · have hi : (Question.mapNext L.length).cut (w.tape w.drawn (.mapNext L.length)) < L.length := by
      simp only [Question.cut]
      exact Nat.mod_lt _ (by omega)
    obtain ⟨e, he, hrun⟩ := fin _ (w.drewN 1) hi hr
    refine ⟨e, 1, he, ?_⟩
    rw [← hrun]
    unfold Instr.next
    simp only [Sem.run_bind, getObj_iter hr, Result.andThen_ok, MapKept.run_getObj_map hb, hall, Bool.false_eq_true, if_false, Sem.run_pure, left_ents, hL, hold, hnew, hne, Array.empty_append, Array.append_empty]
    rw [Array.size_map, hsz]
    have hforced : (Question.mapNext L.length).forced = false := by simp [Question.forced]; omega
    simp only [choose, Sem.run, hforced, Bool.false_eq_true, if_false, Result.andThen_ok]
    rfl
end
end Go.Proofs.Qxb6500302a
