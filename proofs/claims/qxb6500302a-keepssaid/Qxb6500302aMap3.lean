import Derived.Test.Qxb6500302aMap2
namespace Go.Proofs.Qxb6500302a
open Go.RowKit
set_option linter.unusedSimpArgs false
set_option linter.unusedVariables false
set_option linter.unusedSectionVars false
set_option maxRecDepth 40000

section
variable {K : Type} [DecidableEq K] {enc : K → Value} {mt kt : TypeId}

theorem run_stays (T : KeyT enc mt kt) (k : K) (w : World) : (Instr.keyThatStays (enc k) (enc k)).run Try.prog w = .ok (enc k) w := by
  simp [Instr.keyThatStays, T.bits]

theorem ents_get (E : List (K × Value × Nat)) (j : Nat) : (ents enc E)[j]? = (E[j]?).map (ent enc) := by
  simp [ents]

theorem ents_key {E : List (K × Value × Nat)} {j : Nat} {e : K × Value × Nat} {k d : K} (h : E[j]? = some e) (hk : e.1 = k) : (((ents enc E)[j]?).map (·.key)).getD (enc d) = enc k := by
  rw [ents_get, h]; simp [ent, hk]
theorem ents_born {E : List (K × Value × Nat)} {j : Nat} {e : K × Value × Nat} (h : E[j]? = some e) : (((ents enc E)[j]?).map (·.born)).getD 0 = e.2.2 := by
  rw [ents_get, h]; simp [ent]

theorem modify_fix {α : Type} (f : α → α) : ∀ (L : List α) (j : Nat), (∀ x, L[j]? = some x → f x = x) → L.modify j f = L
  | [], j, h => by cases j <;> rfl
  | x :: L, 0, h => by simp [List.modify, h x rfl]
  | x :: L, j + 1, h => by
    have := modify_fix f L j (fun y hy => h y (by simpa using hy))
    simp [List.modify] at this ⊢
    exact this

theorem setV_same {k : K} {v : Value} : ∀ {E : List (K × Value × Nat)}, getE k E = some v → setV k v E = E
  | [], h => by cases h
  | e :: es, h => by
    simp only [getE] at h
    by_cases hk : k = e.1
    · rw [if_pos hk] at h; simp at h; subst h; simp [setV, hk]
    · rw [if_neg hk] at h; simp [setV, hk, setV_same h]

theorem run_updateE (T : KeyT enc mt kt) {w : World} {b clock : Nat} {E : List (K × Value × Nat)} (h : w.heap[b]? = some (.map (ents enc E) clock)) {k : K} {v0 : Value} (hk : getE k E = some v0) (v : Value) :
    (Instr.mapUpdate mt (.map (some b)) (enc k) v).run Try.prog w = .ok () (put w b (.map (ents enc (setV k v E)) clock)) := by
  obtain ⟨j, hj, hlt, e, he, hek, hev, heb⟩ := findE_some (i := 0) hk
  unfold Instr.mapUpdate
  simp only [Sem.run_bind, run_underlying T.mu, Result.andThen_ok, MapKept.run_getObj_map h, T.chk, run_findKeyE T, hj, Nat.zero_add]
  rw [ents_key he hek]
  simp only [run_stays T, Result.andThen_ok, MapKept.run_setObj_map _ h, put]
  congr 5
  have := modify_ents (v' := v) enc hj
  rw [Nat.zero_add] at this
  simp only [ents, List.modify_toArray]
  rw [this]

theorem run_updateE_new (T : KeyT enc mt kt) {w : World} {b clock : Nat} {E : List (K × Value × Nat)} (h : w.heap[b]? = some (.map (ents enc E) clock)) {k : K} (hk : getE k E = none) (v : Value) :
    (Instr.mapUpdate mt (.map (some b)) (enc k) v).run Try.prog w = .ok () (put w b (.map (ents enc (E ++ [(k, v, clock)])) (clock + 1))) := by
  unfold Instr.mapUpdate
  simp only [Sem.run_bind, run_underlying T.mu, Result.andThen_ok, MapKept.run_getObj_map h, T.chk, run_findKeyE T, findE_none hk]
  simp only [MapKept.run_setObj_map _ h, put]
  congr 5
  simp [ents, ent]

theorem run_entryE (T : KeyT enc mt kt) {w : World} {b clock : Nat} {E : List (K × Value × Nat)} (h : w.heap[b]? = some (.map (ents enc E) clock)) {k : K} {v0 : Value} (hk : getE k E = some v0) :
    (Instr.mapEntry mt (.map (some b)) (enc k)).run Try.prog w = .ok (.tuple #[v0, .int .i64 (bornE k E : Int)]) (put w b (.map (ents enc E) clock)) := by
  obtain ⟨j, hj, hlt, e, he, hek, hev, heb⟩ := findE_some (i := 0) hk
  unfold Instr.mapEntry
  simp only [Sem.run_bind, run_underlying T.mu, Result.andThen_ok, MapKept.run_getObj_map h, T.chk, run_findKeyE T, hj, Nat.zero_add]
  rw [ents_key he hek]
  simp only [run_stays T, Result.andThen_ok, MapKept.run_setObj_map _ h, Sem.run_pure, put]
  have h1 : (Option.map (fun x : MapEntry => (x.born : Int)) (ents enc E)[j]?).getD 0 = (bornE k E : Int) := by rw [ents_get, he]; simp [ent, heb]
  have h2 : ((ents enc E).modify j fun e => { key := enc k, val := e.val, born := e.born }) = ents enc E := by
    simp only [ents, List.modify_toArray]
    rw [modify_fix]
    intro x hx
    simp only [List.getElem?_map, he, Option.map_some, Option.some.injEq] at hx
    subst hx
    simp [ent, hek]
  rw [h1, h2]
  rfl

theorem run_entryE_new (T : KeyT enc mt kt) {w : World} {b clock : Nat} {E : List (K × Value × Nat)} (h : w.heap[b]? = some (.map (ents enc E) clock)) {k : K} (hk : getE k E = none) :
    (Instr.mapEntry mt (.map (some b)) (enc k)).run Try.prog w = .ok (.tuple #[.slice none 0 0, .int .i64 (clock : Int)]) (put w b (.map (ents enc (E ++ [(k, .slice none 0 0, clock)])) (clock + 1))) := by
  have hz : (zeroValue 30).run Try.prog w = .ok (.slice none 0 0) w := by kernel_rfl
  unfold Instr.mapEntry
  simp only [Sem.run_bind, run_underlying T.mu, Result.andThen_ok, MapKept.run_getObj_map h, T.chk, run_findKeyE T, findE_none hk, hz]
  simp only [MapKept.run_setObj_map _ h, put, Result.andThen_ok, Sem.run_pure]
  have h1 : (ents enc E).push { key := enc k, val := .slice none 0 0, born := clock } = ents enc (E ++ [(k, .slice none 0 0, clock)]) := by simp [ents, ent]
  rw [h1]
  rfl

/-- The stamps of a map's entries: no two alike, all below the clock. -/
def Stamps (E : List (K × Value × Nat)) (clock : Nat) : Prop := (E.map (·.2.2)).Nodup ∧ ∀ e ∈ E, e.2.2 < clock

theorem run_storeE (T : KeyT enc mt kt) {w : World} {b clock : Nat} {E : List (K × Value × Nat)} (h : w.heap[b]? = some (.map (ents enc E) clock)) (hs : Stamps E clock) {k : K} {v0 : Value} (hk : getE k E = some v0) (v : Value) :
    (Instr.entryStore mt (.map (some b)) (.int .i64 (bornE k E : Int)) v).run Try.prog w = .ok () (put w b (.map (ents enc (setV k v E)) clock)) := by
  have key : ∀ (L : List (K × Value × Nat)), (L.map (·.2.2)).Nodup → (∃ v0, getE k L = some v0) → ∃ j, List.findIdx? (fun e : MapEntry => ((e.born : Int) == (bornE k L : Int))) (L.map (ent enc)) = some j ∧
      (L.map (ent enc)).modify j (fun e => { e with val := v }) = (setV k v L).map (ent enc) := by
    intro L
    induction L with
    | nil => rintro _ ⟨v0, h⟩; cases h
    | cons e L ih =>
      rintro hn ⟨v0, hg⟩
      simp only [getE] at hg
      by_cases hk : k = e.1
      · refine ⟨0, ?_, ?_⟩
        · simp [bornE, hk, ent, List.findIdx?_cons]
        · simp [setV, hk, ent, List.modify]
      · rw [if_neg hk] at hg
        simp only [List.map_cons, List.nodup_cons] at hn
        obtain ⟨j, h1, h2⟩ := ih hn.2 ⟨v0, hg⟩
        obtain ⟨_, _, _, e', he', _, _, hb'⟩ := findE_some (i := 0) hg
        have hne : ((e.2.2 : Int) == (bornE k L : Int)) = false := by
          simp only [beq_eq_false_iff_ne, ne_eq, Int.natCast_inj]
          intro ee
          apply hn.1
          rw [ee, ← hb']
          exact List.mem_map.2 ⟨e', List.mem_of_getElem? he', rfl⟩
        refine ⟨j + 1, ?_, ?_⟩
        · simp only [bornE, if_neg hk, List.map_cons, List.findIdx?_cons]
          rw [show ((ent enc e).born : Int) = (e.2.2 : Int) from rfl, hne]
          simp [h1]
        · simp only [setV, if_neg hk, List.map_cons, List.modify_succ_cons]
          rw [h2]
  obtain ⟨j, h1, h2⟩ := key E hs.1 ⟨v0, hk⟩
  unfold Instr.entryStore
  have h3 : (ents enc E).findIdx? (fun e => ((e.born : Int) == (bornE k E : Int))) = some j := by
    simpa [ents] using h1
  simp only [Sem.run_bind, MapKept.run_getObj_map h, Result.andThen_ok, asInt, asIntOf, Sem.run_pure, h3, MapKept.run_setObj_map _ h, put]
  congr 5
  simp only [ents, List.modify_toArray]
  rw [h2]
end
end Go.Proofs.Qxb6500302a
