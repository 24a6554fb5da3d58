import Derived.Test.Qxb6500302aMap1
namespace Go.Proofs.Qxb6500302a
open Go.RowKit
set_option linter.unusedSimpArgs false
set_option linter.unusedVariables false

/-- What the laws below want of a map's type: its keys are written by 'enc'. -/
structure KeyT {K : Type} [DecidableEq K] (enc : K → Value) (mt kt : TypeId) : Prop where
  mu : Try.prog.underlying mt = some (.map kt 30)
  wide : (match Try.prog.underlying kt with | some (.array _ _) | some (.struct _) => true | _ => false) = true
  chk : ∀ e k w, (Instr.checkKey e 10000 kt (enc k)).run Try.prog w = .ok () w
  eq : ∀ k l w, (Op.equal kt (enc k) (enc l)).run Try.prog w = .ok (decide (k = l)) w
  bits : ∀ k, Instr.sameBits 10000 (enc k) (enc k) = true

theorem key2 : KeyT kv2 48 59 := ⟨Try.underlying48, by rw [Try.underlying59], check59, fun k l w => by
    rw [kv2, kv2, eq59]
    congr 1
    rw [Bool.eq_iff_iff]
    obtain ⟨a, b⟩ := k
    obtain ⟨c, d⟩ := l
    simp, fun k => by simp [kv2, kv, Instr.sameBits]⟩
theorem key4 : KeyT kv4 49 61 := ⟨Try.underlying49, by have : Try.prog.underlying 61 = some (.struct (Try.prog.fieldsOf 61)) := by kernel_rfl
                                                       rw [this], check61, eq61, fun k => by simp [kv4, Instr.sameBits]⟩

section
variable {K : Type} [DecidableEq K] {enc : K → Value} {mt kt : TypeId}

def ent (enc : K → Value) (e : K × Value × Nat) : MapEntry := ⟨enc e.1, e.2.1, e.2.2⟩
def ents (enc : K → Value) (E : List (K × Value × Nat)) : Array MapEntry := (E.map (ent enc)).toArray

def getE (k : K) : List (K × Value × Nat) → Option Value
  | [] => none
  | e :: es => if k = e.1 then some e.2.1 else getE k es
def findE (k : K) : List (K × Value × Nat) → Nat → Option (Nat × Value)
  | [], _ => none
  | e :: es, i => if k = e.1 then some (i, e.2.1) else findE k es (i + 1)
def setV (k : K) (v : Value) : List (K × Value × Nat) → List (K × Value × Nat)
  | [] => []
  | e :: es => if k = e.1 then (e.1, v, e.2.2) :: es else e :: setV k v es
def bornE (k : K) : List (K × Value × Nat) → Nat
  | [] => 0
  | e :: es => if k = e.1 then e.2.2 else bornE k es

theorem findE_none {k : K} : ∀ {E : List (K × Value × Nat)} {i : Nat}, getE k E = none → findE k E i = none
  | [], i, _ => rfl
  | e :: es, i, h => by
    simp only [getE] at h
    split at h
    · cases h
    · rename_i hne; simp only [findE, if_neg hne]; exact findE_none h
theorem findE_some {k : K} {v : Value} : ∀ {E : List (K × Value × Nat)} {i : Nat}, getE k E = some v → ∃ j, findE k E i = some (i + j, v) ∧ j < E.length ∧
    (∃ e, E[j]? = some e ∧ e.1 = k ∧ e.2.1 = v ∧ e.2.2 = bornE k E)
  | [], i, h => by cases h
  | e :: es, i, h => by
    simp only [getE] at h
    by_cases hk : k = e.1
    · rw [if_pos hk] at h
      simp at h
      exact ⟨0, by simp [findE, hk, h], by simp, ⟨e, rfl, hk.symm, h, by simp [bornE, hk]⟩⟩
    · rw [if_neg hk] at h
      obtain ⟨j, h1, h2, ⟨e', h3, h4, h5, h6⟩⟩ := findE_some (i := i + 1) h
      exact ⟨j + 1, by simp [findE, hk, h1]; omega, by simp; omega, ⟨e', by simpa using h3, h4, h5, by simp [bornE, hk, h6]⟩⟩

theorem run_findAsking (T : KeyT enc mt kt) (k : K) (w : World) : ∀ (E : List (K × Value × Nat)) (i : Nat), (Instr.findAsking kt (enc k) (E.map (ent enc)) i).run Try.prog w = .ok (findE k E i) w
  | [], i => by simp [Instr.findAsking, findE]
  | e :: es, i => by
    simp only [List.map_cons, Instr.findAsking, Sem.run_bind, ent, T.eq, Result.andThen_ok, findE]
    by_cases h : k = e.1
    · simp [h]
    · simp only [h, decide_false, Bool.false_eq_true, if_false]
      exact run_findAsking T k w es (i + 1)

set_option maxRecDepth 40000 in
theorem run_findKeyE (T : KeyT enc mt kt) (k : K) (E : List (K × Value × Nat)) (w : World) : (Instr.findKey kt (enc k) (ents enc E).toList).run Try.prog w = .ok (findE k E 0) w := by
  rw [run_findKey_eq w T.wide]
  exact run_findAsking T k w E 0

set_option maxRecDepth 40000 in
theorem run_lookupE (T : KeyT enc mt kt) {w : World} {b clock : Nat} {E : List (K × Value × Nat)} (h : w.heap[b]? = some (.map (ents enc E) clock)) (k : K) (c : Bool) :
    (Instr.lookup mt (.map (some b)) (enc k) c).run Try.prog w =
      .ok (if c then .tuple #[(getE k E).getD (.slice none 0 0), .bool (getE k E).isSome] else (getE k E).getD (.slice none 0 0)) w := by
  have hz : (zeroValue 30).run Try.prog w = .ok (.slice none 0 0) w := by kernel_rfl
  unfold Instr.lookup
  simp only [Sem.run_bind, run_underlying T.mu, Result.andThen_ok, MapKept.run_getObj_map h, Sem.run_pure, T.chk, run_findKeyE T]
  cases hg : getE k E with
  | none => rw [findE_none hg]; simp [hz]
  | some v =>
    obtain ⟨j, hj, _⟩ := findE_some (i := 0) hg
    rw [hj]; simp

theorem modify_ents {k : K} {v v' : Value} (enc : K → Value) : ∀ {E : List (K × Value × Nat)} {j : Nat}, findE k E 0 = some (j, v) → ((E.map (ent enc)).modify j fun e => { e with key := enc k, val := v' }) = (setV k v' E).map (ent enc)
  | [], j, h => by cases h
  | e :: es, j, h => by
    simp only [findE] at h
    by_cases hk : k = e.1
    · rw [if_pos hk] at h
      simp at h
      obtain ⟨rfl, rfl⟩ := h
      simp [setV, hk, ent, List.modify]
    · rw [if_neg hk] at h
      have hsh : ∀ (L : List (K × Value × Nat)) (i : Nat), findE k L (i + 1) = (findE k L i).map (fun p => (p.1 + 1, p.2)) := by
        intro L
        induction L with
        | nil => intro i; rfl
        | cons x L ih => intro i; simp only [findE]; split <;> simp [ih]
      rw [hsh] at h
      cases hf : findE k es 0 with
      | none => rw [hf] at h; cases h
      | some p =>
        obtain ⟨j', v1⟩ := p
        rw [hf] at h
        simp at h
        obtain ⟨rfl, rfl⟩ := h
        have := modify_ents (v' := v') enc hf
        simp [setV, hk, List.modify] at this ⊢
        exact this
end
end Go.Proofs.Qxb6500302a
