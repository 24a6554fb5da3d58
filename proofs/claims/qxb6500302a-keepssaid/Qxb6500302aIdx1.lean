import Derived.Test.Qxb6500302aMap4
import Derived.Deep.RegionHeld3
import Derived.Deep.AppendLies
import Derived.Deep.DrawnRows
namespace Go.Proofs.Qxb6500302a
open Go.RowKit
set_option linter.unusedSimpArgs false
set_option linter.unusedVariables false
set_option linter.unusedSectionVars false

/-- What a block of the index belongs to. -/
abbrev K2 : Type := UInt8 × UInt8
abbrev K4 : Type := K2 × K2
abbrev Lab : Type := Nat × K4
abbrev Own : Type := Nat → Option Lab

def i8s (ids : List Nat) : List Value := ids.map (fun (i : Nat) => Value.int .i8 (i : Int))

/-- The slice v is the bucket of label l: it holds ids, in a row of its own. -/
def Bucket (w : World) (own : Own) (l : Lab) (v : Value) (ids : List Nat) : Prop :=
  w.ownsRow 0 32 1 v ids.length (i8s ids) ∧ ∀ g, v.ownBlock = some g → own g = some l

theorem Bucket.keep {S : Nat → Prop} {w w' : World} {own own' : Own} {l : Lab} {v : Value} {ids : List Nat} (h : Bucket w own l v ids) (hf : Fr S w w') (hS : ∀ g, own g = some l → ¬ S g) (hx : ∀ g, own g = some l → own' g = some l) :
    Bucket w' own' l v ids :=
  ⟨ownsRow_keep h.1 hf (fun k hk => hS k (h.2 k hk)), fun g hg => hx g (h.2 g hg)⟩

section
variable {K : Type} [DecidableEq K] {enc : K → Value}

/-- Block b is a map of buckets: at key k the bucket of label (lab k), as f says. -/
def BMap (enc : K → Value) (lab : K → Lab) (w : World) (own : Own) (b : Nat) (f : K → Option (List Nat)) : Prop :=
  ∃ (E : List (K × Value × Nat)) (clock : Nat), w.heap[b]? = some (.map (ents enc E) clock) ∧ Stamps E clock ∧ (E.map (·.1)).Nodup ∧
    ∀ k, (f k = none → getE k E = none) ∧ ∀ ids, f k = some ids → ∃ v, getE k E = some v ∧ Bucket w own (lab k) v ids

theorem BMap.keep {lab : K → Lab} {S : Nat → Prop} {w w' : World} {own own' : Own} {b : Nat} {f : K → Option (List Nat)} (h : BMap enc lab w own b f) (hf : Fr S w w') (hb : ¬ S b) (hS : ∀ g k, own g = some (lab k) → ¬ S g)
    (hx : ∀ g k, own g = some (lab k) → own' g = some (lab k)) : BMap enc lab w' own' b f := by
  obtain ⟨E, clock, h1, h2, h3, h4⟩ := h
  refine ⟨E, clock, hf.keep h1 hb, h2, h3, fun k => ⟨(h4 k).1, fun ids hids => ?_⟩⟩
  obtain ⟨v, hv, hbk⟩ := (h4 k).2 ids hids
  exact ⟨v, hv, hbk.keep hf (fun g hg => hS g k hg) (fun g hg => hx g k hg)⟩

/-- One key's bucket is another now. -/
theorem BMap.upd {lab : K → Lab} (hinj : ∀ k k', lab k = lab k' → k = k') {S : Nat → Prop} {w w' : World} {own own' : Own} {b : Nat} {f : K → Option (List Nat)} {E E' : List (K × Value × Nat)} {clock' : Nat}
    (h4 : ∀ k, (f k = none → getE k E = none) ∧ ∀ ids, f k = some ids → ∃ v, getE k E = some v ∧ Bucket w own (lab k) v ids)
    (k : K) (v' : Value) (ids' : List Nat) (hb' : w'.heap[b]? = some (.map (ents enc E') clock')) (hs : Stamps E' clock') (hn : (E'.map (·.1)).Nodup) (hE : ∀ k', getE k' E' = if k' = k then some v' else getE k' E)
    (hbk : Bucket w' own' (lab k) v' ids') (hf : Fr S w w') (hS : ∀ g k', k' ≠ k → own g = some (lab k') → ¬ S g) (hx : ∀ g l, own g = some l → own' g = some l) :
    BMap enc lab w' own' b (fun k' => if k' = k then some ids' else f k') := by
  refine ⟨E', clock', hb', hs, hn, fun k' => ?_⟩
  by_cases hk : k' = k
  · subst hk
    refine ⟨fun h => by simp at h, fun ids h => ?_⟩
    simp at h
    subst h
    exact ⟨v', by rw [hE]; simp, hbk⟩
  · simp only [hk, if_false]
    rw [hE, if_neg hk]
    refine ⟨(h4 k').1, fun ids hids => ?_⟩
    obtain ⟨v, hv, hbk'⟩ := (h4 k').2 ids hids
    exact ⟨v, hv, hbk'.keep hf (fun g hg => hS g k' hk hg) (fun g hg => hx g _ hg)⟩

theorem keys_setV' (k : K) (v : Value) (E : List (K × Value × Nat)) : (setV k v E).map (·.1) = E.map (·.1) := by
  have := congrArg (List.map Prod.fst) (keys_setV k v E)
  rw [List.map_map, List.map_map] at this
  exact this

theorem not_mem_of_getE {k : K} : ∀ {E : List (K × Value × Nat)}, getE k E = none → k ∉ E.map (·.1)
  | [], _ => by simp
  | e :: es, h => by
    simp only [getE] at h
    by_cases hk : k = e.1
    · rw [if_pos hk] at h; cases h
    · rw [if_neg hk] at h
      simp only [List.map_cons, List.mem_cons, not_or]
      exact ⟨hk, not_mem_of_getE h⟩

theorem nodup_snoc {k : K} {v : Value} {c : Nat} {E : List (K × Value × Nat)} (h : getE k E = none) (hn : (E.map (·.1)).Nodup) : ((E ++ [(k, v, c)]).map (·.1)).Nodup := by
  simp only [List.map_append, List.map_cons, List.map_nil]
  rw [List.nodup_append]
  refine ⟨hn, by simp, fun a ha b hb => ?_⟩
  simp at hb
  subst hb
  rintro rfl
  exact not_mem_of_getE h ha
end

/-- A grown bucket's block bears its label. -/
def relab (own : Own) (v : Value) (l : Lab) : Own := fun g => if v.ownBlock = some g then some l else own g
theorem relab_ext {own : Own} {v v' : Value} {l : Lab} {n H : Nat} (hv : ∀ g, v.ownBlock = some g → own g = some l) (hloc : v'.ownBlock = v.ownBlock ∨ v'.ownBlock = some H) (hH : n ≤ H) (hlt : ∀ g l, own g = some l → g < n) :
    ∀ g l', own g = some l' → relab own v' l g = some l' := by
  intro g l' hg
  unfold relab
  by_cases h : v'.ownBlock = some g
  · rw [if_pos h]
    rcases hloc with hl | hl
    · rw [hl] at h; rw [hv g h] at hg; exact hg
    · rw [hl] at h; cases h; have := hlt _ _ hg; omega
  · rw [if_neg h]; exact hg

theorem i8s_snoc (ids : List Nat) (i : Nat) : i8s (ids ++ [i]) = i8s ids ++ [.int .i8 (i : Int)] := by simp [i8s]
theorem i8s_length (ids : List Nat) : (i8s ids).length = ids.length := by simp [i8s]
theorem Try.info32 : (Try.prog.info? 32).map (fun i => (i.zero, i.size, i.bytes)) = some (some (.int .i8 0), 1, 1) := by kernel_rfl
end Go.Proofs.Qxb6500302a
