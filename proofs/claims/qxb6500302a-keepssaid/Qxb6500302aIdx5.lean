import Derived.Test.Qxb6500302aIdx4
namespace Go.Proofs.Qxb6500302a
open Go.RowKit
set_option linter.unusedSimpArgs false
set_option linter.unusedVariables false
set_option linter.unusedSectionVars false

section
variable {K : Type} [DecidableEq K] {enc : K → Value} {mt kt : TypeId}

theorem getE_mem {k : K} {v : Value} : ∀ {E : List (K × Value × Nat)}, getE k E = some v → ∃ s, (k, v, s) ∈ E
  | [], h => by cases h
  | e :: es, h => by
    simp only [getE] at h
    by_cases hk : k = e.1
    · rw [if_pos hk] at h
      refine ⟨e.2.2, ?_⟩
      have : (k, v, e.2.2) = e := by rw [hk, ← Option.some.inj h]
      rw [this]; exact List.mem_cons_self
    · rw [if_neg hk] at h
      obtain ⟨s, hs⟩ := getE_mem h
      exact ⟨s, List.mem_cons_of_mem _ hs⟩

theorem getE_of_mem : ∀ {E : List (K × Value × Nat)}, (E.map (·.1)).Nodup → ∀ e ∈ E, getE e.1 E = some e.2.1
  | [], _, e, he => by cases he
  | x :: E, hn, e, he => by
    simp only [List.map_cons, List.nodup_cons] at hn
    simp only [getE]
    rcases List.mem_cons.1 he with rfl | he
    · simp
    · have hne : ¬ e.1 = x.1 := fun h => hn.1 (h ▸ List.mem_map.2 ⟨e, he, rfl⟩)
      rw [if_neg hne]
      exact getE_of_mem hn.2 e he

/-- The keys with their stamps: no store over an old key turns them. -/
def stampsE (E : List (K × Value × Nat)) : List (K × Nat) := E.map (fun e => (e.1, e.2.2))
def vis (S : List (K × Nat)) (seen : Array Nat) (k : K) : Bool := S.any (fun e => decide (e.1 = k) && seen.contains e.2)
def leftS (S : List (K × Nat)) (seen : Array Nat) : Nat := (S.filter (fun e => !seen.contains e.2)).length

theorem leftE_stamps (E : List (K × Value × Nat)) (seen : Array Nat) : (leftE E seen).length = leftS (stampsE E) seen := by
  unfold leftE leftS stampsE
  induction E with
  | nil => rfl
  | cons e E ih =>
    simp only [List.map_cons, List.filter_cons]
    split
    · simp only [List.length_cons, ih]
    · exact ih

theorem leftS_push {seen : Array Nat} {k : K} {s : Nat} : ∀ {S : List (K × Nat)}, (k, s) ∈ S → seen.contains s = false → leftS S (seen.push s) < leftS S seen := by
  have mono : ∀ S : List (K × Nat), leftS S (seen.push s) ≤ leftS S seen := by
    intro S
    unfold leftS
    induction S with
    | nil => simp
    | cons e S ih =>
      simp only [List.filter_cons]
      by_cases h1 : seen.contains e.2 = true
      · have h2 : (seen.push s).contains e.2 = true := by simp only [Array.contains_iff_mem] at h1 ⊢; exact Array.mem_push.2 (.inl h1)
        simp only [h1, h2, Bool.not_true, Bool.false_eq_true, if_false]; exact ih
      · simp only [Bool.not_eq_true] at h1
        rw [h1]
        split
        · simp only [Bool.not_false, if_true, List.length_cons]; omega
        · simp only [Bool.not_false, if_true, List.length_cons]; omega
  intro S hm hs
  induction S with
  | nil => cases hm
  | cons e S ih =>
    have hpush : (seen.push s).contains s = true := by simp
    rcases List.mem_cons.1 hm with rfl | hm
    · have := mono S
      unfold leftS at this ⊢
      simp only [List.filter_cons, hs, hpush, Bool.not_true, Bool.false_eq_true, if_false, Bool.not_false, if_true, List.length_cons]
      omega
    · have h3 := ih hm
      unfold leftS at h3 ⊢
      simp only [List.filter_cons]
      by_cases h1 : seen.contains e.2 = true
      · have h2 : (seen.push s).contains e.2 = true := by simp only [Array.contains_iff_mem] at h1 ⊢; exact Array.mem_push.2 (.inl h1)
        simp only [h1, h2, Bool.not_true, Bool.false_eq_true, if_false]; exact h3
      · simp only [Bool.not_eq_true] at h1
        rw [h1]
        split <;> simp only [Bool.not_false, if_true, List.length_cons] <;> omega

theorem vis_push {S : List (K × Nat)} (hk : (S.map (·.1)).Nodup) (hs : (S.map (·.2)).Nodup) {seen : Array Nat} {k : K} {s : Nat} (hm : (k, s) ∈ S) (k' : K) :
    vis S (seen.push s) k' = (vis S seen k' || decide (k' = k)) := by
  unfold vis
  rw [Bool.eq_iff_iff]
  simp only [List.any_eq_true, Bool.and_eq_true, decide_eq_true_eq, Bool.or_eq_true, Array.contains_iff_mem, Array.mem_push]
  constructor
  · rintro ⟨e, he, rfl, h | h⟩
    · exact .inl ⟨e, he, rfl, h⟩
    · right
      -- stamps are unique
      have : e = (k, s) := by
        clear hk
        induction S with
        | nil => cases hm
        | cons x S ih =>
          simp only [List.map_cons, List.nodup_cons] at hs
          rcases List.mem_cons.1 he with rfl | he'
          · rcases List.mem_cons.1 hm with hm' | hm'
            · exact hm'.symm
            · exact absurd (List.mem_map.2 ⟨(k, s), hm', h.symm⟩) hs.1
          · rcases List.mem_cons.1 hm with hm' | hm'
            · exact absurd (List.mem_map.2 ⟨e, he', by rw [← hm']; exact h⟩) hs.1
            · exact ih hs.2 hm' he'
      rw [this]
  · rintro (⟨e, he, rfl, h⟩ | rfl)
    · exact ⟨e, he, rfl, .inl h⟩
    · exact ⟨_, hm, rfl, .inr rfl⟩

theorem vis_not {S : List (K × Nat)} (hk : (S.map (·.1)).Nodup) {seen : Array Nat} {k : K} {s : Nat} (hm : (k, s) ∈ S) (hs : seen.contains s = false) : vis S seen k = false := by
  unfold vis
  rw [List.any_eq_false]
  intro e he
  simp only [Bool.and_eq_true, decide_eq_true_eq, not_and, Bool.not_eq_true]
  intro h
  have : e = (k, s) := by
    induction S with
    | nil => cases hm
    | cons x S ih =>
      simp only [List.map_cons, List.nodup_cons] at hk
      rcases List.mem_cons.1 he with rfl | he'
      · rcases List.mem_cons.1 hm with hm' | hm'
        · exact hm'.symm
        · exact absurd (List.mem_map.2 ⟨(k, s), hm', h.symm⟩) hk.1
      · rcases List.mem_cons.1 hm with hm' | hm'
        · exact absurd (List.mem_map.2 ⟨e, he', by rw [← hm']; exact h⟩) hk.1
        · exact ih hk.2 hm' he'
  rw [this]; exact hs

/-- 'BMap' with its entries named. -/
def BMapE (enc : K → Value) (lab : K → Lab) (w : World) (own : Own) (b : Nat) (f : K → Option (List Nat)) (E : List (K × Value × Nat)) (clock : Nat) : Prop :=
  w.heap[b]? = some (.map (ents enc E) clock) ∧ Stamps E clock ∧ (E.map (·.1)).Nodup ∧
    ∀ k, (f k = none → getE k E = none) ∧ ∀ ids, f k = some ids → ∃ v, getE k E = some v ∧ Bucket w own (lab k) v ids
theorem BMapE.bm {lab : K → Lab} {w : World} {own : Own} {b : Nat} {f : K → Option (List Nat)} {E : List (K × Value × Nat)} {clock : Nat} (h : BMapE enc lab w own b f E clock) : BMap enc lab w own b f := ⟨E, clock, h⟩
theorem BMapE.keep {lab : K → Lab} {S : Nat → Prop} {w w' : World} {own own' : Own} {b : Nat} {f : K → Option (List Nat)} {E : List (K × Value × Nat)} {clock : Nat} (h : BMapE enc lab w own b f E clock) (hf : Fr S w w') (hb : ¬ S b) (hS : ∀ g k, own g = some (lab k) → ¬ S g)
    (hx : ∀ g k, own g = some (lab k) → own' g = some (lab k)) : BMapE enc lab w' own' b f E clock := by
  obtain ⟨h1, h2, h3, h4⟩ := h
  refine ⟨hf.keep h1 hb, h2, h3, fun k => ⟨(h4 k).1, fun ids hids => ?_⟩⟩
  obtain ⟨v, hv, hbk⟩ := (h4 k).2 ids hids
  exact ⟨v, hv, hbk.keep hf (fun g hg => hS g k hg) (fun g hg => hx g k hg)⟩

theorem stamps_keys {E : List (K × Value × Nat)} (h : (E.map (·.1)).Nodup) : ((stampsE E).map (·.1)).Nodup := by
  have : (stampsE E).map (·.1) = E.map (·.1) := by unfold stampsE; rw [List.map_map]; rfl
  rw [this]; exact h
theorem stamps_snd {E : List (K × Value × Nat)} {clock : Nat} (h : Stamps E clock) : ((stampsE E).map (·.2)).Nodup := by
  have : (stampsE E).map (·.2) = E.map (·.2.2) := by unfold stampsE; rw [List.map_map]; rfl
  rw [this]; exact h.1

theorem find_born : ∀ {E : List (K × Value × Nat)}, (E.map (·.2.2)).Nodup → ∀ e ∈ E, (E.map (ent enc)).find? (fun x => x.born == e.2.2) = some (ent enc e)
  | [], _, e, he => by cases he
  | x :: E, hn, e, he => by
    simp only [List.map_cons, List.nodup_cons] at hn
    simp only [List.map_cons, List.find?_cons]
    rcases List.mem_cons.1 he with rfl | he
    · simp [ent]
    · have hne : ¬ x.2.2 = e.2.2 := fun h => hn.1 (h ▸ List.mem_map.2 ⟨e, he, rfl⟩)
      have : ((ent enc x).born == e.2.2) = false := by simp [ent, hne]
      rw [this]
      exact find_born hn.2 e he

theorem run_entryIt {w : World} {b r clock : Nat} {E : List (K × Value × Nat)} {seen : Array Nat} {e : K × Value × Nat} (hr : w.heap[r]? = some (.mapIter (some b) clock (seen.push e.2.2) clock)) (hb : w.heap[b]? = some (.map (ents enc E) clock)) (hs : Stamps E clock) (he : e ∈ E) :
    (Instr.entry (.pointer (some ⟨r, 0, none⟩))).run Try.prog w = .ok (.tuple #[enc e.1, e.2.1]) w := by
  have hfind : (ents enc E).find? (fun x => x.born == e.2.2) = some (ent enc e) := by
    unfold ents
    rw [List.find?_toArray]
    exact find_born hs.1 e he
  unfold Instr.entry
  simp only [Sem.run_bind, getObj_iter hr, Result.andThen_ok, MapKept.run_getObj_map hb, Array.back?_push, bne_self_eq_false, Bool.false_eq_true, if_false, Sem.run_pure, hfind]
  rfl

/-- A step of the range. -/
theorem iter_step {lab : K → Lab} {u : World} {own : Own} {b r : Nat} {f : K → Option (List Nat)} {E : List (K × Value × Nat)} {clock : Nat} {seen : Array Nat} (hB : BMapE enc lab u own b f E clock) (hr : u.heap[r]? = some (.mapIter (some b) clock seen clock)) (hrb : r ≠ b)
    (hl : leftS (stampsE E) seen ≠ 0) (ty : TypeId) :
    ∃ (k : K) (bs : Option Addr) (cap : Nat) (ids : List Nat) (s n : Nat),
      (Instr.next (.pointer (some ⟨r, 0, none⟩)) false ty).run Try.prog u = .ok (.tuple #[.bool true, enc k, .slice bs ids.length cap]) (put (u.drewN n) r (.mapIter (some b) clock (seen.push s) clock)) ∧
      (Instr.entry (.pointer (some ⟨r, 0, none⟩))).run Try.prog (put (u.drewN n) r (.mapIter (some b) clock (seen.push s) clock)) = .ok (.tuple #[enc k, .slice bs ids.length cap]) (put (u.drewN n) r (.mapIter (some b) clock (seen.push s) clock)) ∧
      f k = some ids ∧ Bucket u own (lab k) (.slice bs ids.length cap) ids ∧ getE k E = some (.slice bs ids.length cap) ∧ vis (stampsE E) seen k = false ∧ (∀ k', vis (stampsE E) (seen.push s) k' = (vis (stampsE E) seen k' || decide (k' = k))) ∧
      leftS (stampsE E) (seen.push s) < leftS (stampsE E) seen := by
  obtain ⟨h1, h2, h3, h4⟩ := hB
  have hne : leftE E seen ≠ [] := fun e => hl (by rw [← leftE_stamps, e]; rfl)
  obtain ⟨e, n, he, hrun⟩ := run_next_some hr h1 h2 hne ty
  obtain ⟨hmem, hseen⟩ := List.mem_filter.1 he
  have hseen' : seen.contains e.2.2 = false := by simpa using hseen
  have hms : (e.1, e.2.2) ∈ stampsE E := List.mem_map.2 ⟨e, hmem, rfl⟩
  have hget := getE_of_mem h3 e hmem
  cases hf : f e.1 with
  | none => rw [(h4 e.1).1 hf] at hget; cases hget
  | some ids =>
    obtain ⟨v, hv, hbk⟩ := (h4 e.1).2 ids hf
    rw [hget] at hv
    cases hv
    obtain ⟨bs, cap, hsl⟩ := owns_slice hbk.1
    have hr2 : (put (u.drewN n) r (.mapIter (some b) clock (seen.push e.2.2) clock)).heap[r]? = some (.mapIter (some b) clock (seen.push e.2.2) clock) := heap_put_same (w := u.drewN n) _ hr
    have hb2 : (put (u.drewN n) r (.mapIter (some b) clock (seen.push e.2.2) clock)).heap[b]? = some (.map (ents enc E) clock) := by rw [heap_put_other _ hrb.symm]; exact h1
    have hen := run_entryIt (seen := seen) hr2 hb2 h2 hmem
    rw [hsl] at hrun hen hbk hget
    exact ⟨e.1, bs, cap, ids, e.2.2, n, hrun, hen, hf, hbk, hget, vis_not (stamps_keys h3) hms hseen', fun k' => vis_push (stamps_keys h3) (stamps_snd h2) hms k', leftS_push hms hseen'⟩

theorem iter_end {lab : K → Lab} {u : World} {own : Own} {b r : Nat} {f : K → Option (List Nat)} {E : List (K × Value × Nat)} {clock : Nat} {seen : Array Nat} (hB : BMapE enc lab u own b f E clock) (hr : u.heap[r]? = some (.mapIter (some b) clock seen clock))
    (hl : leftS (stampsE E) seen = 0) (ty : TypeId) :
    (Instr.next (.pointer (some ⟨r, 0, none⟩)) false ty).run Try.prog u = .ok (.tuple #[.bool false]) u ∧ ∀ k ids, f k = some ids → vis (stampsE E) seen k = true := by
  obtain ⟨h1, h2, h3, h4⟩ := hB
  have hnil : leftE E seen = [] := List.length_eq_zero_iff.1 (by rw [leftE_stamps]; exact hl)
  refine ⟨run_next_end hr h1 h2 hnil ty, fun k ids hf => ?_⟩
  obtain ⟨v, hv, _⟩ := (h4 k).2 ids hf
  obtain ⟨s, hm⟩ := getE_mem hv
  unfold vis
  rw [List.any_eq_true]
  refine ⟨(k, s), List.mem_map.2 ⟨_, hm, rfl⟩, ?_⟩
  simp only [decide_true, Bool.true_and]
  cases hc : seen.contains s with
  | true => rfl
  | false =>
    have : (k, v, s) ∈ leftE E seen := List.mem_filter.2 ⟨hm, by show (!seen.contains s) = true; rw [hc]; rfl⟩
    rw [hnil] at this; cases this

/-- 'm[k] = append(b, id)', b the bucket of k: the entries named. -/
theorem append_updateE (T : KeyT enc mt kt) {lab : K → Lab} (hinj : ∀ k k', lab k = lab k' → k = k') {W W1 : World} {own : Own} {b : Nat} {f : K → Option (List Nat)} {E : List (K × Value × Nat)} {clock : Nat} (h : BMapE enc lab W own b f E clock) (k : K) (id : Nat)
    {lb : Lab} (hob : own b = some lb) (hlb : ∀ k, lab k ≠ lb) (hlt : ∀ g l, own g = some l → g < W.heap.size) {bv : Value} {ids : List Nat} (hbk : Bucket W own (lab k) bv ids) (hE : getE k E = some bv) (hW1 : Fr No W W1) :
    W1.ownsRow 0 32 1 bv ids.length (i8s ids) ∧
    ∀ (g cap' H : Nat) (w2 : World), w2.ownsRow 0 32 1 (.slice (some ⟨g, 0, none⟩) (ids.length + 1) cap') (ids.length + 1) (i8s ids ++ [.int .i8 (id : Int)]) →
        W1.grownBy w2 bv.ownBlock → (bv.ownBlock = some g ∨ g = H) → W.heap.size ≤ H → g < w2.heap.size →
        ∃ (own' : Own) (w3 : World) (E' : List (K × Value × Nat)), (Instr.mapUpdate mt (.map (some b)) (enc k) (.slice (some ⟨g, 0, none⟩) (ids.length + 1) cap')).run Try.prog w2 = .ok () w3 ∧
          BMapE enc lab w3 own' b (fun k' => if k' = k then some (ids ++ [id]) else f k') E' clock ∧ stampsE E' = stampsE E ∧ Fr (fun x => x = b ∨ own x = some (lab k)) W w2 ∧ Fr (fun x => x = b ∨ own x = some (lab k)) W w3 ∧ OwnExt own own' W.heap.size (lab k) w3.heap.size := by
  refine ⟨ownsRow_keep hbk.1 hW1 (fun _ _ h => h), ?_⟩
  intro g cap' H w2 hown2 hgrow hat hH hlt2
  obtain ⟨hb, hst, hnd, h4⟩ := h
  have hbl := lt_of_heap hb
  have hnob : ∀ g, bv.ownBlock = some g → g ≠ b := fun g hg e => by
    subst e; have := hbk.2 g hg; rw [hob] at this; exact hlb k (Option.some.inj this).symm
  have hb2 := heap_grown hgrow (hW1.keep hb (fun h => h)) (fun e => hnob _ e rfl)
  have hfr2 : Fr (fun x => x = b ∨ own x = some (lab k)) W w2 := (hW1.mono (S' := fun x => x = b ∨ own x = some (lab k)) (fun _ _ h => h.elim)).grown hgrow (fun g hg _ => .inr (hbk.2 g hg))
  have hgb : g ≠ b := by
    rcases hat with h1 | h1
    · exact hnob g h1
    · omega
  have hx : ∀ g' l', own g' = some l' → relab own (.slice (some ⟨g, 0, none⟩) (ids.length + 1) cap') (lab k) g' = some l' :=
    relab_ext (v := bv) (n := W.heap.size) (H := H) hbk.2 (hat.elim (fun h => .inl h.symm) (fun h => .inr (by rw [h]; rfl))) hH hlt
  have hext : ∀ n', g < n' → ∀ g' l', relab own (.slice (some ⟨g, 0, none⟩) (ids.length + 1) cap') (lab k) g' = some l' → own g' = some l' ∨ (W.heap.size ≤ g' ∧ g' < n' ∧ l' = lab k) := by
    intro n' hn' g' l' hg'
    unfold relab at hg'
    by_cases hv : (Value.slice (some ⟨g, 0, none⟩) (ids.length + 1) cap').ownBlock = some g'
    · rw [if_pos hv] at hg'
      have hg2 : g = g' := by simpa [Value.ownBlock] using hv
      subst hg2
      rcases hat with h1 | h1
      · exact .inl (by rw [hbk.2 g h1]; exact hg')
      · exact .inr ⟨by omega, hn', (Option.some.inj hg').symm⟩
    · rw [if_neg hv] at hg'; exact .inl hg'
  have hbk3 : ∀ o : Obj, Bucket (put w2 b o) (relab own (.slice (some ⟨g, 0, none⟩) (ids.length + 1) cap') (lab k)) (lab k) (.slice (some ⟨g, 0, none⟩) (ids.length + 1) cap') (ids ++ [id]) := by
    intro o
    refine ⟨?_, fun g' hg' => by unfold relab; rw [if_pos hg']⟩
    have := ownsRow_keep (S := fun x => x = b) hown2 (Fr.put (S := fun x => x = b) (Fr.refl _ w2) (fun _ => rfl) o) (fun g' hg' e => hgb (by cases hg'; exact e))
    rw [i8s_snoc]
    simpa using this
  have hS : ∀ g' k', k' ≠ k → own g' = some (lab k') → ¬ (g' = b ∨ own g' = some (lab k)) := fun g' k' hk' hg' hs => by
    rcases hs with rfl | hs
    · rw [hob] at hg'; exact hlb k' (Option.some.inj hg').symm
    · rw [hg'] at hs; exact hk' (hinj _ _ (Option.some.inj hs))
  have hfr3 := hfr2.put (b := b) (fun _ => .inl rfl) (.map (ents enc (setV k (.slice (some ⟨g, 0, none⟩) (ids.length + 1) cap') E)) clock)
  refine ⟨_, _, setV k (.slice (some ⟨g, 0, none⟩) (ids.length + 1) cap') E, run_updateE T hb2 hE _, ⟨heap_put_same _ hb2, hst.setV k _, by rw [keys_setV']; exact hnd, fun k' => ?_⟩, keys_setV _ _ _, hfr2, hfr3, hx, hext _ (by rw [size_put]; exact hlt2)⟩
  rw [getE_setV, hE]
  by_cases hk : k' = k
  · subst hk
    simp only [if_true, Option.map_some]
    refine ⟨fun h => (Option.some_ne_none _ h).elim, fun ids' h => ?_⟩
    have h' := Option.some.inj h
    subst h'
    exact ⟨_, rfl, hbk3 _⟩
  · simp only [if_neg hk]
    refine ⟨(h4 k').1, fun ids' hids' => ?_⟩
    obtain ⟨v, hv, hbk'⟩ := (h4 k').2 ids' hids'
    exact ⟨v, hv, hbk'.keep hfr3 (fun g hg => hS g k' hk hg) (fun g hg => hx g _ hg)⟩
end
end Go.Proofs.Qxb6500302a
