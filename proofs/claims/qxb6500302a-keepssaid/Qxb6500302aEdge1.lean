import Derived.Test.Qxb6500302aStore2
namespace Go.Proofs.Qxb6500302a
open Go.RowKit
set_option linter.unusedSimpArgs false
set_option linter.unusedVariables false
attribute [local go_sem ↓] Go.wp_at_zero Go.wp_at_succ

def own0 (n : Nat) : Own := fun k => if k = n then some (1, z4) else if k = n + 1 then some (2, z4) else if k = n + 2 then some (3, z4) else if k = n + 3 then some (0, z4) else none
theorem own0_some {n k : Nat} {l : Lab} (h : own0 n k = some l) : n ≤ k ∧ k ≤ n + 3 ∧ (l.1 = 0 ∨ l.1 = 1 ∨ l.1 = 2 ∨ l.1 = 3) := by
  unfold own0 at h
  repeat' split at h
  all_goals first | (cases h; refine ⟨by omega, by omega, ?_⟩; simp) | cases h

theorem empty_map {enc : K2 → Value} {lab : K2 → Lab} {w : World} {own : Own} {b : Nat} (h : w.heap[b]? = some (.map #[] 0)) : BMap enc lab w own b (fun _ => none) :=
  ⟨[], 0, by rw [h]; rfl, Stamps.nil 0, by simp, fun k => ⟨fun _ => rfl, fun ids h => by cases h⟩⟩
theorem empty_map4 {enc : K4 → Value} {lab : K4 → Lab} {w : World} {own : Own} {b : Nat} (h : w.heap[b]? = some (.map #[] 0)) : BMap enc lab w own b (fun _ => none) :=
  ⟨[], 0, by rw [h]; rfl, Stamps.nil 0, by simp, fun k => ⟨fun _ => rfl, fun ids h => by cases h⟩⟩

def NewPost (w : World) (e : Ending) (w' : World) : Prop :=
  ∃ own p, e = .returned (.pointer (some ⟨p, 0, none⟩)) ∧ ProgAt w' own No p [] ∧ Fr No w w' ∧ ∀ k, Foot own No k → w.heap.size ≤ k

theorem new_any {w : World} : Calls Try.prog 10 #[] w (NewPost w) := by
  have hmm := @run_makeMap Try.prog
  go_enter Try.func10, Try.ntmps10
  go_wp2_with fail
  go_ret
  have h0 : (((w.alloc (.map #[] 0)).alloc (.map #[] 0)).alloc (.map #[] 0)).heap[w.heap.size]? = some (.map #[] 0) := heap_alloc_keep (heap_alloc_keep (heap_alloc_same _ _))
  have h1 : (((w.alloc (.map #[] 0)).alloc (.map #[] 0)).alloc (.map #[] 0)).heap[w.heap.size + 1]? = some (.map #[] 0) := heap_alloc_keep (by have := heap_alloc_same (w.alloc (.map #[] 0)) (.map #[] 0); simpa using this)
  have h2 : (((w.alloc (.map #[] 0)).alloc (.map #[] 0)).alloc (.map #[] 0)).heap[w.heap.size + 1 + 1]? = some (.map #[] 0) := by have := heap_alloc_same ((w.alloc (.map #[] 0)).alloc (.map #[] 0)) (.map #[] 0); simpa using this
  have hs : (((w.alloc (.map #[] 0)).alloc (.map #[] 0)).alloc (.map #[] 0)).heap.size = w.heap.size + 3 := by simp
  have hf : Fr No w (((w.alloc (.map #[] 0)).alloc (.map #[] 0)).alloc (.map #[] 0)) := (((Fr.refl _ _).alloc _).alloc _).alloc _
  generalize (((w.alloc (.map #[] 0)).alloc (.map #[] 0)).alloc (.map #[] 0)) = W at *
  have eA : fAll [] = fun _ => none := by funext k; simp [fAll, idsF, optL]
  have eO : fOpen [] = fun _ => none := by funext k; simp [fOpen, idsF, optL]
  have eK : fKey [] = fun _ => none := by funext k; simp [fKey]
  have hI : ∀ o, Idx (W.alloc o) (own0 w.heap.size) w.heap.size (w.heap.size + 1) (w.heap.size + 1 + 1) (fAll []) (fOpen []) (fKey []) := by
    intro o
    rw [eA, eO, eK]
    refine ⟨by simp [own0], by simp [own0], by unfold own0; rw [if_neg (by omega), if_neg (by omega), if_pos (by omega)], empty_map (heap_alloc_keep h0), empty_map (heap_alloc_keep h1), empty_map4 (heap_alloc_keep h2), fun g l hg => by have := own0_some hg; simp; omega⟩
  have e3 : own0 w.heap.size (w.heap.size + 1 + 1 + 1) = some (0, z4) := by
    unfold own0
    rw [if_neg (by omega), if_neg (by omega), if_neg (by omega), if_pos (by omega)]
  refine ⟨own0 w.heap.size, _, rfl, ⟨⟨w.heap.size, w.heap.size + 1, w.heap.size + 1 + 1, _, [], ?_, World.ownsRow_nil _ _ _ _, fun g hg => ?_, hI _, fun i x t hx _ => by simp at hx⟩,
    e3, fun k hk => hk.elim, fun k hk => hk.elim, by simp, fun t ht => by cases ht⟩, hf.alloc _, ?_⟩
  · have := heap_alloc_same W (.cells #[.slice none 0 0, .map (some w.heap.size), .map (some (w.heap.size + 1)), .map (some (w.heap.size + 1 + 1))] 52)
    rw [hs] at this
    exact this
  · simp [Value.ownBlock] at hg
  · rintro k (hk | hk)
    · cases e : own0 w.heap.size k with
      | none => exact absurd e hk
      | some l => exact (own0_some e).1
    · exact hk.elim


/-- The two bytes of a string of length two. -/
def two (s : ByteArray) (h : s.size = 2) : K2 := (s[0]'(by omega), s[1]'(by omega))

set_option maxRecDepth 40000 in
theorem bucket_any {w : World} {own : Own} {D : Nat → Prop} {p : Nat} {cs : List Tm} {s1 s2 : ByteArray} (h1s : s1.size = 2) (h2s : s2.size = 2) (h : ProgAt w own D p cs) :
    Calls Try.prog 12 #[.pointer (some ⟨p, 0, none⟩), .string s1, .string s2] w fun e w' =>
      ∃ bs cap, e = .returned (.slice bs ((fKey cs (two s1 h1s, two s2 h2s)).getD []).length cap) ∧ Bucket w' own (labK (two s1 h1s, two s2 h2s)) (.slice bs ((fKey cs (two s1 h1s, two s2 h2s)).getD []).length cap) ((fKey cs (two s1 h1s, two s2 h2s)).getD []) ∧ Fr No w w' := by
  obtain ⟨ba, bo, bk, sl, xs, h1, h2, h3, h4, h5⟩ := h.main
  obtain ⟨bs, cap, _, L, hbk⟩ := look_any key4 h4.mK (two s1 h1s, two s2 h2s)
  have cp : w.cell? ⟨p, 3, none⟩ = some (.map (some bk)) := cell_of 3 h1 rfl
  have L' := fun n => L (w.drewN n) rfl
  unfold two at L'
  simp only [kv4_eq] at L'
  have e1 : (((s1.size : Int)) != 2) = false := by rw [h1s]; rfl
  have e2 : (((s2.size : Int)) != 2) = false := by rw [h2s]; rfl
  have i0 : (0 : Int) < (s1.size : Int) := by omega
  have i1 : (1 : Int) < (s1.size : Int) := by omega
  have i2 : (0 : Int) < (s2.size : Int) := by omega
  have i3 : (1 : Int) < (s2.size : Int) := by omega
  go_enter Try.func12, Try.ntmps12
  go_wp2_with fail
  go_quiet (fail)
  go_wp2_with fail
  go_ret
  exact ⟨bs, cap, rfl, hbk.keep ((Fr.refl No w).drewN _) (fun _ _ h => h) (fun _ h => h), (Fr.refl No w).drewN _⟩
end Go.Proofs.Qxb6500302a
