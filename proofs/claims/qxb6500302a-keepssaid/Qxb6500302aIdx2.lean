import Derived.Test.Qxb6500302aIdx1
namespace Go.Proofs.Qxb6500302a
open Go.RowKit
set_option linter.unusedSimpArgs false
set_option linter.unusedVariables false
attribute [local go_sem] ta106_106 ta106_112 ta106_80 ta112_106 ta112_112 ta112_80 ta80_106 ta80_112 ta80_80 ta80_80'
attribute [local go_sem ↓] Go.wp_at_zero Go.wp_at_succ

def z4 : K4 := ((0, 0), (0, 0))
def labA (k : K2) : Lab := (5, (k, (0, 0)))
def labO (k : K2) : Lab := (6, (k, (0, 0)))
def labK (k : K4) : Lab := (7, k)

/-- The index: three maps of buckets, no two of which share a block. -/
structure Idx (w : World) (own : Own) (ba bo bk : Nat) (fA fO : K2 → Option (List Nat)) (fK : K4 → Option (List Nat)) : Prop where
  oa : own ba = some (1, z4)
  oo : own bo = some (2, z4)
  ok : own bk = some (3, z4)
  mA : BMap kv2 labA w own ba fA
  mO : BMap kv2 labO w own bo fO
  mK : BMap kv4 labK w own bk fK
  lt : ∀ g l, own g = some l → g < w.heap.size

/-- The blocks that 'enter' may turn. -/
def Ix (own : Own) (k : Nat) : Prop := ∃ l, own k = some l ∧ l.1 ≠ 0 ∧ l.1 ≠ 4

def bump {K : Type} [DecidableEq K] (f : K → Option (List Nat)) (k : K) (id : Nat) : K → Option (List Nat) := fun k' => if k' = k then some ((f k).getD [] ++ [id]) else f k'

theorem kv2_eq (a b : UInt8) : kv2 (a, b) = .agg #[.int .u8 (a.toNat : Int), .int .u8 (b.toNat : Int)] := rfl

/-- 'm[k]' for 'm[k] = append(m[k], ..)': the entry is there behind it, whether it was or not. -/
theorem entry_any {K : Type} [DecidableEq K] {enc : K → Value} {mt kt : TypeId} (T : KeyT enc mt kt) {lab : K → Lab} {w : World} {own : Own} {b : Nat} {f : K → Option (List Nat)} (h : BMap enc lab w own b f) (k : K) :
    ∃ (E E1 : List (K × Value × Nat)) (clock clock1 : Nat) (bs : Option Addr) (cap : Nat), w.heap[b]? = some (.map (ents enc E) clock) ∧
      (∀ W : World, W.heap[b]? = some (.map (ents enc E) clock) → (Instr.mapEntry mt (.map (some b)) (enc k)).run Try.prog W = .ok (.tuple #[.slice bs ((f k).getD []).length cap, .int .i64 (bornE k E1 : Int)]) (put W b (.map (ents enc E1) clock1))) ∧
      getE k E1 = some (.slice bs ((f k).getD []).length cap) ∧ Stamps E1 clock1 ∧ (E1.map (·.1)).Nodup ∧ (∀ k', getE k' E1 = if k' = k then some (.slice bs ((f k).getD []).length cap) else getE k' E) ∧
      Bucket w own (lab k) (.slice bs ((f k).getD []).length cap) ((f k).getD []) ∧
      (∀ k, (f k = none → getE k E = none) ∧ ∀ ids, f k = some ids → ∃ v, getE k E = some v ∧ Bucket w own (lab k) v ids) := by
  obtain ⟨E, clock, h1, h2, h3, h4⟩ := h
  cases hf : f k with
  | none =>
    have hg := (h4 k).1 hf
    refine ⟨E, E ++ [(k, .slice none 0 0, clock)], clock, clock + 1, none, 0, h1, fun W hW => ?_, ?_, h2.snoc _ _, nodup_snoc hg h3, fun k' => ?_, ⟨World.ownsRow_nil _ _ _ _, fun g hg => by cases hg⟩, h4⟩
    · rw [run_entryE_new T hW hg, bornE_snoc hg]; rfl
    · rw [getE_snoc _ _ _ _ _ hg]; simp
    · rw [getE_snoc _ _ _ _ _ hg]; rfl
  | some ids =>
    obtain ⟨v, hv, hbk⟩ := (h4 k).2 ids hf
    obtain ⟨bs, cap, hsl⟩ := owns_slice hbk.1
    subst hsl
    refine ⟨E, E, clock, clock, bs, cap, h1, fun W hW => ?_, hv, h2, h3, fun k' => ?_, hbk, h4⟩
    · rw [run_entryE T hW hv]; rfl
    · by_cases hk : k' = k
      · rw [if_pos hk, hk, hv]; rfl
      · rw [if_neg hk]

/-- What the change of one bucket leaves: the labels go on. -/
def OwnExt (own own' : Own) (n : Nat) (l0 : Lab) (n' : Nat) : Prop :=
  (∀ g l, own g = some l → own' g = some l) ∧ ∀ g l, own' g = some l → own g = some l ∨ (n ≤ g ∧ g < n' ∧ l = l0)

/-- 'm[k] = append(m[k], id)', all of it: ahead of the append, and behind it. -/
theorem append_entry {K : Type} [DecidableEq K] {enc : K → Value} {mt kt : TypeId} (T : KeyT enc mt kt) {lab : K → Lab} (hinj : ∀ k k', lab k = lab k' → k = k') {W : World} {own : Own} {b : Nat} {f : K → Option (List Nat)} (h : BMap enc lab W own b f) (k : K) (id : Nat)
    {lb : Lab} (hob : own b = some lb) (hlb : ∀ k, lab k ≠ lb) (hlt : ∀ g l, own g = some l → g < W.heap.size) :
    ∃ (E1 : List (K × Value × Nat)) (clock1 : Nat) (bs : Option Addr) (cap : Nat) (W1 : World),
      (Instr.mapEntry mt (.map (some b)) (enc k)).run Try.prog (W.alloc (.cells #[.int .i8 (id : Int)] 32)).drew = .ok (.tuple #[.slice bs ((f k).getD []).length cap, .int .i64 (bornE k E1 : Int)]) W1 ∧
      W1.ownsRow 0 32 1 (.slice bs ((f k).getD []).length cap) ((f k).getD []).length (i8s ((f k).getD [])) ∧
      W1.heap[W.heap.size]? = some (.cells #[.int .i8 (id : Int)] 32) ∧ W1.heap.size = W.heap.size + 1 ∧ Fr (fun x => x = b) W W1 ∧
      ∀ (g cap' : Nat) (w2 : World), w2.ownsRow 0 32 1 (.slice (some ⟨g, 0, none⟩) (((f k).getD []).length + 1) cap') (((f k).getD []).length + 1) (i8s ((f k).getD []) ++ [.int .i8 (id : Int)]) →
        W1.grownBy w2 (Value.slice bs ((f k).getD []).length cap).ownBlock → ((Value.slice bs ((f k).getD []).length cap).ownBlock = some g ∨ g = W.heap.size + 1) → g < w2.heap.size →
        ∃ (own' : Own) (w3 : World), (Instr.entryStore mt (.map (some b)) (.int .i64 (bornE k E1 : Int)) (.slice (some ⟨g, 0, none⟩) (((f k).getD []).length + 1) cap')).run Try.prog w2 = .ok () w3 ∧
          BMap enc lab w3 own' b (bump f k id) ∧ Fr (fun x => x = b ∨ own x = some (lab k)) W w2 ∧ Fr (fun x => x = b ∨ own x = some (lab k)) W w3 ∧ OwnExt own own' W.heap.size (lab k) w3.heap.size := by
  obtain ⟨E, E1, clock, clock1, bs, cap, hb, HE, hg1, hst1, hnd1, hE1, hbk, h4⟩ := entry_any T h k
  generalize hids : (f k).getD [] = ids0 at *
  have hb1 : (W.alloc (.cells #[.int .i8 (id : Int)] 32)).drew.heap[b]? = some (.map (ents enc E) clock) := heap_alloc_keep hb
  have hbl := lt_of_heap hb
  have hb2 := heap_put_same (.map (ents enc E1) clock1) hb1
  have hfr1 : Fr (fun x => x = b) W (put (W.alloc (.cells #[.int .i8 (id : Int)] 32)).drew b (.map (ents enc E1) clock1)) := Fr.put (S := fun x => x = b) (((Fr.refl _ W).alloc _).drew) (fun _ => rfl) _
  have hnob : ∀ g, (Value.slice bs ids0.length cap).ownBlock = some g → g ≠ b := fun g hg e => by
    subst e; have := hbk.2 g hg; rw [hob] at this; exact hlb k (Option.some.inj this).symm
  refine ⟨E1, clock1, bs, cap, _, HE _ hb1, ownsRow_keep hbk.1 hfr1 hnob, ?_, ?_, hfr1, ?_⟩
  · rw [heap_put_other _ (by omega)]; exact heap_alloc_same W _
  · rw [size_put]; simp
  intro g cap' w2 hown2 hgrow hat hlt2
  have hb3 := heap_grown hgrow hb2 (fun e => hnob _ e rfl)
  have hfr2 : Fr (fun x => x = b ∨ own x = some (lab k)) W w2 := (hfr1.mono (S' := fun x => x = b ∨ own x = some (lab k)) (fun _ _ h => .inl h)).grown hgrow (fun g hg _ => .inr (hbk.2 g hg))
  have hsz1 : (put (W.alloc (.cells #[.int .i8 (id : Int)] 32)).drew b (.map (ents enc E1) clock1)).heap.size = W.heap.size + 1 := by rw [size_put]; simp
  have hfr3 := hfr2.put (b := b) (fun _ => .inl rfl) (.map (ents enc (setV k (.slice (some ⟨g, 0, none⟩) (ids0.length + 1) cap') E1)) clock1)
  refine ⟨relab own (.slice (some ⟨g, 0, none⟩) (ids0.length + 1) cap') (lab k), _, run_storeE T hb3 hst1 hg1 _, ?_, hfr2, hfr3, ?_, ?_⟩
  · have hgb : g ≠ b := by
      rcases hat with h1 | h1
      · exact hnob g h1
      · omega
    have hx : ∀ g' l', own g' = some l' → relab own (.slice (some ⟨g, 0, none⟩) (ids0.length + 1) cap') (lab k) g' = some l' :=
      relab_ext (v := .slice bs ids0.length cap) (n := W.heap.size) (H := W.heap.size + 1) hbk.2 (hat.elim (fun h => .inl h.symm) (fun h => .inr (by rw [h]; rfl))) (by omega) hlt
    have hbk3 : Bucket (put w2 b (.map (ents enc (setV k (.slice (some ⟨g, 0, none⟩) (ids0.length + 1) cap') E1)) clock1)) (relab own (.slice (some ⟨g, 0, none⟩) (ids0.length + 1) cap') (lab k)) (lab k) (.slice (some ⟨g, 0, none⟩) (ids0.length + 1) cap') (ids0 ++ [id]) := by
      refine ⟨?_, fun g' hg' => by unfold relab; rw [if_pos hg']⟩
      have := ownsRow_keep (S := fun x => x = b) hown2 (Fr.put (S := fun x => x = b) (Fr.refl _ w2) (fun _ => rfl) (.map (ents enc (setV k (.slice (some ⟨g, 0, none⟩) (ids0.length + 1) cap') E1)) clock1)) (fun g' hg' e => hgb (by cases hg'; exact e))
      rw [i8s_snoc]
      simpa using this
    have := BMap.upd (enc := enc) hinj (own' := relab own (.slice (some ⟨g, 0, none⟩) (ids0.length + 1) cap') (lab k)) h4 k (.slice (some ⟨g, 0, none⟩) (ids0.length + 1) cap') (ids0 ++ [id]) (heap_put_same _ hb3) (hst1.setV k _) (by rw [keys_setV']; exact hnd1)
      (fun k' => by rw [getE_setV, hg1, hE1]; by_cases hk : k' = k <;> simp [hk]) hbk3 hfr3 (fun g' k' hk' hg' hs => by
        rcases hs with rfl | hs
        · rw [hob] at hg'; exact hlb k' (Option.some.inj hg').symm
        · rw [hg'] at hs; exact hk' (hinj _ _ (Option.some.inj hs))) hx
    have e1 : bump f k id = fun k' => if k' = k then some (ids0 ++ [id]) else f k' := by unfold bump; rw [hids]
    rw [e1]
    exact this
  · exact relab_ext (v := .slice bs ids0.length cap) (n := W.heap.size) (H := W.heap.size + 1) hbk.2 (hat.elim (fun h => .inl h.symm) (fun h => .inr (by rw [h]; rfl))) (by omega) hlt
  · intro g' l' hg'
    unfold relab at hg'
    by_cases hv : (Value.slice (some ⟨g, 0, none⟩) (ids0.length + 1) cap').ownBlock = some g'
    · rw [if_pos hv] at hg'
      have hg2 : g = g' := by simpa [Value.ownBlock] using hv
      subst hg2
      rcases hat with h1 | h1
      · exact .inl (by rw [hbk.2 g h1]; exact hg')
      · exact .inr ⟨by omega, by rw [size_put]; exact hlt2, (Option.some.inj hg').symm⟩
    · rw [if_neg hv] at hg'; exact .inl hg'
end Go.Proofs.Qxb6500302a
