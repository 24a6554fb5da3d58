import Derived.Test.Qxb6500302aParse1
namespace Go.Proofs.Qxb6500302a
open Go.RowKit
set_option linter.unusedSimpArgs false
set_option linter.unusedVariables false
attribute [local go_sem] ta72 run_makeFunc

def ParsePost (res : Option Tm) (w : World) (e : Ending) (w' : World) : Prop :=
  match res with
  | none => (∃ b, e = .returned (.tuple #[.pointer none, .iface 72 (.pointer (some ⟨b, 0, none⟩))])) ∧ Fr No w w'
  | some t => ∃ (v : Value) (m : Nat) (D : Nat → Prop), e = .returned (.tuple #[v, .nilIface]) ∧ ClauseN w' D m v t ∧ (∀ k, D k → w.heap.size ≤ k) ∧ Fr No w w'

/-- The world as the reading begins. -/
def pWorld (w : World) (s : ByteArray) : World :=
  (((w.alloc (.cells #[.pointer none] 53)).alloc (.cells #[.nilIface] 55)).alloc (.map #[] 0)).alloc (.cells #[.string s, .int .i64 0, .map (some (w.heap.size + 1 + 1))] 77)

theorem pWorld_size (w : World) (s : ByteArray) : (pWorld w s).heap.size = w.heap.size + 4 := by simp [pWorld]
theorem pWorld_fr (w : World) (s : ByteArray) : Fr No w (pWorld w s) := ((((Fr.refl _ _).alloc _).alloc _).alloc _).alloc _
theorem pWorld_c (w : World) (s : ByteArray) : (pWorld w s).heap[w.heap.size]? = some (.cells #[.pointer none] 53) :=
  heap_alloc_keep (heap_alloc_keep (heap_alloc_keep (heap_alloc_same _ _)))
theorem pWorld_e (w : World) (s : ByteArray) : (pWorld w s).heap[w.heap.size + 1]? = some (.cells #[.nilIface] 55) := by
  have := heap_alloc_same (w.alloc (.cells #[.pointer none] 53)) (.cells #[.nilIface] 55)
  simp only [World.size_alloc] at this
  exact heap_alloc_keep (heap_alloc_keep this)
theorem pWorld_rd (w : World) (s : ByteArray) (hs : s.size ≤ 40) : RdAt (pWorld w s) (w.heap.size + 1 + 1 + 1) (w.heap.size + 1 + 1) s [] s.data.toList [] := by
  refine ⟨?_, ?_, rfl, hs, Nat.le_refl _⟩
  · have := heap_alloc_same (((w.alloc (.cells #[.pointer none] 53)).alloc (.cells #[.nilIface] 55)).alloc (.map #[] 0)) (.cells #[.string s, .int .i64 0, .map (some (w.heap.size + 1 + 1))] 77)
    simp only [World.size_alloc] at this
    exact this
  · have := heap_alloc_same ((w.alloc (.cells #[.pointer none] 53)).alloc (.cells #[.nilIface] 55)) (.map #[] 0)
    simp only [World.size_alloc] at this
    exact heap_alloc_keep this

/-- The last statement stores what is there already. -/
theorem stored_again {w W : World} {vc ve : Value} (hc : W.heap[w.heap.size]? = some (.cells #[vc] 53)) (he : W.heap[w.heap.size + 1]? = some (.cells #[ve] 55)) (hf : Fr No w W) :
    ((W.setCell ⟨w.heap.size, 0, none⟩ vc).setCell ⟨w.heap.size + 1, 0, none⟩ ve).drew.cell? ⟨w.heap.size, 0, none⟩ = some vc ∧
    ((W.setCell ⟨w.heap.size, 0, none⟩ vc).setCell ⟨w.heap.size + 1, 0, none⟩ ve).drew.cell? ⟨w.heap.size + 1, 0, none⟩ = some ve ∧
    Fr No w ((W.setCell ⟨w.heap.size, 0, none⟩ vc).setCell ⟨w.heap.size + 1, 0, none⟩ ve).drew ∧
    Fr (fun k => k = w.heap.size ∨ k = w.heap.size + 1) W ((W.setCell ⟨w.heap.size, 0, none⟩ vc).setCell ⟨w.heap.size + 1, 0, none⟩ ve).drew := by
  have h1 : (W.setCell ⟨w.heap.size, 0, none⟩ vc).heap[w.heap.size + 1]? = some (.cells #[ve] 55) := by rw [heap_setCell_other _ (by omega)]; exact he
  refine ⟨?_, ?_, ?_, ?_⟩
  · exact cell_of (w := ((W.setCell ⟨w.heap.size, 0, none⟩ vc).setCell ⟨w.heap.size + 1, 0, none⟩ ve)) 0 (by rw [heap_setCell_other _ (by omega), heap_setCell_same _ hc]) rfl
  · exact cell_of (w := ((W.setCell ⟨w.heap.size, 0, none⟩ vc).setCell ⟨w.heap.size + 1, 0, none⟩ ve)) 0 (by rw [heap_setCell_same _ h1]) rfl
  · exact (Fr.setCell (Fr.setCell hf (fun h => absurd h (by simp)) _) (fun h => absurd h (by simp)) _).drew
  · exact (Fr.setCell (S := fun k => k = w.heap.size ∨ k = w.heap.size + 1) (Fr.setCell (S := fun k => k = w.heap.size ∨ k = w.heap.size + 1) (Fr.refl _ _) (fun _ => .inl rfl) _) (fun _ => .inr rfl) _).drew

set_option maxRecDepth 20000 in
set_option maxHeartbeats 1000000 in
theorem parse_any (q : Bool) {s : ByteArray} {w : World} (hs : s.size ≤ 40) :
    Calls Try.prog 20 #[.string s, .bool q] w (ParsePost (parseOf q s.data.toList) w) := by
  have hmm := @run_makeMap Try.prog
  have hrd := pWorld_rd w s hs
  have hc0 := pWorld_c w s
  have he0 := pWorld_e w s
  have hf0 := pWorld_fr w s
  have hsz := pWorld_size w s
  generalize hRES : parseOf q s.data.toList = RES
  have HRES : Hid (parseOf q s.data.toList = RES) := hRES
  clear hRES
  cases hres : rRead q s.data.toList with
  | none =>
    have e0 : RES = none := by rw [← HRES.out]; simp [parseOf, hres]
    have HR : Hid (rRead q s.data.toList = none) := hres
    clear hres
    rw [e0]
    clear e0 HRES
    go_enter_defers Try.func20, Try.ntmps20
    go_wp2_with fail
    refine (read_any q hrd).mono ?_
    rw [HR.out]
    rintro e w1 ⟨⟨b, rfl⟩, hf⟩
    have hc1 := hf.keep hc0 (by unfold RM; omega)
    have he1 := hf.keep he0 (by unfold RM; omega)
    have hff : Fr No w w1 := hf0.trans hf (fun k hk h => by unfold RM at h; omega)
    go_wp2_with fail
    refine leaves_cons (f := 36) (args := #[.pointer (some ⟨w.heap.size, 0, none⟩), .pointer (some ⟨w.heap.size + 1, 0, none⟩)]) (by simp) (by simp [go_sem]) ?_
    refine (catch_panicking _ _ _ [] _ _ _ hc1 he1).mono ?_
    rintro e u' w'' ⟨rfl, rfl, rfl⟩
    have hc2 : ((w1.setCell ⟨w.heap.size, 0, none⟩ (.pointer none)).setCell ⟨w.heap.size + 1, 0, none⟩ (.iface 72 (.pointer (some ⟨b, 0, none⟩)))).cell? ⟨w.heap.size, 0, none⟩ = some (.pointer none) :=
      cell_of 0 (by rw [heap_setCell_other _ (by omega), heap_setCell_same _ hc1]) rfl
    have he2 : ((w1.setCell ⟨w.heap.size, 0, none⟩ (.pointer none)).setCell ⟨w.heap.size + 1, 0, none⟩ (.iface 72 (.pointer (some ⟨b, 0, none⟩)))).cell? ⟨w.heap.size + 1, 0, none⟩ = some (.iface 72 (.pointer (some ⟨b, 0, none⟩))) :=
      cell_of 0 (by rw [heap_setCell_same _ (by rw [heap_setCell_other _ (by omega)]; exact he1)]) rfl
    have hfin : Fr No w ((w1.setCell ⟨w.heap.size, 0, none⟩ (.pointer none)).setCell ⟨w.heap.size + 1, 0, none⟩ (.iface 72 (.pointer (some ⟨b, 0, none⟩)))) :=
      Fr.setCell (Fr.setCell hff (fun h => absurd h (by simp)) _) (fun h => absurd h (by simp)) _
    generalize ((w1.setCell ⟨w.heap.size, 0, none⟩ (.pointer none)).setCell ⟨w.heap.size + 1, 0, none⟩ (.iface 72 (.pointer (some ⟨b, 0, none⟩)))) = W at *
    simp [Leaves, settle, results, Try.results20, go_sem, hc2, he2]
    exact ⟨⟨_, rfl⟩, hfin⟩
  | some x =>
    obtain ⟨ts, vs⟩ := x
    have HR : Hid (rRead q s.data.toList = some (ts, vs)) := hres
    have hne : q = false → ts ≠ [] := by
      intro hq e
      subst hq; subst e
      simp only [rRead, Bool.false_eq_true, if_false] at hres
      cases h1 : rCall (s.data.toList.length + 1) s.data.toList [] with
      | none => rw [h1] at hres; cases hres
      | some y =>
        obtain ⟨t, s1, vs1⟩ := y
        rw [h1] at hres
        simp only at hres
        split at hres
        · simp at hres
        · split at hres
          · split at hres
            · split at hres
              · simp at hres
              · cases hres
            · cases hres
          · cases hres
    clear hres
    have e0 : parseOf q s.data.toList = if vetFine q ts then some (tCall (rootOf q) ts) else none := by
      simp only [parseOf, HR.out, vetFine, goalsIn, Bool.and_eq_true]
      by_cases h1 : (if q = true then ts else ts.tail).length ≤ 3 <;> by_cases h2 : topVar (tCall (rootOf q) ts) ≤ 6 <;> simp [h1, h2]
    by_cases hv : vetFine q ts = true
    · have e1 : RES = some (tCall (rootOf q) ts) := by rw [← HRES.out, e0, if_pos hv]
      rw [e1]
      clear e0 e1 HRES
      go_enter_defers Try.func20, Try.ntmps20
      go_wp2_with fail
      refine (read_any q hrd).mono ?_
      rw [HR.out]
      rintro e w1 ⟨v, m, D, rfl, hcl, hf, hD⟩
      have hc1 := hf.keep hc0 (by unfold RM; omega)
      have he1 := hf.keep he0 (by unfold RM; omega)
      have hff : Fr No w w1 := hf0.trans hf (fun k hk h => by unfold RM at h; omega)
      have c1 := cell_of 0 hc1 rfl
      have f1 := frozen_of 0 hc1
      have hcl2 := hcl.kept (S := fun k => k = w.heap.size) (w' := w1.setCell ⟨w.heap.size, 0, none⟩ v) (Fr.setCell (S := fun k => k = w.heap.size) (Fr.refl _ _) (fun _ => rfl) _) (fun k hk h => by have := (hD k hk).1; omega)
      obtain ⟨b, rb, rfl, hrest⟩ := hcl
      clear hrest
      have hc2 : (w1.setCell ⟨w.heap.size, 0, none⟩ (.pointer (some ⟨b, 0, none⟩))).heap[w.heap.size]? = some (.cells #[.pointer (some ⟨b, 0, none⟩)] 53) := by rw [heap_setCell_same _ hc1]; rfl
      have he2 : (w1.setCell ⟨w.heap.size, 0, none⟩ (.pointer (some ⟨b, 0, none⟩))).heap[w.heap.size + 1]? = some (.cells #[.nilIface] 55) := by rw [heap_setCell_other _ (by omega)]; exact he1
      have hf2 : Fr No w (w1.setCell ⟨w.heap.size, 0, none⟩ (.pointer (some ⟨b, 0, none⟩))) := Fr.setCell hff (fun h => absurd h (by simp)) _
      have HV : Hid (Calls Try.prog 38 #[.pointer (some ⟨b, 0, none⟩)] (w1.setCell ⟨w.heap.size, 0, none⟩ (.pointer (some ⟨b, 0, none⟩))) fun e w' => e = .returned .nilIface ∧ Fr No (w1.setCell ⟨w.heap.size, 0, none⟩ (.pointer (some ⟨b, 0, none⟩))) w') :=
        (vet_any hcl2 hne).mono (fun e w' h => by rw [hv] at h; exact ⟨by simpa using h.1, h.2⟩)
      go_wp2_with fail
      refine HV.out.mono ?_
      rintro e w2 ⟨rfl, hf3⟩
      have hc3 := hf3.keep hc2 (fun h => h)
      have he3 := hf3.keep he2 (fun h => h)
      have hff3 := hf2.trans hf3 (fun _ _ h => h)
      have hcl3 := hcl2.kept hf3 (fun _ _ h => h)
      clear HV hf3 hf2 hc2 he2 hcl2 c1 f1 hc1 he1 hff hf
      have c3 := cell_of 0 hc3 rfl
      have f3 := frozen_of 0 hc3
      have d3 := cell_of 0 he3 rfl
      have g3 := frozen_of 0 he3
      go_wp2_with fail
      have hc4 : (w2.setCell ⟨w.heap.size + 1, 0, none⟩ .nilIface).heap[w.heap.size]? = some (.cells #[.pointer (some ⟨b, 0, none⟩)] 53) := by rw [heap_setCell_other _ (by omega)]; exact hc3
      have he4 : (w2.setCell ⟨w.heap.size + 1, 0, none⟩ .nilIface).heap[w.heap.size + 1]? = some (.cells #[.nilIface] 55) := by rw [heap_setCell_same _ he3]; rfl
      have hff4 : Fr No w (w2.setCell ⟨w.heap.size + 1, 0, none⟩ .nilIface) := Fr.setCell hff3 (fun h => absurd h (by simp)) _
      have hcl4 := hcl3.kept (S := fun k => k = w.heap.size + 1) (w' := w2.setCell ⟨w.heap.size + 1, 0, none⟩ .nilIface) (Fr.setCell (S := fun k => k = w.heap.size + 1) (Fr.refl _ _) (fun _ => rfl) _) (fun k hk h => by have := (hD k hk).1; omega)
      generalize (w2.setCell ⟨w.heap.size + 1, 0, none⟩ .nilIface) = W4 at *
      clear hff3 hcl3 hc3 he3 c3 f3 d3 g3
      have c4 := cell_of 0 hc4 rfl
      have f4 := frozen_of 0 hc4
      have d4 := cell_of 0 he4 rfl
      have g4 := frozen_of 0 he4
      go_region
      go_wp2_with fail
      refine leaves_cons (f := 36) (args := #[.pointer (some ⟨w.heap.size, 0, none⟩), .pointer (some ⟨w.heap.size + 1, 0, none⟩)]) (by simp) (by simp [go_sem]) ?_
      refine (catch_idle _ _ _).mono ?_
      rintro e u' w'' ⟨rfl, rfl, rfl⟩
      obtain ⟨g1, g2, g5, g6⟩ := stored_again hc4 he4 hff4
      have hcl5 := hcl4.kept g6 (fun k hk h => by have := (hD k hk).1; omega)
      generalize ((W4.setCell ⟨w.heap.size, 0, none⟩ (.pointer (some ⟨b, 0, none⟩))).setCell ⟨w.heap.size + 1, 0, none⟩ .nilIface).drew = W5 at *
      simp [Leaves, settle, results, Try.results20, go_sem, g1, g2]
      exact ⟨_, m, D, rfl, hcl5, fun k hk => by have := (hD k hk).1; omega, g5⟩
    · have e1 : RES = none := by rw [← HRES.out, e0, if_neg hv]
      rw [e1]
      clear e0 e1 HRES
      have hv' : vetFine q ts = false := by simpa using hv
      go_enter_defers Try.func20, Try.ntmps20
      go_wp2_with fail
      refine (read_any q hrd).mono ?_
      rw [HR.out]
      rintro e w1 ⟨v, m, D, rfl, hcl, hf, hD⟩
      have hc1 := hf.keep hc0 (by unfold RM; omega)
      have he1 := hf.keep he0 (by unfold RM; omega)
      have hff : Fr No w w1 := hf0.trans hf (fun k hk h => by unfold RM at h; omega)
      have c1 := cell_of 0 hc1 rfl
      have f1 := frozen_of 0 hc1
      have hcl2 := hcl.kept (S := fun k => k = w.heap.size) (w' := w1.setCell ⟨w.heap.size, 0, none⟩ v) (Fr.setCell (S := fun k => k = w.heap.size) (Fr.refl _ _) (fun _ => rfl) _) (fun k hk h => by have := (hD k hk).1; omega)
      obtain ⟨b, rb, rfl, hrest⟩ := hcl
      clear hrest
      have hc2 : (w1.setCell ⟨w.heap.size, 0, none⟩ (.pointer (some ⟨b, 0, none⟩))).heap[w.heap.size]? = some (.cells #[.pointer (some ⟨b, 0, none⟩)] 53) := by rw [heap_setCell_same _ hc1]; rfl
      have he2 : (w1.setCell ⟨w.heap.size, 0, none⟩ (.pointer (some ⟨b, 0, none⟩))).heap[w.heap.size + 1]? = some (.cells #[.nilIface] 55) := by rw [heap_setCell_other _ (by omega)]; exact he1
      have hf2 : Fr No w (w1.setCell ⟨w.heap.size, 0, none⟩ (.pointer (some ⟨b, 0, none⟩))) := Fr.setCell hff (fun h => absurd h (by simp)) _
      have HV : Hid (Calls Try.prog 38 #[.pointer (some ⟨b, 0, none⟩)] (w1.setCell ⟨w.heap.size, 0, none⟩ (.pointer (some ⟨b, 0, none⟩))) fun e w' => (∃ b', e = .returned (.iface 72 (.pointer (some ⟨b', 0, none⟩)))) ∧ Fr No (w1.setCell ⟨w.heap.size, 0, none⟩ (.pointer (some ⟨b, 0, none⟩))) w') :=
        (vet_any hcl2 hne).mono (fun e w' h => by rw [hv'] at h; exact ⟨by simpa using h.1, h.2⟩)
      go_wp2_with fail
      refine HV.out.mono ?_
      rintro e w2 ⟨⟨b', rfl⟩, hf3⟩
      have hc3 := hf3.keep hc2 (fun h => h)
      have he3 := hf3.keep he2 (fun h => h)
      have hff3 := hf2.trans hf3 (fun _ _ h => h)
      clear HV hf3 hf2 hc2 he2 hcl2 c1 f1 hc1 he1 hff hf
      have c3 := cell_of 0 hc3 rfl
      have f3 := frozen_of 0 hc3
      have d3 := cell_of 0 he3 rfl
      have g3 := frozen_of 0 he3
      go_wp2_with fail
      have hc3' : (w2.setCell ⟨w.heap.size + 1, 0, none⟩ (.iface 72 (.pointer (some ⟨b', 0, none⟩)))).heap[w.heap.size]? = some (.cells #[.pointer (some ⟨b, 0, none⟩)] 53) := by rw [heap_setCell_other _ (by omega)]; exact hc3
      have hc4 : ((w2.setCell ⟨w.heap.size + 1, 0, none⟩ (.iface 72 (.pointer (some ⟨b', 0, none⟩)))).setCell ⟨w.heap.size, 0, none⟩ (.pointer none)).heap[w.heap.size]? = some (.cells #[.pointer none] 53) := by rw [heap_setCell_same _ hc3']; rfl
      have he4 : ((w2.setCell ⟨w.heap.size + 1, 0, none⟩ (.iface 72 (.pointer (some ⟨b', 0, none⟩)))).setCell ⟨w.heap.size, 0, none⟩ (.pointer none)).heap[w.heap.size + 1]? = some (.cells #[.iface 72 (.pointer (some ⟨b', 0, none⟩))] 55) := by rw [heap_setCell_other _ (by omega), heap_setCell_same _ he3]; rfl
      have hff4 : Fr No w ((w2.setCell ⟨w.heap.size + 1, 0, none⟩ (.iface 72 (.pointer (some ⟨b', 0, none⟩)))).setCell ⟨w.heap.size, 0, none⟩ (.pointer none)) := Fr.setCell (Fr.setCell hff3 (fun h => absurd h (by simp)) _) (fun h => absurd h (by simp)) _
      generalize ((w2.setCell ⟨w.heap.size + 1, 0, none⟩ (.iface 72 (.pointer (some ⟨b', 0, none⟩)))).setCell ⟨w.heap.size, 0, none⟩ (.pointer none)) = W4 at *
      clear hff3 hc3 he3 c3 f3 d3 g3 hc3'
      have c4 := cell_of 0 hc4 rfl
      have f4 := frozen_of 0 hc4
      have d4 := cell_of 0 he4 rfl
      have g4 := frozen_of 0 he4
      go_region
      go_wp2_with fail
      refine leaves_cons (f := 36) (args := #[.pointer (some ⟨w.heap.size, 0, none⟩), .pointer (some ⟨w.heap.size + 1, 0, none⟩)]) (by simp) (by simp [go_sem]) ?_
      refine (catch_idle _ _ _).mono ?_
      rintro e u' w'' ⟨rfl, rfl, rfl⟩
      obtain ⟨g1, g2, g5, g6⟩ := stored_again hc4 he4 hff4
      generalize ((W4.setCell ⟨w.heap.size, 0, none⟩ (.pointer none)).setCell ⟨w.heap.size + 1, 0, none⟩ (.iface 72 (.pointer (some ⟨b', 0, none⟩)))).drew = W5 at *
      simp [Leaves, settle, results, Try.results20, go_sem, g1, g2]
      exact ⟨⟨_, rfl⟩, g5⟩
end Go.Proofs.Qxb6500302a
