import Derived.Test.Qxb6500301aReal7
namespace Go.Proofs.Qxb6500301a
open Go.RowKit
set_option linter.unusedSimpArgs false
set_option linter.unusedVariables false

def pairV (q : Nat × Nat) : List Value := [n32 q.1, n32 q.2]
/-- A stack of pairs, of this call's own: the next on top. -/
def PStk (B0 : Nat) (w : World) (v : Value) (l : List (Nat × Nat)) : Prop := w.ownsRow B0 84 2 v l.length (l.reverse.flatMap pairV)
theorem PStk.keep {B0 : Nat} {w w' : World} {v : Value} {l : List (Nat × Nat)} (h : PStk B0 w v l) {T : Nat → Prop} (hf : Fr T w w') (hT : ∀ k, B0 ≤ k → ¬ T k) : PStk B0 w' v l := ownsRow_keep h hf (fun k hk => hT k (h.lt k hk).1)
theorem pairs_len (l : List (Nat × Nat)) : (l.flatMap pairV).length = l.length * 2 := by
  induction l with
  | nil => rfl
  | cons x l ih => rw [List.flatMap_cons, List.length_append, ih]; simp [pairV]; omega
theorem PStk.pop {w : World} {B0 : Nat} {v : Value} {t : Nat × Nat} {l : List (Nat × Nat)} (h : PStk B0 w v (t :: l)) : ∃ g cap, v = .slice (some ⟨g, 0, none⟩) (l.length + 1) cap ∧ w.cell? ⟨g, l.length * 2, none⟩ = some (n32 t.1) ∧ w.cell? ⟨g, l.length * 2 + 1, none⟩ = some (n32 t.2) ∧ PStk B0 w (.slice (some ⟨g, 0, none⟩) l.length cap) l ∧ l.length + 1 ≤ cap ∧ B0 ≤ g := by
  obtain ⟨g, cap, hv, _, _⟩ := h.form (by simp)
  have hv' : v = .slice (some ⟨g, 0, none⟩) (l.length + 1) cap := by rw [hv]; rfl
  subst hv'
  unfold PStk at h
  rw [List.reverse_cons, List.flatMap_append, List.length_cons] at h
  have hb := (h.lt g rfl).1
  have hlr : (l.reverse.flatMap pairV).length = l.length * 2 := by rw [pairs_len, List.length_reverse]
  refine ⟨g, cap, rfl, ?_, ?_, ownsRow_pop hlr h, ?_, hb⟩
  · rw [World.ownsRow.cellAt h (l.length * 2) (by omega), List.getElem?_append_right (by rw [hlr]; exact Nat.le_refl _), hlr]
    simp [pairV]
  · rw [World.ownsRow.cellAt h (l.length * 2 + 1) (by omega), List.getElem?_append_right (by rw [hlr]; omega), hlr]
    have : l.length * 2 + 1 - l.length * 2 = 1 := by omega
    rw [this]
    simp [pairV]
  · rcases h.2 with ⟨e, _⟩ | ⟨g', cap', cur, hv, _, _, hn, _⟩
    · cases e
    · cases hv; exact hn

/-- 'Unify', plainly: the steps, the error, the nodes. -/
def unifyR (ns : List Nd) : UR → Int × Int × List Nd
  | .inl e => (0, (e : Int), ns)
  | .inr (f, ns', _) => (40 - (f : Int), 0, ns')
def unifyAns (ns : List Nd) (a b : Int) : Int × Int × List Nd :=
  if a < 0 ∨ (ns.length : Int) ≤ a ∨ b < 0 ∨ (ns.length : Int) ≤ b then (0, 4, ns) else unifyR ns (U 40 ns [(a.toNat, b.toNat)])

def UniPost (p : Nat) (B : Blks) (saved : List (List Nd)) (r : Int × Int × List Nd) (w : World) (e : Ending) (w' : World) : Prop :=
  e = .returned (.tuple #[.int .i64 r.1, .int .i64 r.2.1]) ∧ HeapAt w' p B r.2.2 saved ∧ Fr (B.Has p) w w'

/-- The world where the loop comes round. -/
structure UAt (w : World) (p : Nat) (B : Blks) (ns : List Nd) (tr tms : List Nat) (saved : List (List Nd)) (R : UR) (l : List (Nat × Nat)) (k : Nat) (v12 : Value) (wr : World) (ns1 : List Nd) (ws1 : List Int) (bs : List Nat) : Prop where
  at' : RAt wr p B ns1 ws1 (tr ++ bs) tms saved
  bnd : Bnds ns ns1 bs
  wf : WfN ns1
  stk : PStk w.heap.size wr v12 l
  lt : ∀ q ∈ l, q.1 < ns.length ∧ q.2 < ns.length
  res : R = app bs (U k ns1 l)
  fr : Fr (B.Has p) w wr
def URel (w : World) (p : Nat) (B : Blks) (ns : List Nd) (tr tms : List Nat) (saved : List (List Nd)) (R : UR) (gk : Nat) (v10 v11 v12 : Value) (wr : World) : Prop :=
  ∃ (l : List (Nat × Nat)) (k : Nat) (bs : Option Addr) (cap : Nat) (ns1 : List Nd) (ws1 : List Int) (bd : List Nat), v12 = .slice bs l.length cap ∧ v10 = .int .i64 (40 - (k : Int)) ∧ v11 = .int .i64 0 ∧ k ≤ 40 ∧ gk = k + 1 ∧ l.length + 4 * k ≤ 161 ∧ UAt w p B ns tr tms saved R l k v12 wr ns1 ws1 bd

section
variable {w : World} {p : Nat} {B : Blks} {ns : List Nd} {ws : List Int} {tr tms : List Nat} {saved : List (List Nd)}

/-- The loop's end: nothing is left. -/
theorem UAt.done {R : UR} {k : Nat} {v12 : Value} {wr : World} {ns1 : List Nd} {ws1 : List Int} {bs : List Nat} (h : UAt w p B ns tr tms saved R [] k v12 wr ns1 ws1 bs)
    (hi : Inv ns tr ((saved.map List.length).zip tms)) (hsv : saved = savedOf ns tr ((saved.map List.length).zip tms)) (ht : tms.length = saved.length ∧ saved.length ≤ 26) : R = .inr (k, ns1, bs) ∧ HeapAt wr p B ns1 saved := by
  have hr := h.res
  rw [U_nil] at hr
  refine ⟨by rw [hr]; simp [app], ⟨ws1, tr ++ bs, tms, h.at', ?_⟩⟩
  obtain ⟨i1, i2⟩ := hi.bnds h.bnd (hi.wft.bnds h.bnd h.wf)
  exact ⟨i1, by rw [i2]; exact hsv, ht⟩
/-- Behind the taking back: as it was. -/
theorem UAt.back {R : UR} {l : List (Nat × Nat)} {k : Nat} {v12 : Value} {wr w' : World} {ns1 : List Nd} {ws1 : List Int} {bs : List Nat} (h : UAt w p B ns tr tms saved R l k v12 wr ns1 ws1 bs)
    (hi : Inv ns tr ((saved.map List.length).zip tms)) (hsv : saved = savedOf ns tr ((saved.map List.length).zip tms)) (ht : tms.length = saved.length ∧ saved.length ≤ 26)
    (hr : RAt w' p B (unb ns1 ((tr ++ bs).drop tr.length)) ws1 ((tr ++ bs).take tr.length) tms saved) : HeapAt w' p B ns saved := by
  rw [List.drop_left, List.take_left, unb_bnds h.bnd] at hr
  exact ⟨ws1, tr, tms, hr, hi, hsv, ht⟩
theorem UAt.unwind {R : UR} {l : List (Nat × Nat)} {k : Nat} {v12 : Value} {wr : World} {ns1 : List Nd} {ws1 : List Int} {bs : List Nat} (h : UAt w p B ns tr tms saved R l k v12 wr ns1 ws1 bs)
    (hi : Inv ns tr ((saved.map List.length).zip tms)) (hsv : saved = savedOf ns tr ((saved.map List.length).zip tms)) (ht : tms.length = saved.length ∧ saved.length ≤ 26) {wq : World} (hq : Fr No wr wq) :
    Calls Try.prog 44 #[.pointer (some ⟨p, 0, none⟩), .int .i64 (tr.length : Int)] wq fun e w' => e = .returned (.tuple #[]) ∧ HeapAt w' p B ns saved ∧ Fr (B.Has p) w w' := by
  have hw := hi.wft.bnds h.bnd h.wf
  refine (unwind_any (h.at'.keep hq (fun _ _ e => e)) (by rw [h.bnd.len]; exact hi.wft.small) hw.nodup (fun v hv => (hw.mem v).1 hv) (q0 := tr.length) (by simp)).mono ?_
  rintro e w' ⟨rfl, h1, h2⟩
  exact ⟨rfl, h.back hi hsv ht h1, (h.fr.trans hq (fun _ _ e => e.elim)).trans h2 (fun _ _ e => e)⟩
end
end Go.Proofs.Qxb6500301a
