import Derived.Test.Qxb6500301aReal6
namespace Go.Proofs.Qxb6500301a
open Go.RowKit
set_option linter.unusedSimpArgs false
set_option linter.unusedVariables false
attribute [local go_sem ↓] Go.wp_at_zero Go.wp_at_succ
attribute [-go_sem] Go.run_string_add_if Go.run_index_string Go.run_slice_string_if

/-- A stack of addresses, of this call's own: the next on top. -/
def Stk (B0 : Nat) (w : World) (v : Value) (l : List Nat) : Prop := w.ownsRow B0 21 1 v l.length (l.reverse.map n32)
theorem Stk.keep {B0 : Nat} {w w' : World} {v : Value} {l : List Nat} (h : Stk B0 w v l) (hf : Fr No w w') : Stk B0 w' v l := ownsRow_keep h hf (fun _ _ e => e)

section
variable {w : World} {p : Nat} {B : Blks} {ns : List Nd} {ws : List Int} {tr tms : List Nat} {saved : List (List Nd)}

theorem Stk.pop {B0 : Nat} {v : Value} {t : Nat} {l : List Nat} (h : Stk B0 w v (t :: l)) : ∃ g cap, v = .slice (some ⟨g, 0, none⟩) (l.length + 1) cap ∧ w.cell? ⟨g, l.length, none⟩ = some (n32 t) ∧ Stk B0 w (.slice (some ⟨g, 0, none⟩) l.length cap) l ∧ l.length + 1 ≤ cap ∧ B0 ≤ g := by
  obtain ⟨g, cap, hv, _, _⟩ := h.form (by simp)
  have hv' : v = .slice (some ⟨g, 0, none⟩) (l.length + 1) cap := by rw [hv]; rfl
  subst hv'
  unfold Stk at h
  rw [List.reverse_cons, List.map_append, List.length_cons] at h
  have hb := (h.lt g rfl).1
  refine ⟨g, cap, rfl, ?_, ownsRow_pop (by simp) h, ?_, hb⟩
  · rw [World.ownsRow.cellAt h l.length (by omega), List.getElem?_append_right (by simp)]
    simp
  · rcases h.2 with ⟨e, _⟩ | ⟨g', cap', cur, hv, _, _, hn, _⟩
    · cases e
    · cases hv; exact hn

set_option maxRecDepth 40000 in
set_option maxHeartbeats 4000000 in
theorem occurs_any (h : RAt w p B ns ws tr tms saved) (hw : WfN ns) (hs : ns.length ≤ 64) {v t f : Nat} (hv : v < ns.length) (ht : t < ns.length) (hf : f ≤ 40) :
    Calls Try.prog 43 #[.pointer (some ⟨p, 0, none⟩), .int .i32 (v : Int), .int .i32 (t : Int), .int .i64 (40 - (f : Int))] w fun e w' =>
      ∃ x : Int, e = .returned (.tuple #[.int .i64 x, .int .i64 ((occ f ns v [t]).2 : Int)]) ∧ ((occ f ns v [t]).2 = 0 → x = 40 - ((occ f ns v [t]).1 : Int)) ∧ Fr No w w' := by
  obtain ⟨i0, hi0, hz0, hz1, hz2⟩ := info_parts Try.info21
  have H : Hid (RAt w p B ns ws tr tms saved) := h
  have HE : Hid (∀ (l : List Nat) (k : Nat), (∀ x ∈ l, x < ns.length) → k ≤ 40 → ∃ r, occ k ns v l = r) := fun l k _ _ => ⟨_, rfl⟩
  clear h
  go_enter Try.func43, Try.ntmps43
  go_upto_region 2 with fail
  have S0 : Stk w.heap.size (w.alloc (.cells #[.int .i32 (t : Int)] 21)) (.slice (some ⟨w.heap.size, 0, none⟩) 1 1) [t] := World.ownsRow_lit w #[.int .i32 (t : Int)] 1 (Nat.le_refl _) (by unfold maxLen; omega) rfl
  have F0 : Fr No w (w.alloc (.cells #[.int .i32 (t : Int)] 21)) := (Fr.refl No w).alloc _
  generalize (w.alloc (.cells #[.int .i32 (t : Int)] 21)) = W0 at *
  go_loopg [2, 3, 10] (f + 1) (fun gk v2 v3 v10 wr => ∃ (l : List Nat) (k : Nat) (bs : Option Addr) (cap : Nat), v10 = .slice bs l.length cap ∧ v3 = .int .i64 (40 - (k : Int)) ∧ k ≤ 40 ∧ gk = k + 1 ∧ Stk w.heap.size wr v10 l ∧ (∀ x ∈ l, x < ns.length) ∧ l.length + 4 * k ≤ 4 * 40 + 1 ∧ Hid (occ f ns v [t] = occ k ns v l) ∧ Fr No w wr)
  case atStart => exact ⟨[t], f, some ⟨w.heap.size, 0, none⟩, 1, rfl, rfl, hf, rfl, S0, by simpa using ht, by simp; omega, rfl, F0⟩
  case round =>
    clear S0 F0
    obtain ⟨l, k, bs, cap, rfl, rfl, hk, hgk, hS, hl, hll, HO, hfr⟩ := hrel
    cases l with
    | nil =>
      have HN : Hid (occ f ns v [t] = (k, 0)) := by show _ = _; rw [HO.out, occ_nil]
      go_wp2_with fail
      go_ret2
      rw [HN.out]
      exact ⟨_, rfl, fun _ => rfl, hfr⟩
    | cons t1 l =>
      obtain ⟨g, cap', hvv, hc, hS1, hcap, hB0⟩ := hS.pop
      have ht1 := hl t1 (by simp)
      have hl' : ∀ x ∈ l, x < ns.length := fun x hx => hl x (by simp [hx])
      simp only [List.length_cons, Value.slice.injEq, true_and] at hvv
      obtain ⟨rfl, rfl⟩ := hvv
      simp only [n32] at hc
      have hsub : (((l.length + 1 : Nat)) : Int) - 1 = (l.length : Int) := by omega
      have hsub2 : ((l.length : Int) + 1) - 1 = (l.length : Int) := by omega
      simp only [List.length_cons] at hll
      cases k with
      | zero =>
        have HN : Hid (occ f ns v [t] = (0, 8)) := by show _ = _; rw [HO.out, occ_zero]
        have e41 : (40 : Int) - ((0 : Nat) : Int) + 1 = 41 := by omega
        have e41' : (40 : Int) - 0 + 1 = 41 := by omega
        clear hS HO
        go_wp2_with fail
        go_ret2
        rw [HN.out]
        exact ⟨_, rfl, fun e => by simp at e, hfr⟩
      | succ k =>
        have e41 : (40 : Int) - ((k + 1 : Nat) : Int) + 1 = 40 - (k : Int) := by omega
        have e41' : (40 : Int) - ((k : Int) + 1) + 1 = 40 - (k : Int) := by omega
        have d40 : decide ((40 : Int) < 40 - (k : Int)) = false := decide_eq_false (by omega)
        have HD : Hid (∀ w', Fr No w w' → Calls Try.prog 24 #[.pointer (some ⟨p, 0, none⟩), .int .i32 (t1 : Int)] w' fun e w'' => e = .returned (.int .i32 (deref ns t1 : Int)) ∧ w'' = w') := fun w' hF => deref_any (H.out.keep hF (fun _ _ e => e)) hw hs ht1
        have hdl := (deref_end hw t1 ht1).1
        by_cases hmet : deref ns t1 = v
        · have HN : Hid (occ f ns v [t] = (k, 7)) := by show _ = _; rw [HO.out, occ_met hmet]
          have q1 : ((deref ns t1 : Int) == (v : Int)) = true := by rw [hmet]; simp
          clear hS HO hmet
          go_wp2_with fail
          refine (HD.out _ hfr).mono ?_
          rintro e w1 ⟨rfl, rfl⟩
          go_wp2_with fail
          go_ret2
          rw [HN.out]
          exact ⟨_, rfl, fun e => by simp at e, hfr⟩
        · have HN : Hid (occ f ns v [t] = occ k ns v (kidsOf ns (deref ns t1) ++ l)) := by show _ = _; rw [HO.out, occ_on hmet]
          have q1 : ((deref ns t1 : Int) == (v : Int)) = false := by rw [beq_eq_false_iff_ne]; omega
          have HK : Hid (∀ w', Fr No w w' → Calls Try.prog 39 #[.pointer (some ⟨p, 0, none⟩), .int .i32 (deref ns t1 : Int)] w' (KidsPost B (kidsOf ns (deref ns t1)) w')) := fun w' hF => kids_any (H.out.keep hF (fun _ _ e => e)) hw hs hdl
          have hkl := kids_lt hw (deref ns t1)
          have hk4 := kids_len hw (deref ns t1)
          generalize kidsOf ns (deref ns t1) = ks at *
          clear hS HO hmet
          go_wp2_with fail
          refine (HD.out _ hfr).mono ?_
          rintro e w1 ⟨rfl, rfl⟩
          go_wp2_with fail
          refine (HK.out _ hfr).mono ?_
          rintro e w1' ⟨bk, ck, rfl, rfl, hck, hkc⟩
          clear HD HK q1 hc
          go_wp2_with fail
          generalize hW1 : w1' = W1 at *
          clear hW1
          go_loopg [10, 12] (ks.length + 1) (fun gk2 v10 v12 wr => ∃ (i : Nat) (bs : Option Addr) (cap : Nat), i ≤ ks.length ∧ v12 = .int .i64 ((i : Int) - 1) ∧ v10 = .slice bs (ks.drop i ++ l).length cap ∧ gk2 = i + 1 ∧ Stk w.heap.size wr v10 (ks.drop i ++ l) ∧ Fr (fun k => w.heap.size ≤ k) W1 wr)
          case atStart => exact ⟨ks.length, some ⟨g, 0, none⟩, cap, Nat.le_refl _, rfl, by simp, rfl, by simpa using hS1, Fr.refl _ _⟩
          case round =>
            obtain ⟨i, bs, cap2, hi, rfl, rfl, hgk2, hS2, hf2⟩ := hrel
            have hsz := hfr.size
            have hsz2 := hf2.size
            cases i with
            | zero =>
              have em : ((0 : Nat) : Int) - 1 = -1 := by omega
              have em' : (0 : Int) - 1 = -1 := by omega
              have hlen0 : (ks.drop 0 ++ l).length = ks.length + l.length := by simp
              rw [List.drop_zero] at hS2
              go_wp2_with fail
              go_roundg (k + 1)
              case measure => omega
              case rel => exact ⟨ks ++ l, k, bs, cap2, by simp, rfl, by omega, rfl, hS2, fun x hx => by
                rcases List.mem_append.1 hx with hx | hx
                · exact hkl x hx
                · exact hl' x hx, by rw [List.length_append]; omega, HN.out, hfr.trans hf2 (fun k hk e => by omega)⟩
            | succ i =>
              have em : ((i + 1 : Nat) : Int) - 1 = (i : Int) := by omega
              have em' : ((i : Int) + 1) - 1 = (i : Int) := by omega
              obtain ⟨x, hx⟩ : ∃ x, ks[i]? = some x := ⟨_, List.getElem?_eq_getElem (by omega)⟩
              obtain ⟨o, rfl, hcx⟩ := hkc i x hx
              have hcx' := hf2.cellAt hcx (fun e => by have := H.out.lt (k := B.a) (by simp [Blks.Has]); simp only at e; omega)
              simp only [n32] at hcx'
              have edr : ks.drop i = x :: ks.drop (i + 1) := by
                rw [List.drop_eq_getElem_cons (by omega)]
                congr 1
                exact (List.getElem?_eq_some_iff.1 hx).2
              have HED : Hid (ks.drop i = x :: ks.drop (i + 1)) := edr
              have hll2 : (ks.drop (i + 1) ++ l).length ≤ 200 := by rw [List.length_append, List.length_drop]; omega
              have hrow : (wr.alloc (.cells #[.int .i32 (x : Int)] 21)).ownsRow w.heap.size 21 1 (.slice bs (ks.drop (i + 1) ++ l).length cap2) (ks.drop (i + 1) ++ l).length ((ks.drop (i + 1) ++ l).reverse.map n32) := hS2.keep ((Fr.refl No wr).alloc _)
              have hnb : (wr.alloc (.cells #[.int .i32 (x : Int)] 21)).heap[wr.heap.size]? = some (.cells #[.int .i32 (x : Int)] 21) := heap_alloc_same _ _
              generalize hL : (ks.drop (i + 1) ++ l) = L at *
              have HL : Hid (ks.drop i ++ l = x :: L) := by show _ = _; rw [edr, List.cons_append, hL]
              clear hcx edr hx hL
              go_wp2_with (at_builtin; refine wpList_append_lies _ (by rfl) _ _ 52 (by rfl) w.heap.size 21 i0 (.int .i32 0) 1 4 Try.underlying52 hi0 hz0 hz1 hz2 rfl (by omega) _ L.length (L.reverse.map n32) (by rfl) hrow ⟨wr.heap.size, 0, none⟩ 1 1 [.int .i32 (x : Int)] (by rfl) (by rfl) (World.news_of_block (cs := #[.int .i32 (x : Int)]) hnb) (by simp [Value.oneCell']) (by omega) (by unfold maxLen; omega) (by omega) (by simp; omega) (wr.heap.size + 1) (by simp) ?_; intro g2 cap3 w3 hown3 hgrow3 hat3 hlt3)
              go_roundg (i + 1)
              case measure => omega
              case rel =>
                refine ⟨i, some ⟨g2, 0, none⟩, cap3, by omega, rfl, by rw [HL.out]; rfl, rfl, ?_, ?_⟩
                · rw [HL.out]
                  unfold Stk
                  rw [List.reverse_cons, List.map_append, List.length_cons]
                  exact hown3
                · refine Fr.grown (S := fun k => w.heap.size ≤ k) (hf2.alloc _) hgrow3 (fun k hk _ => ?_)
                  have := hS2.lt k hk
                  omega
end
end Go.Proofs.Qxb6500301a
