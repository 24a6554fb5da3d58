import Derived.Test.Qxb6500301aLoad5
import Derived.Test.Qxb6500301aReal8
namespace Go.Proofs.Qxb6500301a
open Go.RowKit
set_option linter.unusedSimpArgs false
set_option linter.unusedVariables false
attribute [local go_sem ↓] Go.wp_at_zero Go.wp_at_succ
attribute [-go_sem] Go.run_string_add_if Go.run_index_string Go.run_slice_string_if

/-! ### What Load lays is well formed -/
def NewOK (M : Nat) (nd : Nd) : Prop := nd = .v none ∨ ∃ c d es, nd = .s c d es ∧ 48 ≤ d.toNat ∧ d.toNat ≤ 52 ∧ es.length = d.toNat - 48 ∧ ∀ k ∈ es, k < M
theorem NewOK.mono {M N : Nat} {nd : Nd} (h : NewOK M nd) (hMN : M ≤ N) : NewOK N nd := by
  rcases h with h | ⟨c, d, es, h1, h2, h3, h4, h5⟩
  · exact .inl h
  · exact .inr ⟨c, d, es, h1, h2, h3, h4, fun k hk => Nat.lt_of_lt_of_le (h5 k hk) hMN⟩
theorem getD_set {a : At} {k j x y : Nat} (h : (a.set k (some x)).getD j none = some y) : y = x ∨ a.getD j none = some y := by
  rw [List.getD_eq_getElem?_getD] at h ⊢
  by_cases e : k = j
  · subst e
    by_cases hl : k < a.length
    · rw [List.getElem?_set_self hl] at h; simp at h; exact .inl h.symm
    · rw [List.set_eq_of_length_le (by omega)] at h; exact .inr h
  · rw [List.getElem?_set_ne e] at h; exact .inr h
theorem K_wf : ∀ (n : Nat) (w : Nat) (code : List UInt8) (len : Nat) (a : At) (x : List Nat × List UInt8 × List Nd × At), code.length ≤ n → K w code len a = some x → (∀ k y, a.getD k none = some y → y < len) →
    (∀ k ∈ x.1, k < len + x.2.2.1.length) ∧ (∀ k y, x.2.2.2.getD k none = some y → y < len + x.2.2.1.length) ∧ (∀ nd ∈ x.2.2.1, NewOK (len + x.2.2.1.length) nd) := by
  intro n
  induction n with
  | zero =>
    intro w code len a x hn h ha
    have hc : code = [] := List.eq_nil_of_length_eq_zero (by omega)
    subst hc
    cases w with
    | zero => rw [K_zero] at h; cases h; exact ⟨by simp, by simpa using ha, by simp⟩
    | succ w => rw [K_nil] at h; cases h
  | succ n ih =>
    intro w code len a x hn h ha
    cases w with
    | zero => rw [K_zero] at h; cases h; exact ⟨by simp, by simpa using ha, by simp⟩
    | succ w =>
      cases code with
      | nil => rw [K_nil] at h; cases h
      | cons c r =>
        have hr : r.length ≤ n := by simp at hn; omega
        by_cases hc : isVarC c = true
        · cases hx : a.getD (c.toNat - 65) none with
          | some y =>
            rw [K_known hc hx] at h
            cases hk : K w r len a with
            | none => rw [hk] at h; cases h
            | some z =>
              rw [hk] at h; cases h
              obtain ⟨h1, h2, h3⟩ := ih _ _ _ _ _ hr hk ha
              refine ⟨fun k hk => ?_, h2, h3⟩
              rcases List.mem_cons.1 hk with rfl | hk
              · have := ha _ _ hx; simp only; omega
              · exact h1 k hk
          | none =>
            rw [K_new hc hx] at h
            cases hk : K w r (len + 1) (a.set (c.toNat - 65) (some len)) with
            | none => rw [hk] at h; cases h
            | some z =>
              rw [hk] at h; cases h
              obtain ⟨h1, h2, h3⟩ := ih _ _ _ _ _ hr hk (fun k y hy => by
                rcases getD_set hy with rfl | hy
                · omega
                · have := ha k y hy; omega)
              have e : len + 1 + z.2.2.1.length = len + (Nd.v none :: z.2.2.1).length := by simp; omega
              rw [e] at h1 h2 h3
              refine ⟨fun k hk => ?_, h2, fun nd hnd => ?_⟩
              · rcases List.mem_cons.1 hk with rfl | hk
                · simp
                · exact h1 k hk
              · rcases List.mem_cons.1 hnd with rfl | hnd
                · exact .inl rfl
                · exact h3 nd hnd
        · have hc' : isVarC c = false := by simpa using hc
          cases r with
          | nil => rw [K_one hc'] at h; cases h
          | cons d r' =>
            by_cases hf : (isFun c && okD d) = true
            · rw [K_fun hc' hf] at h
              cases hk : K (d.toNat - 48) r' (len + 1) a with
              | none => rw [hk] at h; cases h
              | some z =>
                rw [hk] at h
                simp only [Option.bind_some] at h
                cases hk2 : K w z.2.1 (len + 1 + z.2.2.1.length) z.2.2.2 with
                | none => rw [hk2] at h; cases h
                | some y =>
                  rw [hk2] at h
                  cases h
                  have hzr := K_rest hk
                  obtain ⟨a1, a2, a3⟩ := ih _ _ _ _ _ (by simp at hr; omega) hk (fun k y hy => by have := ha k y hy; omega)
                  obtain ⟨b1, b2, b3⟩ := ih _ _ _ _ _ (by simp at hr; omega) hk2 a2
                  have hdd : 48 ≤ d.toNat ∧ d.toNat ≤ 52 := by
                    have : okD d = true := by revert hf; cases isFun c <;> simp
                    simpa [okD] using this
                  have e : len + 1 + z.2.2.1.length + y.2.2.1.length = len + (Nd.s c d z.1 :: (z.2.2.1 ++ y.2.2.1)).length := by simp; omega
                  rw [e] at b1 b2 b3
                  refine ⟨fun k hk => ?_, b2, fun nd hnd => ?_⟩
                  · rcases List.mem_cons.1 hk with rfl | hk
                    · simp
                    · exact b1 k hk
                  · rcases List.mem_cons.1 hnd with rfl | hnd
                    · exact .inr ⟨c, d, z.1, rfl, hdd.1, hdd.2, hzr.2, fun k hk => by have := a1 k hk; simp only at e ⊢; omega⟩
                    · rcases List.mem_append.1 hnd with hnd | hnd
                      · exact (a3 nd hnd).mono (by simp; omega)
                      · exact b3 nd hnd
            · rw [K_bad hc' (by simpa using hf)] at h; cases h

theorem scanL_le : ∀ (l : Nat) (code : List UInt8) (want : Nat) (seen : List Bool) (n N : Nat), code.length ≤ l → scanL code want seen n = some N → N ≤ n + code.length := by
  intro l
  induction l with
  | zero =>
    intro code want seen n N hl h
    have hc : code = [] := List.eq_nil_of_length_eq_zero (by omega)
    subst hc
    cases want with
    | zero => simp [scanL] at h; omega
    | succ w => simp [scanL] at h
  | succ l ih =>
    intro code want seen n N hl h
    cases want with
    | zero =>
      rw [scanL_zero] at h
      split at h
      · cases h; omega
      · cases h
    | succ w =>
      cases code with
      | nil => simp [scanL] at h
      | cons c r =>
        by_cases hc : isVarC c = true
        · rw [scanL_var hc] at h
          have := ih _ _ _ _ _ (by simp at hl; omega) h
          simp
          split at this <;> omega
        · have hc' : isVarC c = false := by simpa using hc
          cases r with
          | nil => rw [scanL_end hc'] at h; cases h
          | cons d r =>
            by_cases hf : isFun c = true
            · by_cases hd : okD d = true
              · rw [scanL_fun hc' hf hd] at h
                have := ih _ _ _ _ _ (by simp at hl; omega) h
                simp; omega
              · rw [scanL_dig hc' (by simpa using hd)] at h; cases h
            · rw [scanL_bad hc' (by simpa using hf)] at h; cases h

def newsOf (len : Nat) (code : List UInt8) : List Nd := match K 1 code len (List.replicate 6 none) with
  | some x => x.2.2.1
  | none => []
/-- 'Load', plainly: the root, the error, the nodes. -/
def loadAns (ns : List Nd) (code : List UInt8) : Int × Int × List Nd :=
  if 48 < code.length then (-1, 1, ns) else match scanL code 1 (List.replicate 6 false) 0 with
    | none => (-1, 5, ns)
    | some n => if 64 < ns.length + n then (-1, 6, ns) else ((ns.length : Int), 0, ns ++ newsOf ns.length code)

theorem WfT.load {ns news : List Nd} {tr : List Nat} (h : WfT ns tr) (hn : ∀ nd ∈ news, NewOK (ns ++ news).length nd) (hl : (ns ++ news).length ≤ 64) : WfT (ns ++ news) tr := by
  have key : ∀ (i : Nat) (x : Nd), (ns ++ news)[i]? = some x → ns[i]? = some x ∨ NewOK (ns ++ news).length x := by
    intro i x hx
    by_cases hi : i < ns.length
    · rw [List.getElem?_append_left hi] at hx; exact .inl hx
    · rw [List.getElem?_append_right (by omega)] at hx
      exact .inr (hn x (List.mem_of_getElem? hx))
  have hnl : ns.length ≤ (ns ++ news).length := by simp
  refine ⟨⟨fun i r hi => ?_, fun i c d es hi => ?_⟩, h.nodup, fun v => ?_, hl⟩
  · rcases key i _ hi with h1 | h1 | ⟨c, d, es, h1, _⟩
    · obtain ⟨h2, h3⟩ := h.wf.ref i r h1
      refine ⟨by omega, fun q hq => ?_⟩
      rw [List.getElem?_append_left h2] at hq
      exact h3 q hq
    · cases h1
    · cases h1
  · rcases key i _ hi with h1 | h1 | ⟨c', d', es', h1, h2, h3, h4, h5⟩
    · obtain ⟨h2, h3, h4, h5⟩ := h.wf.arg i c d es h1
      exact ⟨h2, h3, h4, fun k hk => by have := h5 k hk; omega⟩
    · cases h1
    · cases h1; exact ⟨h2, h3, h4, h5⟩
  · rw [h.mem v]
    constructor
    · rintro ⟨r, hr⟩
      exact ⟨r, by rw [List.getElem?_append_left (lt_of_some hr)]; exact hr⟩
    · rintro ⟨r, hr⟩
      rcases key v _ hr with h1 | h1 | ⟨c', d', es', h1, _⟩
      · exact ⟨r, h1⟩
      · cases h1
      · cases h1

section
variable {w : World} {p : Nat} {B : Blks} {ns : List Nd} {saved : List (List Nd)}
set_option maxRecDepth 20000 in
theorem Load_any (h : HeapAt w p B ns saved) (code : List UInt8) : Calls Try.prog 27 #[.pointer (some ⟨p, 0, none⟩), .string (S code)] w (UniPost p B saved (loadAns ns code) w) := by
  obtain ⟨hw, hs⟩ := h.wf
  obtain ⟨ws, tr, tms, h1, hinv, hsv, htm⟩ := h.main
  have HH : Hid (HeapAt w p B ns saved) := h
  have H1 : Hid (RAt w p B ns ws tr tms saved) := h1
  have c0 := h1.p0
  have hsz := S_size code
  by_cases hl : 48 < code.length
  · have d1 : decide ((48 : Int) < (code.length : Int)) = true := decide_eq_true (by omega)
    have d1' : decide (48 < code.length) = true := decide_eq_true (by omega)
    have HA : Hid (loadAns ns code = (-1, 1, ns)) := by show _ = _; unfold loadAns; rw [if_pos hl]
    clear h h1 hinv hsv htm
    go_enter Try.func27, Try.ntmps27
    go_wp2_with fail
    go_ret2
    unfold UniPost
    rw [HA.out]
    exact ⟨rfl, HH.out, Fr.refl _ _⟩
  · have d1 : decide ((48 : Int) < (code.length : Int)) = false := decide_eq_false (by omega)
    have d1' : decide (48 < code.length) = false := decide_eq_false (by omega)
    have HS : Hid (∀ w, Calls Try.prog 40 #[.string (S code)] w fun e w' => e = .returned (.int .i64 (scanAns code)) ∧ w' = w) := fun w => scan_any (by omega)
    cases hsc : scanL code 1 (List.replicate 6 false) 0 with
    | none =>
      have HA : Hid (loadAns ns code = (-1, 5, ns)) := by show _ = _; unfold loadAns; rw [if_neg hl, hsc]
      have hsa : scanAns code = -1 := by unfold scanAns; rw [hsc]
      rw [hsa] at HS
      clear h h1 hinv hsv htm hsc hsa hl
      go_enter Try.func27, Try.ntmps27
      go_wp2_with fail
      refine (HS.out _).mono ?_
      rintro e w1 ⟨rfl, rfl⟩
      go_wp2_with fail
      go_ret2
      unfold UniPost
      rw [HA.out]
      exact ⟨rfl, HH.out, Fr.refl _ _⟩
    | some n =>
      have hsa : scanAns code = (n : Int) := by unfold scanAns; rw [hsc]
      rw [hsa] at HS
      obtain ⟨ks, news, at', hk, hN⟩ := scan_kids _ code 1 (List.replicate 6 false) 0 ns.length (List.replicate 6 none) n (Nat.le_refl _) ⟨rfl, rfl, fun k hk => by rw [getD_none]; rw [List.getD_eq_getElem?_getD, List.getElem?_replicate]; split <;> rfl⟩ hsc
      have hN' : n = news.length := by omega
      have hn48 : news.length ≤ 48 ∨ True := .inr trivial
      by_cases hf : 64 < ns.length + n
      · have d2 : decide ((64 : Int) < (ns.length : Int) + (n : Int)) = true := decide_eq_true (by omega)
        have d2' : decide (64 < ns.length + n) = true := decide_eq_true (by omega)
        have HA : Hid (loadAns ns code = (-1, 6, ns)) := by show _ = _; unfold loadAns; rw [if_neg hl, hsc]; simp only; rw [if_pos hf]
        have hnb : n ≤ 48 := by have := scanL_le _ _ _ _ _ _ (Nat.le_refl _) hsc; omega
        clear h h1 hinv hsv htm hsc hsa hl hk hN hN' hn48 hf
        go_enter Try.func27, Try.ntmps27
        go_wp2_with fail
        refine (HS.out _).mono ?_
        rintro e w1 ⟨rfl, rfl⟩
        go_wp2_with fail
        go_ret2
        unfold UniPost
        rw [HA.out]
        exact ⟨rfl, HH.out, Fr.refl _ _⟩
      · have d2 : decide ((64 : Int) < (ns.length : Int) + (n : Int)) = false := decide_eq_false (by omega)
        have d2' : decide (64 < ns.length + n) = false := decide_eq_false (by omega)
        have hF : (ns ++ news).length ≤ 64 := by rw [List.length_append]; omega
        have HA : Hid (loadAns ns code = ((ns.length : Int), 0, ns ++ news)) := by
          show _ = _
          unfold loadAns newsOf
          rw [if_neg hl, hsc, hk]
          simp only
          rw [if_neg hf]
        have HL : Hid (∀ w', w' = w → Calls Try.prog 41 #[.pointer (some ⟨p, 0, none⟩), .string (S code)] w' fun e w' => e = .returned (.tuple #[]) ∧ (∃ ws', RAt w' p B (ns ++ news) ws' tr tms saved) ∧ Fr (B.Has p) w w') := fun w' e => by subst e; exact lay_any h1 hw (by omega) hk hF
        have HFIN : Hid (∀ w', (∃ ws', RAt w' p B (ns ++ news) ws' tr tms saved) → HeapAt w' p B (ns ++ news) saved) := by
          rintro w' ⟨ws', hr⟩
          obtain ⟨k1, k2, k3⟩ := K_wf _ _ _ _ _ _ (Nat.le_refl _) hk (fun k y hy => by rw [getD_none] at hy; cases hy)
          have hwt : WfT (ns ++ news) tr := hinv.wft.load (fun nd hnd => by have := k3 nd hnd; rw [List.length_append]; exact this) hF
          obtain ⟨i1, i2⟩ := hinv.load (news := news) hwt
          exact ⟨ws', tr, tms, hr, i1, by rw [i2]; exact hsv, htm⟩
        have hnb : n ≤ 64 := by omega
        clear h h1 hinv hsv htm hsc hsa hl hk hN hN' hn48 hf hF hw
        go_enter Try.func27, Try.ntmps27
        go_wp2_with fail
        refine (HS.out _).mono ?_
        rintro e w1 ⟨rfl, rfl⟩
        go_wp2_with fail
        refine (HL.out _ rfl).mono ?_
        rintro e w2 ⟨rfl, hr2, hf2⟩
        go_wp2_with fail
        go_ret2
        unfold UniPost
        rw [HA.out]
        exact ⟨rfl, HFIN.out _ hr2, hf2⟩
end
end Go.Proofs.Qxb6500301a
