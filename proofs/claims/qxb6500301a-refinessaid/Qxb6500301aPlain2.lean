import Derived.Test.Qxb6500301aPlain1
namespace Go.Proofs.Qxb6500301a
set_option linter.unusedVariables false

/-- ns1 is ns with the unbound variables bs bound. -/
structure Bnds (ns ns1 : List Nd) (bs : List Nat) : Prop where
  len : ns1.length = ns.length
  other : ∀ i, i ∉ bs → ns1[i]? = ns[i]?
  old : ∀ v ∈ bs, ns[v]? = some (.v none)
  new : ∀ v ∈ bs, ∃ r, ns1[v]? = some (.v (some r))
  nodup : bs.Nodup
theorem Bnds.refl (ns : List Nd) : Bnds ns ns [] := ⟨rfl, fun _ _ => rfl, by simp, by simp, List.nodup_nil⟩
theorem Bnds.one {ns : List Nd} {v t : Nat} (h : ns[v]? = some (.v none)) : Bnds ns (ns.set v (.v (some t))) [v] := by
  have hlt := lt_of_some h
  refine ⟨by simp, fun i hi => ?_, fun u hu => ?_, fun u hu => ?_, by simp⟩
  · rw [List.getElem?_set_ne (by simp at hi; omega)]
  · have : u = v := by simpa using hu
    rw [this]; exact h
  · have : u = v := by simpa using hu
    subst this
    exact ⟨t, by simp [hlt]⟩
theorem Bnds.trans {a b c : List Nd} {xs ys : List Nat} (h : Bnds a b xs) (k : Bnds b c ys) : Bnds a c (xs ++ ys) := by
  have hd : ∀ v ∈ xs, v ∉ ys := by
    intro v hv hy
    obtain ⟨r, hr⟩ := h.new v hv
    rw [k.old v hy] at hr
    cases hr
  refine ⟨k.len.trans h.len, fun i hi => ?_, fun v hv => ?_, fun v hv => ?_, ?_⟩
  · simp only [List.mem_append, not_or] at hi
    rw [k.other i hi.2, h.other i hi.1]
  · rcases List.mem_append.1 hv with hv | hv
    · exact h.old v hv
    · by_cases hx : v ∈ xs
      · exact absurd hv (hd v hx)
      · rw [← h.other v hx]; exact k.old v hv
  · rcases List.mem_append.1 hv with hv | hv
    · rw [k.other v (hd v hv)]; exact h.new v hv
    · exact k.new v hv
  · rw [List.nodup_append]
    exact ⟨h.nodup, k.nodup, fun x hx y hy e => hd x hx (e ▸ hy)⟩

/-- A binding leaves the nodes well formed. -/
theorem WfN.bind {ns : List Nd} (h : WfN ns) {v t : Nat} (hv : ns[v]? = some (.v none)) (ht : t < ns.length) (hx : ∀ q, ns[t]? = some (.v q) → t < v) : WfN (ns.set v (.v (some t))) := by
  have hvl := lt_of_some hv
  have key : ∀ (i : Nat) (q : Option Nat), (ns.set v (.v (some t)))[i]? = some (Nd.v q) → ∃ q', ns[i]? = some (Nd.v q') := by
    intro i q hi
    by_cases e : i = v
    · subst e; exact ⟨_, hv⟩
    · rw [List.getElem?_set_ne (by omega)] at hi; exact ⟨q, hi⟩
  refine ⟨fun i r hi => ?_, fun i c d as hi => ?_⟩
  · by_cases e : i = v
    · subst e
      simp [hvl] at hi
      subst hi
      refine ⟨by simpa using ht, fun q hq => ?_⟩
      obtain ⟨q', hq'⟩ := key _ _ hq
      exact hx q' hq'
    · rw [List.getElem?_set_ne (by omega)] at hi
      obtain ⟨h1, h2⟩ := h.ref i r hi
      refine ⟨by simpa using h1, fun q hq => ?_⟩
      obtain ⟨q', hq'⟩ := key _ _ hq
      exact h2 q' hq'
  · have e : i ≠ v := by
      rintro rfl
      simp [hvl] at hi
    rw [List.getElem?_set_ne (by omega)] at hi
    obtain ⟨h1, h2, h3, h4⟩ := h.arg i c d as hi
    exact ⟨h1, h2, h3, by simpa using h4⟩

theorem zip_lt {as bs : List Nat} {n : Nat} (h1 : ∀ k ∈ as, k < n) (h2 : ∀ k ∈ bs, k < n) : ∀ p ∈ as.zip bs, p.1 < n ∧ p.2 < n := by
  intro p hp
  obtain ⟨a, b⟩ := p
  exact ⟨h1 a (List.of_mem_zip hp).1, h2 b (List.of_mem_zip hp).2⟩

/-- What one pair leaves. -/
theorem stp_wf {f : Nat} {ns : List Nd} {a b : Nat} (h : WfN ns) (ha : a < ns.length) (hb : b < ns.length) :
    (∀ f' ns' bs, stp f ns a b = .done f' ns' bs → WfN ns' ∧ Bnds ns ns' bs) ∧ (∀ ps, stp f ns a b = .more ps → ∀ p ∈ ps, p.1 < ns.length ∧ p.2 < ns.length) := by
  obtain ⟨hxl, hx⟩ := deref_end h a ha
  obtain ⟨hyl, hy⟩ := deref_end h b hb
  unfold stp
  by_cases e : deref ns a = deref ns b
  · rw [if_pos e]
    refine ⟨fun f' ns' bs hh => ?_, fun ps hh => by simp at hh⟩
    simp only [SR.done.injEq] at hh
    obtain ⟨_, rfl, rfl⟩ := hh
    exact ⟨h, Bnds.refl ns⟩
  · rw [if_neg e]
    rcases hx with hx | ⟨c, d, as, hx⟩
    · rcases hy with hy | ⟨c', d', as', hy⟩
      · rw [hx, hy]
        refine ⟨fun f' ns' bs hh => ?_, fun ps hh => by simp at hh⟩
        simp only [SR.done.injEq] at hh
        obtain ⟨_, rfl, rfl⟩ := hh
        have hm : ns[max (deref ns a) (deref ns b)]? = some (.v none) := by
          rcases Nat.le_total (deref ns a) (deref ns b) with hle | hle
          · rw [Nat.max_eq_right hle]; exact hy
          · rw [Nat.max_eq_left hle]; exact hx
        exact ⟨h.bind hm (by omega) (fun _ _ => by omega), Bnds.one hm⟩
      · rw [hx, hy]
        refine ⟨fun f' ns' bs hh => ?_, fun ps hh => ?_⟩
        · simp only [bnd] at hh
          split at hh
          · simp only [SR.done.injEq] at hh
            obtain ⟨_, rfl, rfl⟩ := hh
            exact ⟨h.bind hx hyl (fun q hq => by rw [hy] at hq; cases hq), Bnds.one hx⟩
          · simp at hh
        · simp only [bnd] at hh; split at hh <;> simp at hh
    · rcases hy with hy | ⟨c', d', as', hy⟩
      · rw [hx, hy]
        refine ⟨fun f' ns' bs hh => ?_, fun ps hh => ?_⟩
        · simp only [bnd] at hh
          split at hh
          · simp only [SR.done.injEq] at hh
            obtain ⟨_, rfl, rfl⟩ := hh
            exact ⟨h.bind hy hxl (fun q hq => by rw [hx] at hq; cases hq), Bnds.one hy⟩
          · simp at hh
        · simp only [bnd] at hh; split at hh <;> simp at hh
      · rw [hx, hy]
        refine ⟨fun f' ns' bs hh => ?_, fun ps hh => ?_⟩
        · simp only at hh; split at hh <;> simp at hh
        · simp only at hh
          split at hh
          · simp only [SR.more.injEq] at hh
            subst hh
            exact zip_lt (h.arg _ _ _ _ hx).2.2.2 (h.arg _ _ _ _ hy).2.2.2
          · simp at hh

theorem U_wf : ∀ (f : Nat) (ns : List Nd) (l : List (Nat × Nat)), WfN ns → (∀ p ∈ l, p.1 < ns.length ∧ p.2 < ns.length) → ∀ f' ns' bs, U f ns l = .inr (f', ns', bs) → WfN ns' ∧ Bnds ns ns' bs ∧ f' ≤ f := by
  intro f
  induction f using Nat.strongRecOn with
  | _ f ih =>
    intro ns l h hl f' ns' bs e
    cases l with
    | nil =>
      rw [U_nil] at e
      simp only [Sum.inr.injEq, Prod.mk.injEq] at e
      obtain ⟨rfl, rfl, rfl⟩ := e
      exact ⟨h, Bnds.refl _, Nat.le_refl _⟩
    | cons p rest =>
      obtain ⟨a, b⟩ := p
      cases f with
      | zero => rw [U_zero] at e; cases e
      | succ f =>
        obtain ⟨h1, h2⟩ := hl (a, b) (by simp)
        obtain ⟨s1, s2⟩ := stp_wf (f := f) h h1 h2
        rw [U_cons] at e
        cases hs : stp f ns a b with
        | err e' => rw [hs] at e; cases e
        | done f1 ns1 bs1 =>
          rw [hs] at e
          simp only at e
          obtain ⟨w1, b1⟩ := s1 _ _ _ hs
          have hle := stp_le hs
          cases hu : U f1 ns1 rest with
          | inl e' => rw [hu] at e; cases e
          | inr x =>
            obtain ⟨f2, ns2, bs2⟩ := x
            rw [hu] at e
            simp only [app, Sum.inr.injEq, Prod.mk.injEq] at e
            obtain ⟨rfl, rfl, rfl⟩ := e
            obtain ⟨w2, b2, l2⟩ := ih f1 (by omega) ns1 rest w1 (fun p hp => by rw [b1.len]; exact hl p (by simp [hp])) _ _ _ hu
            exact ⟨w2, b1.trans b2, by omega⟩
        | more ps =>
          rw [hs] at e
          simp only at e
          obtain ⟨w2, b2, l2⟩ := ih f (by omega) ns (ps ++ rest) h (fun p hp => by
            rcases List.mem_append.1 hp with hp | hp
            · exact s2 _ hs p hp
            · exact hl p (by simp [hp])) _ _ _ e
          exact ⟨w2, b2, by omega⟩

/-! ### The trail and the marks -/
/-- Every variable of vs unbound. -/
def unb (ns : List Nd) (vs : List Nat) : List Nd := vs.foldl (fun ns v => ns.set v (.v none)) ns
theorem unb_nil (ns : List Nd) : unb ns [] = ns := rfl
theorem unb_cons (ns : List Nd) (v : Nat) (vs : List Nat) : unb ns (v :: vs) = unb (ns.set v (.v none)) vs := rfl
theorem unb_len : ∀ (vs : List Nat) (ns : List Nd), (unb ns vs).length = ns.length
  | [], ns => rfl
  | v :: vs, ns => by rw [unb_cons, unb_len]; simp
theorem unb_get : ∀ (vs : List Nat) (ns : List Nd) (i : Nat), (unb ns vs)[i]? = if i ∈ vs ∧ i < ns.length then some (.v none) else ns[i]?
  | [], ns, i => by rw [unb_nil, if_neg (by simp)]
  | v :: vs, ns, i => by
    rw [unb_cons, unb_get]
    simp only [List.length_set, List.mem_cons]
    by_cases hm : i ∈ vs ∧ i < ns.length
    · rw [if_pos hm, if_pos ⟨.inr hm.1, hm.2⟩]
    · rw [if_neg hm]
      by_cases e : i = v
      · subst e
        by_cases hl : i < ns.length
        · rw [if_pos ⟨.inl rfl, hl⟩]; simp [hl]
        · rw [if_neg (by omega)]; simp [hl]
      · rw [List.getElem?_set_ne (by omega)]
        rw [if_neg (by rintro ⟨h1 | h1, h2⟩; exact e h1; exact hm ⟨h1, h2⟩)]
theorem unb_bnds {ns ns1 : List Nd} {bs : List Nat} (h : Bnds ns ns1 bs) : unb ns1 bs = ns := by
  apply List.ext_getElem?
  intro i
  rw [unb_get]
  by_cases hi : i ∈ bs
  · have := h.old i hi
    rw [if_pos ⟨hi, by rw [h.len]; exact lt_of_some this⟩, this]
  · rw [if_neg (fun e => hi e.1), h.other i hi]

structure WfT (ns : List Nd) (tr : List Nat) : Prop where
  wf : WfN ns
  nodup : tr.Nodup
  mem : ∀ v, v ∈ tr ↔ ∃ r, ns[v]? = some (.v (some r))
  small : ns.length ≤ 64

def restore (ns : List Nd) (vs : List Nat) (top : Nat) : List Nd := (unb ns vs).take top
theorem restore_len {ns : List Nd} {vs : List Nat} {top : Nat} (h : top ≤ ns.length) : (restore ns vs top).length = top := by
  unfold restore; rw [List.length_take, unb_len]; omega
theorem restore_get (ns : List Nd) (vs : List Nat) (top i : Nat) : (restore ns vs top)[i]? = if i < top then (if i ∈ vs ∧ i < ns.length then some (.v none) else ns[i]?) else none := by
  unfold restore
  rw [List.getElem?_take]
  split
  · exact unb_get _ _ _
  · rfl

/-- A state and its marks (the latest first): every mark's own state stands. -/
def Inv : List Nd → List Nat → List (Nat × Nat) → Prop
  | ns, tr, [] => WfT ns tr
  | ns, tr, (top, tm) :: ms => WfT ns tr ∧ top ≤ ns.length ∧ tm ≤ tr.length ∧ Inv (restore ns (tr.drop tm) top) (tr.take tm) ms
def savedOf : List Nd → List Nat → List (Nat × Nat) → List (List Nd)
  | _, _, [] => []
  | ns, tr, (top, tm) :: ms => restore ns (tr.drop tm) top :: savedOf (restore ns (tr.drop tm) top) (tr.take tm) ms

theorem Inv.wft {ns : List Nd} {tr : List Nat} : ∀ {ms : List (Nat × Nat)}, Inv ns tr ms → WfT ns tr
  | [], h => h
  | _ :: _, h => h.1
theorem savedOf_len : ∀ (ms : List (Nat × Nat)) (ns : List Nd) (tr : List Nat), (savedOf ns tr ms).length = ms.length
  | [], _, _ => rfl
  | (top, tm) :: ms, ns, tr => by simp [savedOf, savedOf_len ms]

theorem Inv.push {ns : List Nd} {tr : List Nat} {ms : List (Nat × Nat)} (h : Inv ns tr ms) : Inv ns tr ((ns.length, tr.length) :: ms) ∧ savedOf ns tr ((ns.length, tr.length) :: ms) = ns :: savedOf ns tr ms := by
  have e1 : restore ns (tr.drop tr.length) ns.length = ns := by
    rw [List.drop_length]; unfold restore; rw [unb_nil, List.take_length]
  have e2 : tr.take tr.length = tr := List.take_length
  refine ⟨⟨h.wft, Nat.le_refl _, Nat.le_refl _, ?_⟩, ?_⟩
  · rw [e1, e2]; exact h
  · simp only [savedOf]; rw [e1, e2]
theorem Inv.undo {ns : List Nd} {tr : List Nat} {top tm : Nat} {ms : List (Nat × Nat)} (h : Inv ns tr ((top, tm) :: ms)) :
    Inv (restore ns (tr.drop tm) top) (tr.take tm) ((top, tm) :: ms) ∧ savedOf (restore ns (tr.drop tm) top) (tr.take tm) ((top, tm) :: ms) = savedOf ns tr ((top, tm) :: ms) := by
  obtain ⟨h1, h2, h3, h4⟩ := h
  have hl := restore_len (vs := tr.drop tm) h2
  have e1 : restore (restore ns (tr.drop tm) top) ((tr.take tm).drop tm) top = restore ns (tr.drop tm) top := by
    rw [List.drop_take, Nat.sub_self, List.take_zero]
    show (unb (restore ns (tr.drop tm) top) []).take top = _
    rw [unb_nil]
    exact List.take_of_length_le (by rw [hl]; exact Nat.le_refl _)
  have e2 : (tr.take tm).take tm = tr.take tm := by rw [List.take_take, Nat.min_self]
  refine ⟨⟨h4.wft, by rw [hl]; exact Nat.le_refl _, by simp; omega, ?_⟩, ?_⟩
  · rw [e1, e2]; exact h4
  · simp only [savedOf]; rw [e1, e2]
theorem restore_restore {ns : List Nd} {tr : List Nat} {top tm top' tm' : Nat} (h1 : top' ≤ top) (h2 : tm' ≤ tm) (hl : top ≤ ns.length) : restore (restore ns (tr.drop tm) top) ((tr.take tm).drop tm') top' = restore ns (tr.drop tm') top' := by
  have hs : tr.drop tm' = (tr.take tm).drop tm' ++ tr.drop tm := by
    conv => lhs; rw [← List.take_append_drop tm tr]
    rw [List.drop_append]
    by_cases hlt : tm ≤ tr.length
    · rw [List.length_take, Nat.min_eq_left hlt, Nat.sub_eq_zero_of_le h2, List.drop_zero]
    · rw [List.drop_eq_nil_of_le (as := tr) (by omega)]; simp
  apply List.ext_getElem?
  intro i
  rw [restore_get, restore_get, restore_get, hs, restore_len hl]
  by_cases hi : i < top'
  · rw [if_pos hi, if_pos hi]
    rw [if_pos (show i < top by omega)]
    by_cases ha : i ∈ (tr.take tm).drop tm'
    · rw [if_pos ⟨ha, by omega⟩, if_pos ⟨List.mem_append.2 (.inl ha), by omega⟩]
    · rw [if_neg (fun e => ha e.1)]
      by_cases hb : i ∈ tr.drop tm
      · rw [if_pos ⟨hb, by omega⟩, if_pos ⟨List.mem_append.2 (.inr hb), by omega⟩]
      · rw [if_neg (fun e => hb e.1), if_neg (fun e => by rcases List.mem_append.1 e.1 with e | e; exact ha e; exact hb e)]
  · rw [if_neg hi, if_neg hi]
theorem Inv.cut1 {ns : List Nd} {tr : List Nat} {m : Nat × Nat} {ms : List (Nat × Nat)} (h : Inv ns tr (m :: ms)) : Inv ns tr ms ∧ savedOf ns tr ms = (savedOf ns tr (m :: ms)).tail := by
  obtain ⟨top, tm⟩ := m
  obtain ⟨h1, h2, h3, h4⟩ := h
  cases ms with
  | nil => exact ⟨h1, rfl⟩
  | cons m' ms' =>
    obtain ⟨top', tm'⟩ := m'
    obtain ⟨g1, g2, g3, g4⟩ := h4
    have hl := restore_len (vs := tr.drop tm) h2
    have hle : tm' ≤ tm := by simp at g3; omega
    have e1 := restore_restore (tr := tr) (top := top) (tm := tm) (top' := top') (tm' := tm') (by omega) hle h2
    have e2 : (tr.take tm).take tm' = tr.take tm' := by rw [List.take_take, Nat.min_eq_left hle]
    rw [e1, e2] at g4
    refine ⟨⟨h1, by omega, by omega, g4⟩, ?_⟩
    simp only [savedOf, List.tail_cons]
    rw [e1, e2]
theorem Inv.cut {ns : List Nd} {tr : List Nat} : ∀ (j : Nat) {ms : List (Nat × Nat)}, Inv ns tr ms → Inv ns tr (ms.drop j) ∧ savedOf ns tr (ms.drop j) = (savedOf ns tr ms).drop j
  | 0, ms, h => ⟨h, rfl⟩
  | j + 1, [], h => ⟨h, rfl⟩
  | j + 1, m :: ms, h => by
    obtain ⟨h1, h2⟩ := h.cut1
    obtain ⟨h3, h4⟩ := Inv.cut j h1
    refine ⟨h3, ?_⟩
    rw [List.drop_succ_cons, h4, h2]
    cases hs : savedOf ns tr (m :: ms) with
    | nil => simp
    | cons x r => rfl
/-- Bindings leave the marks' states as they were. -/
theorem Inv.bnds {ns ns1 : List Nd} {tr bs : List Nat} (hb : Bnds ns ns1 bs) : ∀ {ms : List (Nat × Nat)}, Inv ns tr ms → WfT ns1 (tr ++ bs) → Inv ns1 (tr ++ bs) ms ∧ savedOf ns1 (tr ++ bs) ms = savedOf ns tr ms
  | [], h, hw => ⟨hw, rfl⟩
  | (top, tm) :: ms, h, hw => by
    obtain ⟨h1, h2, h3, h4⟩ := h
    have e1 : restore ns1 ((tr ++ bs).drop tm) top = restore ns (tr.drop tm) top := by
      rw [List.drop_append_of_le_length h3]
      apply List.ext_getElem?
      intro i
      rw [restore_get, restore_get, hb.len]
      by_cases hi : i < top
      · rw [if_pos hi, if_pos hi]
        by_cases ha : i ∈ tr.drop tm
        · rw [if_pos ⟨List.mem_append.2 (.inl ha), by omega⟩, if_pos ⟨ha, by omega⟩]
        · by_cases hx : i ∈ bs
          · rw [if_pos ⟨List.mem_append.2 (.inr hx), by omega⟩, if_neg (fun e => ha e.1), hb.old i hx]
          · rw [if_neg (fun e => by rcases List.mem_append.1 e.1 with e | e; exact ha e; exact hx e), if_neg (fun e => ha e.1), hb.other i hx]
      · rw [if_neg hi, if_neg hi]
    have e2 : (tr ++ bs).take tm = tr.take tm := List.take_append_of_le_length h3
    refine ⟨⟨hw, by rw [hb.len]; exact h2, by rw [List.length_append]; omega, ?_⟩, ?_⟩
    · rw [e1, e2]; exact h4
    · simp only [savedOf]; rw [e1, e2]
/-- New nodes leave the marks' states as they were. -/
theorem Inv.load {ns news : List Nd} {tr : List Nat} : ∀ {ms : List (Nat × Nat)}, Inv ns tr ms → WfT (ns ++ news) tr → Inv (ns ++ news) tr ms ∧ savedOf (ns ++ news) tr ms = savedOf ns tr ms
  | [], h, hw => ⟨hw, rfl⟩
  | (top, tm) :: ms, h, hw => by
    obtain ⟨h1, h2, h3, h4⟩ := h
    have e1 : restore (ns ++ news) (tr.drop tm) top = restore ns (tr.drop tm) top := by
      apply List.ext_getElem?
      intro i
      rw [restore_get, restore_get]
      by_cases hi : i < top
      · rw [if_pos hi, if_pos hi, List.length_append, List.getElem?_append_left (by omega)]
        by_cases ha : i ∈ tr.drop tm
        · rw [if_pos ⟨ha, by omega⟩, if_pos ⟨ha, by omega⟩]
        · rw [if_neg (fun e => ha e.1), if_neg (fun e => ha e.1)]
      · rw [if_neg hi, if_neg hi]
    refine ⟨⟨hw, by rw [List.length_append]; omega, h3, ?_⟩, ?_⟩
    · rw [e1]; exact h4
    · simp only [savedOf]; rw [e1]
theorem WfT.bnds {ns ns1 : List Nd} {tr bs : List Nat} (h : WfT ns tr) (hb : Bnds ns ns1 bs) (hw : WfN ns1) : WfT ns1 (tr ++ bs) := by
  refine ⟨hw, ?_, fun v => ?_, by rw [hb.len]; exact h.small⟩
  · rw [List.nodup_append]
    refine ⟨h.nodup, hb.nodup, fun x hx y hy e => ?_⟩
    subst e
    obtain ⟨r, hr⟩ := (h.mem x).1 hx
    rw [hb.old x hy] at hr
    cases hr
  · rw [List.mem_append]
    by_cases hx : v ∈ bs
    · exact ⟨fun _ => hb.new v hx, fun _ => .inr hx⟩
    · rw [hb.other v hx, ← h.mem v]
      exact ⟨fun e => e.elim id (fun e => absurd e hx), .inl⟩
end Go.Proofs.Qxb6500301a
