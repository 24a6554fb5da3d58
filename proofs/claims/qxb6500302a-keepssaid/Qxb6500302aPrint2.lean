import Derived.Test.Qxb6500302aPrint1
namespace Go.Proofs.Qxb6500302a
open Go.RowKit
set_option linter.unusedSimpArgs false
set_option linter.unusedVariables false
attribute [local go_sem] ta106_106 ta106_112 ta106_80 ta112_106 ta112_112 ta112_80 ta80_106 ta80_112 ta80_80 ta80_80'

theorem var_toNat {n : Nat} (h : n ≤ 40) : (((65 + n.toUInt8 : UInt8)).toNat : Int) = 65 + (n : Int) := by
  have : (65 + n.toUInt8 : UInt8).toNat = 65 + n := by
    rw [UInt8.toNat_add]
    simp
    omega
  omega

theorem flat_take {f : Tm → List UInt8} {l : List Tm} {i : Nat} {u : Tm} (h : l[i]? = some u) : ((l.take (i + 1)).map f).flatten = ((l.take i).map f).flatten ++ f u := by
  rw [List.take_add_one, h]
  simp
theorem flat_len {f : Tm → List UInt8} {l : List Tm} (i : Nat) : ((l.take i).map f).flatten.length ≤ (l.map f).flatten.length := by
  conv => rhs; rw [← List.take_append_drop i l]
  rw [List.map_append, List.flatten_append, List.length_append]
  omega
theorem kid_at {l : List Tm} {i : Nat} (h : i < l.length) : ∃ u, l[i]? = some u := ⟨_, List.getElem?_eq_getElem h⟩
theorem val_at {l : List Value} {i : Nat} (h : i < l.length) : ∃ u, l[i]? = some u := ⟨_, List.getElem?_eq_getElem h⟩
theorem slice_len {g n n' cap : Nat} (h : n = n') : Value.slice (some ⟨g, 0, none⟩) n cap = .slice (some ⟨g, 0, none⟩) n' cap := by rw [h]

theorem ret_buf {g n n' cap : Nat} (h : n = n') : Ending.returned (.slice (some ⟨g, 0, none⟩) n cap) = .returned (.slice (some ⟨g, 0, none⟩) n' cap) := by rw [h]

set_option maxRecDepth 20000 in
set_option maxHeartbeats 2000000 in
theorem code_step {m : Nat} (ih : PrintSaid 47 codeOf m) : PrintSaid 47 codeOf (m + 1) := by
  intro w D g cap xs v t ht hb hD hlen
  have HI : Hid (PrintSaid 47 codeOf m) := ih
  clear ih
  have hgl := hb.lt
  have hcode : codeOf t = if t.kind = 0 then [65 + t.num.toUInt8] else if t.kind = 1 then [33, 48] else t.letter :: (48 + t.kids.length.toUInt8) :: (t.kids.map codeOf).flatten := by
    obtain ⟨k, a, n, ts⟩ := t
    exact codeOf_eq k a n ts
  rcases ht with ⟨hk, hks, hnum, hv⟩ | ⟨hk, hks, hv⟩ | ⟨hk, b, sl, ys, hv, hDb, hbk, hrow, hl1, hl2, hx⟩
  · rw [if_pos hk] at hcode
    rw [hcode] at hlen ⊢
    subst hv
    have hn := var_toNat hnum
    have hb1 : Buf (w.alloc (.cells #[.int .u8 (t.letter.toNat : Int), .int .i64 (t.num : Int)] 106)) g cap xs := hb.keep ((Fr.refl No w).alloc _) (fun h => h)
    have F1 : Fr No w (w.alloc (.cells #[.int .u8 (t.letter.toNat : Int), .int .i64 (t.num : Int)] 106)) := (Fr.refl No w).alloc _
    have hb2 := hb1.keep ((Fr.refl No _).alloc (.cells #[.int .u8 (65 + (t.num : Int))] 5)) (fun h => h)
    have hnb : ((w.alloc (.cells #[.int .u8 (t.letter.toNat : Int), .int .i64 (t.num : Int)] 106)).alloc (.cells #[.int .u8 (65 + (t.num : Int))] 5)).heap[w.heap.size + 1]? = some (.cells (u8s [65 + t.num.toUInt8]).toArray 5) := by
      have := heap_alloc_same (w.alloc (.cells #[.int .u8 (t.letter.toNat : Int), .int .i64 (t.num : Int)] 106)) (.cells #[.int .u8 (65 + (t.num : Int))] 5)
      simp only [World.size_alloc] at this
      rw [this]
      simp only [u8s, List.map_cons, List.map_nil, hn]
    go_enter Try.func47, Try.ntmps47
    go_wp2_with (at_builtin; refine wpList_buf (by rfl) _ _ (by rfl) (by rfl) hb2 [65 + t.num.toUInt8] (by rfl) (by rfl) hnb (by simp) hlen (xs.length + 1) (by simp) ?_; intro g' cap' w' hb' hgr hat)
    go_ret
    refine ⟨g', cap', ret_buf (by simp), hb', ?_, ?_⟩
    · exact ((F1.alloc _).mono (S' := fun k => k = g) (fun _ _ h => h.elim)).grown hgr (fun k hk _ => (Option.some.inj hk).symm)
    · rcases hat with h | h
      · exact .inl h
      · right; simp at h; omega
  · rw [if_neg (by omega), if_pos hk] at hcode
    rw [hcode] at hlen ⊢
    subst hv
    have hb1 : Buf (w.alloc (.cells #[] 112)) g cap xs := hb.keep ((Fr.refl No w).alloc _) (fun h => h)
    have F1 : Fr No w (w.alloc (.cells #[] 112)) := (Fr.refl No w).alloc _
    have hb2 := hb1.keep ((Fr.refl No _).alloc (.cells #[.int .u8 33, .int .u8 48] 5)) (fun h => h)
    have hnb : ((w.alloc (.cells #[] 112)).alloc (.cells #[.int .u8 33, .int .u8 48] 5)).heap[w.heap.size + 1]? = some (.cells (u8s [33, 48]).toArray 5) := by
      have := heap_alloc_same (w.alloc (.cells #[] 112)) (.cells #[.int .u8 33, .int .u8 48] 5)
      simp only [World.size_alloc] at this
      rw [this]
      rfl
    go_enter Try.func47, Try.ntmps47
    go_wp2_with (at_builtin; refine wpList_buf (by rfl) _ _ (by rfl) (by rfl) hb2 [33, 48] (by rfl) (by rfl) hnb (by simp) hlen (xs.length + 2) (by simp) ?_; intro g' cap' w' hb' hgr hat)
    go_ret
    refine ⟨g', cap', ret_buf (by simp), hb', ?_, ?_⟩
    · exact ((F1.alloc _).mono (S' := fun k => k = g) (fun _ _ h => h.elim)).grown hgr (fun k hk _ => (Option.some.inj hk).symm)
    · rcases hat with h | h
      · exact .inl h
      · right; simp at h; omega
  · rw [if_neg (by omega), if_neg (by omega)] at hcode
    subst hv
    have hcl : (codeOf t).length = 2 + ((t.kids.map codeOf).flatten).length := by rw [hcode]; simp; omega
    have hdig := digit_toNat hl2
    have HX : Hid (∀ (i : Nat) x u, ys[i]? = some x → t.kids[i]? = some u → TermN w D m x u) := hx
    clear hx
    have hDb' := hD b hDb
    have cb0 : w.cell? ⟨b, 0, none⟩ = some (.int .u8 (t.letter.toNat : Int)) := cell_of 0 hbk rfl
    obtain ⟨sa, scap, rfl, _, hwin⟩ := hrow.win (by omega)
    have cb1 : w.cell? ⟨b, 1, none⟩ = some (.slice sa ys.length scap) := cell_of 1 hbk rfl
    rw [hl1] at cb1
    have hwr : IntKind.u8.wrap (48 + IntKind.u8.wrap (t.kids.length : Int)) = 48 + (t.kids.length : Int) := by
      have : ∀ n : Nat, n < 51 → IntKind.u8.wrap (48 + IntKind.u8.wrap (n : Int)) = 48 + (n : Int) := by decide
      exact this _ (by omega)
    have hb1 : Buf (w.alloc (.cells #[.int .u8 (t.letter.toNat : Int), .int .u8 (IntKind.u8.wrap (48 + IntKind.u8.wrap (t.kids.length : Int)))] 5)).drew g cap xs := hb.keep (((Fr.refl No w).alloc _).drew) (fun h => h)
    have hnb : (w.alloc (.cells #[.int .u8 (t.letter.toNat : Int), .int .u8 (IntKind.u8.wrap (48 + IntKind.u8.wrap (t.kids.length : Int)))] 5)).drew.heap[w.heap.size]? = some (.cells (u8s [t.letter, digit t.kids.length]).toArray 5) := by
      have := heap_alloc_same w (.cells #[.int .u8 (t.letter.toNat : Int), .int .u8 (IntKind.u8.wrap (48 + IntKind.u8.wrap (t.kids.length : Int)))] 5)
      refine this.trans ?_
      simp only [u8s, List.map_cons, List.map_nil, hdig, hwr]
    clear hwr
    have S1 : (w.alloc (.cells #[.int .u8 (t.letter.toNat : Int), .int .u8 (IntKind.u8.wrap (48 + IntKind.u8.wrap (t.kids.length : Int)))] 5)).cell? ⟨b, 0, none⟩ = some (.int .u8 (t.letter.toNat : Int)) ∧ (w.alloc (.cells #[.int .u8 (t.letter.toNat : Int), .int .u8 (IntKind.u8.wrap (48 + IntKind.u8.wrap (t.kids.length : Int)))] 5)).cell? ⟨b, 1, none⟩ = some (.slice sa t.kids.length scap) :=
      ⟨cell_of 0 (heap_alloc_keep hbk) rfl, by rw [← hl1]; exact cell_of 1 (heap_alloc_keep hbk) rfl⟩
    go_enter Try.func47, Try.ntmps47
    go_wp2_with fail
    go_region_held3 (fun w' => w'.cell? ⟨b, 0, none⟩ = some (.int .u8 (t.letter.toNat : Int)) ∧ w'.cell? ⟨b, 1, none⟩ = some (.slice sa t.kids.length scap))
      (first | exact S1 | exact S2 | go_keep)
      ((refine step_buf (by rfl) _ _ (by rfl) (by rfl) hb1 [t.letter, digit t.kids.length] (by rfl) (by rfl) hnb (by simp) (by simp; omega) (xs.length + 2) (by simp) ?_; intro g2 cap2 w2 hb2 hgr2 hat2; have F2 : Fr (fun k => k = g) w w2 := ((((Fr.refl (fun k => k = g) w).alloc _).drew)).grown hgr2 (fun k hk _ => (Option.some.inj hk).symm); have hbk2 := F2.keep hbk hDb'.2; have S2 : w2.cell? ⟨b, 0, none⟩ = some (.int .u8 (t.letter.toNat : Int)) ∧ w2.cell? ⟨b, 1, none⟩ = some (.slice sa t.kids.length scap) := ⟨cell_of 0 hbk2 rfl, by rw [← hl1]; exact cell_of 1 hbk2 rfl⟩))
    go_wp2_with fail
    have HW : Hid (ys ≠ [] → _) := hwin
    clear hwin cb0 cb1 S1 S2 hbk hb hb1 hnb hgr2 hrow
    have hd2 : (48 + t.kids.length.toUInt8) = digit t.kids.length := rfl
    rw [hd2] at hcode
    go_loopg [0, 49] (t.kids.length + 1) (fun gk v0 u wr => ∃ (i gi capi : Nat) (zs : List UInt8), v0 = .slice (some ⟨gi, 0, none⟩) zs.length capi ∧ u = .int .i64 (i : Int) ∧ i ≤ t.kids.length ∧ gk = t.kids.length + 1 - i ∧ Hid (zs = xs ++ [t.letter, digit t.kids.length] ++ ((t.kids.take i).map codeOf).flatten) ∧ Buf wr gi capi zs ∧ Fr (fun k => k = g) w wr ∧ (gi = g ∨ w.heap.size ≤ gi))
    case atStart =>
      refine ⟨0, g2, cap2, xs ++ [t.letter, digit t.kids.length], slice_len (by simp), rfl, Nat.zero_le _, rfl, ?_, hb2, F2, ?_⟩
      · show _ = _; simp
      · rcases hat2 with h | h
        · exact .inl h
        · right; simp at h; omega
    case round =>
      clear hb2 F2 hat2 hbk2
      obtain ⟨i, gi, capi, zs, rfl, rfl, hi, hgk, HZ, hbz, hf, hgi⟩ := hrel
      by_cases hlt : i < t.kids.length
      · obtain ⟨u, hu⟩ := kid_at hlt
        obtain ⟨x, hxi⟩ := val_at (l := ys) (i := i) (by omega)
        obtain ⟨rg, off, cur, rfl, hDr, hrg, hcur⟩ := HW.out (by intro e; rw [e] at hxi; simp at hxi)
        have HT1 : Hid (TermN wr D m x u) := (HX.out i x u hxi hu).kept hf (fun k hk => (hD k hk).2)
        have c2 : wr.cell? ⟨rg, off + i, none⟩ = some x := cell_of (off + i) (hf.keep hrg (hD rg hDr).2) (hcur i x hxi)
        have HL : Hid (zs.length + (codeOf u).length ≤ 2000) := by
          show _ ≤ _
          have h1 := flat_take (f := codeOf) hu
          have h2 := flat_len (f := codeOf) (l := t.kids) (i + 1)
          have h3 := congrArg List.length HZ.out
          have h4 := congrArg List.length h1
          simp only [List.length_append, List.length_cons, List.length_nil] at h3 h4
          omega
        have hD2 : ∀ k, D k → k < wr.heap.size ∧ k ≠ gi := fun k hk => by
          have h1 := hD k hk
          have h2 := hf.size
          refine ⟨by omega, ?_⟩
          rcases hgi with h | h
          · rw [h]; exact h1.2
          · omega
        obtain ⟨T, vx, hxv⟩ := HT1.out.iface
        subst hxv
        go_wp2_with fail
        refine (HI.out wr D gi capi zs _ u HT1.out hbz hD2 HL.out).mono ?_
        rintro e w3 ⟨g3, cap3, rfl, hb3, hf3, hg3⟩
        go_wp2_with fail
        go_roundg (t.kids.length + 1 - (i + 1))
        case measure => omega
        case rel =>
          refine ⟨i + 1, g3, cap3, zs ++ codeOf u, slice_len (by simp), by go_num, by omega, rfl, ?_, hb3, hf.trans hf3 ?_, ?_⟩
          · show _ = _
            rw [flat_take hu, HZ.out]
            simp
          · intro k hk e
            rcases hgi with h | h
            · rw [← h]; exact e
            · omega
          · have := hf.size
            rcases hg3 with h | h
            · rw [h]; exact hgi
            · right; omega
      · have hieq : i = t.kids.length := by omega
        go_wp2_with fail
        go_ret
        have hz : zs = xs ++ codeOf t := by
          rw [HZ.out, hieq, List.take_length, hcode]
          simp
        refine ⟨gi, capi, ret_buf (by rw [hz]), by rw [← hz]; exact hbz, hf, hgi⟩

theorem code_print : ∀ m, PrintSaid 47 codeOf m
  | 0 => by intro w D g cap xs v t ht; exact ht.elim
  | m + 1 => code_step (code_print m)
end Go.Proofs.Qxb6500302a
