import Derived.Test.Qxb6500301aPrn1
import Derived.Test.Qxb6500301aReal2
namespace Go.Proofs.Qxb6500301a
open Go.RowKit
set_option linter.unusedSimpArgs false
set_option linter.unusedVariables false
attribute [local go_sem ↓] Go.wp_at_zero Go.wp_at_succ
attribute [-go_sem] Go.run_string_add_if Go.run_index_string Go.run_slice_string_if

/-- A buffer of bytes, of this call's own. -/
def Buf (b0 : Nat) (w : World) (v : Value) (xs : List UInt8) : Prop := w.ownsRow b0 5 1 v xs.length (xs.map u8v)
theorem Buf.keep {b0 : Nat} {w w' : World} {v : Value} {xs : List UInt8} (h : Buf b0 w v xs) {T : Nat → Prop} (hf : Fr T w w') (hT : ∀ k, b0 ≤ k → ¬ T k) : Buf b0 w' v xs := ownsRow_keep h hf (fun k hk => hT k (h.lt k hk).1)
theorem Buf.no {b0 : Nat} {w w' : World} {v : Value} {xs : List UInt8} (h : Buf b0 w v xs) (hf : Fr No w w') : Buf b0 w' v xs := ownsRow_keep h hf (fun _ _ e => e)
theorem Buf.nil (b0 : Nat) (w : World) : Buf b0 w (.slice none 0 0) [] := World.ownsRow_nil w b0 5 1
theorem Buf.str {b0 : Nat} {w : World} {v : Value} {xs : List UInt8} (h : Buf b0 w v xs) : (convert 53 9 v).run Try.prog w = .ok (.string (S xs)) w := by
  rcases h.2 with ⟨rfl, h0⟩ | ⟨g, cap, cur, rfl, hb, hg, hn, hc, hs, ht⟩
  · have : xs = [] := List.eq_nil_of_length_eq_zero h0
    subst this
    have e : ∀ w, (convert 53 9 (.slice none 0 0)).run Try.prog w = .ok (.string (S [])) w := fun _ => by kernel_rfl
    exact e w
  · refine run_convert_bytes_back (P := Try.prog) w 53 9 5 ⟨g, 0, none⟩ cap xs Try.underlying53 Try.underlying5 Try.underlying9 (fun j hj => ?_)
    rw [add_zero_addr, h.cellAt j (by omega)]
    simp [u8v, hj]

theorem restore_at {ns : List Nd} {vs : List Nat} {top i : Nat} (hi : i < top) (ht : top ≤ ns.length) : (restore ns vs top)[i]? = if i ∈ vs then some (.v none) else ns[i]? := by
  rw [restore_get, if_pos hi]
  by_cases h : i ∈ vs
  · rw [if_pos ⟨h, by omega⟩, if_pos h]
  · rw [if_neg (fun e => h e.1), if_neg h]
theorem rowL_snoc {R : List Nd} {i : Nat} {y : Nd} (h : R[i]? = some y) : rowL (R.take (i + 1)) = rowL (R.take i) ++ ndL y := by
  unfold rowL
  rw [List.take_add_one, h, List.flatMap_append]
  simp
theorem argL_snoc {es : List Nat} {i k : Nat} (h : es[i]? = some k) : argL (es.take (i + 1)) = argL (es.take i) ++ (46 :: itoaL k) := by
  unfold argL
  rw [List.take_add_one, h, List.flatMap_append]
  simp
theorem rowL_take_le (R : List Nd) (i : Nat) : (rowL (R.take i)).length ≤ (rowL R).length := by
  have : rowL R = rowL (R.take i) ++ rowL (R.drop i) := by unfold rowL; rw [← List.flatMap_append, List.take_append_drop]
  rw [this, List.length_append]; omega

section
variable {w : World} {p : Nat} {B : Blks} {ns : List Nd} {ws : List Int} {tr tms : List Nat} {saved : List (List Nd)}
set_option maxRecDepth 40000 in
set_option maxHeartbeats 8000000 in
theorem row_any (h : RAt w p B ns ws tr tms saved) (hw : WfN ns) (hs : ns.length ≤ 64) {vs : List Nat} (hvs : ∀ v ∈ vs, ∃ r, ns[v]? = some (.v (some r))) {top : Nat} (ht : top ≤ ns.length) {ub : Nat} (hub : ∀ i, i < ns.length → w.cell? ⟨ub, i, none⟩ = some (.bool (decide (i ∈ vs)))) :
    Calls Try.prog 23 #[.pointer (some ⟨p, 0, none⟩), .int .i64 (top : Int), .slice (some ⟨ub, 0, none⟩) ns.length ns.length] w fun e w' => e = .returned (.string (S (rowL (restore ns vs top)))) ∧ Fr No w w' := by
  obtain ⟨i5, hi5, hz5, hs5, hy5⟩ := info_parts Try.info5p
  have HR : Hid (RAt w p B ns ws tr tms saved) := h
  have hRl : (restore ns vs top).length = top := restore_len ht
  have hRb : (rowL (restore ns vs top)).length ≤ 960 := by
    have h1 : ∀ x ∈ restore ns vs top, (ndL x).length ≤ 15 := by
      intro x hx
      obtain ⟨i, hi, e⟩ := List.getElem_of_mem hx
      have hit : i < top := by omega
      have hg : (restore ns vs top)[i]? = some x := by rw [List.getElem?_eq_getElem hi, e]
      rw [restore_at hit ht] at hg
      by_cases hm : i ∈ vs
      · rw [if_pos hm] at hg; cases hg; simp [ndL]
      · rw [if_neg hm] at hg; exact ndL_len hw hg
    have h2 : ∀ l : List Nd, (∀ x ∈ l, (ndL x).length ≤ 15) → (rowL l).length ≤ 15 * l.length := by
      intro l
      induction l with
      | nil => intro _; simp [rowL]
      | cons x l ih =>
        intro hx
        have h1 := hx x (by simp)
        have h2 := ih (fun y hy => hx y (by simp [hy]))
        unfold rowL at h2 ⊢
        rw [List.flatMap_cons, List.length_append, List.length_cons]; omega
    have := h2 _ h1
    omega
  have HAT : Hid (∀ i, i < top → (restore ns vs top)[i]? = if i ∈ vs then some (.v none) else ns[i]?) := fun i hi => restore_at hi ht
  have HVS : Hid (∀ v ∈ vs, ∃ r, ns[v]? = some (.v (some r))) := hvs
  have HUB : Hid (∀ i, i < ns.length → w.cell? ⟨ub, i, none⟩ = some (.bool (decide (i ∈ vs)))) := hub
  have HW : Hid (WfN ns) := hw
  obtain ⟨R, hR⟩ : ∃ R, restore ns vs top = R := ⟨_, rfl⟩
  rw [hR] at hRl hRb HAT ⊢
  clear hR hvs hub hw h
  go_enter Try.func23, Try.ntmps23
  go_wp2_with fail
  go_loopg [7, 13] (top + 1) (fun gk v7 v13 wr => ∃ (i : Nat) (bs : Option Addr) (cap : Nat), i ≤ top ∧ gk = top + 1 - i ∧ v13 = .int .i64 (i : Int) ∧ v7 = .slice bs (rowL (R.take i)).length cap ∧ Buf w.heap.size wr v7 (rowL (R.take i)) ∧ Fr (fun k => w.heap.size ≤ k) w wr)
  case atStart => exact ⟨0, none, 0, Nat.zero_le _, rfl, rfl, rfl, Buf.nil _ _, Fr.refl _ _⟩
  case round =>
    obtain ⟨i, bs, cap, hi, hgk, rfl, rfl, hBuf, hF⟩ := hrel
    have hRi := rowL_take_le R i
    by_cases hlt : i < top
    case neg =>
      have hie : i = top := by omega
      have d1 : decide ((i : Int) < (top : Int)) = false := decide_eq_false (by omega)
      have d1' : decide (i < top) = false := decide_eq_false (by omega)
      have hstr := hBuf.str
      rw [show R.take i = R from List.take_of_length_le (by omega)] at hstr
      rw [show R.take i = R from List.take_of_length_le (by omega)]
      clear hie
      go_wp2_with fail
      go_ret
      exact ⟨rfl, hF.mono (fun k hk e => by omega)⟩
    case pos =>
      have d1 : decide ((i : Int) < (top : Int)) = true := decide_eq_true (by omega)
      have d1' : decide (i < top) = true := decide_eq_true (by omega)
      have hwr : RAt wr p B ns ws tr tms saved := HR.out.keep hF (fun k hk e => by have := HR.out.lt hk; omega)
      have c0 := hwr.p0
      have c1 := hwr.p1
      have c2 := hwr.p2
      have hil : i < ns.length := by omega
      have cu := hF.cellAt (HUB.out i hil) (by have := cell_lt (HUB.out i hil); simp only at this ⊢; omega)
      have hFs := hF.size
      have HBUF : Hid (Buf w.heap.size wr (.slice bs (rowL (R.take i)).length cap) (rowL (R.take i))) := hBuf
      obtain ⟨L, hL⟩ : ∃ L, rowL (R.take i) = L := ⟨_, rfl⟩
      rw [hL] at HBUF hRi ⊢
      have HL : Hid (rowL (R.take i) = L) := hL
      clear hL hBuf
      obtain ⟨x, hx⟩ : ∃ x, ns[i]? = some x := ⟨_, List.getElem?_eq_getElem hil⟩
      have ct := hwr.tag hx
      have hRA := HAT.out i hlt
      have hBg : ∀ k, B.Has p k → k < w.heap.size := fun k hk => HR.out.lt hk
      cases x with
      | v q =>
        cases q with
        | none =>
          have HRI : Hid (R[i]? = some (.v none)) := by
            show _ = _
            rw [hRA]
            by_cases hm : i ∈ vs
            · rw [if_pos hm]
            · rw [if_neg hm]; exact hx
          simp only [tagV] at ct
          clear hx hRA cu
          have HN : Hid (rowL (R.take (i + 1)) = L ++ [32, 95]) := by
            show _ = _
            rw [rowL_snoc HRI.out, HL.out]; rfl
          have hbf := HBUF.out
          go_wp2_with (at_builtin; refine Go.Lib.wpList_append_own_string _ (by rfl) _ _ 53 9 (by rfl) w.heap.size 5 i5 Try.underlying53 Try.underlying9 hi5 hz5 hs5 hy5 _ L.length (L.map u8v) (by rfl) hbf ⟨#[32, 95]⟩ (by rfl) (by show _ + 2 ≤ _; unfold maxLen; omega) (by show _ + 2 ≤ _; omega) (by omega) ?_; intro v3 w3 hown3 hgrow3 hnil3; obtain ⟨bs3, cap3, rfl⟩ := owns_slice hown3)
          go_roundg (top + 1 - (i + 1))
          case measure => omega
          case rel =>
            refine ⟨i + 1, bs3, cap3, by omega, rfl, by go_num, ?_, ?_, ?_⟩
            · rw [HN.out]; simp
            · rw [HN.out]
              unfold Buf
              rw [List.length_append, List.map_append]
              exact hown3
            · exact Fr.grown (S := fun k => w.heap.size ≤ k) hF hgrow3 (fun k hk _ => (hbf.lt k hk).1)
        | some r =>
          have cw := hwr.word (hwr.words.2 i _ hx)
          simp only [tagV] at ct
          by_cases hm : i ∈ vs
          · have HRI : Hid (R[i]? = some (.v none)) := by show _ = _; rw [hRA, if_pos hm]
            rw [decide_eq_true hm] at cu
            clear hx hRA hm
            have HN : Hid (rowL (R.take (i + 1)) = L ++ [32, 95]) := by
              show _ = _
              rw [rowL_snoc HRI.out, HL.out]; rfl
            have hbf := HBUF.out
            go_wp2_with (at_builtin; refine Go.Lib.wpList_append_own_string _ (by rfl) _ _ 53 9 (by rfl) w.heap.size 5 i5 Try.underlying53 Try.underlying9 hi5 hz5 hs5 hy5 _ L.length (L.map u8v) (by rfl) hbf ⟨#[32, 95]⟩ (by rfl) (by show _ + 2 ≤ _; unfold maxLen; omega) (by show _ + 2 ≤ _; omega) (by omega) ?_; intro v3 w3 hown3 hgrow3 hnil3; obtain ⟨bs3, cap3, rfl⟩ := owns_slice hown3)
            go_roundg (top + 1 - (i + 1))
            case measure => omega
            case rel =>
              refine ⟨i + 1, bs3, cap3, by omega, rfl, by go_num, ?_, ?_, ?_⟩
              · rw [HN.out]; simp
              · rw [HN.out]
                unfold Buf
                rw [List.length_append, List.map_append]
                exact hown3
              · exact Fr.grown (S := fun k => w.heap.size ≤ k) hF hgrow3 (fun k hk _ => (hbf.lt k hk).1)
          · have HRI : Hid (R[i]? = some (.v (some r))) := by show _ = _; rw [hRA, if_neg hm]; exact hx
            rw [decide_eq_false hm] at cu
            have hr64 : r < ns.length := (HW.out.ref i r hx).1
            have HIT : Hid (∀ w, Calls Try.prog 34 #[.int .i64 (r : Int)] w fun e w' => e = .returned (.string (S (itoaL r))) ∧ Fr No w w') := fun w => Itoa_any (by omega)
            have HN : Hid (rowL (R.take (i + 1)) = (L ++ [32, 62]) ++ itoaL r) := by
              show _ = _
              rw [rowL_snoc HRI.out, HL.out]; simp [ndL]
            have hit := itoaL_len r
            clear hx hRA hm
            have hbf := HBUF.out
            go_upto_region 18 with (at_builtin; refine Go.Lib.wpList_append_own_string _ (by rfl) _ _ 53 9 (by rfl) w.heap.size 5 i5 Try.underlying53 Try.underlying9 hi5 hz5 hs5 hy5 _ L.length (L.map u8v) (by rfl) hbf ⟨#[32, 62]⟩ (by rfl) (by show _ + 2 ≤ _; unfold maxLen; omega) (by show _ + 2 ≤ _; omega) (by omega) ?_; intro v3 w3 hown3 hgrow3 hnil3; obtain ⟨bs3, cap3, rfl⟩ := owns_slice hown3)
            have F3 : Fr (fun k => w.heap.size ≤ k) wr w3 := Fr.grown (S := fun k => w.heap.size ≤ k) (Fr.refl _ _) hgrow3 (fun k hk _ => (hbf.lt k hk).1)
            have c13 := F3.cellAt c1 (by have := hBg p (by simp [Blks.Has]); simp only; omega)
            have cw3 := F3.cellAt cw (by have := hBg B.w (by simp [Blks.Has]); simp only; omega)
            have hb3 : Buf w.heap.size w3 (.slice bs3 (L ++ [32, 62]).length cap3) (L ++ [32, 62]) := by
              unfold Buf
              rw [List.length_append, List.map_append]
              exact hown3
            have hsz3 := F3.size
            have HF3 : Hid (Fr (fun k => w.heap.size ≤ k) w w3) := hF.trans F3 (fun _ _ e => e)
            have e3 : (L ++ [32, 62]).length = L.length + 2 := by simp
            clear hown3 hgrow3 hnil3 c0 c1 c2 ct cw cu F3 hF
            have HB3 : Hid (Buf w.heap.size w3 (.slice bs3 (L ++ [32, 62]).length cap3) (L ++ [32, 62])) := hb3
            rw [← e3]
            obtain ⟨L3, hL3⟩ : ∃ L3, L ++ [32, 62] = L3 := ⟨_, rfl⟩
            rw [hL3] at HB3 e3 HN ⊢
            have hl3 : L3.length ≤ 962 := by omega
            clear hb3 hL3 e3
            go_wp2_with fail
            refine (HIT.out _).mono ?_
            rintro e w4 ⟨rfl, F4⟩
            have hb4 := HB3.out.no F4
            have hsz4 := F4.size
            have hss : (S (itoaL r)).size = (itoaL r).length := S_size _
            go_wp2_with (at_builtin; refine Go.Lib.wpList_append_own_string _ (by rfl) _ _ 53 9 (by rfl) w.heap.size 5 i5 Try.underlying53 Try.underlying9 hi5 hz5 hs5 hy5 _ L3.length (L3.map u8v) (by rfl) hb4 (S (itoaL r)) (by rfl) (by rw [hss]; unfold maxLen; omega) (by rw [hss]; omega) (by omega) ?_; intro v5 w5 hown5 hgrow5 hnil5; obtain ⟨bs5, cap5, rfl⟩ := owns_slice hown5)
            go_roundg (top + 1 - (i + 1))
            case measure => omega
            case rel =>
              refine ⟨i + 1, bs5, cap5, by omega, rfl, by go_num, ?_, ?_, ?_⟩
              · rw [HN.out, List.length_append]
              · rw [HN.out]
                unfold Buf
                rw [List.length_append, List.map_append, ← strCells_S, ← hss]
                exact hown5
              · exact Fr.grown (S := fun k => w.heap.size ≤ k) (HF3.out.trans F4 (fun _ _ e => e.elim)) hgrow5 (fun k hk _ => (hb4.lt k hk).1)
      | s c d es =>
        have hnm : i ∉ vs := fun hm => by obtain ⟨r, hr⟩ := HVS.out i hm; rw [hx] at hr; cases hr
        have HRI : Hid (R[i]? = some (.s c d es)) := by show _ = _; rw [hRA, if_neg hnm]; exact hx
        have ch0 := hwr.head0 hx
        have ch1 := hwr.head1 hx
        have hal := HW.out.arg i c d es hx
        have HKI : Hid (∀ w', Fr (fun k => w.heap.size ≤ k) w w' → Calls Try.prog 39 #[.pointer (some ⟨p, 0, none⟩), .int .i32 (i : Int)] w' (KidsPost B es w')) := by
          intro w' hf'
          have hrw : RAt w' p B ns ws tr tms saved := HR.out.keep hf' (fun k hk e => by have := HR.out.lt hk; omega)
          have := kids_any hrw HW.out hs hil
          have e : kidsOf ns i = es := by unfold kidsOf; rw [hx]
          rw [e] at this
          exact this
        have hes : es.length ≤ 4 ∧ ∀ k ∈ es, k < 64 := ⟨by omega, fun k hk => by have := hal.2.2.2 k hk; omega⟩
        have HN : Hid (rowL (R.take (i + 1)) = (L ++ [32, c, d]) ++ argL es) := by
          show _ = _
          rw [rowL_snoc HRI.out, HL.out]; simp [ndL]
        simp only [tagV] at ct
        clear hx hRA hal hnm cu
        have hbf := HBUF.out
        have hrow1 : (wr.alloc (.cells #[.int .u8 32, .int .u8 (c.toNat : Int)] 5)).ownsRow w.heap.size 5 1 (.slice bs L.length cap) L.length (L.map u8v) := hbf.no ((Fr.refl No wr).alloc _)
        have hnb1 : (wr.alloc (.cells #[.int .u8 32, .int .u8 (c.toNat : Int)] 5)).heap[wr.heap.size]? = some (.cells #[.int .u8 32, .int .u8 (c.toNat : Int)] 5) := heap_alloc_same _ _
        go_upto_region 8 with (at_builtin; refine wpList_append_lies _ (by rfl) _ _ 53 (by rfl) w.heap.size 5 i5 (.int .u8 0) 1 1 Try.underlying53 hi5 hz5 hs5 hy5 rfl (by omega) _ L.length (L.map u8v) (by rfl) hrow1 ⟨wr.heap.size, 0, none⟩ 2 2 [.int .u8 32, .int .u8 (c.toNat : Int)] (by rfl) (by rfl) (World.news_of_block (cs := #[.int .u8 32, .int .u8 (c.toNat : Int)]) hnb1) (by simp [Value.oneCell']) (by omega) (by unfold maxLen; omega) (by omega) (by simp; omega) (wr.heap.size + 1) (by simp) ?_; intro g3 cap3 w3 hown3 hgrow3 hat3 hlt3)
        have F3 : Fr (fun k => w.heap.size ≤ k) wr w3 := Fr.grown (S := fun k => w.heap.size ≤ k) ((Fr.refl _ wr).alloc _) hgrow3 (fun k hk _ => (hbf.lt k hk).1)
        have c23 := F3.cellAt c2 (by have := hBg p (by simp [Blks.Has]); simp only; omega)
        have ch3 := F3.cellAt ch1 (by have := hBg B.h (by simp [Blks.Has]); simp only; omega)
        have hb3 : Buf w.heap.size w3 (.slice (some ⟨g3, 0, none⟩) (L ++ [32, c]).length cap3) (L ++ [32, c]) := by
          unfold Buf
          rw [List.length_append, List.map_append]
          exact hown3
        have hsz3 := F3.size
        have HF3 : Hid (Fr (fun k => w.heap.size ≤ k) w w3) := hF.trans F3 (fun _ _ e => e)
        have e3 : (L ++ [32, c]).length = L.length + 2 := by simp
        rw [show L ++ [32, c, d] = (L ++ [32, c]) ++ [d] by simp] at HN
        clear hown3 hgrow3 hat3 hlt3 c0 c1 c2 ct ch0 ch1 F3 hF hrow1 hnb1
        rw [← e3]
        obtain ⟨L3, hL3⟩ : ∃ L3, L ++ [32, c] = L3 := ⟨_, rfl⟩
        rw [hL3] at hb3 e3 HN ⊢
        have hl3 : L3.length ≤ 962 := by omega
        clear hL3 e3
        have hrow4 : (w3.alloc (.cells #[.int .u8 (d.toNat : Int)] 5)).ownsRow w.heap.size 5 1 (.slice (some ⟨g3, 0, none⟩) L3.length cap3) L3.length (L3.map u8v) := hb3.no ((Fr.refl No w3).alloc _)
        have hnb4 : (w3.alloc (.cells #[.int .u8 (d.toNat : Int)] 5)).heap[w3.heap.size]? = some (.cells #[.int .u8 (d.toNat : Int)] 5) := heap_alloc_same _ _
        go_upto_region 9 with (at_builtin; refine wpList_append_lies _ (by rfl) _ _ 53 (by rfl) w.heap.size 5 i5 (.int .u8 0) 1 1 Try.underlying53 hi5 hz5 hs5 hy5 rfl (by omega) _ L3.length (L3.map u8v) (by rfl) hrow4 ⟨w3.heap.size, 0, none⟩ 1 1 [.int .u8 (d.toNat : Int)] (by rfl) (by rfl) (World.news_of_block (cs := #[.int .u8 (d.toNat : Int)]) hnb4) (by simp [Value.oneCell']) (by omega) (by unfold maxLen; omega) (by omega) (by simp; omega) (w3.heap.size + 1) (by simp) ?_; intro g4 cap4 w4 hown4 hgrow4 hat4 hlt4)
        have F4 : Fr (fun k => w.heap.size ≤ k) w3 w4 := Fr.grown (S := fun k => w.heap.size ≤ k) ((Fr.refl _ w3).alloc _) hgrow4 (fun k hk _ => (hb3.lt k hk).1)
        have hb4 : Buf w.heap.size w4 (.slice (some ⟨g4, 0, none⟩) (L3 ++ [d]).length cap4) (L3 ++ [d]) := by
          unfold Buf
          rw [List.length_append, List.map_append]
          exact hown4
        have hsz4 := F4.size
        have HF4 : Hid (Fr (fun k => w.heap.size ≤ k) w w4) := HF3.out.trans F4 (fun _ _ e => e)
        have e4 : (L3 ++ [d]).length = L3.length + 1 := by simp
        clear hown4 hgrow4 hat4 hlt4 F4 hrow4 hnb4 hb3 c23 ch3
        rw [← e4]
        obtain ⟨L4, hL4⟩ : ∃ L4, L3 ++ [d] = L4 := ⟨_, rfl⟩
        rw [hL4] at hb4 e4 HN ⊢
        have hl4 : L4.length ≤ 963 := by omega
        clear hL4 e4
        have HB4 : Hid (Buf w.heap.size w4 (.slice (some ⟨g4, 0, none⟩) L4.length cap4) L4) := hb4
        clear hb4
        go_wp2_with fail
        refine (HKI.out _ HF4.out).mono ?_
        rintro e w4' ⟨bk, ck, rfl, rfl, hck, hkc⟩
        generalize hW4 : w4' = W4 at *
        clear hW4
        go_wp2_with fail
        go_loopg [7, 57] (es.length + 1) (fun gk2 v7 v57 wr => ∃ (j : Nat) (bs : Option Addr) (cap : Nat), j ≤ es.length ∧ gk2 = es.length + 1 - j ∧ v57 = .int .i64 (j : Int) ∧ v7 = .slice bs (L4 ++ argL (es.take j)).length cap ∧ Buf w.heap.size wr v7 (L4 ++ argL (es.take j)) ∧ Fr (fun k => w.heap.size ≤ k) W4 wr)
        case atStart => exact ⟨0, some ⟨g4, 0, none⟩, cap4, Nat.zero_le _, rfl, rfl, by simp [argL], by simpa [argL] using HB4.out, Fr.refl _ _⟩
        case round =>
          obtain ⟨j, bs5, cap5, hj, hgk2, rfl, rfl, hb5', hf5⟩ := hrel
          have hsz5 := hf5.size
          have haj := argL_len (es.take j)
          have hjl : (es.take j).length ≤ 4 := by simp; omega
          have HB5 : Hid (Buf w.heap.size wr (.slice bs5 (L4 ++ argL (es.take j)).length cap5) (L4 ++ argL (es.take j))) := hb5'
          have e5 : (L4 ++ argL (es.take j)).length ≤ 1000 := by rw [List.length_append]; omega
          obtain ⟨L5, hL5⟩ : ∃ L5, L4 ++ argL (es.take j) = L5 := ⟨_, rfl⟩
          have HL5 : Hid (L4 ++ argL (es.take j) = L5) := hL5
          rw [hL5] at HB5 e5 ⊢
          clear hL5 hb5'
          by_cases hjlt : j < es.length
          case neg =>
            have hje : j = es.length := by omega
            have d2 : decide ((j : Int) < (es.length : Int)) = false := decide_eq_false (by omega)
            have d2' : decide (j < es.length) = false := decide_eq_false (by omega)
            have HN2 : Hid (rowL (R.take (i + 1)) = L5) := by
              show _ = _
              rw [HN.out, ← HL5.out, hje, List.take_length]
            clear hje
            go_wp2_with fail
            go_roundg (top + 1 - (i + 1))
            case measure => omega
            case rel => exact ⟨i + 1, bs5, cap5, by omega, rfl, by go_num, by rw [HN2.out], by rw [HN2.out]; exact HB5.out, HF4.out.trans hf5 (fun _ _ e => e)⟩
          case pos =>
            have d2 : decide ((j : Int) < (es.length : Int)) = true := decide_eq_true (by omega)
            have d2' : decide (j < es.length) = true := decide_eq_true (by omega)
            obtain ⟨k, hk⟩ : ∃ k, es[j]? = some k := ⟨_, List.getElem?_eq_getElem hjlt⟩
            have hk64 : k < 64 := hes.2 k (List.mem_of_getElem? hk)
            obtain ⟨o, rfl, hck1⟩ := hkc j k hk
            have hck2 := hf5.cellAt hck1 (by have := hBg B.a (by simp [Blks.Has]); simp only; omega)
            simp only [n32] at hck2
            have HN3 : Hid (L4 ++ argL (es.take (j + 1)) = (L5 ++ [46]) ++ itoaL k) := by
              show _ = _
              rw [argL_snoc hk, ← HL5.out]; simp
            have HIT : Hid (∀ w, Calls Try.prog 34 #[.int .i64 (k : Int)] w fun e w' => e = .returned (.string (S (itoaL k))) ∧ Fr No w w') := fun w => Itoa_any (by omega)
            have hit := itoaL_len k
            clear hck1 hk
            have hb5 := HB5.out
            have hrow6 : (wr.alloc (.cells #[.int .u8 46] 5)).ownsRow w.heap.size 5 1 (.slice bs5 L5.length cap5) L5.length (L5.map u8v) := hb5.no ((Fr.refl No wr).alloc _)
            have hnb6 : (wr.alloc (.cells #[.int .u8 46] 5)).heap[wr.heap.size]? = some (.cells #[.int .u8 46] 5) := heap_alloc_same _ _
            go_upto_region 14 with (at_builtin; refine wpList_append_lies _ (by rfl) _ _ 53 (by rfl) w.heap.size 5 i5 (.int .u8 0) 1 1 Try.underlying53 hi5 hz5 hs5 hy5 rfl (by omega) _ L5.length (L5.map u8v) (by rfl) hrow6 ⟨wr.heap.size, 0, none⟩ 1 1 [.int .u8 46] (by rfl) (by rfl) (World.news_of_block (cs := #[.int .u8 46]) hnb6) (by simp [Value.oneCell']) (by omega) (by unfold maxLen; omega) (by omega) (by simp; omega) (wr.heap.size + 1) (by simp) ?_; intro g6 cap6 w6 hown6 hgrow6 hat6 hlt6)
            have F6 : Fr (fun k => w.heap.size ≤ k) wr w6 := Fr.grown (S := fun k => w.heap.size ≤ k) ((Fr.refl _ wr).alloc _) hgrow6 (fun k hk _ => (hb5.lt k hk).1)
            have hb6 : Buf w.heap.size w6 (.slice (some ⟨g6, 0, none⟩) (L5 ++ [46]).length cap6) (L5 ++ [46]) := by
              unfold Buf
              rw [List.length_append, List.map_append]
              exact hown6
            have hsz6 := F6.size
            have HF6 : Hid (Fr (fun k => w.heap.size ≤ k) W4 w6) := hf5.trans F6 (fun _ _ e => e)
            have e6 : (L5 ++ [46]).length = L5.length + 1 := by simp
            clear hown6 hgrow6 hat6 hlt6 F6 hrow6 hnb6 hb5 hck2
            rw [← e6]
            obtain ⟨L6, hL6⟩ : ∃ L6, L5 ++ [46] = L6 := ⟨_, rfl⟩
            rw [hL6] at hb6 e6 HN3 ⊢
            have hl6 : L6.length ≤ 1001 := by omega
            clear hL6 e6
            have HB6 : Hid (Buf w.heap.size w6 (.slice (some ⟨g6, 0, none⟩) L6.length cap6) L6) := hb6
            clear hb6
            go_wp2_with fail
            refine (HIT.out _).mono ?_
            rintro e w7 ⟨rfl, F7⟩
            have hb7 := HB6.out.no F7
            have hsz7 := F7.size
            have hss : (S (itoaL k)).size = (itoaL k).length := S_size _
            go_wp2_with (at_builtin; refine Go.Lib.wpList_append_own_string _ (by rfl) _ _ 53 9 (by rfl) w.heap.size 5 i5 Try.underlying53 Try.underlying9 hi5 hz5 hs5 hy5 _ L6.length (L6.map u8v) (by rfl) hb7 (S (itoaL k)) (by rfl) (by rw [hss]; unfold maxLen; omega) (by rw [hss]; omega) (by omega) ?_; intro v8 w8 hown8 hgrow8 hnil8; obtain ⟨bs8, cap8, rfl⟩ := owns_slice hown8)
            go_roundg (es.length + 1 - (j + 1))
            case measure => omega
            case rel =>
              refine ⟨j + 1, bs8, cap8, by omega, rfl, by go_num, ?_, ?_, ?_⟩
              · rw [HN3.out, List.length_append]
              · rw [HN3.out]
                unfold Buf
                rw [List.length_append, List.map_append, ← strCells_S, ← hss]
                exact hown8
              · exact Fr.grown (S := fun k => w.heap.size ≤ k) (HF6.out.trans F7 (fun _ _ e => e.elim)) hgrow8 (fun k hk _ => (hb7.lt k hk).1)
end
end Go.Proofs.Qxb6500301a
