import Derived.Test.Qxb6500301aMod3
import Derived.Test.Qxb6500301aReal9
namespace Go.Proofs.Qxb6500301a
open Go.RowKit
set_option linter.unusedSimpArgs false
set_option linter.unusedVariables false
attribute [local go_sem ↓] Go.wp_at_zero Go.wp_at_succ
attribute [-go_sem] Go.run_string_add_if Go.run_index_string Go.run_slice_string_if

theorem nodesM_set {y : Nd} {u : Value} {j : Nat} (hj : j < 6) : ∀ {k : Nat} {ns : List Nd} {i : Nat} {x : Nd}, ns[i]? = some x → ndM (k + i) y = (ndM (k + i) x).set j u → nodesM k (ns.set i y) = (nodesM k ns).set (i * 6 + j) u
  | k, [], i, x, h, _ => by simp at h
  | k, z :: r, 0, x, h, he => by
    simp at h; subst h
    show ndM k y ++ nodesM (k + 1) r = (ndM k z ++ nodesM (k + 1) r).set (0 * 6 + j) u
    rw [Nat.zero_mul, Nat.zero_add, List.set_append_left _ _ (by rw [ndM_len]; exact hj)]
    rw [Nat.add_zero] at he
    rw [he]
  | k, z :: r, i + 1, x, h, he => by
    show ndM k z ++ nodesM (k + 1) (r.set i y) = (ndM k z ++ nodesM (k + 1) r).set ((i + 1) * 6 + j) u
    rw [List.set_append_right _ _ (by rw [ndM_len]; omega), ndM_len, show (i + 1) * 6 + j - 6 = i * 6 + j by omega,
      nodesM_set hj (k := k + 1) (ns := r) (i := i) (x := x) (by simpa using h) (by rw [show k + 1 + i = k + (i + 1) by omega]; exact he)]
theorem owns_block {w : World} {b0 e sz n k : Nat} {v : Value} {xs : List Value} (h : w.ownsRow b0 e sz v n xs) (hk : v.ownBlock = some k) : ∃ cs, w.heap[k]? = some (.cells cs e) := by
  rcases h.2 with ⟨hv, h0⟩ | ⟨g, cap, cur, hv, hb, hg, _⟩
  · rw [hv] at hk; cases hk
  · rw [hv] at hk
    have : g = k := by simpa [Value.ownBlock] using hk
    subst this
    exact ⟨cur, hg⟩
theorem owns_ne {w : World} {b0 e sz n b0' e' sz' n' : Nat} {v v' : Value} {xs xs' : List Value} (h : w.ownsRow b0 e sz v n xs) (h' : w.ownsRow b0' e' sz' v' n' xs') (he : e ≠ e') : ∀ k, v.ownBlock = some k → v'.ownBlock ≠ some k := by
  intro k hk hk'
  obtain ⟨cs, h1⟩ := owns_block h hk
  obtain ⟨cs', h2⟩ := owns_block h' hk'
  rw [h1] at h2
  simp at h2
  exact he h2.2
theorem owns_frozen {w : World} {b0 e sz n g cap : Nat} {xs : List Value} (h : w.ownsRow b0 e sz (sl g n cap) n xs) (j : Nat) : w.frozen? ⟨g, j, none⟩ = false := by
  obtain ⟨cs, h1⟩ := owns_block h (k := g) rfl
  exact frozen_of j h1

section
variable {w w' : World} {b0 q : Nat} {vn vo vl : Value} {ns : List Nd} {saved : List (List Nd)}
theorem MAt.qn (h : MAt w b0 q vn vo vl ns saved) : ∀ k, vn.ownBlock = some k → q ≠ k := by
  intro k hk e
  subst e
  obtain ⟨cs, h1⟩ := owns_block h.rn hk
  rw [h.top] at h1; simp at h1
theorem MAt.qo (h : MAt w b0 q vn vo vl ns saved) : ∀ k, vo.ownBlock = some k → q ≠ k := by
  intro k hk e
  subst e
  obtain ⟨cs, h1⟩ := owns_block h.ro hk
  rw [h.top] at h1; simp at h1
theorem MAt.ql (h : MAt w b0 q vn vo vl ns saved) : ∀ k, vl.ownBlock = some k → q ≠ k := by
  intro k hk e
  subst e
  obtain ⟨cs, h1⟩ := owns_block h.rl hk
  rw [h.top] at h1; simp at h1
/-- One node's cell is written. -/
theorem MAt.setNd {g cap : Nat} (h : MAt w b0 q (sl g ns.length cap) vo vl ns saved) {i j : Nat} {x y : Nd} {u : Value} (hj : j < 6) (hx : ns[i]? = some x) (hy : ndM i y = (ndM i x).set j u) :
    MAt (w.setCell ⟨g, i * 6 + j, none⟩ u) b0 q (sl g (ns.set i y).length cap) vo vl (ns.set i y) saved ∧ Fr (fun k => k = g) w (w.setCell ⟨g, i * 6 + j, none⟩ u) := by
  have F : Fr (fun k => k = g) w (w.setCell ⟨g, i * 6 + j, none⟩ u) := Fr.setCell (S := fun k => k = g) (Fr.refl _ w) (fun _ => rfl) _
  refine ⟨⟨by rw [List.length_set]; exact F.keep h.top (h.qn g rfl), ?_, ownsRow_keep h.ro F (fun k hk e => h.no g rfl (by rw [← e]; exact hk)), ownsRow_keep h.rl F (fun k hk e => owns_ne h.rn h.rl (by decide) g rfl (by rw [← e]; exact hk)), ?_, h.qb⟩, F⟩
  · rw [nodesM_set hj hx (by rw [Nat.zero_add]; exact hy), List.length_set]
    exact (World.ownsRow.stored h.rn (i * 6 + j) u).1
  · intro k hk
    exact h.no k (by rw [← hk]; rfl)
theorem MAt.bind {g cap : Nat} (h : MAt w b0 q (sl g ns.length cap) vo vl ns saved) {v : Nat} {r : Option Nat} (hv : ns[v]? = some (.v r)) (t : Nat) :
    MAt (w.setCell ⟨g, v * 6 + 1, none⟩ (.int .i64 (t : Int))) b0 q (sl g (ns.set v (.v (some t))).length cap) vo vl (ns.set v (.v (some t))) saved ∧ Fr (fun k => k = g) w (w.setCell ⟨g, v * 6 + 1, none⟩ (.int .i64 (t : Int))) :=
  h.setNd (by omega) hv rfl
end

/-- The row's own block. -/
def OwnB (v : Value) (k : Nat) : Prop := v.ownBlock = some k
def UniRes (b0 q : Nat) (vn vo vl : Value) (saved : List (List Nd)) (r : UR) (n er : Int) (w' : World) : Prop := match r with
  | .inl x => x ≠ 0 ∧ er = (x : Int) ∧ ∃ ns', MAt w' b0 q vn vo vl ns' saved
  | .inr (f', ns', _) => n = 40 - (f' : Int) ∧ er = 0 ∧ MAt w' b0 q vn vo vl ns' saved
theorem UniRes.app {b0 q : Nat} {vn vo vl : Value} {saved : List (List Nd)} {r : UR} {n er : Int} {w' : World} (bs : List Nat) (h : UniRes b0 q vn vo vl saved r n er w') : UniRes b0 q vn vo vl saved (app bs r) n er w' := by
  cases r with
  | inl x => exact h
  | inr x => exact h
def MUniPost (b0 q : Nat) (vn vo vl : Value) (saved : List (List Nd)) (r : UR) (w : World) (e : Ending) (w' : World) : Prop :=
  ∃ n er : Int, e = .returned (.tuple #[.int .i64 n, .int .i64 er]) ∧ Fr (OwnB vn) w w' ∧ UniRes b0 q vn vo vl saved r n er w'
def MUniOK (b0 q : Nat) (vn vo vl : Value) (saved : List (List Nd)) (f : Nat) : Prop := ∀ (w : World) (ns : List Nd) (a b : Nat), b0 ≤ w.heap.size → MAt w b0 q vn vo vl ns saved → WfN ns → ns.length ≤ 64 → a < ns.length → b < ns.length →
  Calls Try.prog 64 #[.pointer (some ⟨q, 0, none⟩), .int .i64 (a : Int), .int .i64 (b : Int), .int .i64 (40 - (f : Int))] w (MUniPost b0 q vn vo vl saved (U f ns [(a, b)]) w)

theorem U_done {f : Nat} {ns : List Nd} {a b f' : Nat} {ns' : List Nd} {bs : List Nat} (h : stp f ns a b = .done f' ns' bs) : U (f + 1) ns [(a, b)] = .inr (f', ns', bs) := by
  rw [U_cons, h]
  simp only
  rw [U_nil]
  simp [app]
theorem U_err {f : Nat} {ns : List Nd} {a b e : Nat} (h : stp f ns a b = .err e) : U (f + 1) ns [(a, b)] = .inl e := by
  rw [U_cons, h]
theorem U_more {f : Nat} {ns : List Nd} {a b : Nat} {ps : List (Nat × Nat)} (h : stp f ns a b = .more ps) : U (f + 1) ns [(a, b)] = U f ns ps := by
  rw [U_cons, h]
  simp only
  rw [List.append_nil]

section
variable {w : World} {b0 q : Nat} {vn vo vl : Value} {ns : List Nd} {saved : List (List Nd)}

/-- The variable's case: the occurs check, then the binding. -/
theorem uni_same {f a b : Nat} (hf : f < 40) (hb0 : b0 ≤ w.heap.size) (h : MAt w b0 q vn vo vl ns saved) (hw : WfN ns) (hs : ns.length ≤ 64) (ha : a < ns.length) (hb : b < ns.length) (e : deref ns a = deref ns b) :
    Calls Try.prog 64 #[.pointer (some ⟨q, 0, none⟩), .int .i64 (a : Int), .int .i64 (b : Int), .int .i64 (39 - (f : Int))] w (MUniPost b0 q vn vo vl saved (U (f + 1) ns [(a, b)]) w) := by
  rw [U_done (stp_same rfl rfl e)]
  have HD : Hid (Calls Try.prog 54 #[.pointer (some ⟨q, 0, none⟩), .int .i64 (a : Int)] w fun e w'' => e = .returned (.int .i64 (deref ns a : Int)) ∧ w'' = w) := mderef_at h hw hs ha
  have HE : Hid (Calls Try.prog 54 #[.pointer (some ⟨q, 0, none⟩), .int .i64 (b : Int)] w fun e w'' => e = .returned (.int .i64 (deref ns b : Int)) ∧ w'' = w) := mderef_at h hw hs hb
  rw [← e] at HE
  clear e
  generalize deref ns a = x at *
  have HM : Hid (MAt w b0 q vn vo vl ns saved) := h
  clear h
  go_enter Try.func64, Try.ntmps64
  go_wp2_with fail
  refine HD.out.mono ?_
  rintro e w1 ⟨rfl, rfl⟩
  go_wp2_with fail
  refine HE.out.mono ?_
  rintro e w1 ⟨rfl, rfl⟩
  go_wp2_with fail
  go_ret2
  exact ⟨_, _, rfl, Fr.refl _ _, by omega, rfl, HM.out⟩
set_option maxRecDepth 40000 in
set_option maxHeartbeats 4000000 in
theorem uni_vv {f a b : Nat} (hf : f < 40) (hb0 : b0 ≤ w.heap.size) (h : MAt w b0 q vn vo vl ns saved) (hw : WfN ns) (hs : ns.length ≤ 64) (ha : a < ns.length) (hb : b < ns.length) (e : deref ns a ≠ deref ns b) (hx : ns[deref ns a]? = some (.v none)) (hy : ns[deref ns b]? = some (.v none)) :
    Calls Try.prog 64 #[.pointer (some ⟨q, 0, none⟩), .int .i64 (a : Int), .int .i64 (b : Int), .int .i64 (39 - (f : Int))] w (MUniPost b0 q vn vo vl saved (U (f + 1) ns [(a, b)]) w) := by
  rw [U_done (stp_vv rfl rfl e hx hy)]
  have HD : Hid (Calls Try.prog 54 #[.pointer (some ⟨q, 0, none⟩), .int .i64 (a : Int)] w fun e w'' => e = .returned (.int .i64 (deref ns a : Int)) ∧ w'' = w) := mderef_at h hw hs ha
  have HE : Hid (Calls Try.prog 54 #[.pointer (some ⟨q, 0, none⟩), .int .i64 (b : Int)] w fun e w'' => e = .returned (.int .i64 (deref ns b : Int)) ∧ w'' = w) := mderef_at h hw hs hb
  obtain ⟨g, cap, rfl, hgb, hgl, hcap⟩ := owns_ptr h.rn (by omega)
  have c0 := cell_of 0 h.top rfl
  have cx := (nd_cells h.rn hx).1
  have cy := (nd_cells h.rn hy).1
  have rx := (nd_cells h.rn hx).2.1
  have ry := (nd_cells h.rn hy).2.1
  have hxl := lt_of_some hx
  have hyl := lt_of_some hy
  have zx := owns_frozen h.rn (deref ns a * 6 + 1)
  have zy := owns_frozen h.rn (deref ns b * 6 + 1)
  have HX : Hid (∀ t : Nat, MAt (w.setCell ⟨g, deref ns a * 6 + 1, none⟩ (.int .i64 (t : Int))) b0 q (sl g (ns.set (deref ns a) (.v (some t))).length cap) vo vl (ns.set (deref ns a) (.v (some t))) saved ∧ Fr (fun k => k = g) w (w.setCell ⟨g, deref ns a * 6 + 1, none⟩ (.int .i64 (t : Int)))) := fun t => h.bind hx t
  have HY : Hid (∀ t : Nat, MAt (w.setCell ⟨g, deref ns b * 6 + 1, none⟩ (.int .i64 (t : Int))) b0 q (sl g (ns.set (deref ns b) (.v (some t))).length cap) vo vl (ns.set (deref ns b) (.v (some t))) saved ∧ Fr (fun k => k = g) w (w.setCell ⟨g, deref ns b * 6 + 1, none⟩ (.int .i64 (t : Int)))) := fun t => h.bind hy t
  have e0 := e_nil
  simp only [hdS, refM] at cx cy rx ry
  generalize deref ns a = x at *
  generalize deref ns b = y at *
  have ne1 : ((x : Int) == (y : Int)) = false := by simp; omega
  have ne2 : decide ((x : Int) = (y : Int)) = false := decide_eq_false (by omega)
  clear h hx hy
  by_cases hlt : x < y
  · have d1 : decide ((x : Int) < (y : Int)) = true := decide_eq_true (by omega)
    have d1' : decide (x < y) = true := decide_eq_true hlt
    have HR : Hid (max x y = y ∧ min x y = x) := ⟨by omega, by omega⟩
    go_enter Try.func64, Try.ntmps64
    go_wp2_with fail
    refine HD.out.mono ?_
    rintro e w1 ⟨rfl, rfl⟩
    go_wp2_with fail
    refine HE.out.mono ?_
    rintro e w1 ⟨rfl, rfl⟩
    go_wp2_with fail
    go_ret2
    rw [HR.out.1, HR.out.2]
    obtain ⟨k1, k2⟩ := HY.out x
    rw [List.length_set] at k1
    exact ⟨_, _, rfl, k2.mono (fun k _ e => by rw [e]; rfl), by omega, rfl, k1⟩
  · have d1 : decide ((x : Int) < (y : Int)) = false := decide_eq_false (by omega)
    have d1' : decide (x < y) = false := decide_eq_false hlt
    have HR : Hid (max x y = x ∧ min x y = y) := ⟨by omega, by omega⟩
    go_enter Try.func64, Try.ntmps64
    go_wp2_with fail
    refine HD.out.mono ?_
    rintro e w1 ⟨rfl, rfl⟩
    go_wp2_with fail
    refine HE.out.mono ?_
    rintro e w1 ⟨rfl, rfl⟩
    go_wp2_with fail
    go_ret2
    rw [HR.out.1, HR.out.2]
    obtain ⟨k1, k2⟩ := HX.out y
    rw [List.length_set] at k1
    exact ⟨_, _, rfl, k2.mono (fun k _ e => by rw [e]; rfl), by omega, rfl, k1⟩

set_option maxRecDepth 40000 in
set_option maxHeartbeats 4000000 in
theorem uni_vs {f a b : Nat} {c d : UInt8} {es : List Nat} (hf : f < 40) (hb0 : b0 ≤ w.heap.size) (h : MAt w b0 q vn vo vl ns saved) (hw : WfN ns) (hs : ns.length ≤ 64) (ha : a < ns.length) (hb : b < ns.length) (hx : ns[deref ns a]? = some (.v none)) (hy : ns[deref ns b]? = some (.s c d es)) :
    Calls Try.prog 64 #[.pointer (some ⟨q, 0, none⟩), .int .i64 (a : Int), .int .i64 (b : Int), .int .i64 (39 - (f : Int))] w (MUniPost b0 q vn vo vl saved (U (f + 1) ns [(a, b)]) w) := by
  have e : deref ns a ≠ deref ns b := fun e => by rw [e, hy] at hx; cases hx
  have HST : Hid (stp f ns a b = bnd f ns (deref ns a) (deref ns b)) := stp_vs rfl rfl hx hy
  have HD : Hid (Calls Try.prog 54 #[.pointer (some ⟨q, 0, none⟩), .int .i64 (a : Int)] w fun e w'' => e = .returned (.int .i64 (deref ns a : Int)) ∧ w'' = w) := mderef_at h hw hs ha
  have HE : Hid (Calls Try.prog 54 #[.pointer (some ⟨q, 0, none⟩), .int .i64 (b : Int)] w fun e w'' => e = .returned (.int .i64 (deref ns b : Int)) ∧ w'' = w) := mderef_at h hw hs hb
  obtain ⟨g, cap, rfl, hgb, hgl, hcap⟩ := owns_ptr h.rn (by omega)
  have c0 := cell_of 0 h.top rfl
  have cx := (nd_cells h.rn hx).1
  have cy := (nd_cells h.rn hy).1
  have rx := (nd_cells h.rn hx).2.1
  have hxl := lt_of_some hx
  have hyl := lt_of_some hy
  have zx := owns_frozen h.rn (deref ns a * 6 + 1)
  have HO : Hid (Calls Try.prog 68 #[.pointer (some ⟨q, 0, none⟩), .int .i64 (deref ns a : Int), .int .i64 (deref ns b : Int), .int .i64 (40 - (f : Int))] w (OccPost (occ f ns (deref ns a) [deref ns b]) w)) := mOccurs_any h hw hs f (by omega) _ _ hyl hxl
  have HX : Hid (∀ t : Nat, MAt (w.setCell ⟨g, deref ns a * 6 + 1, none⟩ (.int .i64 (t : Int))) b0 q (sl g (ns.set (deref ns a) (.v (some t))).length cap) vo vl (ns.set (deref ns a) (.v (some t))) saved ∧ Fr (fun k => k = g) w (w.setCell ⟨g, deref ns a * 6 + 1, none⟩ (.int .i64 (t : Int)))) := fun t => h.bind hx t
  have e0 := e_nil
  have e1 := e_cd c d
  have e1' := e_cd' c d
  simp only [hdS, refM] at cx cy rx
  have HM : Hid (MAt w b0 q (sl g ns.length cap) vo vl ns saved) := h
  generalize deref ns a = x at *
  generalize deref ns b = y at *
  have ne1 : ((x : Int) == (y : Int)) = false := by simp; omega
  have ne2 : decide ((x : Int) = (y : Int)) = false := decide_eq_false (by omega)
  clear h hx hy
  go_enter Try.func64, Try.ntmps64
  go_wp2_with fail
  refine HD.out.mono ?_
  rintro e w1 ⟨rfl, rfl⟩
  go_wp2_with fail
  refine HE.out.mono ?_
  rintro e w1 ⟨rfl, rfl⟩
  go_wp2_with fail
  rw [show (39 : Int) - (f : Int) + 1 = 40 - (f : Int) by omega]
  refine HO.out.mono ?_
  rintro e w1 ⟨rfl, n, rfl, hn⟩
  have HB : Hid (stp f ns a b = if (occ f ns x [y]).2 = 0 then .done (occ f ns x [y]).1 (ns.set x (.v (some y))) [x] else .err (occ f ns x [y]).2) := by
    show _ = _
    rw [HST.out]; rfl
  generalize occ f ns x [y] = r at *
  obtain ⟨rf, re⟩ := r
  simp only at hn HB ⊢
  by_cases he : re = 0
  · subst he
    rw [if_pos rfl] at HB
    have hn1 := hn rfl
    clear hn HST
    go_wp2_with fail
    go_ret2
    rw [U_done HB.out]
    obtain ⟨k1, k2⟩ := HX.out y
    rw [List.length_set] at k1
    exact ⟨_, _, rfl, k2.mono (fun k _ e => by rw [e]; rfl), rfl, rfl, k1⟩
  · rw [if_neg he] at HB
    have n1 : ((re : Int) == 0) = false := by simp; omega
    have n2 : decide ((re : Int) = 0) = false := decide_eq_false (by omega)
    clear hn HST
    go_wp2_with fail
    go_ret2
    rw [U_err HB.out]
    exact ⟨_, _, rfl, Fr.refl _ _, he, rfl, _, HM.out⟩
set_option maxRecDepth 40000 in
set_option maxHeartbeats 4000000 in
theorem uni_sv {f a b : Nat} {c d : UInt8} {es : List Nat} (hf : f < 40) (hb0 : b0 ≤ w.heap.size) (h : MAt w b0 q vn vo vl ns saved) (hw : WfN ns) (hs : ns.length ≤ 64) (ha : a < ns.length) (hb : b < ns.length) (hx : ns[deref ns a]? = some (.s c d es)) (hy : ns[deref ns b]? = some (.v none)) :
    Calls Try.prog 64 #[.pointer (some ⟨q, 0, none⟩), .int .i64 (a : Int), .int .i64 (b : Int), .int .i64 (39 - (f : Int))] w (MUniPost b0 q vn vo vl saved (U (f + 1) ns [(a, b)]) w) := by
  have e : deref ns a ≠ deref ns b := fun e => by rw [e, hy] at hx; cases hx
  have HST : Hid (stp f ns a b = bnd f ns (deref ns b) (deref ns a)) := stp_sv rfl rfl hx hy
  have HD : Hid (Calls Try.prog 54 #[.pointer (some ⟨q, 0, none⟩), .int .i64 (a : Int)] w fun e w'' => e = .returned (.int .i64 (deref ns a : Int)) ∧ w'' = w) := mderef_at h hw hs ha
  have HE : Hid (Calls Try.prog 54 #[.pointer (some ⟨q, 0, none⟩), .int .i64 (b : Int)] w fun e w'' => e = .returned (.int .i64 (deref ns b : Int)) ∧ w'' = w) := mderef_at h hw hs hb
  obtain ⟨g, cap, rfl, hgb, hgl, hcap⟩ := owns_ptr h.rn (by omega)
  have c0 := cell_of 0 h.top rfl
  have cx := (nd_cells h.rn hx).1
  have cy := (nd_cells h.rn hy).1
  have ry := (nd_cells h.rn hy).2.1
  have hxl := lt_of_some hx
  have hyl := lt_of_some hy
  have zy := owns_frozen h.rn (deref ns b * 6 + 1)
  have HO : Hid (Calls Try.prog 68 #[.pointer (some ⟨q, 0, none⟩), .int .i64 (deref ns b : Int), .int .i64 (deref ns a : Int), .int .i64 (40 - (f : Int))] w (OccPost (occ f ns (deref ns b) [deref ns a]) w)) := mOccurs_any h hw hs f (by omega) _ _ hxl hyl
  have HX : Hid (∀ t : Nat, MAt (w.setCell ⟨g, deref ns b * 6 + 1, none⟩ (.int .i64 (t : Int))) b0 q (sl g (ns.set (deref ns b) (.v (some t))).length cap) vo vl (ns.set (deref ns b) (.v (some t))) saved ∧ Fr (fun k => k = g) w (w.setCell ⟨g, deref ns b * 6 + 1, none⟩ (.int .i64 (t : Int)))) := fun t => h.bind hy t
  have e0 := e_nil
  have e1 := e_cd c d
  have e1' := e_cd' c d
  simp only [hdS, refM] at cx cy ry
  have HM : Hid (MAt w b0 q (sl g ns.length cap) vo vl ns saved) := h
  generalize deref ns a = x at *
  generalize deref ns b = y at *
  have ne1 : ((x : Int) == (y : Int)) = false := by simp; omega
  have ne2 : decide ((x : Int) = (y : Int)) = false := decide_eq_false (by omega)
  clear h hx hy
  go_enter Try.func64, Try.ntmps64
  go_wp2_with fail
  refine HD.out.mono ?_
  rintro e w1 ⟨rfl, rfl⟩
  go_wp2_with fail
  refine HE.out.mono ?_
  rintro e w1 ⟨rfl, rfl⟩
  go_wp2_with fail
  rw [show (39 : Int) - (f : Int) + 1 = 40 - (f : Int) by omega]
  refine HO.out.mono ?_
  rintro e w1 ⟨rfl, n, rfl, hn⟩
  have HB : Hid (stp f ns a b = if (occ f ns y [x]).2 = 0 then .done (occ f ns y [x]).1 (ns.set y (.v (some x))) [y] else .err (occ f ns y [x]).2) := by
    show _ = _
    rw [HST.out]; rfl
  generalize occ f ns y [x] = r at *
  obtain ⟨rf, re⟩ := r
  simp only at hn HB ⊢
  by_cases he : re = 0
  · subst he
    rw [if_pos rfl] at HB
    have hn1 := hn rfl
    clear hn HST
    go_wp2_with fail
    go_ret2
    rw [U_done HB.out]
    obtain ⟨k1, k2⟩ := HX.out x
    rw [List.length_set] at k1
    exact ⟨_, _, rfl, k2.mono (fun k _ e => by rw [e]; rfl), rfl, rfl, k1⟩
  · rw [if_neg he] at HB
    have n1 : ((re : Int) == 0) = false := by simp; omega
    have n2 : decide ((re : Int) = 0) = false := decide_eq_false (by omega)
    clear hn HST
    go_wp2_with fail
    go_ret2
    rw [U_err HB.out]
    exact ⟨_, _, rfl, Fr.refl _ _, he, rfl, _, HM.out⟩
end
end Go.Proofs.Qxb6500301a
