import Derived.Test.Qxb6500301aMod15
namespace Go.Proofs.Qxb6500301a
open Go.RowKit
set_option linter.unusedSimpArgs false
set_option linter.unusedVariables false
attribute [local go_sem ↓] Go.wp_at_zero Go.wp_at_succ
attribute [-go_sem] Go.run_string_add_if Go.run_index_string Go.run_slice_string_if

theorem ndM_arg {l : List Nat} {i : Nat} (hl : l.length = i) (hi : i < 4) (m k : Nat) (c d : UInt8) : ndM m (.s c d (l ++ [k])) = (ndM m (.s c d l)).set (2 + i) (.int .i64 (k : Int)) := by
  subst hl
  match l, hi with
  | [], _ => rfl
  | [a], _ => rfl
  | [a, b], _ => rfl
  | [a, b, e], _ => rfl
theorem set_mid {ns r1 r2 : List Nd} {x y : Nd} : ((ns ++ (x :: r1)) ++ r2).set ns.length y = ns ++ (y :: (r1 ++ r2)) := by
  rw [List.append_assoc, List.set_append_right _ _ (Nat.le_refl _), Nat.sub_self]
  rfl

section
variable {w : World} {b0 q : Nat} {vn vo vl : Value} {ns : List Nd} {saved : List (List Nd)} {code : List UInt8} {ga p : Nat} {a : At}
set_option maxRecDepth 40000 in
set_option maxHeartbeats 8000000 in
theorem build_func {c d : UInt8} {x : List Nat × List UInt8 × List Nd × At} (IH : ∀ m, m < (code.drop p).length → BuildOK b0 q vo vl saved code ga m) (hl : code.length ≤ 48) (hb0 : b0 ≤ w.heap.size) (h : MAt w b0 q vn vo vl ns saved) (ha : AtAt w ga a) (hga : b0 ≤ ga) (hc : code[p]? = some c) (hd : code[p + 1]? = some d) (hv : isVarC c = false) (hok : okD d = true)
    (hK : K (d.toNat - 48) (code.drop (p + 2)) (ns.length + 1) a = some x) (hs : ns.length + 1 + x.2.2.1.length ≤ 64) :
    Calls Try.prog 63 #[.pointer (some ⟨q, 0, none⟩), .string (S code), .int .i64 (p : Int), .pointer (some ⟨ga, 0, none⟩)] w (BuildPost b0 q vn vo vl saved code ga ns ([ns.length], x.2.1, .s c d x.1 :: x.2.2.1, x.2.2.2) w) := by
  have hpl := (List.getElem?_eq_some_iff.1 hd).1
  have hdr : 48 ≤ d.toNat ∧ d.toNat ≤ 52 := by simpa [okD] using hok
  have xc := fun w => idx_Int (l := code) (i := (p : Int)) (by omega) (c := c) (by rw [Int.toNat_natCast]; exact hc) w
  have HV : Hid (∀ w : World, Calls Try.prog 67 #[.int .u8 (c.toNat : Int)] w fun e w' => e = .returned (.bool false) ∧ w' = w) := fun w => by have := mIsVar_any (w := w) c; rw [hv] at this; exact this
  have hsl : ∀ w, (Instr.slice 9 (.string (S code)) (some (.int .i64 (p : Int))) (some (.int .i64 ((p : Int) + 2))) none).run Try.prog w = .ok (.string (S [c, d])) w := fun w => slice_Int (l := code) (m := [c, d]) (by omega) (by omega) (by omega) (by
    rw [Int.toNat_natCast, show ((p : Int) + 2).toNat - p = 2 by omega, drop_cons hc, drop_cons hd]
    rfl) w
  have HAY : Hid (∀ w, Calls Try.prog 66 #[.string (S [c, d])] w fun e w' => e = .returned (.int .i64 ((d.toNat - 48 : Nat) : Int)) ∧ w' = w) := fun w => arity_cd c d hdr.1
  obtain ⟨bsn, capn, rfl⟩ := owns_slice h.rn
  have c0 := cell_of 0 h.top rfl
  have z0 := frozen_of 0 h.top
  have hgq : ga ≠ q := fun e => by have h1 := ha.1; rw [e, h.top] at h1; simp at h1
  have HM : Hid (MAt w b0 q (.slice bsn ns.length capn) vo vl ns saved) := h
  have HAT : Hid (AtAt w ga a) := ha
  have HK : Hid (K (d.toNat - 48) (code.drop (p + 2)) (ns.length + 1) a = some x) := hK
  have HIH : Hid (∀ m, m < (code.drop p).length → BuildOK b0 q vo vl saved code ga m) := IH
  have hwp : IntKind.i64.wrap ((p : Int) + 2) = (p : Int) + 2 := by rw [IntKind.wrap_i64]; omega
  clear h ha hv hc hd hok hK IH
  go_enter Try.func63, Try.ntmps63
  go_wp2_with fail
  refine (HV.out _).mono ?_
  rintro e w1 ⟨rfl, rfl⟩
  go_upto_region 8 with fail
  go_cut [] from 58 to 72 (fun wx => ∃ bs2 cap2, MAt wx b0 q (.slice bs2 (ns.length + 1) cap2) vo vl (ns ++ [.s c d []]) saved ∧ AtAt wx ga a ∧ Fr (BFoot q (.slice bsn ns.length capn) ga) w1 wx ∧ ∀ k, (Value.slice bs2 (ns.length + 1) cap2).ownBlock = some k → (Value.slice bsn ns.length capn).ownBlock = some k ∨ w1.heap.size ≤ k)
  case first =>
    have FA : Fr No w1 (w1.alloc (.cells #[.string (S [c, d]), .int .i64 0, .int .i64 0, .int .i64 0, .int .i64 0, .int .i64 0] 111)) := (Fr.refl No w1).alloc _
    have FD : Fr No w1 (w1.alloc (.cells #[.string (S [c, d]), .int .i64 0, .int .i64 0, .int .i64 0, .int .i64 0, .int .i64 0] 111)).drew := ((Fr.refl No w1).alloc _).drew
    have ka := FA.cellNo c0
    have n0 := World.new_ne w1 _ c0
    have hrow := ownsRow_keep HM.out.rn FD (fun _ _ e => e)
    have hsrc : SrcAt (w1.alloc (.cells #[.string (S [c, d]), .int .i64 0, .int .i64 0, .int .i64 0, .int .i64 0, .int .i64 0] 111)).drew (.slice (some ⟨w1.heap.size, 0, none⟩) 1 1) 1 (ndM ns.length (.s c d [])) := src_one (heap_alloc_same _ _)
    have hone := ndM_one ns.length (.s c d [])
    have hbd : b0 ≤ (w1.alloc (.cells #[.string (S [c, d]), .int .i64 0, .int .i64 0, .int .i64 0, .int .i64 0, .int .i64 0] 111)).drew.heap.size := by show b0 ≤ (w1.alloc _).heap.size; simp; omega
    go_region_law
      ((refine step_spread (by rfl) _ _ (by rfl) (by rfl) (by rfl) hrow hsrc hone (by omega) hbd ?_; intro bs2 cap2 w2 hown2 hgrow2 hat2; have G2 : Fr (fun k => (Value.slice bsn ns.length capn).ownBlock = some k) w1 w2 := Fr.grown (S := fun k => (Value.slice bsn ns.length capn).ownBlock = some k) (FD.mono (fun _ _ e => e.elim)) hgrow2 (fun k hk _ => hk); have hp2 := G2.keep HM.out.top (fun e => HM.out.qn q e rfl); have cp2 := cell_of 0 hp2 rfl; have fp2 := frozen_of 0 hp2))
    all_goals (go_wp2_with fail)
    all_goals go_meet
    all_goals (
      obtain ⟨hM2, hF2⟩ := HM.out.grow (x := .s c d []) G2 hown2 (by
        rcases hat2 with e | e
        · exact .inl e
        · exact .inr ⟨_, e, by show w1.heap.size ≤ (w1.alloc _).heap.size; simp⟩)
      have hA2 := HAT.out.keep hF2 (fun e => by
        rcases e with e | e
        · exact HAT.out.ne HM.out.rn (by decide) ga e rfl
        · exact hgq e)
      refine ⟨bs2, cap2, hM2, hA2, hF2.mono (fun k _ e => e.elim .inl (fun e => .inr (.inl e))), fun k hk => ?_⟩
      rcases hat2 with e | e
      · exact .inl (by rw [← e]; exact hk)
      · right
        rw [e] at hk
        have h2 : (w1.alloc (.cells #[.string (S [c, d]), .int .i64 0, .int .i64 0, .int .i64 0, .int .i64 0, .int .i64 0] 111)).heap.size = k := by simpa using hk
        simp at h2
        omega)
  case rest =>
    obtain ⟨bs2, cap2, hM2, hA2, hF2, hO2⟩ := hcut
    have HO2 : Hid (∀ k, (Value.slice bs2 (ns.length + 1) cap2).ownBlock = some k → (Value.slice bsn ns.length capn).ownBlock = some k ∨ w1.heap.size ≤ k) := hO2
    clear hO2
    have HM2 : Hid (MAt wc b0 q (.slice bs2 (ns.length + 1) cap2) vo vl (ns ++ [.s c d []]) saved) := hM2
    have HA2 : Hid (AtAt wc ga a) := hA2
    have HF2 : Hid (Fr (BFoot q (.slice bsn ns.length capn) ga) w1 wc) := hF2
    clear hM2 hA2 hF2 c0 z0
    go_wp2_with fail
    refine (HAY.out _).mono ?_
    rintro e w3 ⟨rfl, rfl⟩
    obtain ⟨n, hn⟩ : ∃ n, d.toNat - 48 = n := ⟨_, rfl⟩
    have hn4 : n ≤ 4 := by omega
    rw [hn] at HK HAY ⊢
    clear hn hsl
    go_wp2_with fail
    go_loopg [2, 13] (n + 1) (fun gk v2 v13 wr => ∃ (i : Nat) (y : List Nat × List UInt8 × List Nd × At) (pi : Nat) (vi : Value), i ≤ n ∧ gk = n + 1 - i ∧ v13 = .int .i64 (i : Int) ∧ v2 = .int .i64 (pi : Int) ∧ Hid (K i (code.drop (p + 2)) (ns.length + 1) a = some y) ∧ Hid (y.2.1 = code.drop pi) ∧ p + 2 ≤ pi ∧ pi ≤ code.length ∧ Hid (MAt wr b0 q vi vo vl (ns ++ (.s c d y.1 :: y.2.2.1)) saved) ∧ Hid (AtAt wr ga y.2.2.2) ∧ Hid (Fr (BFoot q (.slice bsn ns.length capn) ga) w1 wr) ∧ Hid (∀ k, vi.ownBlock = some k → (Value.slice bsn ns.length capn).ownBlock = some k ∨ w1.heap.size ≤ k))
    case atStart => exact ⟨0, ([], code.drop (p + 2), [], a), p + 2, _, Nat.zero_le _, rfl, rfl, by go_num, K_zero _ _ _, rfl, Nat.le_refl _, by omega, HM2, HA2, HF2, HO2⟩
    case round =>
      obtain ⟨i, y, pi, vi, hi, hgk, rfl, rfl, HKi, HRi, hpi, hpl2, HMi, HAi, HFi, HOi⟩ := hrel
      have hFs := HFi.out.size
      by_cases hin : i < n
      case neg =>
        have hie : i = n := by omega
        have d1 : decide ((i : Int) < (n : Int)) = false := decide_eq_false (by omega)
        have d1' : decide (i < n) = false := decide_eq_false hin
        have hyx : y = x := by
          have h1 := HKi.out
          rw [hie, HK.out] at h1
          exact (Option.some.inj h1).symm
        subst hyx
        have HFIN : Hid (BuildPost b0 q (.slice bsn ns.length capn) vo vl saved code ga ns ([ns.length], y.2.1, .s c d y.1 :: y.2.2.1, y.2.2.2) w1 (.returned (.tuple #[.int .i64 (ns.length : Int), .int .i64 (pi : Int)])) wr) := ⟨ns.length, pi, vi, rfl, rfl, HRi.out, hpl2, HMi.out, HAi.out, HFi.out, HOi.out⟩
        clear hie
        go_wp2_with fail
        go_ret2
        exact HFIN.out
      case pos =>
        have d1 : decide ((i : Int) < (n : Int)) = true := decide_eq_true (by omega)
        have d1' : decide (i < n) = true := decide_eq_true hin
        obtain ⟨k, z, hz1, hz2, hz3⟩ := K_step HK.out hin HKi.out
        have hyl : y.1.length = i := (K_rest HKi.out).2
        have hzl := (K_rest hz1).1
        have hlen : (ns ++ (Nd.s c d y.1 :: y.2.2.1)).length = ns.length + 1 + y.2.2.1.length := by simp <;> omega
        have HCL : Hid (Calls Try.prog 63 #[.pointer (some ⟨q, 0, none⟩), .string (S code), .int .i64 (pi : Int), .pointer (some ⟨ga, 0, none⟩)] wr (BuildPost b0 q vi vo vl saved code ga (ns ++ (.s c d y.1 :: y.2.2.1)) ([k], z) wr)) := by
          refine HIH.out (code.drop pi).length ?_ pi wr vi _ y.2.2.2 ([k], z) (Nat.le_refl _) hpl2 (by omega) HMi.out HAi.out ?_ ?_
          · rw [List.length_drop, List.length_drop]; omega
          · rw [← HRi.out, hlen]; exact hz1
          · rw [hlen]; simp only; omega
        have HK1 : Hid (K (i + 1) (code.drop (p + 2)) (ns.length + 1) a = some (y.1 ++ [k], z.1, y.2.2.1 ++ z.2.1, z.2.2)) := hz2
        have HZL : Hid (z.1.length ≤ (code.drop pi).length) := by
          show _ ≤ _
          rw [← HRi.out]; exact hzl
        clear hz1 hz2 hzl
        go_wp2_with fail
        refine HCL.out.mono ?_
        rintro e w4 ⟨k', pe, vn4, rfl, hk4, hr4, hpe4, hM4, hA4, hF4, hO4⟩
        have hkk : k = k' := by simpa using hk4
        subst hkk
        have hr4' : z.1 = code.drop pe := hr4
        have hpp : pi ≤ pe := by
          have h1 := HZL.out
          rw [hr4', List.length_drop, List.length_drop] at h1
          omega
        simp only at hM4 hA4
        obtain ⟨g4, cap4, rfl, hg4b, hg4l, hc4⟩ := owns_ptr hM4.rn (by simp <;> omega)
        have hx4 : ((ns ++ (Nd.s c d y.1 :: y.2.2.1)) ++ z.2.1)[ns.length]? = some (.s c d y.1) := by
          rw [List.append_assoc, List.getElem?_append_right (Nat.le_refl _), Nat.sub_self]; rfl
        have ct : w4.cell? ⟨q, 0, none⟩ = some (.slice (some ⟨g4, 0, none⟩) ((ns ++ (Nd.s c d y.1 :: y.2.2.1)) ++ z.2.1).length cap4) := cell_of 0 hM4.top rfl
        have cn := (nd_cells hM4.rn hx4).2.2 i (by omega)
        have zn := owns_frozen hM4.rn (ns.length * 6 + 2 + i)
        have hl4 : ns.length < ((ns ++ (Nd.s c d y.1 :: y.2.2.1)) ++ z.2.1).length := by simp <;> omega
        obtain ⟨hM5, hF5⟩ := hM4.setNd (i := ns.length) (j := 2 + i) (u := .int .i64 (k : Int)) (by omega) hx4 (ndM_arg hyl (by omega) _ k c d)
        rw [set_mid, ← Nat.add_assoc] at hM5
        rw [← Nat.add_assoc] at hF5
        have HM5 : Hid (MAt (w4.setCell ⟨g4, ns.length * 6 + 2 + i, none⟩ (.int .i64 (k : Int))) b0 q (sl g4 (ns ++ (Nd.s c d (y.1 ++ [k]) :: (y.2.2.1 ++ z.2.1))).length cap4) vo vl (ns ++ (.s c d (y.1 ++ [k]) :: (y.2.2.1 ++ z.2.1))) saved) := hM5
        have HA5 : Hid (AtAt (w4.setCell ⟨g4, ns.length * 6 + 2 + i, none⟩ (.int .i64 (k : Int))) ga z.2.2) := hA4.keep hF5 (fun e => hA4.ne hM4.rn (by decide) g4 rfl e)
        have HO5 : Hid (∀ k, (sl g4 (ns ++ (Nd.s c d (y.1 ++ [k]) :: (y.2.2.1 ++ z.2.1))).length cap4).ownBlock = some k → (Value.slice bsn ns.length capn).ownBlock = some k ∨ w1.heap.size ≤ k) := by
          intro k1 hk1
          rcases hO4 k1 (by rw [← hk1]; rfl) with e | e
          · exact HOi.out k1 e
          · right; omega
        have HF5 : Hid (Fr (BFoot q (.slice bsn ns.length capn) ga) w1 (w4.setCell ⟨g4, ns.length * 6 + 2 + i, none⟩ (.int .i64 (k : Int)))) := (HFi.out.trans hF4 (fun k1 hk1 e => by
          rcases e with e | e | e
          · rcases HOi.out k1 e with e | e
            · exact .inl e
            · omega
          · exact .inr (.inl e)
          · exact .inr (.inr e))).trans hF5 (fun k1 hk1 e => by
          rcases HO5.out k1 (by rw [e]; rfl) with e | e
          · exact .inl e
          · omega)
        have HR5 : Hid (z.1 = code.drop pe) := hr4'
        obtain ⟨L4, hL4⟩ : ∃ L4, ((ns ++ (Nd.s c d y.1 :: y.2.2.1)) ++ z.2.1).length = L4 := ⟨_, rfl⟩
        rw [hL4] at ct hl4
        have hl4i : (ns.length : Int) < (L4 : Int) := by omega
        clear hM4 hA4 hF4 hM5 hF5 hx4 hk4 hr4 hr4' hL4 hlen hyl hc4
        go_wp2_with fail
        go_roundg (n + 1 - (i + 1))
        case measure => omega
        case rel => exact ⟨i + 1, (y.1 ++ [k], z.1, y.2.2.1 ++ z.2.1, z.2.2), pe, _, by omega, rfl, by go_num, rfl, HK1, HR5, by omega, hpe4, HM5, HA5, HF5, HO5⟩

theorem build_any (hl : code.length ≤ 48) (hga : b0 ≤ ga) : ∀ n, BuildOK b0 q vo vl saved code ga n := by
  intro n
  induction n using Nat.strongRecOn with
  | _ n IH =>
    intro p w vn ns a x hn hp hb0 h ha hK hs
    by_cases hpl : p < code.length
    case neg =>
      rw [List.drop_eq_nil_of_le (by omega), K_nil] at hK
      cases hK
    case pos =>
      obtain ⟨c, hc⟩ : ∃ c, code[p]? = some c := ⟨_, List.getElem?_eq_getElem hpl⟩
      rw [drop_cons hc] at hK
      by_cases hv : isVarC c = true
      · cases hx : a.getD (c.toNat - 65) none with
        | some y =>
          rw [K_known hv hx, K_zero] at hK
          simp only [Option.map_some, Option.some.injEq] at hK
          subst hK
          exact build_known hl hb0 h ha hc hv hx (by omega)
        | none =>
          rw [K_new hv hx, K_zero] at hK
          simp only [Option.map_some, Option.some.injEq] at hK
          subst hK
          exact build_fresh hl hb0 h ha hga hc hv hx (by simpa using hs)
      · have hv' : isVarC c = false := by simpa using hv
        by_cases hp1 : p + 1 < code.length
        case neg =>
          rw [List.drop_eq_nil_of_le (by omega), K_one hv'] at hK
          cases hK
        case pos =>
          obtain ⟨d, hd⟩ : ∃ d, code[p + 1]? = some d := ⟨_, List.getElem?_eq_getElem hp1⟩
          rw [drop_cons hd] at hK
          by_cases hf : (isFun c && okD d) = true
          case neg =>
            rw [K_bad hv' (by simpa using hf)] at hK
            cases hK
          case pos =>
            rw [K_fun hv' hf] at hK
            cases hKK : K (d.toNat - 48) (code.drop (p + 1 + 1)) (ns.length + 1) a with
            | none => rw [hKK] at hK; cases hK
            | some y =>
              rw [hKK, Option.bind_some, K_zero] at hK
              simp only [Option.map_some, Option.some.injEq, List.append_nil] at hK
              subst hK
              refine build_func (fun m hm => IH m (by omega)) hl hb0 h ha hga hc hd hv' (by simp at hf; exact hf.2) hKK ?_
              simp only [List.length_cons] at hs
              omega
end
end Go.Proofs.Qxb6500301a
