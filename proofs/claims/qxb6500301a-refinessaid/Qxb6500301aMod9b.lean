import Derived.Test.Qxb6500301aMod9
import Derived.Test.Qxb6500301aPrn2
import Derived.Lib.AppendStr
import Derived.Lib.SlBytesConst
namespace Go.Proofs.Qxb6500301a
open Go.RowKit
set_option linter.unusedSimpArgs false
set_option linter.unusedVariables false

/-- A buffer of bytes: of this call's own, or a full literal row. -/
def BufX (b0 : Nat) (w : World) (v : Value) (L : List UInt8) : Prop :=
  Buf b0 w v L ∨ ∃ g cs fz, v = .slice (some ⟨g, 0, none⟩) L.length L.length ∧ b0 ≤ g ∧ w.heap[g]? = some (.cells cs 5 fz) ∧ cs.toList = L.map u8v
theorem BufX.no {b0 : Nat} {w w' : World} {v : Value} {L : List UInt8} (h : BufX b0 w v L) (hf : Fr No w w') : BufX b0 w' v L := by
  rcases h with h | ⟨g, cs, fz, h1, h2, h3, h4⟩
  · exact .inl (h.no hf)
  · exact .inr ⟨g, cs, fz, h1, h2, hf.keep h3 (fun e => e), h4⟩
theorem BufX.str {b0 : Nat} {w : World} {v : Value} {L : List UInt8} (h : BufX b0 w v L) : (convert 53 9 v).run Try.prog w = .ok (.string (S L)) w := by
  rcases h with h | ⟨g, cs, fz, rfl, h2, h3, h4⟩
  · exact h.str
  · refine run_convert_bytes_back (P := Try.prog) w 53 9 5 ⟨g, 0, none⟩ L.length L Try.underlying53 Try.underlying5 Try.underlying9 (fun j hj => ?_)
    rw [add_zero_addr]
    refine cell_of j h3 ?_
    have e : cs[j]? = cs.toList[j]? := by simp
    rw [e, h4]
    simp [hj, u8v]
theorem BufX.lit {w : World} (b : UInt8) (fz : Nat × Nat) : BufX w.heap.size (w.alloc (.cells #[u8v b] 5 fz)) (.slice (some ⟨w.heap.size, 0, none⟩) 1 1) [b] :=
  .inr ⟨w.heap.size, #[u8v b], fz, rfl, Nat.le_refl _, heap_alloc_same _ _, rfl⟩

theorem made_buf {w : World} {b0 N : Nat} {L : List UInt8} (hb : b0 ≤ w.heap.size) (hl : L.length ≤ 1000000) (old : Nat) (ho : old < L.length) :
    Buf b0 (w.drew.alloc (.cells ((L.map u8v).toArray ++ Builtin.zeroCells (Value.int .u8 0).cells (grownCap w L.length old 5 - L.length)) 5)) (.slice (some ⟨w.heap.size, 0, none⟩) L.length (grownCap w L.length old 5)) L := by
  have hge := grownCap_ge w L.length old 5
  have hcm : grownCap w L.length old 5 ≤ maxLen := grownCap_le_maxLen w L.length old 5 (by unfold maxLen; omega)
  refine ⟨by simp, .inr ⟨w.heap.size, _, _, rfl, hb, heap_alloc_same _ _, hge, hcm, ?_, ?_⟩⟩
  · have hz1 : (Value.int IntKind.u8 0).cells.size = 1 := rfl
    simp only [Array.size_append, List.size_toArray, size_zeroCells, hz1, List.length_map]
    omega
  · simp only [Array.toList_append]
    rw [show L.length * 1 = (L.map u8v).length by simp]
    exact List.take_left
theorem run_bx_str {w : World} {b0 : Nat} {v : Value} {L l : List UInt8} (h : BufX b0 w v L) (hl : 0 < l.length) (hlen : L.length + l.length ≤ 1000000) (hb : b0 ≤ w.heap.size) (ty : TypeId) :
    ∃ bs cap w', (Builtin.append_ #[53, 9] ty #[v, .string (S l)]).run Try.prog w = .ok (.slice bs (L.length + l.length) cap) w' ∧ BufX b0 w' (.slice bs (L.length + l.length) cap) (L ++ l) ∧ Fr (fun k => b0 ≤ k) w w' := by
  obtain ⟨i5, hi5, hz5, hs5, hy5⟩ := info_parts Try.info5p
  have hss : (S l).size = l.length := S_size _
  rcases h with h | ⟨g, cs, fz, rfl, h2, h3, h4⟩
  · obtain ⟨v', w', hr, h2, h3, h4⟩ := Go.Lib.run_append_own_string (P := Try.prog) w b0 53 9 ty 5 i5 Try.underlying53 Try.underlying9 hi5 hz5 hs5 hy5 v L.length (L.map u8v) h (S l) (by rw [hss]; unfold maxLen; omega) (by rw [hss]; omega) hb
    obtain ⟨bs, cap, rfl⟩ := owns_slice h2
    rw [hss] at hr h2
    refine ⟨bs, cap, w', hr, .inl ?_, Fr.grown (S := fun k => b0 ≤ k) (Fr.refl _ w) h3 (fun k hk _ => (h.lt k hk).1)⟩
    unfold Buf
    rw [List.length_append, List.map_append, ← strCells_S]
    exact h2
  · have hr := Go.Lib.run_append_grow_string (P := Try.prog) w 53 9 ty 5 i5 (.int .u8 0) Try.underlying53 Try.underlying9 hi5 hz5 ⟨g, 0, none⟩ L.length L.length (L.map u8v) (by rw [hs5]; simp) (fun j u hj => by
      rw [add_zero_addr]
      refine cell_of j h3 ?_
      have e : cs[j]? = cs.toList[j]? := by simp
      rw [e, h4]; exact hj) (S l) (by rw [hss]; omega) (by rw [hss]; omega) (by
        rw [hss, hy5]
        have := nextslicecap_le (need := L.length + l.length) (old := L.length) (by omega)
        omega)
    rw [hss, strCells_S] at hr
    have hm := made_buf (N := 0) (L := L ++ l) hb (by rw [List.length_append]; omega) L.length (by rw [List.length_append]; omega)
    rw [List.length_append, List.map_append] at hm
    have e : (L.map u8v ++ l.map u8v).toArray = (L.map u8v).toArray ++ (l.map u8v).toArray := by simp
    rw [e] at hm
    refine ⟨_, _, _, hr, .inl ?_, ((Fr.refl _ w).drew).alloc _⟩
    exact hm
theorem run_bx_one {w : World} {b0 : Nat} {v : Value} {L : List UInt8} {c : UInt8} {g1 : Nat} (h : BufX b0 w v L) (hlen : L.length + 1 ≤ 1000000) (hb : b0 ≤ w.heap.size) (hg1 : w.heap[g1]? = some (.cells #[.int .u8 (c.toNat : Int)] 5)) (ty : TypeId) :
    ∃ bs cap w', (Builtin.append_ #[53, 53] ty #[v, .slice (some ⟨g1, 0, none⟩) 1 1]).run Try.prog w = .ok (.slice bs (L.length + 1) cap) w' ∧ BufX b0 w' (.slice bs (L.length + 1) cap) (L ++ [c]) ∧ Fr (fun k => b0 ≤ k) w w' := by
  obtain ⟨i5, hi5, hz5, hs5, hy5⟩ := info_parts Try.info5p
  have hnews := World.news_of_block (cs := #[.int .u8 (c.toNat : Int)]) hg1
  rcases h with h | ⟨g, cs, fz, rfl, h2, h3, h4⟩
  · obtain ⟨g', cap, w', hr, h2, h3, h4, h5⟩ := run_append_lies (P := Try.prog) w 53 ty b0 5 i5 (.int .u8 0) 1 1 Try.underlying53 hi5 hz5 hs5 hy5 rfl (by omega) v L.length (L.map u8v) h ⟨g1, 0, none⟩ 1 1 [.int .u8 (c.toNat : Int)] (by rfl) hnews (by simp [Value.oneCell']) (by omega) (by unfold maxLen; omega) (by omega) hb w.heap.size rfl
    refine ⟨_, cap, w', hr, .inl ?_, Fr.grown (S := fun k => b0 ≤ k) (Fr.refl _ w) h3 (fun k hk _ => (h.lt k hk).1)⟩
    unfold Buf
    rw [List.length_append, List.map_append]
    exact h2
  · have hr := run_append_grow (P := Try.prog) w 53 ty 5 i5 (.int .u8 0) Try.underlying53 hi5 hz5 ⟨g, 0, none⟩ L.length L.length (L.map u8v) (by rw [hs5]; simp) (fun j u hj => by
      rw [add_zero_addr]
      refine cell_of j h3 ?_
      have e : cs[j]? = cs.toList[j]? := by simp
      rw [e, h4]; exact hj) ⟨g1, 0, none⟩ 1 1 [.int .u8 (c.toNat : Int)] (by rw [hs5]; rfl) hnews (by omega) (by omega) (by
        rw [hy5]
        have := nextslicecap_le (need := L.length + 1) (old := L.length) (by omega)
        omega)
    have hm := made_buf (N := 0) (L := L ++ [c]) hb (by rw [List.length_append]; simp; omega) L.length (by rw [List.length_append]; simp)
    rw [List.length_append, List.map_append] at hm
    have e : (L.map u8v ++ [c].map u8v).toArray = (L.map u8v).toArray ++ [Value.int .u8 (c.toNat : Int)].toArray := by simp [u8v]
    rw [e] at hm
    refine ⟨_, _, _, hr, .inl ?_, ((Fr.refl _ w).drew).alloc _⟩
    exact hm
theorem wpList_bx_str {w : World} {ops : Array Oper} {rest : List Oper} {o : Oper} {a : Act} {Q : Exit → Act → World → Prop} (hgd : o.guard = none) (s x : Operand)
    (ho : o.op = .call { callee := .builtin .append, args := #[s, x], argTypes := #[53, 9] }) {b0 : Nat} {v : Value} {L : List UInt8} (hs : a.eval s = v) (hB : BufX b0 w v L) (l : List UInt8) (hx : a.eval x = .string (S l)) (hl : 0 < l.length) (hlen : L.length + l.length ≤ 1000000) (hb : b0 ≤ w.heap.size)
    (h : ∀ bs cap w', BufX b0 w' (.slice bs (L.length + l.length) cap) (L ++ l) → Fr (fun k => b0 ≤ k) w w' → wpList Try.prog ops Q rest (a.put o.dst (.slice bs (L.length + l.length) cap)) w') : wpList Try.prog ops Q (o :: rest) a w := by
  obtain ⟨bs, cap, w', hr, h2, h3⟩ := run_bx_str hB hl hlen hb o.type
  exact Go.Lib.wpList_append_run w hgd s x 53 9 ho v _ hs hx _ w' hr (h bs cap w' h2 h3)
theorem wpList_bx_one {w : World} {ops : Array Oper} {rest : List Oper} {o : Oper} {a : Act} {Q : Exit → Act → World → Prop} (hgd : o.guard = none) (s x : Operand)
    (ho : o.op = .call { callee := .builtin .append, args := #[s, x], argTypes := #[53, 53] }) {b0 : Nat} {v : Value} {L : List UInt8} (hs : a.eval s = v) (hB : BufX b0 w v L) (c : UInt8) (g1 : Nat) (hx : a.eval x = .slice (some ⟨g1, 0, none⟩) 1 1) (hg1 : w.heap[g1]? = some (.cells #[.int .u8 (c.toNat : Int)] 5)) (hlen : L.length + 1 ≤ 1000000) (hb : b0 ≤ w.heap.size)
    (h : ∀ bs cap w', BufX b0 w' (.slice bs (L.length + 1) cap) (L ++ [c]) → Fr (fun k => b0 ≤ k) w w' → wpList Try.prog ops Q rest (a.put o.dst (.slice bs (L.length + 1) cap)) w') : wpList Try.prog ops Q (o :: rest) a w := by
  obtain ⟨bs, cap, w', hr, h2, h3⟩ := run_bx_one hB hlen hb hg1 o.type
  exact Go.Lib.wpList_append_run w hgd s x 53 53 ho v _ hs hx _ w' hr (h bs cap w' h2 h3)
end Go.Proofs.Qxb6500301a
