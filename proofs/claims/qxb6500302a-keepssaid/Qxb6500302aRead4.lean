import Derived.Test.Qxb6500302aRead3
import Derived.Maps.AppendAt
namespace Go.Proofs.Qxb6500302a
open Go.RowKit
set_option linter.unusedSimpArgs false
set_option linter.unusedVariables false

theorem Try.info95 : (Try.prog.info? 95).map (fun i => (i.zero, i.size, i.bytes)) = some (some .nilIface, 1, 16) := by kernel_rfl

theorem low_of {c : UInt8} (h : isLow c = true) : decide ((c.toNat : Int) < 97) = false ∧ decide ((122 : Int) < (c.toNat : Int)) = false := by
  simp [isLow] at h; simp; omega
theorem not_low_of {c : UInt8} (h : isLow c = false) : (decide ((c.toNat : Int) < 97) = true) ∨ (decide ((c.toNat : Int) < 97) = false ∧ decide ((122 : Int) < (c.toNat : Int)) = true) := by
  simp [isLow] at h; simp; omega
theorem neq_of {c d : UInt8} (h : c ≠ d) : ((c.toNat : Int) != (d.toNat : Int)) = true := by
  simp only [bne_iff_ne, ne_eq, Int.natCast_inj]; exact fun e => h (UInt8.toNat_inj.1 e)

theorem RdAt.alloc {w : World} {r mb : Nat} {s : ByteArray} {pre rest vs : List UInt8} (h : RdAt w r mb s pre rest vs) (o : Obj) : RdAt (w.alloc o) r mb s pre rest vs :=
  h.keep ((Fr.refl No w).alloc o) (fun h => h) (fun h => h)
theorem RdAt.lt {w : World} {r mb : Nat} {s : ByteArray} {pre rest vs : List UInt8} (h : RdAt w r mb s pre rest vs) : r < w.heap.size ∧ mb < w.heap.size := ⟨lt_of_heap h.rd, lt_of_heap h.mp⟩

theorem call_not {n : Nat} {r mb : Nat} {s : ByteArray} {pre rest vs : List UInt8} {w : World} (h : RdAt w r mb s pre rest vs) (hlow : isLow (hd rest) = false) :
    Calls Try.prog 55 #[.pointer (some ⟨r, 0, none⟩)] w (ReadPost asCall (rCall (n + 1) rest vs) r mb s w) := by
  have e : rCall (n + 1) rest vs = none := by simp [rCall, hlow]
  rw [e]
  clear e
  rcases not_low_of hlow with t1 | ⟨t1, t2⟩
  all_goals
    go_enter Try.func55, Try.ntmps55
    go_wp2_with fail
    refine (peek_any h rfl).mono ?_
    rintro e w' ⟨rfl, k, rfl⟩
    go_wp2_with fail
    refine (fail_any (h.drewN k) _).mono ?_
    rintro e w' ⟨⟨b, rfl⟩, hf⟩
    go_wp2_with fail
    exact ⟨rfl, ⟨_, rfl⟩, ((Fr.refl _ _).drewN k).trans hf (fun _ _ h => h.elim)⟩

theorem call_atom {n : Nat} {r mb : Nat} {s : ByteArray} {pre rest vs : List UInt8} {w : World} (h : RdAt w r mb s pre rest vs) (hlow : isLow (hd rest) = true) (ho : hd rest.tail ≠ 40) :
    Calls Try.prog 55 #[.pointer (some ⟨r, 0, none⟩)] w (ReadPost asCall (rCall (n + 1) rest vs) r mb s w) := by
  have e : rCall (n + 1) rest vs = some (tCall (hd rest) [], rest.tail, vs) := by simp [rCall, hlow, ho]
  rw [e]
  clear e
  obtain ⟨c, rest, rfl⟩ : ∃ c rest', rest = c :: rest' := by
    cases rest with
    | nil => simp [hd, isLow] at hlow
    | cons c r => exact ⟨c, r, rfl⟩
  obtain ⟨t1, t2⟩ := low_of hlow
  have e1 : hd (c :: rest) = c := rfl
  rw [e1] at t1 t2 hlow ⊢
  rw [List.tail_cons] at ho ⊢
  have t3 : (((hd rest).toNat : Int) != 40) = true := neq_of ho
  have c1 : w.cell? ⟨r, 1, none⟩ = some (.int .i64 (pre.length : Int)) := cell_of 1 h.rd rfl
  have f1 : w.frozen? ⟨r, 1, none⟩ = false := frozen_of 1 h.rd
  have hl := h.lens
  have hm := h.len
  go_enter Try.func55, Try.ntmps55
  go_wp2_with fail
  refine (peek_any h (c := c) rfl).mono ?_
  rintro e w' ⟨rfl, k, rfl⟩
  have h1 := (h.drewN k).step
  go_wp2_with fail
  refine (peek_any (h1.alloc _) rfl).mono ?_
  rintro e w' ⟨rfl, k2, rfl⟩
  go_wp2_with fail
  go_ret
  have hsz : ((w.drewN k).setCell ⟨r, 1, none⟩ (.int .i64 ((pre.length : Int) + 1))).heap.size = w.heap.size := by simp [World.setCell]
  refine ⟨_, _, 1, (fun k => k = w.heap.size), rfl, .inr (.inr ⟨rfl, w.heap.size, _, [], rfl, rfl, ?_, .inl ⟨rfl, rfl⟩, rfl, by simp [tCall], fun i x u hx => by simp at hx⟩), (h1.alloc _).drewN k2, Fr.drewN (Fr.alloc (Fr.setCell (S := RM r mb) ((Fr.refl _ _).drewN k) (fun _ => .inl rfl) _) _) k2, fun i hi => ?_⟩
  · have := heap_alloc_same ((w.drewN k).setCell ⟨r, 1, none⟩ (.int .i64 ((pre.length : Int) + 1))) (.cells #[.int .u8 (c.toNat : Int), .slice none 0 0] 90)
    rw [hsz] at this
    exact this
  · subst hi
    simp [World.setCell]

end Go.Proofs.Qxb6500302a
