import Derived.Test.Qxb6500302aBase
import Derived.Test.Qxb6500302aSpec
namespace Go.Proofs.Qxb6500302a
open Go.RowKit
set_option linter.unusedSimpArgs false
set_option linter.unusedVariables false

/-- The entries of the reader's map of variables. -/
def varEnts (vs : List UInt8) : Array MapEntry := (vs.mapIdx fun i c => (⟨.int .u8 (c.toNat : Int), .int .i64 (i : Int), i⟩ : MapEntry)).toArray
theorem varEnts_snoc (vs : List UInt8) (c : UInt8) : varEnts (vs ++ [c]) = (varEnts vs).push ⟨.int .u8 (c.toNat : Int), .int .i64 (vs.length : Int), vs.length⟩ := by
  simp [varEnts, List.mapIdx_append]
theorem varEnts_size (vs : List UInt8) : (varEnts vs).size = vs.length := by simp [varEnts]

/-- The reader at block r (its map: block mb): 'pre' has been read, 'rest' is left, 'vs' are the letters met. -/
structure RdAt (w : World) (r mb : Nat) (s : ByteArray) (pre rest vs : List UInt8) : Prop where
  rd : w.heap[r]? = some (.cells #[.string s, .int .i64 (pre.length : Int), .map (some mb)] 77)
  mp : w.heap[mb]? = some (.map (varEnts vs) vs.length)
  src : s.data.toList = pre ++ rest
  len : s.size ≤ 40
  few : vs.length ≤ pre.length
theorem RdAt.ne {w : World} {r mb : Nat} {s : ByteArray} {pre rest vs : List UInt8} (h : RdAt w r mb s pre rest vs) : mb ≠ r := by
  intro e; subst e; have := h.rd; rw [h.mp] at this; simp at this
theorem RdAt.lens {w : World} {r mb : Nat} {s : ByteArray} {pre rest vs : List UInt8} (h : RdAt w r mb s pre rest vs) : pre.length + rest.length = s.size := by
  have := congrArg List.length h.src; simp at this; simpa using this.symm
theorem RdAt.keep {w w' : World} {r mb : Nat} {s : ByteArray} {pre rest vs : List UInt8} (h : RdAt w r mb s pre rest vs) {S : Nat → Prop} (hf : Fr S w w') (h1 : ¬ S r) (h2 : ¬ S mb) : RdAt w' r mb s pre rest vs :=
  ⟨hf.keep h.rd h1, hf.keep h.mp h2, h.src, h.len, h.few⟩

theorem hd_at {s : ByteArray} {pre rest : List UInt8} (h : s.data.toList = pre ++ rest) (hlt : pre.length < s.size) : s[pre.length] = hd rest := by
  have e : s.data.toList[pre.length]'(by simpa using hlt) = hd rest := by
    cases rest with
    | nil => simp at h; have := congrArg List.length h; simp at this; have h2 : s.size = s.data.size := rfl; omega
    | cons c r => simp [h, hd]
  rw [← e]; rfl
theorem hd_end {s : ByteArray} {pre rest : List UInt8} (h : s.data.toList = pre ++ rest) (hlt : ¬ pre.length < s.size) : hd rest = 0 := by
  cases rest with
  | nil => rfl
  | cons c r => have := congrArg List.length h; simp at this; have h2 : s.size = s.data.size := rfl; omega

set_option maxHeartbeats 400000 in
theorem peek_any {r mb : Nat} {s : ByteArray} {pre rest vs : List UInt8} {w : World} (h : RdAt w r mb s pre rest vs) {c : UInt8} (hc : hd rest = c) :
    Calls Try.prog 58 #[.pointer (some ⟨r, 0, none⟩)] w fun e w' => e = .returned (.int .u8 c.toNat) ∧ ∃ n, w' = w.drewN n := by
  subst hc
  have c0 : w.cell? ⟨r, 0, none⟩ = some (.string s) := cell_of 0 h.rd rfl
  have c1 : w.cell? ⟨r, 1, none⟩ = some (.int .i64 (pre.length : Int)) := cell_of 1 h.rd rfl
  have hl := h.lens
  have hm := h.len
  have hsrc := h.src
  clear h
  by_cases hlt : pre.length < s.size
  · have e := hd_at hsrc hlt
    rw [← e]
    clear e hsrc
    go_enter Try.func58, Try.ntmps58
    go_wp2
    go_quiet (fail)
    go_wp2
    go_quiet (fail)
    go_wp2
    go_ret
    exact ⟨rfl, _, World.drewN_drewN ..⟩
  · have e := hd_end hsrc hlt
    rw [e]
    clear e hsrc
    go_enter Try.func58, Try.ntmps58
    go_wp2
    go_quiet (fail)
    go_wp2
    go_ret
    exact ⟨rfl, _, rfl⟩

/-- What the reader throws: a pointer to its own error. -/
def Syn (e : Ending) : Prop := ∃ b, e = .panicked [{ v := .iface 72 (.pointer (some ⟨b, 0, none⟩)), recovered := false }]

theorem fail_any {r mb : Nat} {s : ByteArray} {pre rest vs : List UInt8} {w : World} (h : RdAt w r mb s pre rest vs) (m : ByteArray) :
    Calls Try.prog 59 #[.pointer (some ⟨r, 0, none⟩), .string m] w fun e w' => Syn e ∧ Fr No w w' := by
  have c1 : w.cell? ⟨r, 1, none⟩ = some (.int .i64 (pre.length : Int)) := cell_of 1 h.rd rfl
  go_enter Try.func59, Try.ntmps59
  go_wp2
  exact ⟨rfl, ⟨_, rfl⟩, ((Fr.refl _ _).alloc _)⟩

theorem RdAt.drewN {w : World} {r mb : Nat} {s : ByteArray} {pre rest vs : List UInt8} (h : RdAt w r mb s pre rest vs) (n : Nat) : RdAt (w.drewN n) r mb s pre rest vs :=
  ⟨h.rd, h.mp, h.src, h.len, h.few⟩
theorem RdAt.step {w : World} {r mb : Nat} {s : ByteArray} {pre rest vs : List UInt8} {c : UInt8} (h : RdAt w r mb s pre (c :: rest) vs) :
    RdAt (w.setCell ⟨r, 1, none⟩ (.int .i64 ((pre.length : Int) + 1))) r mb s (pre ++ [c]) rest vs :=
  ⟨by rw [heap_setCell_same _ h.rd]; simp, by rw [heap_setCell_other _ h.ne]; exact h.mp, by simp [h.src], h.len, by have := h.few; simp; omega⟩

theorem expect_yes {r mb : Nat} {s : ByteArray} {pre rest vs : List UInt8} {w : World} (c : UInt8) (h : RdAt w r mb s pre (c :: rest) vs) (m : ByteArray) :
    Calls Try.prog 56 #[.pointer (some ⟨r, 0, none⟩), .int .u8 c.toNat, .string m] w fun e w' => e = .returned (.tuple #[]) ∧ RdAt w' r mb s (pre ++ [c]) rest vs ∧ Fr (· = r) w w' := by
  have c1 : w.cell? ⟨r, 1, none⟩ = some (.int .i64 (pre.length : Int)) := cell_of 1 h.rd rfl
  have f1 : w.frozen? ⟨r, 1, none⟩ = false := frozen_of 1 h.rd
  have hl := h.lens
  have hm := h.len
  have hne : ((c.toNat : Int) != (c.toNat : Int)) = false := by simp
  go_enter Try.func56, Try.ntmps56
  go_wp2_with fail
  refine (peek_any h rfl).mono ?_
  rintro e w' ⟨rfl, n, rfl⟩
  simp only [hd]
  go_wp2_with fail
  go_end0
  exact ⟨rfl, (h.drewN n).step, Fr.setCell (S := fun x => x = r) ((Fr.refl _ _).drewN n) (fun _ => rfl) _⟩

theorem expect_no {r mb : Nat} {s : ByteArray} {pre rest vs : List UInt8} {w : World} (c : UInt8) (h : RdAt w r mb s pre rest vs) (hc : hd rest ≠ c) (m : ByteArray) :
    Calls Try.prog 56 #[.pointer (some ⟨r, 0, none⟩), .int .u8 c.toNat, .string m] w fun e w' => Syn e ∧ Fr No w w' := by
  have hne : (((hd rest).toNat : Int) != (c.toNat : Int)) = true := by
    simp only [bne_iff_ne, ne_eq, Int.natCast_inj]
    exact fun e => hc (UInt8.toNat_inj.1 e)
  go_enter Try.func56, Try.ntmps56
  go_wp2_with fail
  refine (peek_any h rfl).mono ?_
  rintro e w' ⟨rfl, n, rfl⟩
  go_wp2_with fail
  refine (fail_any (h.drewN n) _).mono ?_
  rintro e w' ⟨⟨b, rfl⟩, hf⟩
  go_wp2_with fail
  exact ⟨rfl, ⟨_, rfl⟩, ((Fr.refl _ _).drewN n).trans hf (fun _ _ h => h)⟩

end Go.Proofs.Qxb6500302a
