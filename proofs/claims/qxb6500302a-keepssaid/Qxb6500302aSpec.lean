/-
  The plain side of seat b6500302a: trees, the reader's function on lists of bytes, the two printers. No Go in sight.
-/
namespace Go.Proofs.Qxb6500302a

/-- A node: kind 0: a variable (letter, number); kind 1: a cut; kind 2: a call (letter, arguments). -/
structure Tm where
  kind : Nat
  letter : UInt8
  num : Nat
  kids : List Tm

def tVar (c : UInt8) (n : Nat) : Tm := ⟨0, c, n, []⟩
def tCut : Tm := ⟨1, 0, 0, []⟩
def tCall (f : UInt8) (ts : List Tm) : Tm := ⟨2, f, 0, ts⟩

/-- The prefix code. -/
def codeOf : Tm → List UInt8
  | ⟨k, a, n, ts⟩ => if k = 0 then [65 + n.toUInt8] else if k = 1 then [33, 48] else a :: (48 + ts.length.toUInt8) :: (ts.map codeOf).flatten

def commas : List (List UInt8) → List UInt8
  | [] => []
  | [x] => x
  | x :: y :: r => x ++ 44 :: commas (y :: r)

/-- The text. -/
def textOf : Tm → List UInt8
  | ⟨k, a, _, ts⟩ => if k = 0 then [a] else if k = 1 then [33] else if ts.length = 0 then [a] else a :: 40 :: (commas (ts.map textOf) ++ [41])

/-- One more than the greatest number of a variable; 0 where there is none. -/
def topVar : Tm → Nat
  | ⟨k, _, n, ts⟩ => if k = 0 then n + 1 else (ts.map topVar).foldl max 0

def nodesOf : Tm → Nat
  | ⟨_, _, _, ts⟩ => 1 + (ts.map nodesOf).sum

theorem codeOf_eq (k : Nat) (a : UInt8) (n : Nat) (ts : List Tm) : codeOf ⟨k, a, n, ts⟩ = if k = 0 then [65 + n.toUInt8] else if k = 1 then [33, 48] else a :: (48 + ts.length.toUInt8) :: (ts.map codeOf).flatten := by
  rw [codeOf]
theorem textOf_eq (k : Nat) (a : UInt8) (n : Nat) (ts : List Tm) : textOf ⟨k, a, n, ts⟩ = if k = 0 then [a] else if k = 1 then [33] else if ts.length = 0 then [a] else a :: 40 :: (commas (ts.map textOf) ++ [41]) := by
  rw [textOf]
theorem topVar_eq (k : Nat) (a : UInt8) (n : Nat) (ts : List Tm) : topVar ⟨k, a, n, ts⟩ = if k = 0 then n + 1 else (ts.map topVar).foldl max 0 := by
  rw [topVar]
theorem nodesOf_eq (k : Nat) (a : UInt8) (n : Nat) (ts : List Tm) : nodesOf ⟨k, a, n, ts⟩ = 1 + (ts.map nodesOf).sum := by
  rw [nodesOf]

/-- The byte at the place; 0 at the end. -/
def hd : List UInt8 → UInt8
  | [] => 0
  | c :: _ => c

def isCap (c : UInt8) : Bool := 65 ≤ c.toNat && c.toNat ≤ 90
def isLow (c : UInt8) : Bool := 97 ≤ c.toNat && c.toNat ≤ 122

/-- A letter's number among those met; the next one where it is new. -/
def varIx : List UInt8 → UInt8 → Nat
  | [], _ => 0
  | x :: r, c => if x = c then 0 else varIx r c + 1
def hasVar (vs : List UInt8) (c : UInt8) : Bool := decide (varIx vs c < vs.length)
def addVar (vs : List UInt8) (c : UInt8) : List UInt8 := if varIx vs c < vs.length then vs else vs ++ [c]

abbrev Rd : Type := Option (Tm × List UInt8 × List UInt8)
abbrev Rds : Type := Option (List Tm × List UInt8 × List UInt8)

def rTerm (rec : List UInt8 → List UInt8 → Rd) (s vs : List UInt8) : Rd :=
  if isCap (hd s) then some (tVar (hd s) (varIx vs (hd s)), s.tail, addVar vs (hd s)) else rec s vs

def rArgs (rec : List UInt8 → List UInt8 → Rd) : Nat → List UInt8 → List UInt8 → Rds
  | 0, _, _ => none
  | k + 1, s, vs => match rTerm rec s vs with
    | none => none
    | some (t, s1, vs1) =>
      if hd s1 = 44 then
        match rArgs rec k s1.tail vs1 with
        | none => none
        | some (ts, s2, vs2) => some (t :: ts, s2, vs2)
      else if hd s1 = 41 then some ([t], s1.tail, vs1) else none

def rCall : Nat → List UInt8 → List UInt8 → Rd
  | 0, _, _ => none
  | n + 1, s, vs =>
    if isLow (hd s) then
      if hd s.tail = 40 then
        match rArgs (rCall n) 3 s.tail.tail vs with
        | none => none
        | some (ts, s2, vs2) => some (tCall (hd s) ts, s2, vs2)
      else some (tCall (hd s) [], s.tail, vs)
    else none

def rGoal (n : Nat) (s vs : List UInt8) : Rd := if hd s = 33 then some (tCut, s.tail, vs) else rCall n s vs

/-- goal { "," goal }: k: how many goals at most are still to come. -/
def rGoals (n : Nat) : Nat → List UInt8 → List UInt8 → Rds
  | 0, _, _ => none
  | k + 1, s, vs => match rGoal n s vs with
    | none => none
    | some (t, s1, vs1) =>
      if hd s1 = 44 then
        match rGoals n k s1.tail vs1 with
        | none => none
        | some (ts, s2, vs2) => some (t :: ts, s2, vs2)
      else some ([t], s1, vs1)

/-- The whole text: the arguments of the root, and the letters met. -/
def rRead (query : Bool) (s : List UInt8) : Option (List Tm × List UInt8) :=
  if query then
    match rGoals (s.length + 1) (s.length + 1) s [] with
    | some (ts, [], vs) => some (ts, vs)
    | _ => none
  else
    match rCall (s.length + 1) s [] with
    | none => none
    | some (h, s1, vs1) =>
      if s1 = [] then some ([h], vs1)
      else if hd s1 = 58 then
        if hd s1.tail = 45 then
          match rGoals (s.length + 1) (s.length + 1) s1.tail.tail vs1 with
          | some (ts, [], vs) => some (h :: ts, vs)
          | _ => none
        else none
      else none

def rootOf (query : Bool) : UInt8 := if query then 63 else 58

/-- The tree of a clause's (query: of a query's) text; none: it is none. -/
def parseOf (query : Bool) (s : List UInt8) : Option Tm :=
  match rRead query s with
  | none => none
  | some (ts, _) =>
    let goals := if query then ts else ts.tail
    if goals.length ≤ 3 ∧ topVar (tCall (rootOf query) ts) ≤ 6 then some (tCall (rootOf query) ts) else none

/-- The text of a clause or a query. -/
def clauseText (t : Tm) : List UInt8 :=
  if t.letter = 58 then
    textOf (t.kids.headD tCut) ++ (if t.kids.tail.length = 0 then [] else 58 :: 45 :: commas (t.kids.tail.map textOf))
  else commas (t.kids.map textOf)
end Go.Proofs.Qxb6500302a
