/- Plain words for the cutter of XML texts: what xtok.Cut tells; no program in sight. -/
import Derived.Test.YtmhhkekokfpppaaDoorUtA
import Derived.Lib.Strings
import Derived.Lib.Bytealg
import Derived.Lib.IndexAny
import Derived.Lib.Replace
import Derived.Lib.SlTrimSet
namespace Go.Proofs.YtmhhkekokfpppaaDoor
open Go.RowKit
set_option linter.unusedVariables false

/-- An attribute as it is told. -/
structure XA where
  name : List UInt8
  value : List UInt8
  place : Nat
/-- A token as it is told. -/
structure XT where
  kind : Nat
  place : Nat
  name : List UInt8
  text : List UInt8
  attrs : List XA
  empty : Bool
/-- A refusal: its code, place and word. -/
structure XE where
  code : Nat
  place : Nat
  what : List UInt8
/-- What may come of a step: nothing yet (the steps were too few), a refusal, an answer. -/
inductive XR (α : Type) where
  | none
  | bad (e : XE)
  | ok (a : α)

def digitX (c : Nat) : Nat := if 48 ≤ c ∧ c ≤ 57 then c - 48 else if 97 ≤ c ∧ c ≤ 102 then c - 87 else if 65 ≤ c ∧ c ≤ 70 then c - 55 else 16
theorem digitX_le (c : Nat) : digitX c ≤ 16 := by
  unfold digitX; split
  · omega
  · split
    · omega
    · split <;> omega
def numX (base : Nat) : List UInt8 → Nat → Option Nat
  | [], r => some r
  | c :: t, r => if base ≤ digitX c.toNat then none else numX base t (r * base + digitX c.toNat)
def charX (l : List UInt8) (base most : Nat) : Option (List UInt8) :=
  if l.length < 1 ∨ most < l.length then none else (numX base l 0).bind fun r => if charR (r : Int) then some (putR r) else none
/-- What a reference's name stands for. -/
def meantX (l : List UInt8) : Option (List UInt8) :=
  if l = [108, 116] then some [60] else if l = [103, 116] then some [62] else if l = [97, 109, 112] then some [38]
  else if l = [97, 112, 111, 115] then some [39] else if l = [113, 117, 111, 116] then some [34]
  else if Lib.hasPrefix l [35, 120] then charX (l.drop 2) 16 6 else if Lib.hasPrefix l [35] then charX (l.drop 1) 10 7 else none
/-- The reference at the front: what it stands for, and how many bytes it has. -/
def refX (l : List UInt8) : Option (List UInt8 × Nat) :=
  if Lib.indexByte l 59 < 0 then none else (meantX ((l.drop 1).take ((Lib.indexByte l 59).toNat - 1))).map fun t => (t, (Lib.indexByte l 59).toNat + 1)
/-- How many bytes the name at the front has. -/
def nameX (l : List UInt8) : Nat :=
  match (allRunes l).find? (fun p => !namePartR (p.2 : Int) || (p.1 == 0 && !nameStartR (p.2 : Int))) with
  | some p => p.1
  | none => l.length
/-- How many bytes of blanks stand at the front. -/
def blanksX (l : List UInt8) : Nat := l.length - (Lib.trimLeftS l [32, 9, 10, 13]).length
def linesX (l : List UInt8) : List UInt8 := Lib.replaceAll (Lib.replaceAll l [13, 10] [10]) [13] [10]

def wReference : List UInt8 := [114, 101, 102, 101, 114, 101, 110, 99, 101]
def wCdataEnd : List UInt8 := [93, 93, 62]
def wValue : List UInt8 := [118, 97, 108, 117, 101]
def wTwice : List UInt8 := [116, 119, 105, 99, 101]
def wAttribute : List UInt8 := [97, 116, 116, 114, 105, 98, 117, 116, 101]
def wBegin : List UInt8 := [98, 101, 103, 105, 110]
def wEnd : List UInt8 := [101, 110, 100]
def wBytes : List UInt8 := [98, 121, 116, 101, 115]
def wCharacter : List UInt8 := [99, 104, 97, 114, 97, 99, 116, 101, 114]
def wText : List UInt8 := [116, 101, 120, 116]
def wDeclaration : List UInt8 := [100, 101, 99, 108, 97, 114, 97, 116, 105, 111, 110]

/-- A Text with its references, from a place on: behind what was told. -/
def wordsX : Nat → List UInt8 → Nat → List UInt8 → XR (List UInt8)
  | 0, _, _, _ => .none
  | f + 1, l, at_, acc =>
    if l = [] then .ok acc
    else if Lib.indexAny l [38, 93] < 0 then .ok (acc ++ linesX l)
    else if 0 < Lib.indexAny l [38, 93] then
      wordsX f (l.drop (Lib.indexAny l [38, 93]).toNat) (at_ + (Lib.indexAny l [38, 93]).toNat) (acc ++ linesX (l.take (Lib.indexAny l [38, 93]).toNat))
    else if l[0]? = some 38 then
      match refX l with
      | none => .bad ⟨11, at_, wReference⟩
      | some (t, n) => wordsX f (l.drop n) (at_ + n) (acc ++ t)
    else if Lib.hasPrefix l [93, 93, 62] then .bad ⟨11, at_, wCdataEnd⟩
    else wordsX f (l.drop 1) (at_ + 1) (acc ++ [93])
/-- A value between quotes q, from a place on: behind what was told; and where it ends. -/
def valueX (ca : Nat) (q : UInt8) : Nat → List UInt8 → Nat → List UInt8 → XR (List UInt8 × Nat)
  | 0, _, _, _ => .none
  | f + 1, l, at_, acc =>
    match l with
    | [] => .bad ⟨11, ca, wValue⟩
    | c :: t =>
      if c = q then .ok (acc, at_ + 1)
      else if c = 60 then .bad ⟨11, ca, wValue⟩
      else if c = 38 then
        match refX (c :: t) with
        | none => .bad ⟨11, at_, wReference⟩
        | some (x, n) => valueX ca q f ((c :: t).drop n) (at_ + n) (acc ++ x)
      else if c = 13 ∧ Lib.hasPrefix (c :: t) [13, 10] = true then valueX ca q f (t.drop 1) (at_ + 2) (acc ++ [32])
      else if c = 13 ∨ c = 10 ∨ c = 9 then valueX ca q f t (at_ + 1) (acc ++ [32])
      else valueX ca q f t (at_ + 1) (acc ++ [c])
/-- An attribute at a place, behind the others of the element that begins at ca. -/
def attrX (f : Nat) (s : List UInt8) (ca : Nat) (l : List XA) (at_ : Nat) : XR (XA × Nat) :=
  let n := nameX (s.drop at_)
  let name := (s.drop at_).take n
  if l.any (fun x => x.name = name) then .bad ⟨11, at_, wTwice⟩
  else
    let a2 := at_ + n + blanksX (s.drop (at_ + n))
    if n = 0 ∨ s[a2]? ≠ some 61 then .bad ⟨11, ca, wAttribute⟩
    else
      let a4 := a2 + 1 + blanksX (s.drop (a2 + 1))
      match s[a4]? with
      | none => .bad ⟨11, ca, wValue⟩
      | some q =>
        if q = 34 ∨ q = 39 then
          match valueX ca q f (s.drop (a4 + 1)) (a4 + 1) [] with
          | .none => .none
          | .bad e => .bad e
          | .ok (v, e) => .ok (⟨name, v, at_⟩, e)
        else .bad ⟨11, ca, wValue⟩
def openGo (s : List UInt8) (ca : Nat) : Nat → List XA → Nat → XR (List XA × Bool × Nat)
  | 0, _, _ => .none
  | f + 1, l, at_ =>
    let k := blanksX (s.drop at_)
    let rest := s.drop (at_ + k)
    if Lib.hasPrefix rest [62] then .ok (l, false, at_ + k + 1)
    else if Lib.hasPrefix rest [47, 62] then .ok (l, true, at_ + k + 2)
    else if k = 0 then .bad ⟨11, ca, wBegin⟩
    else
      match attrX f s ca l (at_ + k) with
      | .none => .none
      | .bad e => .bad e
      | .ok (a, e) => openGo s ca f (l ++ [a]) e
/-- The begin of an element at ca: the token, and where it ends. -/
def openX (f : Nat) (s : List UInt8) (ca : Nat) : XR (XT × Nat) :=
  let n := nameX (s.drop (ca + 1))
  if n = 0 then .bad ⟨11, ca, wBegin⟩
  else
    match openGo s ca f [] (ca + 1 + n) with
    | .none => .none
    | .bad e => .bad e
    | .ok (l, em, e) => .ok (⟨1, ca, (s.drop (ca + 1)).take n, [], l, em⟩, e)
/-- The end of an element at ca. -/
def closeX (s : List UInt8) (ca : Nat) : XR (XT × Nat) :=
  let n := nameX (s.drop (ca + 2))
  let e := ca + 2 + n + blanksX (s.drop (ca + 2 + n))
  if n = 0 ∨ s[e]? ≠ some 62 then .bad ⟨11, ca, wEnd⟩ else .ok (⟨2, ca, (s.drop (ca + 2)).take n, [], [], false⟩, e + 1)
/-- The cutter: its place, what is told, the Text that is gathered, and where that began. -/
structure XS where
  place : Nat
  out : List XT
  text : List UInt8
  since : Nat
def finX (c : XS) : XS := { c with out := if c.text = [] then c.out else c.out ++ [⟨3, c.since, [], c.text, [], false⟩], text := [] }
def addX (c : XS) (at_ : Nat) (x : List UInt8) : XS := if x = [] then c else { c with since := if c.text = [] then at_ else c.since, text := c.text ++ x }
/-- Where the Text that begins at a place ends. -/
def endX (s : List UInt8) (at_ : Nat) : Nat := if Lib.indexByte (s.drop at_) 60 < 0 then s.length else at_ + (Lib.indexByte (s.drop at_) 60).toNat
/-- One step. (Raw texts, remarks and orders are not told here.) -/
def nextX (f : Nat) (s : List UInt8) (c : XS) : XR XS :=
  let rest := s.drop c.place
  if rest[0]? ≠ some 60 then
    match wordsX f ((s.drop c.place).take (endX s c.place - c.place)) c.place [] with
    | .none => .none
    | .bad e => .bad e
    | .ok x => .ok { addX c c.place x with place := endX s c.place }
  else if Lib.hasPrefix rest [60, 33] then .none
  else if Lib.hasPrefix rest [60, 63] then .none
  else if Lib.hasPrefix rest [60, 47] then
    match closeX s c.place with
    | .none => .none
    | .bad e => .bad e
    | .ok (t, e) => .ok { finX c with out := (finX c).out ++ [t], place := e }
  else
    match openX f s c.place with
    | .none => .none
    | .bad e => .bad e
    | .ok (t, e) => .ok { finX c with out := (finX c).out ++ [t], place := e }
def cutGo (f0 : Nat) (s : List UInt8) : Nat → XS → XR (List XT)
  | 0, _ => .none
  | f + 1, c =>
    if s.length ≤ c.place then .ok (finX c).out
    else
      match nextX f0 s c with
      | .none => .none
      | .bad e => .bad e
      | .ok c' => cutGo f0 s f c'
/-- The first thing that is no character, or none that XML takes. -/
def charsX (s : List UInt8) : Option XE :=
  if checkL s ≠ s.length then some ⟨11, checkL s, wBytes⟩
  else match (allRunes s).find? (fun p => !charR (p.2 : Int)) with
    | some p => some ⟨11, p.1, wCharacter⟩
    | none => none
def cutX (f : Nat) (s : List UInt8) : XR (List XT) :=
  match charsX s with
  | some e => .bad e
  | none => cutGo f s f ⟨0, [], [], 0⟩
end Go.Proofs.YtmhhkekokfpppaaDoor
