/- Plain words for the cutter of XML texts: what xtok.Cut tells; no program in sight. Bounds for the cutter's plain words; no program in sight. What a name at the front comes to, told from its characters; no program in sight. The cutter's plain words at a text of one element with one reference by a number; no program in sight. -/
import Derived.Test.YtajnpmhgldfgfaaUtAB
import Derived.Lib.Strings
import Derived.Lib.Bytealg
import Derived.Lib.IndexAny
import Derived.Lib.Replace
import Derived.Lib.SlTrimSet
import Derived.Lib.IndexLaws
import Derived.Lib.IndexMore
import Derived.Lib.Bytes2
namespace Go.Proofs.Ytajnpmhgldfgfaa
open Go.RowKit
set_option linter.unusedVariables false

/-- An attribute as it is told. -/
structure XA where
  name : List UInt8
  value : List UInt8
  place : Nat
/-- A token as it is told. -/
structure XT where
  kind : Nat
  place : Nat
  name : List UInt8
  text : List UInt8
  attrs : List XA
  empty : Bool
/-- A refusal: its code, place and word. -/
structure XE where
  code : Nat
  place : Nat
  what : List UInt8
/-- What may come of a step: nothing yet (the steps were too few), a refusal, an answer. -/
inductive XR (α : Type) where
  | none
  | bad (e : XE)
  | ok (a : α)

def digitX (c : Nat) : Nat := if 48 ≤ c ∧ c ≤ 57 then c - 48 else if 97 ≤ c ∧ c ≤ 102 then c - 87 else if 65 ≤ c ∧ c ≤ 70 then c - 55 else 16
theorem digitX_le (c : Nat) : digitX c ≤ 16 := by
  unfold digitX; split
  · omega
  · split
    · omega
    · split <;> omega
def numX (base : Nat) : List UInt8 → Nat → Option Nat
  | [], r => some r
  | c :: t, r => if base ≤ digitX c.toNat then none else numX base t (r * base + digitX c.toNat)
def charX (l : List UInt8) (base most : Nat) : Option (List UInt8) :=
  if l.length < 1 ∨ most < l.length then none else (numX base l 0).bind fun r => if charR (r : Int) then some (putR r) else none
/-- What a reference's name stands for. -/
def meantX (l : List UInt8) : Option (List UInt8) :=
  if l = [108, 116] then some [60] else if l = [103, 116] then some [62] else if l = [97, 109, 112] then some [38]
  else if l = [97, 112, 111, 115] then some [39] else if l = [113, 117, 111, 116] then some [34]
  else if Lib.hasPrefix l [35, 120] then charX (l.drop 2) 16 6 else if Lib.hasPrefix l [35] then charX (l.drop 1) 10 7 else none
/-- The reference at the front: what it stands for, and how many bytes it has. -/
def refX (l : List UInt8) : Option (List UInt8 × Nat) :=
  if Lib.indexByte l 59 < 0 then none else (meantX ((l.drop 1).take ((Lib.indexByte l 59).toNat - 1))).map fun t => (t, (Lib.indexByte l 59).toNat + 1)
/-- How many bytes the name at the front has. -/
def nameX (l : List UInt8) : Nat :=
  match (allRunes l).find? (fun p => !namePartR (p.2 : Int) || (p.1 == 0 && !nameStartR (p.2 : Int))) with
  | some p => p.1
  | none => l.length
/-- How many bytes of blanks stand at the front. -/
def blanksX (l : List UInt8) : Nat := l.length - (Lib.trimLeftS l [32, 9, 10, 13]).length
def linesX (l : List UInt8) : List UInt8 := Lib.replaceAll (Lib.replaceAll l [13, 10] [10]) [13] [10]

def wReference : List UInt8 := [114, 101, 102, 101, 114, 101, 110, 99, 101]
def wCdataEnd : List UInt8 := [93, 93, 62]
def wValue : List UInt8 := [118, 97, 108, 117, 101]
def wTwice : List UInt8 := [116, 119, 105, 99, 101]
def wAttribute : List UInt8 := [97, 116, 116, 114, 105, 98, 117, 116, 101]
def wBegin : List UInt8 := [98, 101, 103, 105, 110]
def wEnd : List UInt8 := [101, 110, 100]
def wBytes : List UInt8 := [98, 121, 116, 101, 115]
def wCharacter : List UInt8 := [99, 104, 97, 114, 97, 99, 116, 101, 114]
def wText : List UInt8 := [116, 101, 120, 116]
def wDeclaration : List UInt8 := [100, 101, 99, 108, 97, 114, 97, 116, 105, 111, 110]

/-- A Text with its references, from a place on: behind what was told. -/
def wordsX : Nat → List UInt8 → Nat → List UInt8 → XR (List UInt8)
  | 0, _, _, _ => .none
  | f + 1, l, at_, acc =>
    if l = [] then .ok acc
    else if Lib.indexAny l [38, 93] < 0 then .ok (acc ++ linesX l)
    else if 0 < Lib.indexAny l [38, 93] then
      wordsX f (l.drop (Lib.indexAny l [38, 93]).toNat) (at_ + (Lib.indexAny l [38, 93]).toNat) (acc ++ linesX (l.take (Lib.indexAny l [38, 93]).toNat))
    else if l[0]? = some 38 then
      match refX l with
      | none => .bad ⟨11, at_, wReference⟩
      | some (t, n) => wordsX f (l.drop n) (at_ + n) (acc ++ t)
    else if Lib.hasPrefix l [93, 93, 62] then .bad ⟨11, at_, wCdataEnd⟩
    else wordsX f (l.drop 1) (at_ + 1) (acc ++ [93])
/-- A value between quotes q, from a place on: behind what was told; and where it ends. -/
def valueX (ca : Nat) (q : UInt8) : Nat → List UInt8 → Nat → List UInt8 → XR (List UInt8 × Nat)
  | 0, _, _, _ => .none
  | f + 1, l, at_, acc =>
    match l with
    | [] => .bad ⟨11, ca, wValue⟩
    | c :: t =>
      if c = q then .ok (acc, at_ + 1)
      else if c = 60 then .bad ⟨11, ca, wValue⟩
      else if c = 38 then
        match refX (c :: t) with
        | none => .bad ⟨11, at_, wReference⟩
        | some (x, n) => valueX ca q f ((c :: t).drop n) (at_ + n) (acc ++ x)
      else if c = 13 ∧ Lib.hasPrefix (c :: t) [13, 10] = true then valueX ca q f (t.drop 1) (at_ + 2) (acc ++ [32])
      else if c = 13 ∨ c = 10 ∨ c = 9 then valueX ca q f t (at_ + 1) (acc ++ [32])
      else valueX ca q f t (at_ + 1) (acc ++ [c])
/-- An attribute at a place, behind the others of the element that begins at ca. -/
def attrX (f : Nat) (s : List UInt8) (ca : Nat) (l : List XA) (at_ : Nat) : XR (XA × Nat) :=
  let n := nameX (s.drop at_)
  let name := (s.drop at_).take n
  if l.any (fun x => x.name = name) then .bad ⟨11, at_, wTwice⟩
  else
    let a2 := at_ + n + blanksX (s.drop (at_ + n))
    if n = 0 ∨ s[a2]? ≠ some 61 then .bad ⟨11, ca, wAttribute⟩
    else
      let a4 := a2 + 1 + blanksX (s.drop (a2 + 1))
      match s[a4]? with
      | none => .bad ⟨11, ca, wValue⟩
      | some q =>
        if q = 34 ∨ q = 39 then
          match valueX ca q f (s.drop (a4 + 1)) (a4 + 1) [] with
          | .none => .none
          | .bad e => .bad e
          | .ok (v, e) => .ok (⟨name, v, at_⟩, e)
        else .bad ⟨11, ca, wValue⟩
def openGo (s : List UInt8) (ca : Nat) : Nat → List XA → Nat → XR (List XA × Bool × Nat)
  | 0, _, _ => .none
  | f + 1, l, at_ =>
    let k := blanksX (s.drop at_)
    let rest := s.drop (at_ + k)
    if Lib.hasPrefix rest [62] then .ok (l, false, at_ + k + 1)
    else if Lib.hasPrefix rest [47, 62] then .ok (l, true, at_ + k + 2)
    else if k = 0 then .bad ⟨11, ca, wBegin⟩
    else
      match attrX f s ca l (at_ + k) with
      | .none => .none
      | .bad e => .bad e
      | .ok (a, e) => openGo s ca f (l ++ [a]) e
/-- The begin of an element at ca: the token, and where it ends. -/
def openX (f : Nat) (s : List UInt8) (ca : Nat) : XR (XT × Nat) :=
  let n := nameX (s.drop (ca + 1))
  if n = 0 then .bad ⟨11, ca, wBegin⟩
  else
    match openGo s ca f [] (ca + 1 + n) with
    | .none => .none
    | .bad e => .bad e
    | .ok (l, em, e) => .ok (⟨1, ca, (s.drop (ca + 1)).take n, [], l, em⟩, e)
/-- The end of an element at ca. -/
def closeX (s : List UInt8) (ca : Nat) : XR (XT × Nat) :=
  let n := nameX (s.drop (ca + 2))
  let e := ca + 2 + n + blanksX (s.drop (ca + 2 + n))
  if n = 0 ∨ s[e]? ≠ some 62 then .bad ⟨11, ca, wEnd⟩ else .ok (⟨2, ca, (s.drop (ca + 2)).take n, [], [], false⟩, e + 1)
/-- The cutter: its place, what is told, the Text that is gathered, and where that began. -/
structure XS where
  place : Nat
  out : List XT
  text : List UInt8
  since : Nat
def finX (c : XS) : XS := { c with out := if c.text = [] then c.out else c.out ++ [⟨3, c.since, [], c.text, [], false⟩], text := [] }
def addX (c : XS) (at_ : Nat) (x : List UInt8) : XS := if x = [] then c else { c with since := if c.text = [] then at_ else c.since, text := c.text ++ x }
/-- Where the Text that begins at a place ends. -/
def endX (s : List UInt8) (at_ : Nat) : Nat := if Lib.indexByte (s.drop at_) 60 < 0 then s.length else at_ + (Lib.indexByte (s.drop at_) 60).toNat
/-- One step. (Raw texts, remarks and orders are not told here.) -/
def nextX (f : Nat) (s : List UInt8) (c : XS) : XR XS :=
  let rest := s.drop c.place
  if rest[0]? ≠ some 60 then
    match wordsX f ((s.drop c.place).take (endX s c.place - c.place)) c.place [] with
    | .none => .none
    | .bad e => .bad e
    | .ok x => .ok { addX c c.place x with place := endX s c.place }
  else if Lib.hasPrefix rest [60, 33] then .none
  else if Lib.hasPrefix rest [60, 63] then .none
  else if Lib.hasPrefix rest [60, 47] then
    match closeX s c.place with
    | .none => .none
    | .bad e => .bad e
    | .ok (t, e) => .ok { finX c with out := (finX c).out ++ [t], place := e }
  else
    match openX f s c.place with
    | .none => .none
    | .bad e => .bad e
    | .ok (t, e) => .ok { finX c with out := (finX c).out ++ [t], place := e }
def cutGo (f0 : Nat) (s : List UInt8) : Nat → XS → XR (List XT)
  | 0, _ => .none
  | f + 1, c =>
    if s.length ≤ c.place then .ok (finX c).out
    else
      match nextX f0 s c with
      | .none => .none
      | .bad e => .bad e
      | .ok c' => cutGo f0 s f c'
/-- The first thing that is no character, or none that XML takes. -/
def charsX (s : List UInt8) : Option XE :=
  if checkL s ≠ s.length then some ⟨11, checkL s, wBytes⟩
  else match (allRunes s).find? (fun p => !charR (p.2 : Int)) with
    | some p => some ⟨11, p.1, wCharacter⟩
    | none => none
def cutX (f : Nat) (s : List UInt8) : XR (List XT) :=
  match charsX s with
  | some e => .bad e
  | none => cutGo f s f ⟨0, [], [], 0⟩
end Go.Proofs.Ytajnpmhgldfgfaa
namespace Go.Proofs.Ytajnpmhgldfgfaa
open Go.RowKit
set_option linter.unusedVariables false

theorem indexByte_bd (l : List UInt8) (c : UInt8) : Lib.indexByte l c = -1 ∨ ∃ k : Nat, Lib.indexByte l c = (k : Int) ∧ k < l.length ∧ l[k]? = some c := by
  by_cases h : Lib.indexByte l c = -1
  · exact .inl h
  · have h1 := Lib.indexByte_ge l c
    obtain ⟨k, hk⟩ : ∃ k : Nat, Lib.indexByte l c = (k : Int) := ⟨(Lib.indexByte l c).toNat, by omega⟩
    have h2 := (Lib.indexByte_some hk).1
    exact .inr ⟨k, hk, (List.getElem?_eq_some_iff.1 h2).1, h2⟩
theorem indexAny_bd (cs : List UInt8) : ∀ l : List UInt8, Lib.indexAny l cs = -1 ∨ ∃ k : Nat, Lib.indexAny l cs = (k : Int) ∧ k < l.length ∧ ∃ c, l[k]? = some c ∧ cs.contains c = true
  | [] => .inl rfl
  | b :: l => by
    rw [Lib.indexAny]
    by_cases h : cs.contains b = true
    · rw [if_pos h]; exact .inr ⟨0, rfl, by simp, b, rfl, h⟩
    · rw [if_neg h]
      rcases indexAny_bd cs l with h1 | ⟨k, h1, h2, c, h3, h4⟩
      · rw [h1]; exact .inl rfl
      · have : ¬ ((Lib.indexAny l cs == -1) = true) := fun e => by have := beq_iff_eq.1 e; omega
        rw [if_neg this, h1]
        exact .inr ⟨k + 1, rfl, by simpa using h2, c, by simpa using h3, h4⟩
theorem runesAt_mem : ∀ (l : List UInt8) (j k : Nat) (p : Nat × Nat), l.length ≤ j → p ∈ runesAt k (runesL l) → k ≤ p.1 ∧ p.1 < k + l.length
  | l, 0, k, p, hj, h => by
    obtain rfl : l = [] := by cases l; rfl; simp at hj
    rw [runesL_none nextL_nil] at h; cases h
  | l, j + 1, k, p, hj, h => by
    cases hn : nextL l with
    | none => rw [runesL_none hn] at h; cases h
    | some q =>
      obtain ⟨r, n⟩ := q
      have hb := nextL_bd hn
      rw [runesL_some hn] at h
      simp only [runesAt, List.mem_cons] at h
      rcases h with rfl | h
      · exact ⟨Nat.le_refl _, by simp; omega⟩
      · have := runesAt_mem (l.drop n) j (k + n) p (by simp; omega) h
        simp at this
        omega
theorem allRunes_mem {l : List UInt8} {p : Nat × Nat} (h : p ∈ allRunes l) : p.1 < l.length := by
  have := runesAt_mem l _ 0 p (Nat.le_refl _) h
  omega
theorem nameX_le (l : List UInt8) : nameX l ≤ l.length := by
  unfold nameX
  split
  · rename_i p h
    have := allRunes_mem (List.mem_of_find?_eq_some h)
    omega
  · exact Nat.le_refl _
theorem trimLeftS_len (cs : List UInt8) (l : List UInt8) : (Lib.trimLeftS l cs).length ≤ l.length := by
  unfold Lib.trimLeftS
  exact (List.dropWhile_sublist _).length_le
theorem blanksX_le (l : List UInt8) : blanksX l ≤ l.length := by unfold blanksX; omega
theorem replaceK_len (old new : List UInt8) (h : new.length ≤ old.length) : ∀ (k : Nat) (l : List UInt8), (Lib.replaceK old new k l).length ≤ l.length
  | 0, l => Nat.le_refl _
  | k + 1, l => by
    rcases Lib.index_spec l old with ⟨h1, _⟩ | ⟨i, h1, _⟩
    · rw [Lib.replaceK, if_pos (by rw [h1]; rfl)]; exact Nat.le_refl _
    · have hr := Lib.index_room l old (by omega)
      have ih := replaceK_len old new h k (l.drop (i + old.length))
      rw [Lib.replaceK_hit old new k l i h1]
      simp at ih ⊢
      omega
theorem linesX_len (l : List UInt8) : (linesX l).length ≤ l.length := by
  have a : ∀ (o n x : List UInt8), n.length ≤ o.length → (Lib.replaceAll x o n).length ≤ x.length := by
    intro o n x h
    unfold Lib.replaceAll Lib.replace
    split
    · exact Nat.le_refl _
    · exact replaceK_len o n h _ x
  unfold linesX
  exact Nat.le_trans (a _ _ _ (by simp)) (a _ _ _ (by simp))
theorem putR_len (r : Nat) : (putR r).length ≤ 4 := by
  unfold putR; split
  · simp
  · split
    · simp
    · split <;> simp
theorem charX_len {l : List UInt8} {b m : Nat} {t : List UInt8} (h : charX l b m = some t) : t.length ≤ 4 := by
  unfold charX at h
  split at h
  · cases h
  · cases hn : numX b l 0 with
    | none => rw [hn] at h; cases h
    | some r =>
      rw [hn] at h
      simp only [Option.bind_some] at h
      split at h
      · cases h; exact putR_len r
      · cases h
theorem meantX_len {l t : List UInt8} (h : meantX l = some t) : t.length ≤ 4 := by
  unfold meantX at h
  split at h
  · cases h; simp
  split at h
  · cases h; simp
  split at h
  · cases h; simp
  split at h
  · cases h; simp
  split at h
  · cases h; simp
  split at h
  · exact charX_len h
  split at h
  · exact charX_len h
  · cases h
theorem refX_bd {l t : List UInt8} {n : Nat} (h : refX l = some (t, n)) : t.length ≤ 4 ∧ 1 ≤ n ∧ n ≤ l.length := by
  unfold refX at h
  rcases indexByte_bd l 59 with e | ⟨k, e, hk, _⟩
  · rw [if_pos (by omega)] at h; cases h
  · rw [if_neg (by omega)] at h
    cases hm : meantX ((l.drop 1).take ((Lib.indexByte l 59).toNat - 1)) with
    | none => rw [hm] at h; cases h
    | some x =>
      rw [hm] at h
      simp only [Option.map_some, Option.some.injEq, Prod.mk.injEq] at h
      obtain ⟨rfl, rfl⟩ := h
      exact ⟨meantX_len hm, by omega, by omega⟩
theorem wordsX_len : ∀ (f : Nat) (l : List UInt8) (a : Nat) (acc t : List UInt8), wordsX f l a acc = .ok t → t.length ≤ acc.length + 4 * l.length
  | 0, _, _, _, _, h => by cases h
  | f + 1, l, a, acc, t, h => by
    rw [wordsX] at h
    split at h
    · cases h; omega
    split at h
    · cases h; have := linesX_len l; simp; omega
    rename_i h1
    obtain ⟨k, hk, hkl, c, hc, hcc⟩ := (indexAny_bd [38, 93] l).resolve_left (by omega)
    split at h
    · have ih := wordsX_len f _ _ _ _ h
      have h2 := linesX_len (l.take (Lib.indexAny l [38, 93]).toNat)
      rw [hk] at ih h2
      simp at ih h2
      omega
    split at h
    · split at h
      · cases h
      · rename_i x n hx
        have ih := wordsX_len f _ _ _ _ h
        have hb := refX_bd hx
        simp at ih
        omega
    split at h
    · cases h
    · have ih := wordsX_len f _ _ _ _ h
      simp at ih
      omega
theorem valueX_bd (ca : Nat) (q : UInt8) : ∀ (f : Nat) (l : List UInt8) (a : Nat) (acc v : List UInt8) (e : Nat), valueX ca q f l a acc = .ok (v, e) → v.length ≤ acc.length + 4 * l.length ∧ a < e ∧ e ≤ a + l.length
  | 0, _, _, _, _, _, h => by cases h
  | f + 1, [], a, acc, v, e, h => by rw [valueX] at h; cases h
  | f + 1, c :: t, a, acc, v, e, h => by
    rw [valueX] at h
    split at h
    · cases h; simp
    split at h
    · cases h
    split at h
    · split at h
      · cases h
      · rename_i x n hx
        have ih := valueX_bd ca q f _ _ _ _ _ h
        have hb := refX_bd hx
        simp at ih hb ⊢
        omega
    split at h
    · rename_i hh
      have hp := Lib.hasPrefix_le hh.2
      have ih := valueX_bd ca q f _ _ _ _ _ h
      simp at ih hp ⊢
      omega
    split at h
    · have ih := valueX_bd ca q f _ _ _ _ _ h
      simp at ih ⊢
      omega
    · have ih := valueX_bd ca q f _ _ _ _ _ h
      simp at ih ⊢
      omega
theorem attrX_bd {f : Nat} {s : List UInt8} {ca : Nat} {l : List XA} {a e : Nat} {x : XA} (ha : a ≤ s.length) (h : attrX f s ca l a = .ok (x, e)) : a < e ∧ e ≤ s.length ∧ x.name.length ≤ s.length ∧ x.value.length ≤ 4 * s.length ∧ x.place = a := by
  unfold attrX at h
  simp only [] at h
  split at h
  · cases h
  split at h
  · cases h
  rename_i h2
  split at h
  · cases h
  rename_i q hq
  split at h
  · split at h
    · cases h
    · cases h
    · rename_i v e' hv
      have hb := valueX_bd ca q f _ _ _ _ _ hv
      cases h
      have h4 := (List.getElem?_eq_some_iff.1 hq).1
      simp at hb ⊢
      omega
  · cases h
theorem endX_bd (s : List UInt8) (a : Nat) (ha : a ≤ s.length) : a ≤ endX s a ∧ endX s a ≤ s.length := by
  unfold endX
  rcases indexByte_bd (s.drop a) 60 with e | ⟨k, e, hk, _⟩
  · rw [if_pos (by omega)]; omega
  · rw [if_neg (by omega), e]; simp at hk ⊢; omega
end Go.Proofs.Ytajnpmhgldfgfaa
namespace Go.Proofs.Ytajnpmhgldfgfaa
open Go.RowKit
set_option linter.unusedVariables false

/-- Is this character no part of a name that begins at 0? -/
def offName (p : Nat × Nat) : Bool := !namePartR (p.2 : Int) || (p.1 == 0 && !nameStartR (p.2 : Int))
theorem nameX_done {l : List UInt8} (h : ∀ p ∈ allRunes l, offName p = false) : nameX l = l.length := by
  unfold nameX
  rw [List.find?_eq_none.2 (fun p hp => by have := h p hp; unfold offName at this; simp only [this]; decide)]
theorem find_prefix {α : Type} {P : α → Bool} {a pre : List α} {x : α} (hp : pre ++ [x] <+: a) (h : ∀ q ∈ pre, P q = false) (hx : P x = true) : a.find? P = some x := by
  obtain ⟨r, rfl⟩ := hp
  rw [List.append_assoc, List.find?_append, List.find?_eq_none.2 (fun q hq => by simp [h q hq])]
  simp [hx]
theorem nameX_stop {l : List UInt8} {pre : List (Nat × Nat)} {x : Nat × Nat} (hp : pre ++ [x] <+: allRunes l) (h : ∀ q ∈ pre, offName q = false) (hx : offName x = true) : nameX l = x.1 := by
  show (match (allRunes l).find? offName with | some p => p.1 | none => l.length) = x.1
  rw [find_prefix hp h hx]
/-- Digits that are read one by one. -/
theorem numX_bad {b : Nat} {s : List UInt8} {k r : Nat} {c : UInt8} (hc : s[k]? = some c) (h : b ≤ digitX c.toNat) : numX b (s.drop k) r = none := by
  obtain ⟨h1, h2⟩ := List.getElem?_eq_some_iff.1 hc
  rw [List.drop_eq_getElem_cons h1, h2, numX, if_pos h]
theorem numX_go {b : Nat} {s : List UInt8} {k r : Nat} {c : UInt8} (hc : s[k]? = some c) (h : ¬ b ≤ digitX c.toNat) : numX b (s.drop k) r = numX b (s.drop (k + 1)) (r * b + digitX c.toNat) := by
  obtain ⟨h1, h2⟩ := List.getElem?_eq_some_iff.1 hc
  rw [List.drop_eq_getElem_cons h1, h2, numX, if_neg h]
theorem numX_end {b : Nat} {s : List UInt8} {k r : Nat} (hk : s.length ≤ k) : numX b (s.drop k) r = some r := by
  rw [List.drop_of_length_le hk, numX]
theorem charX_len0 {l : List UInt8} {b m : Nat} (h : l.length < 1 ∨ m < l.length) : charX l b m = none := if_pos h
theorem charX_num {l : List UInt8} {b m : Nat} (h : ¬ (l.length < 1 ∨ m < l.length)) : charX l b m = (numX b l 0).bind fun r => if charR (r : Int) then some (putR r) else none := if_neg h
theorem charR_width {r : Nat} (h : charR (r : Int) = true) : widthR (r : Int) ≠ 0 := by
  intro e
  have hz : widthR (r : Int) = 0 → (1114112 ≤ r ∨ (55296 ≤ r ∧ r ≤ 57343)) := by
    intro e
    by_cases h1 : (1114112 ≤ r ∨ (55296 ≤ r ∧ r ≤ 57343))
    · exact h1
    · have := widthR_pos (r := (r : Int)) (by omega)
      omega
  have := hz e
  unfold charR at h
  rw [e] at h
  simp only [Int.lt_irrefl, and_false, or_false, decide_eq_true_eq] at h
  omega
end Go.Proofs.Ytajnpmhgldfgfaa
namespace Go.Proofs.Ytajnpmhgldfgfaa
open Go.RowKit
set_option linter.unusedVariables false

theorem nextL_ascii {c : UInt8} (t : List UInt8) (h : c.toNat < 128) : nextL (c :: t) = some (c.toNat, 1) := by
  have hw : widthR (c.toNat : Int) = ((1 : Nat) : Int) := by
    unfold widthR
    rw [if_neg (by omega), if_pos (by omega)]; rfl
  rw [nextL_some (leadN_1 h) (by omega) (by omega) (q := c.toNat) (by rfl), if_pos hw]
theorem runesL_ascii {c : UInt8} (t : List UInt8) (h : c.toNat < 128) : runesL (c :: t) = (c.toNat, 1) :: runesL t := runesL_some (nextL_ascii t h)
theorem checkL_ascii : ∀ {l : List UInt8}, (∀ c ∈ l, c.toNat < 128) → checkL l = l.length
  | [], _ => checkL_none nextL_nil
  | c :: t, h => by
    rw [checkL_some (nextL_ascii t (h c (by simp)))]
    have := checkL_ascii (l := t) (fun c hc => h c (by simp [hc]))
    simp only [List.drop_succ_cons, List.drop_zero, List.length_cons]
    omega
theorem runesAt_ascii : ∀ {l : List UInt8} (k : Nat), (∀ c ∈ l, c.toNat < 128) → ∀ p ∈ runesAt k (runesL l), ∃ c ∈ l, p.2 = c.toNat
  | [], k, _, p, hp => by rw [runesL_none nextL_nil] at hp; cases hp
  | c :: t, k, h, p, hp => by
    rw [runesL_ascii t (h c (by simp))] at hp
    simp only [runesAt, List.mem_cons] at hp
    rcases hp with rfl | hp
    · exact ⟨c, by simp, rfl⟩
    · obtain ⟨d, h1, h2⟩ := runesAt_ascii (k + 1) (fun c hc => h c (by simp [hc])) p hp
      exact ⟨d, by simp [h1], h2⟩
theorem charR_print {n : Nat} (h1 : 32 ≤ n) (h2 : n < 128) : charR (n : Int) = true := by
  unfold charR widthR
  rw [if_neg (by omega), if_pos (by omega)]
  simp; omega
theorem charsX_print {l : List UInt8} (h : ∀ c ∈ l, 32 ≤ c.toNat ∧ c.toNat < 128) : charsX l = none := by
  unfold charsX
  rw [if_neg (by rw [checkL_ascii (fun c hc => (h c hc).2)]; simp)]
  rw [List.find?_eq_none.2]
  intro p hp
  obtain ⟨c, hc, e⟩ := runesAt_ascii 0 (fun c hc => (h c hc).2) p hp
  rw [e, charR_print (h c hc).1 (h c hc).2]
  simp
theorem nameX_one (c : UInt8) (t : List UInt8) (h1 : c.toNat < 128) (h2 : namePartR (c.toNat : Int) = false) (b : UInt8) (h3 : b.toNat < 128) (h4 : nameStartR (b.toNat : Int) = true) : nameX (b :: c :: t) = 1 := by
  unfold nameX allRunes
  rw [runesL_ascii _ h3, runesL_ascii _ h1]
  simp [runesAt, List.find?, h2, h4, nameStart_part _ h4]
theorem nameX_nil : nameX [] = 0 := by
  unfold nameX allRunes
  rw [runesL_none nextL_nil]; rfl

/-- Digits in front of others, as they are printed from the last one on. -/
def digF (b : Nat) (ch : Nat → UInt8) : Nat → Nat → List UInt8 → List UInt8
  | 0, _, acc => acc
  | f + 1, v, acc => if v = 0 ∧ acc ≠ [] then acc else digF b ch f (v / b) (ch (v % b) :: acc)
theorem digF_stop (b : Nat) (ch : Nat → UInt8) (f : Nat) (acc : List UInt8) (h : acc ≠ []) : digF b ch f 0 acc = acc := by
  cases f with
  | zero => rfl
  | succ f => exact if_pos ⟨rfl, h⟩
theorem numX_digF (b : Nat) (hb : 2 ≤ b) (ch : Nat → UInt8) (hch : ∀ d, d < b → digitX (ch d).toNat = d) : ∀ (f v : Nat) (acc : List UInt8), v < b ^ f → (acc ≠ [] ∨ 1 ≤ f) → numX b (digF b ch f v acc) 0 = numX b acc v
  | 0, v, acc, hv, ha => by
    obtain rfl : v = 0 := by simpa using hv
    rfl
  | f + 1, v, acc, hv, ha => by
    rw [digF]
    split
    · rename_i h; rw [h.1]
    · have hm : v % b < b := Nat.mod_lt _ (by omega)
      rw [numX_digF b hb ch hch f (v / b) _ (by rw [Nat.pow_succ] at hv; exact Nat.div_lt_of_lt_mul (by rw [Nat.mul_comm]; exact hv)) (.inl (by simp))]
      rw [numX, hch _ hm, if_neg (by omega)]
      congr 1
      have := Nat.div_add_mod v b
      rw [Nat.mul_comm] at this
      exact this
theorem digF_len (b : Nat) (ch : Nat → UInt8) : ∀ (f v : Nat) (acc : List UInt8), (digF b ch f v acc).length ≤ acc.length + f ∧ acc.length ≤ (digF b ch f v acc).length
  | 0, v, acc => ⟨Nat.le_refl _, Nat.le_refl _⟩
  | f + 1, v, acc => by
    rw [digF]
    split
    · omega
    · have := digF_len b ch f (v / b) (ch (v % b) :: acc)
      simp at this
      omega
theorem digF_one (b : Nat) (ch : Nat → UInt8) (f v : Nat) : 1 ≤ (digF b ch (f + 1) v []).length := by
  rw [digF, if_neg (by simp)]
  have := (digF_len b ch f (v / b) [ch (v % b)]).2
  simpa using this
theorem digF_mem (b : Nat) (hb : 0 < b) (ch : Nat → UInt8) (Q : UInt8 → Prop) (hch : ∀ d, d < b → Q (ch d)) : ∀ (f v : Nat) (acc : List UInt8), (∀ c ∈ acc, Q c) → ∀ c ∈ digF b ch f v acc, Q c
  | 0, v, acc, ha => ha
  | f + 1, v, acc, ha => by
    rw [digF]
    split
    · exact ha
    · exact digF_mem b hb ch Q hch f (v / b) _ (by
        intro c hc
        simp only [List.mem_cons] at hc
        rcases hc with rfl | hc
        · exact hch _ (Nat.mod_lt _ hb)
        · exact ha c hc)

theorem indexByte_front (D t : List UInt8) (c : UInt8) (h : ∀ x ∈ D, x ≠ c) : Lib.indexByte (D ++ c :: t) c = (D.length : Int) := by
  induction D with
  | nil => simp [Lib.indexByte]
  | cons x D ih =>
    have hx : (x == c) = false := beq_eq_false_iff_ne.2 (h x (by simp))
    rw [List.cons_append, Lib.indexByte, hx, ih (fun y hy => h y (by simp [hy]))]
    have : ((D.length : Int) == -1) = false := beq_eq_false_iff_ne.2 (by omega)
    simp [this]
/-- '<a>', a reference by a number, '</a>'. -/
def refText (x D : List UInt8) : List UInt8 := [60, 97, 62, 38, 35] ++ (x ++ D) ++ [59, 60, 47, 97, 62]
theorem refX_num (x D t : List UInt8) (b m : Nat) (hx : x = [] ∧ b = 10 ∧ m = 7 ∧ D.head? ≠ some 120 ∨ x = [120] ∧ b = 16 ∧ m = 6) (hD : ∀ c ∈ D, c ≠ 59) :
    refX ([38, 35] ++ (x ++ D) ++ 59 :: t) = (charX D b m).map fun r => (r, 3 + x.length + D.length) := by
  have hi : Lib.indexByte ([38, 35] ++ (x ++ D) ++ 59 :: t) 59 = ((([38, 35] ++ (x ++ D)).length : Nat) : Int) := indexByte_front _ t 59 (by
    intro c hc
    simp only [List.mem_append, List.mem_cons, List.not_mem_nil, or_false] at hc
    rcases hc with (rfl | rfl) | (h | h)
    · decide
    · decide
    · rcases hx with ⟨rfl, _⟩ | ⟨rfl, _⟩
      · cases h
      · simp at h; subst h; decide
    · exact hD c h)
  have hl : ([38, 35] ++ (x ++ D) : List UInt8).length = 2 + x.length + D.length := by simp; omega
  unfold refX
  rw [hi, hl, if_neg (by omega)]
  have e1 : ((((2 + x.length + D.length : Nat) : Int)).toNat - 1) = 1 + (x.length + D.length) := by omega
  have e2 : (((2 + x.length + D.length : Nat) : Int)).toNat + 1 = 3 + x.length + D.length := by omega
  rw [e1, e2]
  have e3 : (([38, 35] ++ (x ++ D) ++ 59 :: t : List UInt8).drop 1).take (1 + (x.length + D.length)) = 35 :: (x ++ D) := by
    simp only [List.cons_append, List.nil_append, List.drop_succ_cons, List.drop_zero, Nat.add_comm 1 (x.length + D.length), List.take_succ_cons]
    congr 1
    rw [List.take_append_of_le_length (by simp), List.take_of_length_le (by simp)]
  rw [e3]
  have e4 : meantX (35 :: (x ++ D)) = charX D b m := by
    unfold meantX
    rw [if_neg (by simp), if_neg (by simp), if_neg (by simp), if_neg (by simp), if_neg (by simp)]
    rcases hx with ⟨rfl, rfl, rfl, hd⟩ | ⟨rfl, rfl, rfl⟩
    · have h1 : Lib.hasPrefix (35 :: ([] ++ D)) [35, 120] = false := by
        cases D with
        | nil => rfl
        | cons d D =>
          have : d ≠ 120 := fun e => hd (by simp [e])
          simp [Lib.hasPrefix, List.isPrefixOf, Ne.symm this]
      rw [if_neg (by rw [h1]; simp), if_pos (by simp [Lib.hasPrefix])]
      rfl
    · rw [if_pos (by simp [Lib.hasPrefix])]
      rfl
  rw [e4]
theorem linesX_nil : linesX [] = [] := by
  have := linesX_len []
  exact List.eq_nil_of_length_eq_zero (by simpa using this)
theorem wordsX_ref (f : Nat) (l : List UInt8) (a : Nat) (acc : List UInt8) (t : List UInt8) (h0 : l[0]? = some 38) (h : refX l = some (t, l.length)) : wordsX (f + 2) l a acc = .ok (acc ++ t) := by
  have hne : l ≠ [] := fun e => by rw [e] at h0; cases h0
  have hi : Lib.indexAny l [38, 93] = 0 := by
    cases l with
    | nil => cases h0
    | cons b l =>
      have : b = 38 := by simpa using h0
      subst this
      simp [Lib.indexAny]
  rw [wordsX, if_neg hne, if_neg (by omega), if_neg (by omega), if_pos h0, h]
  simp only []
  rw [List.drop_length, wordsX, if_pos rfl]
theorem wordsX_noref (f : Nat) (l : List UInt8) (a : Nat) (acc : List UInt8) (h0 : l[0]? = some 38) (h : refX l = none) : wordsX (f + 1) l a acc = .bad ⟨11, a, wReference⟩ := by
  have hne : l ≠ [] := fun e => by rw [e] at h0; cases h0
  have hi : Lib.indexAny l [38, 93] = 0 := by
    cases l with
    | nil => cases h0
    | cons b l =>
      have : b = 38 := by simpa using h0
      subst this
      simp [Lib.indexAny]
  rw [wordsX, if_neg hne, if_neg (by omega), if_neg (by omega), if_pos h0, h]
def refRes (n : Nat) : Option (List UInt8) → XR (List XT)
  | none => .bad ⟨11, 3, wReference⟩
  | some t => .ok [⟨1, 0, [97], [], [], false⟩, ⟨3, 3, [], t, [], false⟩, ⟨2, n + 6, [97], [], [], false⟩]
/-- What is told of such a text. -/
theorem cutX_ref (M : List UInt8) (hx : ∀ c ∈ M, 32 ≤ c.toNat ∧ c.toNat < 128 ∧ c ≠ 59 ∧ c ≠ 60) (o : Option (List UInt8)) (hr : refX ([38, 35] ++ M ++ [59]) = o.map fun t => (t, ([38, 35] ++ M ++ [59]).length)) (hne : ∀ t, o = some t → t ≠ []) :
    cutX 8 ([60, 97, 62, 38, 35] ++ M ++ [59, 60, 47, 97, 62]) = refRes M.length o := by
  have hchars : charsX ([60, 97, 62, 38, 35] ++ M ++ [59, 60, 47, 97, 62]) = none := charsX_print (by
    intro c hc
    simp only [List.mem_append, List.mem_cons, List.not_mem_nil, or_false] at hc
    rcases hc with ((rfl | rfl | rfl | rfl | rfl) | h) | (rfl | rfl | rfl | rfl | rfl)
    all_goals first | exact ⟨(hx _ h).1, (hx _ h).2.1⟩ | decide)
  have hp : namePartR ((62 : UInt8).toNat : Int) = false := by decide
  have hs : nameStartR ((97 : UInt8).toNat : Int) = true := by decide
  -- the begin
  have hn1 : nameX (97 :: 62 :: 38 :: 35 :: (M ++ [59, 60, 47, 97, 62])) = 1 := nameX_one 62 _ (by decide) hp 97 (by decide) hs
  have hb1 : blanksX (62 :: 38 :: 35 :: (M ++ [59, 60, 47, 97, 62])) = 0 := by simp [blanksX, Lib.trimLeftS, List.dropWhile]
  have hopen : openX 8 ([60, 97, 62, 38, 35] ++ M ++ [59, 60, 47, 97, 62]) 0 = .ok (⟨1, 0, [97], [], [], false⟩, 3) := by
    unfold openX
    simp only [List.cons_append, List.nil_append, Nat.zero_add, List.drop_succ_cons, List.drop_zero, hn1]
    rw [if_neg (by omega), openGo]
    simp only [Nat.reduceAdd, List.drop_succ_cons, List.drop_zero, hb1, Nat.add_zero]
    rw [if_pos (by simp [Lib.hasPrefix])]
    rfl
  have hstep1 : nextX 8 ([60, 97, 62, 38, 35] ++ M ++ [59, 60, 47, 97, 62]) ⟨0, [], [], 0⟩ = .ok ⟨3, [⟨1, 0, [97], [], [], false⟩], [], 0⟩ := by
    unfold nextX
    simp only [hopen]
    simp [Lib.hasPrefix, List.isPrefixOf, finX]
  -- the reference
  have hend : endX ([60, 97, 62, 38, 35] ++ M ++ [59, 60, 47, 97, 62]) 3 = 3 + (M.length + 3) := by
    unfold endX
    have e : ([60, 97, 62, 38, 35] ++ M ++ [59, 60, 47, 97, 62] : List UInt8).drop 3 = (38 :: 35 :: M ++ [59]) ++ 60 :: [47, 97, 62] := by simp
    rw [e, indexByte_front _ _ _ (by
      intro c hc
      simp only [List.mem_append, List.mem_cons, List.not_mem_nil, or_false] at hc
      rcases hc with (rfl | rfl | h) | rfl
      · decide
      · decide
      · exact (hx c h).2.2.2
      · decide)]
    rw [if_neg (by omega)]
    simp
    omega
  have htake : (([60, 97, 62, 38, 35] ++ M ++ [59, 60, 47, 97, 62] : List UInt8).drop 3).take (3 + (M.length + 3) - 3) = [38, 35] ++ M ++ [59] := by
    have e : ([60, 97, 62, 38, 35] ++ M ++ [59, 60, 47, 97, 62] : List UInt8).drop 3 = ([38, 35] ++ M ++ [59]) ++ [60, 47, 97, 62] := by simp
    rw [e, List.take_append_of_le_length (by simp), List.take_of_length_le (by simp)]
  have h0 : (([60, 97, 62, 38, 35] ++ M ++ [59, 60, 47, 97, 62] : List UInt8).drop 3)[0]? ≠ some 60 := by simp
  have hlt : ¬ ([60, 97, 62, 38, 35] ++ M ++ [59, 60, 47, 97, 62] : List UInt8).length ≤ 0 := by simp
  have hlt3 : ¬ ([60, 97, 62, 38, 35] ++ M ++ [59, 60, 47, 97, 62] : List UInt8).length ≤ 3 := by simp
  unfold cutX
  rw [hchars]
  simp only []
  rw [cutGo, if_neg hlt, hstep1]
  simp only []
  rw [cutGo, if_neg hlt3]
  cases o with
  | none =>
    have : nextX 8 ([60, 97, 62, 38, 35] ++ M ++ [59, 60, 47, 97, 62]) ⟨3, [⟨1, 0, [97], [], [], false⟩], [], 0⟩ = .bad ⟨11, 3, wReference⟩ := by
      unfold nextX
      simp only []
      rw [if_pos h0, hend, htake, wordsX_noref 7 _ _ _ (by simp) hr]
    rw [this]; rfl
  | some t =>
    have ht := hne t rfl
    have : nextX 8 ([60, 97, 62, 38, 35] ++ M ++ [59, 60, 47, 97, 62]) ⟨3, [⟨1, 0, [97], [], [], false⟩], [], 0⟩ = .ok ⟨3 + (M.length + 3), [⟨1, 0, [97], [], [], false⟩], t, 3⟩ := by
      unfold nextX
      simp only []
      rw [if_pos h0, hend, htake, wordsX_ref 6 _ _ _ t (by simp) hr]
      simp [addX, ht]
    rw [this]
    simp only []
    have hlt4 : ¬ ([60, 97, 62, 38, 35] ++ M ++ [59, 60, 47, 97, 62] : List UInt8).length ≤ 3 + (M.length + 3) := by simp; omega
    rw [cutGo, if_neg hlt4]
    -- the end
    have hd : ([60, 97, 62, 38, 35] ++ M ++ [59, 60, 47, 97, 62] : List UInt8).drop (3 + (M.length + 3)) = [60, 47, 97, 62] := by
      have e : ([60, 97, 62, 38, 35] ++ M ++ [59, 60, 47, 97, 62] : List UInt8) = ([60, 97, 62, 38, 35] ++ M ++ [59]) ++ [60, 47, 97, 62] := by simp
      rw [e, List.drop_append_of_le_length (by simp; omega), List.drop_of_length_le (by simp; omega)]
      rfl
    have hd2 : ∀ k, ([60, 97, 62, 38, 35] ++ M ++ [59, 60, 47, 97, 62] : List UInt8).drop (3 + (M.length + 3) + k) = [60, 47, 97, 62].drop k := by
      intro k; rw [← List.drop_drop, hd]
    have hn2 : nameX [97, 62] = 1 := nameX_one 62 _ (by decide) hp 97 (by decide) hs
    have hb2 : blanksX [62] = 0 := by simp [blanksX, Lib.trimLeftS, List.dropWhile]
    have hg : ([60, 97, 62, 38, 35] ++ M ++ [59, 60, 47, 97, 62] : List UInt8)[3 + (M.length + 3) + 3]? = some 62 := by
      have := congrArg (fun l => l[0]?) (hd2 3)
      simpa [List.getElem?_drop] using this
    have hclose : closeX ([60, 97, 62, 38, 35] ++ M ++ [59, 60, 47, 97, 62]) (3 + (M.length + 3)) = .ok (⟨2, 3 + (M.length + 3), [97], [], [], false⟩, 3 + (M.length + 3) + 4) := by
      obtain ⟨P, hP⟩ : ∃ P, 3 + (M.length + 3) = P := ⟨_, rfl⟩
      rw [hP] at hd2 hg ⊢
      have e2 := hd2 2
      have e3 := hd2 3
      simp only [List.drop_succ_cons, List.drop_zero] at e2 e3
      unfold closeX
      simp only [e2, hn2, show P + 2 + 1 = P + 3 from rfl, e3, hb2]
      rw [if_neg (by rw [hg]; simp)]
      rfl
    have : nextX 8 ([60, 97, 62, 38, 35] ++ M ++ [59, 60, 47, 97, 62]) ⟨3 + (M.length + 3), [⟨1, 0, [97], [], [], false⟩], t, 3⟩
        = .ok ⟨3 + (M.length + 3) + 4, [⟨1, 0, [97], [], [], false⟩, ⟨3, 3, [], t, [], false⟩, ⟨2, 3 + (M.length + 3), [97], [], [], false⟩], [], 3⟩ := by
      unfold nextX
      simp only [hclose]
      rw [hd]
      simp [Lib.hasPrefix, List.isPrefixOf, finX, ht]
    rw [this]
    simp only []
    rw [cutGo, if_pos (by simp; omega)]
    simp [finX, refRes]
    omega
def decCh (d : Nat) : UInt8 := UInt8.ofNat (48 + d)
def hexCh (u : Bool) (d : Nat) : UInt8 := UInt8.ofNat (if d < 10 then 48 + d else if u then 55 + d else 87 + d)
def decX (r : Nat) : List UInt8 := digF 10 decCh 7 r []
def hexX (u : Bool) (r : Nat) : List UInt8 := digF 16 (hexCh u) 6 r []
theorem ofNat_toNat {n : Nat} (h : n < 256) : (UInt8.ofNat n).toNat = n := by simp; omega
theorem decCh_nat {d : Nat} (h : d < 10) : (decCh d).toNat = 48 + d := ofNat_toNat (by omega)
theorem hexCh_nat (u : Bool) {d : Nat} (h : d < 16) : (hexCh u d).toNat = if d < 10 then 48 + d else if u then 55 + d else 87 + d := ofNat_toNat (by
  split
  · omega
  · split <;> omega)
theorem decCh_dig {d : Nat} (h : d < 10) : digitX (decCh d).toNat = d := by rw [decCh_nat h, digitX, if_pos (by omega)]; omega
theorem hexCh_dig (u : Bool) {d : Nat} (h : d < 16) : digitX (hexCh u d).toNat = d := by
  rw [hexCh_nat u h]
  by_cases h1 : d < 10
  · rw [if_pos h1, digitX, if_pos (by omega)]; omega
  · rw [if_neg h1]
    cases u with
    | true => rw [if_pos rfl, digitX, if_neg (by omega), if_neg (by omega), if_pos (by omega)]; omega
    | false => rw [if_neg (by decide), digitX, if_neg (by omega), if_pos (by omega)]; omega
theorem u8_ne {c d : UInt8} (h : c.toNat ≠ d.toNat) : c ≠ d := fun e => h (by rw [e])
theorem decX_mem (r : Nat) : ∀ c ∈ decX r, 48 ≤ c.toNat ∧ c.toNat ≤ 57 :=
  digF_mem 10 (by omega) decCh _ (fun d hd => by rw [decCh_nat hd]; omega) 7 r [] (fun _ h => by cases h)
theorem hexX_mem (u : Bool) (r : Nat) : ∀ c ∈ hexX u r, 48 ≤ c.toNat ∧ c.toNat ≤ 57 ∨ 65 ≤ c.toNat ∧ c.toNat ≤ 102 :=
  digF_mem 16 (by omega) (hexCh u) _ (fun d hd => by
    rw [hexCh_nat u hd]
    split
    · omega
    · split <;> omega) 6 r [] (fun _ h => by cases h)
theorem putR_ne (r : Nat) : putR r ≠ [] := by
  unfold putR; split
  · simp
  · split
    · simp
    · split <;> simp
def numRes (n r : Nat) : XR (List XT) := refRes n (if charR (r : Int) then some (putR r) else none)
theorem charX_of (D : List UInt8) (b m r : Nat) (h1 : 1 ≤ D.length) (h2 : D.length ≤ m) (h3 : numX b D 0 = some r) : charX D b m = if charR (r : Int) then some (putR r) else none := by
  unfold charX
  rw [if_neg (by omega), h3]; rfl
theorem cutX_dec (r : Nat) (h : r ≤ 1114111) : cutX 8 ([60, 97, 62, 38, 35] ++ decX r ++ [59, 60, 47, 97, 62]) = numRes (decX r).length r := by
  have hl := digF_len 10 decCh 7 r []
  have hl1 := digF_one 10 decCh 6 r
  have hn := numX_digF 10 (by omega) decCh (fun d hd => decCh_dig hd) 7 r [] (by omega) (.inr (by omega))
  have hm := decX_mem r
  have hc := charX_of (decX r) 10 7 r hl1 (by simpa [decX, hexX] using hl.1) hn
  refine cutX_ref _ (fun c hc => ?_) _ ?_ ?_
  · have := hm c hc
    exact ⟨by omega, by omega, u8_ne (by simp; omega), u8_ne (by simp; omega)⟩
  · have hr := refX_num [] (decX r) [] 10 7 (.inl ⟨rfl, rfl, rfl, fun e => by
      have := hm 120 (List.mem_of_head? e)
      simp at this⟩) (fun c hc => by have := hm c hc; exact u8_ne (by simp; omega))
    rw [hc] at hr
    simp only [List.nil_append] at hr
    rw [hr]
    congr 1
    funext t
    simp
    omega
  · intro t ht
    split at ht
    · cases ht; exact putR_ne r
    · cases ht
theorem cutX_hex (u : Bool) (r : Nat) (h : r ≤ 1114111) : cutX 8 ([60, 97, 62, 38, 35] ++ (120 :: hexX u r) ++ [59, 60, 47, 97, 62]) = numRes (120 :: hexX u r).length r := by
  have hl := digF_len 16 (hexCh u) 6 r []
  have hl1 := digF_one 16 (hexCh u) 5 r
  have hn := numX_digF 16 (by omega) (hexCh u) (fun d hd => hexCh_dig u hd) 6 r [] (by omega) (.inr (by omega))
  have hm := hexX_mem u r
  have hc := charX_of (hexX u r) 16 6 r hl1 (by simpa [decX, hexX] using hl.1) hn
  refine cutX_ref _ (fun c hc => ?_) _ ?_ ?_
  · simp only [List.mem_cons] at hc
    rcases hc with rfl | hc
    · decide
    · have := hm c hc
      exact ⟨by omega, by omega, u8_ne (by simp; omega), u8_ne (by simp; omega)⟩
  · have hr := refX_num [120] (hexX u r) [] 16 6 (.inr ⟨rfl, rfl, rfl⟩) (fun c hc => by have := hm c hc; exact u8_ne (by simp; omega))
    rw [hc] at hr
    simp only [List.cons_append, List.nil_append] at hr ⊢
    rw [hr]
    congr 1
    funext t
    simp
    omega
  · intro t ht
    split at ht
    · cases ht; exact putR_ne r
    · cases ht
theorem charR_iff (r : Nat) (h : r ≤ 1114111) : charR (r : Int) = true ↔ (r = 9 ∨ r = 10 ∨ r = 13 ∨ (32 ≤ r ∧ r ≤ 55295) ∨ (57344 ≤ r ∧ r ≤ 65533) ∨ 65536 ≤ r) := by
  unfold charR
  rw [decide_eq_true_iff]
  constructor
  · rintro (h1 | h1 | h1 | ⟨h1, h2⟩)
    · omega
    · omega
    · omega
    · unfold widthR at h2
      split at h2 <;> omega
  · intro h1
    rcases h1 with h1 | h1 | h1 | h1
    · exact .inl (by omega)
    · exact .inr (.inl (by omega))
    · exact .inr (.inr (.inl (by omega)))
    · exact .inr (.inr (.inr ⟨by omega, widthR_pos (by omega)⟩))
end Go.Proofs.Ytajnpmhgldfgfaa
