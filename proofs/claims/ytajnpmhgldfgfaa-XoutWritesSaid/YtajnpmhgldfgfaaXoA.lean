/- What is written of a document, and which documents may be written. No program in sight. -/
import Derived.Test.YtajnpmhgldfgfaaXkEw
namespace Go.Proofs.Ytajnpmhgldfgfaa
set_option linter.unusedVariables false

/-- An element as it is written. -/
structure XW where
  name : ByteArray
  up : Int
  attrs : List (ByteArray × ByteArray)
  kids : List Nat
  text : ByteArray
instance : Inhabited XW := ⟨⟨⟨#[]⟩, 0, [], [], ⟨#[]⟩⟩⟩
abbrev bl (s : ByteArray) : List UInt8 := s.data.toList
/-- Is a text a name? -/
def nameB (s : ByteArray) : Bool := decide (checkL (bl s) = (bl s).length) && (!(bl s).isEmpty && decide (nameX (bl s) = (bl s).length))
/-- Has a text only characters that XML takes? -/
def plainB (s : ByteArray) : Bool := decide (charsX (bl s) = none)
/-- May an attribute stand behind those ahead of it? -/
def okA (l : List (ByteArray × ByteArray)) (j : Nat) (x : ByteArray × ByteArray) : Bool := !((l.take j).any fun b => decide (b.1 = x.1)) && (nameB x.1 && plainB x.2)
def attrsB (l : List (ByteArray × ByteArray)) : Bool := (List.range l.length).all fun j => match l[j]? with | some x => okA l j x | none => true
theorem attrsB_yes {l : List (ByteArray × ByteArray)} (h : ∀ (j : Nat) (x : ByteArray × ByteArray), l[j]? = some x → okA l j x = true) : attrsB l = true := by
  unfold attrsB
  rw [List.all_eq_true]
  intro j hj
  rw [List.getElem?_eq_getElem (List.mem_range.1 hj)]
  exact h j _ (List.getElem?_eq_getElem (List.mem_range.1 hj))
theorem attrsB_no {l : List (ByteArray × ByteArray)} {j : Nat} {x : ByteArray × ByteArray} (hx : l[j]? = some x) (h : okA l j x = false) : attrsB l = false := by
  cases hb : attrsB l with
  | false => rfl
  | true =>
    unfold attrsB at hb
    have := List.all_eq_true.1 hb j (List.mem_range.2 (List.getElem?_eq_some_iff.1 hx).1)
    rw [hx] at this
    have this : okA l j x = true := this
    rw [this] at h
    cases h
/-- May an element be written? -/
def okE (e : XW) : Bool := nameB e.name && (attrsB e.attrs && plainB e.text)
def mayE (els : List XW) : Bool := els.all okE
theorem mayE_no {els : List XW} {i : Nat} {e : XW} (hi : els[i]? = some e) (h : okE e = false) : mayE els = false := by
  cases hb : mayE els with
  | false => rfl
  | true =>
    have := List.all_eq_true.1 hb e (List.mem_of_getElem? hi)
    rw [this] at h
    cases h
theorem mayE_yes {els : List XW} (h : ∀ (i : Nat) (e : XW), els[i]? = some e → okE e = true) : mayE els = true := by
  unfold mayE
  rw [List.all_eq_true]
  intro e he
  obtain ⟨i, hi⟩ := List.mem_iff_getElem?.1 he
  exact h i e hi
/-- Is nothing in an element? -/
def leafB (e : XW) : Bool := e.kids.isEmpty && (bl e.text).isEmpty
def attrT (a : ByteArray × ByteArray) : List UInt8 := 32 :: (bl a.1 ++ (61 :: 34 :: (escX true (bl a.2) ++ [34])))
def beginT (e : XW) : List UInt8 := (60 :: bl e.name) ++ (e.attrs.flatMap attrT ++ (if leafB e then [47, 62] else 62 :: escX false (bl e.text)))
def endT (e : XW) : List UInt8 := if leafB e then [] else 60 :: 47 :: (bl e.name ++ [62])
/-- Elements that are closed, till so many are open: what is written, and what stays open (the innermost first). -/
def shutT (E : Nat → XW) (d : Nat) : List Nat → List UInt8 × List Nat
  | [] => ([], [])
  | k :: t => if d < t.length + 1 then (endT (E k) ++ (shutT E d t).1, (shutT E d t).2) else ([], k :: t)
theorem shutT_step {E : Nat → XW} {d k : Nat} {t : List Nat} (h : d < t.length + 1) : shutT E d (k :: t) = (endT (E k) ++ (shutT E d t).1, (shutT E d t).2) := by rw [shutT, if_pos h]
theorem shutT_stop {E : Nat → XW} {d : Nat} {op : List Nat} (h : op.length ≤ d) : shutT E d op = ([], op) := by
  cases op with
  | nil => rfl
  | cons k t => rw [shutT, if_neg (by simp at h; omega)]
theorem shutT_len {E : Nat → XW} {d : Nat} : ∀ op : List Nat, (shutT E d op).2.length ≤ op.length
  | [] => Nat.le_refl _
  | k :: t => by
    rw [shutT]
    split
    · have := shutT_len (E := E) (d := d) t
      simp only [List.length_cons]
      omega
    · exact Nat.le_refl _
theorem shutT_mem {E : Nat → XW} {d : Nat} : ∀ (op : List Nat) (k : Nat), k ∈ (shutT E d op).2 → k ∈ op
  | [], _, h => h
  | k :: t, j, h => by
    rw [shutT] at h
    split at h
    · exact List.mem_cons_of_mem _ (shutT_mem t j h)
    · exact h
theorem shutT_size {E : Nat → XW} {d m : Nat} (hm : ∀ k, (endT (E k)).length ≤ m) : ∀ op : List Nat, (shutT E d op).1.length ≤ op.length * m
  | [] => Nat.zero_le _
  | k :: t => by
    rw [shutT]
    split
    · have := shutT_size (d := d) hm t
      have := hm k
      simp only [List.length_append, List.length_cons, Nat.succ_mul]
      omega
    · exact Nat.zero_le _
/-- One element more. -/
def prStep (E : Nat → XW) (s : List UInt8 × List Nat) (x : Nat × Nat) : List UInt8 × List Nat := (s.1 ++ (shutT E x.2 s.2).1 ++ beginT (E x.1), x.1 :: (shutT E x.2 s.2).2)
def prAll (E : Nat → XW) (Y : List (Nat × Nat)) : List UInt8 × List Nat := Y.foldl (prStep E) ([], [])
theorem prAll_snoc (E : Nat → XW) (Y : List (Nat × Nat)) (x : Nat × Nat) : prAll E (Y ++ [x]) = prStep E (prAll E Y) x := by unfold prAll; rw [List.foldl_append]; rfl
theorem prAll_len (E : Nat → XW) : ∀ (Z Y : List (Nat × Nat)), (prAll E Y).1.length ≤ (prAll E (Y ++ Z)).1.length
  | [], Y => by rw [List.append_nil]; exact Nat.le_refl _
  | z :: Z, Y => by
    have h1 := prAll_len E Z (Y ++ [z])
    rw [List.append_assoc, prAll_snoc] at h1
    unfold prStep at h1
    simp only [List.length_append, List.singleton_append] at h1
    omega
theorem prAll_op (E : Nat → XW) : ∀ (n : Nat) (Y : List (Nat × Nat)), Y.length = n → (prAll E Y).2.length ≤ n ∧ ∀ k ∈ (prAll E Y).2, k ∈ Y.map (·.1)
  | 0, Y, h => by rw [List.length_eq_zero_iff.1 h]; exact ⟨Nat.le_refl _, fun k hk => nomatch hk⟩
  | n + 1, Y, h => by
    obtain ⟨Z, x, rfl⟩ : ∃ Z x, Y = Z ++ [x] := by
      rcases List.eq_nil_or_concat Y with h0 | ⟨Z, x, hz⟩
      · rw [h0] at h; cases h
      · exact ⟨Z, x, by rw [hz, List.concat_eq_append]⟩
    have ih := prAll_op E n Z (by simpa using h)
    rw [prAll_snoc]
    unfold prStep
    refine ⟨?_, fun k hk => ?_⟩
    · have := shutT_len (E := E) (d := x.2) (prAll E Z).2
      simp only [List.length_cons]
      omega
    · rw [List.map_append, List.mem_append]
      rcases List.mem_cons.1 hk with rfl | hk
      · exact .inr (by simp)
      · exact .inl (ih.2 k (shutT_mem _ k hk))
def prText (E : Nat → XW) (Y : List (Nat × Nat)) : List UInt8 := (prAll E Y).1 ++ (shutT E 0 (prAll E Y).2).1
/-- What Print tells: the text, or that it is too long. -/
def prR (E : Nat → XW) (Y : List (Nat × Nat)) : List UInt8 × Int := if 60000 < (prText E Y).length then ([], 2) else (prText E Y, 0)
theorem prR_stop {E : Nat → XW} {pre Y : List (Nat × Nat)} (hp : pre <+: Y) (h : 60000 < (prAll E pre).1.length) : prR E Y = ([], 2) := by
  obtain ⟨Z, rfl⟩ := hp
  have := prAll_len E Z pre
  unfold prR prText
  rw [if_pos (by rw [List.length_append]; omega)]
/-- What Print tells of elements: the reason, if they may not be written; their text. -/
def printX (els : List XW) (valid : Bool) (Y : List (Nat × Nat)) : List UInt8 × Int := if (mayE els && (!els.isEmpty && valid)) = true then prR (fun k => els[k]?.getD default) Y else ([], 1)
theorem prText_ne {E : Nat → XW} {Y : List (Nat × Nat)} (h : Y ≠ []) : prText E Y ≠ [] := by
  obtain ⟨Z, x, rfl⟩ : ∃ Z x, Y = Z ++ [x] := by
    rcases List.eq_nil_or_concat Y with h0 | ⟨Z, x, hz⟩
    · exact absurd h0 h
    · exact ⟨Z, x, by rw [hz, List.concat_eq_append]⟩
  unfold prText
  rw [prAll_snoc]
  unfold prStep beginT
  simp
end Go.Proofs.Ytajnpmhgldfgfaa
