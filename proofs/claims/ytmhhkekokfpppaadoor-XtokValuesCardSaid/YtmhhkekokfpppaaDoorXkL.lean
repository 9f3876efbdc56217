/- The cutter's plain words at a text of one element with one reference by a number; no program in sight. -/
import Derived.Test.YtmhhkekokfpppaaDoorXkB
namespace Go.Proofs.YtmhhkekokfpppaaDoor
open Go.RowKit
set_option linter.unusedVariables false

theorem nextL_ascii {c : UInt8} (t : List UInt8) (h : c.toNat < 128) : nextL (c :: t) = some (c.toNat, 1) := by
  have hw : widthR (c.toNat : Int) = ((1 : Nat) : Int) := by
    unfold widthR
    rw [if_neg (by omega), if_pos (by omega)]; rfl
  rw [nextL_some (leadN_1 h) (by omega) (by omega) (q := c.toNat) (by rfl), if_pos hw]
theorem runesL_ascii {c : UInt8} (t : List UInt8) (h : c.toNat < 128) : runesL (c :: t) = (c.toNat, 1) :: runesL t := runesL_some (nextL_ascii t h)
theorem checkL_ascii : ∀ {l : List UInt8}, (∀ c ∈ l, c.toNat < 128) → checkL l = l.length
  | [], _ => checkL_none nextL_nil
  | c :: t, h => by
    rw [checkL_some (nextL_ascii t (h c (by simp)))]
    have := checkL_ascii (l := t) (fun c hc => h c (by simp [hc]))
    simp only [List.drop_succ_cons, List.drop_zero, List.length_cons]
    omega
theorem runesAt_ascii : ∀ {l : List UInt8} (k : Nat), (∀ c ∈ l, c.toNat < 128) → ∀ p ∈ runesAt k (runesL l), ∃ c ∈ l, p.2 = c.toNat
  | [], k, _, p, hp => by rw [runesL_none nextL_nil] at hp; cases hp
  | c :: t, k, h, p, hp => by
    rw [runesL_ascii t (h c (by simp))] at hp
    simp only [runesAt, List.mem_cons] at hp
    rcases hp with rfl | hp
    · exact ⟨c, by simp, rfl⟩
    · obtain ⟨d, h1, h2⟩ := runesAt_ascii (k + 1) (fun c hc => h c (by simp [hc])) p hp
      exact ⟨d, by simp [h1], h2⟩
theorem charR_print {n : Nat} (h1 : 32 ≤ n) (h2 : n < 128) : charR (n : Int) = true := by
  unfold charR widthR
  rw [if_neg (by omega), if_pos (by omega)]
  simp; omega
theorem charsX_print {l : List UInt8} (h : ∀ c ∈ l, 32 ≤ c.toNat ∧ c.toNat < 128) : charsX l = none := by
  unfold charsX
  rw [if_neg (by rw [checkL_ascii (fun c hc => (h c hc).2)]; simp)]
  rw [List.find?_eq_none.2]
  intro p hp
  obtain ⟨c, hc, e⟩ := runesAt_ascii 0 (fun c hc => (h c hc).2) p hp
  rw [e, charR_print (h c hc).1 (h c hc).2]
  simp
theorem nameX_one (c : UInt8) (t : List UInt8) (h1 : c.toNat < 128) (h2 : namePartR (c.toNat : Int) = false) (b : UInt8) (h3 : b.toNat < 128) (h4 : nameStartR (b.toNat : Int) = true) : nameX (b :: c :: t) = 1 := by
  unfold nameX allRunes
  rw [runesL_ascii _ h3, runesL_ascii _ h1]
  simp [runesAt, List.find?, h2, h4, nameStart_part _ h4]
theorem nameX_nil : nameX [] = 0 := by
  unfold nameX allRunes
  rw [runesL_none nextL_nil]; rfl

/-- Digits in front of others, as they are printed from the last one on. -/
def digF (b : Nat) (ch : Nat → UInt8) : Nat → Nat → List UInt8 → List UInt8
  | 0, _, acc => acc
  | f + 1, v, acc => if v = 0 ∧ acc ≠ [] then acc else digF b ch f (v / b) (ch (v % b) :: acc)
theorem digF_stop (b : Nat) (ch : Nat → UInt8) (f : Nat) (acc : List UInt8) (h : acc ≠ []) : digF b ch f 0 acc = acc := by
  cases f with
  | zero => rfl
  | succ f => exact if_pos ⟨rfl, h⟩
theorem numX_digF (b : Nat) (hb : 2 ≤ b) (ch : Nat → UInt8) (hch : ∀ d, d < b → digitX (ch d).toNat = d) : ∀ (f v : Nat) (acc : List UInt8), v < b ^ f → (acc ≠ [] ∨ 1 ≤ f) → numX b (digF b ch f v acc) 0 = numX b acc v
  | 0, v, acc, hv, ha => by
    obtain rfl : v = 0 := by simpa using hv
    rfl
  | f + 1, v, acc, hv, ha => by
    rw [digF]
    split
    · rename_i h; rw [h.1]
    · have hm : v % b < b := Nat.mod_lt _ (by omega)
      rw [numX_digF b hb ch hch f (v / b) _ (by rw [Nat.pow_succ] at hv; exact Nat.div_lt_of_lt_mul (by rw [Nat.mul_comm]; exact hv)) (.inl (by simp))]
      rw [numX, hch _ hm, if_neg (by omega)]
      congr 1
      have := Nat.div_add_mod v b
      rw [Nat.mul_comm] at this
      exact this
theorem digF_len (b : Nat) (ch : Nat → UInt8) : ∀ (f v : Nat) (acc : List UInt8), (digF b ch f v acc).length ≤ acc.length + f ∧ acc.length ≤ (digF b ch f v acc).length
  | 0, v, acc => ⟨Nat.le_refl _, Nat.le_refl _⟩
  | f + 1, v, acc => by
    rw [digF]
    split
    · omega
    · have := digF_len b ch f (v / b) (ch (v % b) :: acc)
      simp at this
      omega
theorem digF_one (b : Nat) (ch : Nat → UInt8) (f v : Nat) : 1 ≤ (digF b ch (f + 1) v []).length := by
  rw [digF, if_neg (by simp)]
  have := (digF_len b ch f (v / b) [ch (v % b)]).2
  simpa using this
theorem digF_mem (b : Nat) (hb : 0 < b) (ch : Nat → UInt8) (Q : UInt8 → Prop) (hch : ∀ d, d < b → Q (ch d)) : ∀ (f v : Nat) (acc : List UInt8), (∀ c ∈ acc, Q c) → ∀ c ∈ digF b ch f v acc, Q c
  | 0, v, acc, ha => ha
  | f + 1, v, acc, ha => by
    rw [digF]
    split
    · exact ha
    · exact digF_mem b hb ch Q hch f (v / b) _ (by
        intro c hc
        simp only [List.mem_cons] at hc
        rcases hc with rfl | hc
        · exact hch _ (Nat.mod_lt _ hb)
        · exact ha c hc)

theorem indexByte_front (D t : List UInt8) (c : UInt8) (h : ∀ x ∈ D, x ≠ c) : Lib.indexByte (D ++ c :: t) c = (D.length : Int) := by
  induction D with
  | nil => simp [Lib.indexByte]
  | cons x D ih =>
    have hx : (x == c) = false := beq_eq_false_iff_ne.2 (h x (by simp))
    rw [List.cons_append, Lib.indexByte, hx, ih (fun y hy => h y (by simp [hy]))]
    have : ((D.length : Int) == -1) = false := beq_eq_false_iff_ne.2 (by omega)
    simp [this]
/-- '<a>', a reference by a number, '</a>'. -/
def refText (x D : List UInt8) : List UInt8 := [60, 97, 62, 38, 35] ++ (x ++ D) ++ [59, 60, 47, 97, 62]
theorem refX_num (x D t : List UInt8) (b m : Nat) (hx : x = [] ∧ b = 10 ∧ m = 7 ∧ D.head? ≠ some 120 ∨ x = [120] ∧ b = 16 ∧ m = 6) (hD : ∀ c ∈ D, c ≠ 59) :
    refX ([38, 35] ++ (x ++ D) ++ 59 :: t) = (charX D b m).map fun r => (r, 3 + x.length + D.length) := by
  have hi : Lib.indexByte ([38, 35] ++ (x ++ D) ++ 59 :: t) 59 = ((([38, 35] ++ (x ++ D)).length : Nat) : Int) := indexByte_front _ t 59 (by
    intro c hc
    simp only [List.mem_append, List.mem_cons, List.not_mem_nil, or_false] at hc
    rcases hc with (rfl | rfl) | (h | h)
    · decide
    · decide
    · rcases hx with ⟨rfl, _⟩ | ⟨rfl, _⟩
      · cases h
      · simp at h; subst h; decide
    · exact hD c h)
  have hl : ([38, 35] ++ (x ++ D) : List UInt8).length = 2 + x.length + D.length := by simp; omega
  unfold refX
  rw [hi, hl, if_neg (by omega)]
  have e1 : ((((2 + x.length + D.length : Nat) : Int)).toNat - 1) = 1 + (x.length + D.length) := by omega
  have e2 : (((2 + x.length + D.length : Nat) : Int)).toNat + 1 = 3 + x.length + D.length := by omega
  rw [e1, e2]
  have e3 : (([38, 35] ++ (x ++ D) ++ 59 :: t : List UInt8).drop 1).take (1 + (x.length + D.length)) = 35 :: (x ++ D) := by
    simp only [List.cons_append, List.nil_append, List.drop_succ_cons, List.drop_zero, Nat.add_comm 1 (x.length + D.length), List.take_succ_cons]
    congr 1
    rw [List.take_append_of_le_length (by simp), List.take_of_length_le (by simp)]
  rw [e3]
  have e4 : meantX (35 :: (x ++ D)) = charX D b m := by
    unfold meantX
    rw [if_neg (by simp), if_neg (by simp), if_neg (by simp), if_neg (by simp), if_neg (by simp)]
    rcases hx with ⟨rfl, rfl, rfl, hd⟩ | ⟨rfl, rfl, rfl⟩
    · have h1 : Lib.hasPrefix (35 :: ([] ++ D)) [35, 120] = false := by
        cases D with
        | nil => rfl
        | cons d D =>
          have : d ≠ 120 := fun e => hd (by simp [e])
          simp [Lib.hasPrefix, List.isPrefixOf, Ne.symm this]
      rw [if_neg (by rw [h1]; simp), if_pos (by simp [Lib.hasPrefix])]
      rfl
    · rw [if_pos (by simp [Lib.hasPrefix])]
      rfl
  rw [e4]
theorem linesX_nil : linesX [] = [] := by
  have := linesX_len []
  exact List.eq_nil_of_length_eq_zero (by simpa using this)
theorem wordsX_ref (f : Nat) (l : List UInt8) (a : Nat) (acc : List UInt8) (t : List UInt8) (h0 : l[0]? = some 38) (h : refX l = some (t, l.length)) : wordsX (f + 2) l a acc = .ok (acc ++ t) := by
  have hne : l ≠ [] := fun e => by rw [e] at h0; cases h0
  have hi : Lib.indexAny l [38, 93] = 0 := by
    cases l with
    | nil => cases h0
    | cons b l =>
      have : b = 38 := by simpa using h0
      subst this
      simp [Lib.indexAny]
  rw [wordsX, if_neg hne, if_neg (by omega), if_neg (by omega), if_pos h0, h]
  simp only []
  rw [List.drop_length, wordsX, if_pos rfl]
theorem wordsX_noref (f : Nat) (l : List UInt8) (a : Nat) (acc : List UInt8) (h0 : l[0]? = some 38) (h : refX l = none) : wordsX (f + 1) l a acc = .bad ⟨11, a, wReference⟩ := by
  have hne : l ≠ [] := fun e => by rw [e] at h0; cases h0
  have hi : Lib.indexAny l [38, 93] = 0 := by
    cases l with
    | nil => cases h0
    | cons b l =>
      have : b = 38 := by simpa using h0
      subst this
      simp [Lib.indexAny]
  rw [wordsX, if_neg hne, if_neg (by omega), if_neg (by omega), if_pos h0, h]
def refRes (n : Nat) : Option (List UInt8) → XR (List XT)
  | none => .bad ⟨11, 3, wReference⟩
  | some t => .ok [⟨1, 0, [97], [], [], false⟩, ⟨3, 3, [], t, [], false⟩, ⟨2, n + 6, [97], [], [], false⟩]
/-- What is told of such a text. -/
theorem cutX_ref (M : List UInt8) (hx : ∀ c ∈ M, 32 ≤ c.toNat ∧ c.toNat < 128 ∧ c ≠ 59 ∧ c ≠ 60) (o : Option (List UInt8)) (hr : refX ([38, 35] ++ M ++ [59]) = o.map fun t => (t, ([38, 35] ++ M ++ [59]).length)) (hne : ∀ t, o = some t → t ≠ []) :
    cutX 8 ([60, 97, 62, 38, 35] ++ M ++ [59, 60, 47, 97, 62]) = refRes M.length o := by
  have hchars : charsX ([60, 97, 62, 38, 35] ++ M ++ [59, 60, 47, 97, 62]) = none := charsX_print (by
    intro c hc
    simp only [List.mem_append, List.mem_cons, List.not_mem_nil, or_false] at hc
    rcases hc with ((rfl | rfl | rfl | rfl | rfl) | h) | (rfl | rfl | rfl | rfl | rfl)
    all_goals first | exact ⟨(hx _ h).1, (hx _ h).2.1⟩ | decide)
  have hp : namePartR ((62 : UInt8).toNat : Int) = false := by decide
  have hs : nameStartR ((97 : UInt8).toNat : Int) = true := by decide
  -- the begin
  have hn1 : nameX (97 :: 62 :: 38 :: 35 :: (M ++ [59, 60, 47, 97, 62])) = 1 := nameX_one 62 _ (by decide) hp 97 (by decide) hs
  have hb1 : blanksX (62 :: 38 :: 35 :: (M ++ [59, 60, 47, 97, 62])) = 0 := by simp [blanksX, Lib.trimLeftS, List.dropWhile]
  have hopen : openX 8 ([60, 97, 62, 38, 35] ++ M ++ [59, 60, 47, 97, 62]) 0 = .ok (⟨1, 0, [97], [], [], false⟩, 3) := by
    unfold openX
    simp only [List.cons_append, List.nil_append, Nat.zero_add, List.drop_succ_cons, List.drop_zero, hn1]
    rw [if_neg (by omega), openGo]
    simp only [Nat.reduceAdd, List.drop_succ_cons, List.drop_zero, hb1, Nat.add_zero]
    rw [if_pos (by simp [Lib.hasPrefix])]
    rfl
  have hstep1 : nextX 8 ([60, 97, 62, 38, 35] ++ M ++ [59, 60, 47, 97, 62]) ⟨0, [], [], 0⟩ = .ok ⟨3, [⟨1, 0, [97], [], [], false⟩], [], 0⟩ := by
    unfold nextX
    simp only [hopen]
    simp [Lib.hasPrefix, List.isPrefixOf, finX]
  -- the reference
  have hend : endX ([60, 97, 62, 38, 35] ++ M ++ [59, 60, 47, 97, 62]) 3 = 3 + (M.length + 3) := by
    unfold endX
    have e : ([60, 97, 62, 38, 35] ++ M ++ [59, 60, 47, 97, 62] : List UInt8).drop 3 = (38 :: 35 :: M ++ [59]) ++ 60 :: [47, 97, 62] := by simp
    rw [e, indexByte_front _ _ _ (by
      intro c hc
      simp only [List.mem_append, List.mem_cons, List.not_mem_nil, or_false] at hc
      rcases hc with (rfl | rfl | h) | rfl
      · decide
      · decide
      · exact (hx c h).2.2.2
      · decide)]
    rw [if_neg (by omega)]
    simp
    omega
  have htake : (([60, 97, 62, 38, 35] ++ M ++ [59, 60, 47, 97, 62] : List UInt8).drop 3).take (3 + (M.length + 3) - 3) = [38, 35] ++ M ++ [59] := by
    have e : ([60, 97, 62, 38, 35] ++ M ++ [59, 60, 47, 97, 62] : List UInt8).drop 3 = ([38, 35] ++ M ++ [59]) ++ [60, 47, 97, 62] := by simp
    rw [e, List.take_append_of_le_length (by simp), List.take_of_length_le (by simp)]
  have h0 : (([60, 97, 62, 38, 35] ++ M ++ [59, 60, 47, 97, 62] : List UInt8).drop 3)[0]? ≠ some 60 := by simp
  have hlt : ¬ ([60, 97, 62, 38, 35] ++ M ++ [59, 60, 47, 97, 62] : List UInt8).length ≤ 0 := by simp
  have hlt3 : ¬ ([60, 97, 62, 38, 35] ++ M ++ [59, 60, 47, 97, 62] : List UInt8).length ≤ 3 := by simp
  unfold cutX
  rw [hchars]
  simp only []
  rw [cutGo, if_neg hlt, hstep1]
  simp only []
  rw [cutGo, if_neg hlt3]
  cases o with
  | none =>
    have : nextX 8 ([60, 97, 62, 38, 35] ++ M ++ [59, 60, 47, 97, 62]) ⟨3, [⟨1, 0, [97], [], [], false⟩], [], 0⟩ = .bad ⟨11, 3, wReference⟩ := by
      unfold nextX
      simp only []
      rw [if_pos h0, hend, htake, wordsX_noref 7 _ _ _ (by simp) hr]
    rw [this]; rfl
  | some t =>
    have ht := hne t rfl
    have : nextX 8 ([60, 97, 62, 38, 35] ++ M ++ [59, 60, 47, 97, 62]) ⟨3, [⟨1, 0, [97], [], [], false⟩], [], 0⟩ = .ok ⟨3 + (M.length + 3), [⟨1, 0, [97], [], [], false⟩], t, 3⟩ := by
      unfold nextX
      simp only []
      rw [if_pos h0, hend, htake, wordsX_ref 6 _ _ _ t (by simp) hr]
      simp [addX, ht]
    rw [this]
    simp only []
    have hlt4 : ¬ ([60, 97, 62, 38, 35] ++ M ++ [59, 60, 47, 97, 62] : List UInt8).length ≤ 3 + (M.length + 3) := by simp; omega
    rw [cutGo, if_neg hlt4]
    -- the end
    have hd : ([60, 97, 62, 38, 35] ++ M ++ [59, 60, 47, 97, 62] : List UInt8).drop (3 + (M.length + 3)) = [60, 47, 97, 62] := by
      have e : ([60, 97, 62, 38, 35] ++ M ++ [59, 60, 47, 97, 62] : List UInt8) = ([60, 97, 62, 38, 35] ++ M ++ [59]) ++ [60, 47, 97, 62] := by simp
      rw [e, List.drop_append_of_le_length (by simp; omega), List.drop_of_length_le (by simp; omega)]
      rfl
    have hd2 : ∀ k, ([60, 97, 62, 38, 35] ++ M ++ [59, 60, 47, 97, 62] : List UInt8).drop (3 + (M.length + 3) + k) = [60, 47, 97, 62].drop k := by
      intro k; rw [← List.drop_drop, hd]
    have hn2 : nameX [97, 62] = 1 := nameX_one 62 _ (by decide) hp 97 (by decide) hs
    have hb2 : blanksX [62] = 0 := by simp [blanksX, Lib.trimLeftS, List.dropWhile]
    have hg : ([60, 97, 62, 38, 35] ++ M ++ [59, 60, 47, 97, 62] : List UInt8)[3 + (M.length + 3) + 3]? = some 62 := by
      have := congrArg (fun l => l[0]?) (hd2 3)
      simpa [List.getElem?_drop] using this
    have hclose : closeX ([60, 97, 62, 38, 35] ++ M ++ [59, 60, 47, 97, 62]) (3 + (M.length + 3)) = .ok (⟨2, 3 + (M.length + 3), [97], [], [], false⟩, 3 + (M.length + 3) + 4) := by
      obtain ⟨P, hP⟩ : ∃ P, 3 + (M.length + 3) = P := ⟨_, rfl⟩
      rw [hP] at hd2 hg ⊢
      have e2 := hd2 2
      have e3 := hd2 3
      simp only [List.drop_succ_cons, List.drop_zero] at e2 e3
      unfold closeX
      simp only [e2, hn2, show P + 2 + 1 = P + 3 from rfl, e3, hb2]
      rw [if_neg (by rw [hg]; simp)]
      rfl
    have : nextX 8 ([60, 97, 62, 38, 35] ++ M ++ [59, 60, 47, 97, 62]) ⟨3 + (M.length + 3), [⟨1, 0, [97], [], [], false⟩], t, 3⟩
        = .ok ⟨3 + (M.length + 3) + 4, [⟨1, 0, [97], [], [], false⟩, ⟨3, 3, [], t, [], false⟩, ⟨2, 3 + (M.length + 3), [97], [], [], false⟩], [], 3⟩ := by
      unfold nextX
      simp only [hclose]
      rw [hd]
      simp [Lib.hasPrefix, List.isPrefixOf, finX, ht]
    rw [this]
    simp only []
    rw [cutGo, if_pos (by simp; omega)]
    simp [finX, refRes]
    omega
def decCh (d : Nat) : UInt8 := UInt8.ofNat (48 + d)
def hexCh (u : Bool) (d : Nat) : UInt8 := UInt8.ofNat (if d < 10 then 48 + d else if u then 55 + d else 87 + d)
def decX (r : Nat) : List UInt8 := digF 10 decCh 7 r []
def hexX (u : Bool) (r : Nat) : List UInt8 := digF 16 (hexCh u) 6 r []
theorem ofNat_toNat {n : Nat} (h : n < 256) : (UInt8.ofNat n).toNat = n := by simp; omega
theorem decCh_nat {d : Nat} (h : d < 10) : (decCh d).toNat = 48 + d := ofNat_toNat (by omega)
theorem hexCh_nat (u : Bool) {d : Nat} (h : d < 16) : (hexCh u d).toNat = if d < 10 then 48 + d else if u then 55 + d else 87 + d := ofNat_toNat (by
  split
  · omega
  · split <;> omega)
theorem decCh_dig {d : Nat} (h : d < 10) : digitX (decCh d).toNat = d := by rw [decCh_nat h, digitX, if_pos (by omega)]; omega
theorem hexCh_dig (u : Bool) {d : Nat} (h : d < 16) : digitX (hexCh u d).toNat = d := by
  rw [hexCh_nat u h]
  by_cases h1 : d < 10
  · rw [if_pos h1, digitX, if_pos (by omega)]; omega
  · rw [if_neg h1]
    cases u with
    | true => rw [if_pos rfl, digitX, if_neg (by omega), if_neg (by omega), if_pos (by omega)]; omega
    | false => rw [if_neg (by decide), digitX, if_neg (by omega), if_pos (by omega)]; omega
theorem u8_ne {c d : UInt8} (h : c.toNat ≠ d.toNat) : c ≠ d := fun e => h (by rw [e])
theorem decX_mem (r : Nat) : ∀ c ∈ decX r, 48 ≤ c.toNat ∧ c.toNat ≤ 57 :=
  digF_mem 10 (by omega) decCh _ (fun d hd => by rw [decCh_nat hd]; omega) 7 r [] (fun _ h => by cases h)
theorem hexX_mem (u : Bool) (r : Nat) : ∀ c ∈ hexX u r, 48 ≤ c.toNat ∧ c.toNat ≤ 57 ∨ 65 ≤ c.toNat ∧ c.toNat ≤ 102 :=
  digF_mem 16 (by omega) (hexCh u) _ (fun d hd => by
    rw [hexCh_nat u hd]
    split
    · omega
    · split <;> omega) 6 r [] (fun _ h => by cases h)
theorem putR_ne (r : Nat) : putR r ≠ [] := by
  unfold putR; split
  · simp
  · split
    · simp
    · split <;> simp
def numRes (n r : Nat) : XR (List XT) := refRes n (if charR (r : Int) then some (putR r) else none)
theorem charX_of (D : List UInt8) (b m r : Nat) (h1 : 1 ≤ D.length) (h2 : D.length ≤ m) (h3 : numX b D 0 = some r) : charX D b m = if charR (r : Int) then some (putR r) else none := by
  unfold charX
  rw [if_neg (by omega), h3]; rfl
theorem cutX_dec (r : Nat) (h : r ≤ 1114111) : cutX 8 ([60, 97, 62, 38, 35] ++ decX r ++ [59, 60, 47, 97, 62]) = numRes (decX r).length r := by
  have hl := digF_len 10 decCh 7 r []
  have hl1 := digF_one 10 decCh 6 r
  have hn := numX_digF 10 (by omega) decCh (fun d hd => decCh_dig hd) 7 r [] (by omega) (.inr (by omega))
  have hm := decX_mem r
  have hc := charX_of (decX r) 10 7 r hl1 (by simpa [decX, hexX] using hl.1) hn
  refine cutX_ref _ (fun c hc => ?_) _ ?_ ?_
  · have := hm c hc
    exact ⟨by omega, by omega, u8_ne (by simp; omega), u8_ne (by simp; omega)⟩
  · have hr := refX_num [] (decX r) [] 10 7 (.inl ⟨rfl, rfl, rfl, fun e => by
      have := hm 120 (List.mem_of_head? e)
      simp at this⟩) (fun c hc => by have := hm c hc; exact u8_ne (by simp; omega))
    rw [hc] at hr
    simp only [List.nil_append] at hr
    rw [hr]
    congr 1
    funext t
    simp
    omega
  · intro t ht
    split at ht
    · cases ht; exact putR_ne r
    · cases ht
theorem cutX_hex (u : Bool) (r : Nat) (h : r ≤ 1114111) : cutX 8 ([60, 97, 62, 38, 35] ++ (120 :: hexX u r) ++ [59, 60, 47, 97, 62]) = numRes (120 :: hexX u r).length r := by
  have hl := digF_len 16 (hexCh u) 6 r []
  have hl1 := digF_one 16 (hexCh u) 5 r
  have hn := numX_digF 16 (by omega) (hexCh u) (fun d hd => hexCh_dig u hd) 6 r [] (by omega) (.inr (by omega))
  have hm := hexX_mem u r
  have hc := charX_of (hexX u r) 16 6 r hl1 (by simpa [decX, hexX] using hl.1) hn
  refine cutX_ref _ (fun c hc => ?_) _ ?_ ?_
  · simp only [List.mem_cons] at hc
    rcases hc with rfl | hc
    · decide
    · have := hm c hc
      exact ⟨by omega, by omega, u8_ne (by simp; omega), u8_ne (by simp; omega)⟩
  · have hr := refX_num [120] (hexX u r) [] 16 6 (.inr ⟨rfl, rfl, rfl⟩) (fun c hc => by have := hm c hc; exact u8_ne (by simp; omega))
    rw [hc] at hr
    simp only [List.cons_append, List.nil_append] at hr ⊢
    rw [hr]
    congr 1
    funext t
    simp
    omega
  · intro t ht
    split at ht
    · cases ht; exact putR_ne r
    · cases ht
theorem charR_iff (r : Nat) (h : r ≤ 1114111) : charR (r : Int) = true ↔ (r = 9 ∨ r = 10 ∨ r = 13 ∨ (32 ≤ r ∧ r ≤ 55295) ∨ (57344 ≤ r ∧ r ≤ 65533) ∨ 65536 ≤ r) := by
  unfold charR
  rw [decide_eq_true_iff]
  constructor
  · rintro (h1 | h1 | h1 | ⟨h1, h2⟩)
    · omega
    · omega
    · omega
    · unfold widthR at h2
      split at h2 <;> omega
  · intro h1
    rcases h1 with h1 | h1 | h1 | h1
    · exact .inl (by omega)
    · exact .inr (.inl (by omega))
    · exact .inr (.inr (.inl (by omega)))
    · exact .inr (.inr (.inr ⟨by omega, widthR_pos (by omega)⟩))
end Go.Proofs.YtmhhkekokfpppaaDoor
