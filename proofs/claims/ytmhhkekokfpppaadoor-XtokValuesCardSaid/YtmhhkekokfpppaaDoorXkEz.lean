/- Runs of the cutter at the laws' texts: an element with one attribute whose value was written byte by byte; no program in sight. -/
import Derived.Test.YtmhhkekokfpppaaDoorXkEw
namespace Go.Proofs.YtmhhkekokfpppaaDoor
open Go.RowKit
set_option linter.unusedVariables false

theorem attrX_yes {f : Nat} {s : List UInt8} {ca p n k1 k2 e : Nat} {q : UInt8} {v : List UInt8} (hn : nameX (s.drop p) = n) (h0 : n ≠ 0) (b1 : blanksX (s.drop (p + n)) = k1) (g1 : s[p + n + k1]? = some 61) (b2 : blanksX (s.drop (p + n + k1 + 1)) = k2) (g2 : s[p + n + k1 + 1 + k2]? = some q) (hq : q = 34 ∨ q = 39)
    (hv : valueX ca q f (s.drop (p + n + k1 + 1 + k2 + 1)) (p + n + k1 + 1 + k2 + 1) [] = .ok (v, e)) : attrX f s ca [] p = .ok (⟨(s.drop p).take n, v, p⟩, e) := by
  unfold attrX
  simp only [hn, List.any_nil, Bool.false_eq_true, if_false, b1, b2, g1, g2, hv]
  rw [if_neg (by simp [h0]), if_pos hq]
theorem openX_one {f : Nat} {s : List UInt8} {ca n k k2 e : Nat} {a : XA} {em : Bool} (hn : nameX (s.drop (ca + 1)) = n) (h0 : n ≠ 0) (bk : blanksX (s.drop (ca + 1 + n)) = k) (hk : k ≠ 0) (h1 : Lib.hasPrefix (s.drop (ca + 1 + n + k)) [62] = false) (h2 : Lib.hasPrefix (s.drop (ca + 1 + n + k)) [47, 62] = false)
    (ha : attrX (f + 1) s ca [] (ca + 1 + n + k) = .ok (a, e)) (bk2 : blanksX (s.drop e) = k2) (he : if em = true then Lib.hasPrefix (s.drop (e + k2)) [62] = false ∧ Lib.hasPrefix (s.drop (e + k2)) [47, 62] = true else Lib.hasPrefix (s.drop (e + k2)) [62] = true) :
    openX (f + 2) s ca = .ok (⟨1, ca, (s.drop (ca + 1)).take n, [], [a], em⟩, e + k2 + (if em = true then 2 else 1)) := by
  unfold openX
  simp only [hn]
  rw [if_neg h0, openGo]
  simp only [bk, h1, h2, Bool.false_eq_true, if_false, hk, ha, List.nil_append]
  rw [openGo]
  simp only [bk2]
  cases em with
  | true => simp only [if_true] at he ⊢; simp only [he.1, he.2, Bool.false_eq_true, if_false, if_true]
  | false => simp only [Bool.false_eq_true, if_false] at he ⊢; simp only [he, if_true]
theorem drop_add {a b : List UInt8} {n : Nat} (k : Nat) (h : n = a.length + k) : (a ++ b).drop n = b.drop k := by
  subst h
  rw [← List.drop_drop, List.drop_left]
/-- What may stand between: blanks. -/
def Blank (l : List UInt8) : Prop := ∀ c ∈ l, c = 32 ∨ c = 9 ∨ c = 10
theorem blanksX_bl : ∀ (bl : List UInt8) (c : UInt8) (t : List UInt8), Blank bl → c ≠ 32 ∧ c ≠ 9 ∧ c ≠ 10 ∧ c ≠ 13 → blanksX (bl ++ c :: t) = bl.length := by
  intro bl c t hb hc
  have key : ∀ bl, Blank bl → Lib.trimLeftS (bl ++ c :: t) [32, 9, 10, 13] = c :: t := by
    intro bl
    induction bl with
    | nil =>
      intro _
      simp [Lib.trimLeftS, hc]
    | cons b bl ih =>
      intro hb
      have h1 : ([32, 9, 10, 13] : List UInt8).contains b = true := by
        rcases hb b (by simp) with rfl | rfl | rfl <;> decide
      have := ih (fun c hc => hb c (by simp [hc]))
      unfold Lib.trimLeftS at this ⊢
      rw [List.cons_append, List.dropWhile_cons, if_pos h1, this]
  unfold blanksX
  rw [key bl hb]
  simp
/-- The begin of an element with one attribute; behind it E. -/
def tagX (bl : List UInt8) (q : UInt8) (B E : List UInt8) : List UInt8 := [60, 97, 32] ++ (bl ++ (98 :: (bl ++ (61 :: (bl ++ (q :: (B ++ (q :: (bl ++ E)))))))))
theorem tagX_len (bl : List UInt8) (q : UInt8) (B E : List UInt8) : (tagX bl q B E).length = 7 + 4 * bl.length + B.length + E.length := by
  unfold tagX; simp; omega
/-- The end of the element's begin, and what stands behind it. -/
def tailX (em : Bool) (Z : List UInt8) : List UInt8 := (if em then [47, 62] else [62]) ++ Z
theorem tag_open {bl : List UInt8} {q : UInt8} {β : UInt8 → List UInt8} (hb : Blank bl) (hq : q = 34 ∨ q = 39) (H : EncV β q) (v : List UInt8) (em : Bool) (Z : List UInt8) :
    openX (v.length + 2) (tagX bl q (encX β v) (tailX em Z)) 0 = .ok (⟨1, 0, [97], [], [⟨[98], v, 3 + bl.length⟩], em⟩, 7 + 4 * bl.length + (encX β v).length + (if em = true then 2 else 1)) := by
  obtain ⟨s, hs⟩ : ∃ s, tagX bl q (encX β v) (tailX em Z) = s := ⟨_, rfl⟩
  obtain ⟨L, hL⟩ : ∃ L, bl.length = L := ⟨_, rfl⟩
  obtain ⟨M, hM⟩ : ∃ M, (encX β v).length = M := ⟨_, rfl⟩
  have hbl : ∀ (c : UInt8) (t : List UInt8), (c ≠ 32 ∧ c ≠ 9 ∧ c ≠ 10 ∧ c ≠ 13) → blanksX (bl ++ c :: t) = L := fun c t hc => by rw [blanksX_bl bl c t hb hc, hL]
  have hqb : q ≠ 32 ∧ q ≠ 9 ∧ q ≠ 10 ∧ q ≠ 13 := by rcases hq with rfl | rfl <;> decide
  have d1 : s.drop 1 = 97 :: 32 :: (bl ++ (98 :: (bl ++ (61 :: (bl ++ (q :: (encX β v ++ (q :: (bl ++ tailX em Z))))))))) := by rw [← hs]; rfl
  have d2 : s.drop 2 = 32 :: (bl ++ (98 :: (bl ++ (61 :: (bl ++ (q :: (encX β v ++ (q :: (bl ++ tailX em Z))))))))) := by rw [← hs]; rfl
  have d3 : s.drop (3 + L) = 98 :: (bl ++ (61 :: (bl ++ (q :: (encX β v ++ (q :: (bl ++ tailX em Z))))))) := by
    rw [← hs, ← hL, tagX, ← List.append_assoc, drop_add 0 (by simp <;> omega)]; rfl
  have d4 : s.drop (4 + L) = bl ++ (61 :: (bl ++ (q :: (encX β v ++ (q :: (bl ++ tailX em Z)))))) := by
    rw [show 4 + L = 3 + L + 1 by omega, ← List.drop_drop, d3]; rfl
  have d5 : s.drop (4 + 2 * L) = 61 :: (bl ++ (q :: (encX β v ++ (q :: (bl ++ tailX em Z))))) := by
    rw [show 4 + 2 * L = 4 + L + L by omega, ← List.drop_drop, d4, drop_add 0 (by omega)]; rfl
  have d6 : s.drop (5 + 2 * L) = bl ++ (q :: (encX β v ++ (q :: (bl ++ tailX em Z)))) := by
    rw [show 5 + 2 * L = 4 + 2 * L + 1 by omega, ← List.drop_drop, d5]; rfl
  have d7 : s.drop (5 + 3 * L) = q :: (encX β v ++ (q :: (bl ++ tailX em Z))) := by
    rw [show 5 + 3 * L = 5 + 2 * L + L by omega, ← List.drop_drop, d6, drop_add 0 (by omega)]; rfl
  have d8 : s.drop (6 + 3 * L) = encX β v ++ (q :: (bl ++ tailX em Z)) := by
    rw [show 6 + 3 * L = 5 + 3 * L + 1 by omega, ← List.drop_drop, d7]; rfl
  have d9 : s.drop (7 + 3 * L + M) = bl ++ tailX em Z := by
    rw [show 7 + 3 * L + M = 6 + 3 * L + (M + 1) by omega, ← List.drop_drop, d8, drop_add 1 (by omega)]; rfl
  have d10 : s.drop (7 + 4 * L + M) = tailX em Z := by
    rw [show 7 + 4 * L + M = 7 + 3 * L + M + L by omega, ← List.drop_drop, d9, drop_add 0 (by omega)]; rfl
  have hget : ∀ {p : Nat} {c : UInt8} {t : List UInt8}, s.drop p = c :: t → s[p]? = some c := fun h => by
    have := congrArg (fun l => l[0]?) h
    simpa [List.getElem?_drop] using this
  have n1 : nameX (s.drop (0 + 1)) = 1 := by
    rw [show 0 + 1 = 1 from rfl, d1]
    exact nameX_one 32 _ (by decide) (by decide) 97 (by decide) (by decide)
  have n2 : nameX (s.drop (3 + L)) = 1 := by
    rw [d3]
    cases bl with
    | nil => exact nameX_one 61 _ (by decide) (by decide) 98 (by decide) (by decide)
    | cons c t =>
      rcases hb c (by simp) with rfl | rfl | rfl <;> exact nameX_one _ _ (by decide) (by decide) 98 (by decide) (by decide)
  have hv : valueX 0 q (v.length + 1) (s.drop (6 + 3 * L)) (6 + 3 * L) [] = .ok (v, 7 + 3 * L + M) := by
    rw [d8, valueX_enc H 0 v _ _ _ _ (by omega), hM, List.nil_append, show 6 + 3 * L + M + 1 = 7 + 3 * L + M by omega]
  have ha : attrX (v.length + 1) s 0 [] (3 + L) = .ok (⟨[98], v, 3 + L⟩, 7 + 3 * L + M) := by
    have h := attrX_yes (f := v.length + 1) (s := s) (ca := 0) (p := 3 + L) (n := 1) (k1 := L) (k2 := L) (e := 7 + 3 * L + M) (q := q) (v := v) n2 (by omega)
      (by rw [show 3 + L + 1 = 4 + L by omega, d4]; exact hbl _ _ (by decide)) (by rw [show 3 + L + 1 + L = 4 + 2 * L by omega]; exact hget d5)
      (by rw [show 3 + L + 1 + L + 1 = 5 + 2 * L by omega, d6]; exact hbl _ _ hqb) (by rw [show 3 + L + 1 + L + 1 + L = 5 + 3 * L by omega]; exact hget d7) hq
      (by rw [show 3 + L + 1 + L + 1 + L + 1 = 6 + 3 * L by omega]; exact hv)
    rw [h, d3]; rfl
  have hb2 : blanksX (s.drop 2) = 1 + L := by
    rw [d2]
    have := blanksX_bl (32 :: bl) 98 (bl ++ (61 :: (bl ++ (q :: (encX β v ++ (q :: (bl ++ tailX em Z))))))) (by
      intro c hc
      rw [List.mem_cons] at hc
      rcases hc with rfl | hc
      · exact .inl rfl
      · exact hb c hc) (by decide)
    rw [List.cons_append] at this
    rw [this, List.length_cons, hL]; omega
  have hbe : blanksX (s.drop (7 + 3 * L + M)) = L := by
    rw [d9]
    cases em with
    | true => exact hbl 47 (62 :: Z) (by decide)
    | false => exact hbl 62 Z (by decide)
  have h := openX_one (f := v.length) (s := s) (ca := 0) (n := 1) (k := 1 + L) (k2 := L) (e := 7 + 3 * L + M) (a := ⟨[98], v, 3 + L⟩) (em := em) n1 (by omega) hb2 (by omega)
    (by rw [show 0 + 1 + 1 + (1 + L) = 3 + L by omega, d3]; rfl) (by rw [show 0 + 1 + 1 + (1 + L) = 3 + L by omega, d3]; rfl)
    (by rw [show 0 + 1 + 1 + (1 + L) = 3 + L by omega]; exact ha) hbe
    (by
      rw [show 7 + 3 * L + M + L = 7 + 4 * L + M by omega, d10]
      cases em <;> simp [tailX, Lib.hasPrefix, List.isPrefixOf])
  rw [hs, hL, hM, h, show 0 + 1 = 1 from rfl, d1, show 7 + 3 * L + M + L = 7 + 4 * L + M by omega]
  rfl
theorem tag_fit {bl : List UInt8} {q : UInt8} {β : UInt8 → List UInt8} (hb : Blank bl) (hq : q = 34 ∨ q = 39) (H : EncT β) (v E : List UInt8) : Fit (tagX bl q (encX β v) E) ↔ (Fit v ∧ Fit E) := by
  have hbl : ∀ t, Fit (bl ++ t) ↔ Fit t := fun t => fit_lows bl t (fun d hd => by rcases hb d hd with rfl | rfl | rfl <;> exact ⟨by decide, by decide⟩)
  have hone : ∀ (c : UInt8) t, c.toNat < 128 ∧ charR (c.toNat : Int) = true → (Fit (c :: t) ↔ Fit t) := fun c t h => by rw [fit_low t h.1]; simp [h.2]
  have hqq : q.toNat < 128 ∧ charR (q.toNat : Int) = true := by rcases hq with rfl | rfl <;> exact ⟨by decide, by decide⟩
  unfold tagX
  rw [fit_lows _ _ (fun d hd => by
    simp only [List.mem_cons, List.not_mem_nil, or_false] at hd
    rcases hd with rfl | rfl | rfl <;> exact ⟨by decide, by decide⟩)]
  rw [hbl, hone 98 _ ⟨by decide, by decide⟩, hbl, hone 61 _ ⟨by decide, by decide⟩, hbl, hone q _ hqq]
  rw [fit_enc H (fun d hd => by simp at hd; subst hd; exact hqq.1) _ v (Nat.le_refl _), hone q _ hqq, hbl]
theorem fit_print {a : List UInt8} (h : ∀ d ∈ a, 32 ≤ d.toNat ∧ d.toNat < 128) : Fit a := (charsX_fit a).1 (charsX_print h)

/-- The law's text with an empty element. -/
theorem run_empty {bl : List UInt8} {q : UInt8} {β : UInt8 → List UInt8} (hb : Blank bl) (hq : q = 34 ∨ q = 39) (H : EncV β q) (v : List UInt8) :
    CutRun (v.length + 2) (tagX bl q (encX β v) [47, 62]) ⟨0, [], [], 0⟩ (.ok [⟨1, 0, [97], [], [⟨[98], v, 3 + bl.length⟩], true⟩]) := by
  have ho : openX (v.length + 2) (tagX bl q (encX β v) [47, 62]) 0 = .ok (⟨1, 0, [97], [], [⟨[98], v, 3 + bl.length⟩], true⟩, 7 + 4 * bl.length + (encX β v).length + 2) := tag_open hb hq H v true []
  have hlen := tagX_len bl q (encX β v) [47, 62]
  obtain ⟨s, hs⟩ : ∃ s, tagX bl q (encX β v) [47, 62] = s := ⟨_, rfl⟩
  have d0 : ∃ t, s = 60 :: 97 :: t := ⟨_, hs.symm⟩
  rw [hs] at ho hlen ⊢
  simp at hlen
  have hn : nextX (v.length + 2) s ⟨0, [], [], 0⟩ = .ok ⟨7 + 4 * bl.length + (encX β v).length + 2, [⟨1, 0, [97], [], [⟨[98], v, 3 + bl.length⟩], true⟩], [], 0⟩ := by
    obtain ⟨t, ht⟩ := d0
    unfold nextX
    simp only [ho]
    rw [ht]
    simp [Lib.hasPrefix, List.isPrefixOf, finX]
  refine .step _ _ _ (by simp <;> omega) (fun _ _ => .inl ⟨_, _, ho, by simp⟩) hn (by simp <;> omega) (by simp <;> omega) (by simp) (by simp) ?_
  exact CutRun.done (f := v.length + 2) (s := s) ⟨7 + 4 * bl.length + (encX β v).length + 2, [⟨1, 0, [97], [], [⟨[98], v, 3 + bl.length⟩], true⟩], [], 0⟩ (by simp <;> omega)

/-- What is told of an element around a text. -/
def backRes (v x : List UInt8) (P Q : Nat) : List XT := [⟨1, 0, [97], [], [⟨[98], v, 3⟩], false⟩] ++ (if x = [] then [] else [⟨3, P, [], x, [], false⟩]) ++ [⟨2, Q, [97], [], [], false⟩]
def backT (v x : List UInt8) : List UInt8 := tagX [] 34 (escX true v) (62 :: (escX false x ++ [60, 47, 97, 62]))
theorem back_fit (v x : List UInt8) : charsX (backT v x) = none ↔ (Fit v ∧ Fit x) := by
  rw [charsX_fit]
  unfold backT
  rw [show escX true v = encX (escB true) v from rfl, show escX false x = encX (escB false) x from rfl]
  rw [tag_fit (fun c hc => by cases hc) (.inl rfl) (escB_T true), fit_low _ (by decide), fit_enc (escB_T false) (fun d hd => by simp at hd; subst hd; decide) _ x (Nat.le_refl _)]
  have h1 : charR 62 = true := by decide
  have h2 : Fit [60, 47, 97, 62] := fit_print (by decide)
  simp [h1, h2]
theorem back_run (v : List UInt8) (hl : v.length ≤ 1000) :
    ∃ P Q, CutRun (v.length + 2) (backT v v) ⟨0, [], [], 0⟩ (.ok (backRes v v P Q)) := by
  have ho := tag_open (bl := []) (fun c hc => by cases hc) (.inl rfl) escB_V v false (escX false v ++ [60, 47, 97, 62])
  simp only [List.length_nil, Nat.mul_zero, Nat.add_zero, Bool.false_eq_true, if_false] at ho
  rw [show encX (escB true) v = escX true v from rfl, show tagX [] 34 (escX true v) (tailX false (escX false v ++ [60, 47, 97, 62])) = backT v v from rfl] at ho
  have hlen : (backT v v).length = 7 + (escX true v).length + 1 + (escX false v).length + 4 := by unfold backT; rw [tagX_len]; simp; omega
  have hdr : (backT v v).drop (7 + (escX true v).length + 1) = escX false v ++ [60, 47, 97, 62] := by
    unfold backT tagX
    have e : ([60, 97, 32] ++ ([] ++ 98 :: ([] ++ 61 :: ([] ++ 34 :: (escX true v ++ 34 :: ([] ++ 62 :: (escX false v ++ [60, 47, 97, 62])))))) : List UInt8) = ([60, 97, 32, 98, 61, 34] ++ escX true v ++ [34, 62]) ++ (escX false v ++ [60, 47, 97, 62]) := by simp
    rw [e, drop_add 0 (by simp <;> omega)]; rfl
  obtain ⟨A, hA⟩ : ∃ A, 7 + (escX true v).length + 1 = A := ⟨_, rfl⟩
  obtain ⟨B, hB⟩ : ∃ B, (escX false v).length = B := ⟨_, rfl⟩
  have hA8 : 8 ≤ A := by omega
  have d0 : ∃ t, backT v v = 60 :: 97 :: t := ⟨_, rfl⟩
  obtain ⟨s, hs⟩ : ∃ s, backT v v = s := ⟨_, rfl⟩
  rw [hs] at ho hlen hdr d0 ⊢
  rw [hA] at ho hlen hdr
  rw [hB] at hlen
  have hn : nextX (v.length + 2) s ⟨0, [], [], 0⟩ = .ok ⟨A, [⟨1, 0, [97], [], [⟨[98], v, 3⟩], false⟩], [], 0⟩ := by
    obtain ⟨t, ht⟩ := d0
    unfold nextX
    simp only [ho]
    rw [ht]
    simp [Lib.hasPrefix, List.isPrefixOf, finX]
  have hdc : s.drop (A + B) = [60, 47, 97, 62] := by
    rw [← List.drop_drop, hdr, drop_add 0 (by omega)]; rfl
  have hd2 : ∀ k, s.drop (A + B + k) = [60, 47, 97, 62].drop k := by
    intro k; rw [← List.drop_drop, hdc]
  have hp : namePartR ((62 : UInt8).toNat : Int) = false := by decide
  have hst : nameStartR ((97 : UInt8).toNat : Int) = true := by decide
  have hn2 : nameX [97, 62] = 1 := nameX_one 62 _ (by decide) hp 97 (by decide) hst
  have hb2 : blanksX [62] = 0 := by simp [blanksX, Lib.trimLeftS, List.dropWhile]
  have hg : s[A + B + 3]? = some 62 := by
    have := congrArg (fun l => l[0]?) (hd2 3)
    simpa [List.getElem?_drop] using this
  have hclose : closeX s (A + B) = .ok (⟨2, A + B, [97], [], [], false⟩, A + B + 4) := by
    obtain ⟨P, hP⟩ : ∃ P, A + B = P := ⟨_, rfl⟩
    rw [hP] at hd2 hg ⊢
    have e2 := hd2 2
    have e3 := hd2 3
    simp only [List.drop_succ_cons, List.drop_zero] at e2 e3
    unfold closeX
    simp only [e2, hn2, show P + 2 + 1 = P + 3 from rfl, e3, hb2]
    rw [if_neg (by rw [hg]; simp)]
    rfl
  refine ⟨A, A + B, ?_⟩
  refine .step _ _ _ (by simp <;> omega) (fun _ _ => .inl ⟨_, _, ho, by simp⟩) hn (by simp <;> omega) (by simp <;> omega) (by simp) (by simp) ?_
  by_cases hv : v = []
  · subst hv
    obtain rfl : B = 0 := by simpa [escX] using hB.symm
    rw [Nat.add_zero] at hclose hdc
    have hs3 : nextX ([] : List UInt8).length.succ.succ s ⟨A, [⟨1, 0, [97], [], [⟨[98], [], 3⟩], false⟩], [], 0⟩ = .ok ⟨A + 4, [⟨1, 0, [97], [], [⟨[98], [], 3⟩], false⟩, ⟨2, A, [97], [], [], false⟩], [], 0⟩ := by
      unfold nextX
      simp only [hclose]
      rw [hdc]
      simp [Lib.hasPrefix, List.isPrefixOf, finX]
    refine .step _ _ _ (by simp <;> omega) (fun _ h => by rw [show (⟨A, [⟨1, 0, [97], [], [⟨[98], [], 3⟩], false⟩], [], 0⟩ : XS).place = A from rfl, hdc] at h; simp [Lib.hasPrefix, List.isPrefixOf] at h) hs3 (by simp) (by simp <;> omega) (by simp) (by simp) ?_
    exact CutRun.done (f := ([] : List UInt8).length + 2) (s := s) ⟨A + 4, [⟨1, 0, [97], [], [⟨[98], [], 3⟩], false⟩, ⟨2, A, [97], [], [], false⟩], [], 0⟩ (by simp <;> omega)
  · have hB1 : 0 < B := by
      rw [← hB]
      obtain ⟨c, t, rfl⟩ := List.exists_cons_of_ne_nil hv
      rw [escX_cons, List.length_append]
      have := escB_pos false c
      omega
    have hh : ∀ c, (s.drop A)[0]? = some c → c ≠ 60 := by
      intro c hc
      rw [hdr, List.getElem?_append_left (by omega)] at hc
      exact (escX_mem (List.mem_of_getElem? hc)).2.1
    have h0 : (s.drop A)[0]? ≠ some 60 := fun e => hh 60 e rfl
    have hend : endX s A = A + B := by
      unfold endX
      rw [hdr, indexByte_front _ _ _ (fun c hc => (escX_mem hc).2.1), if_neg (by omega), hB]
      omega
    have htake : (s.drop A).take (A + B - A) = escX false v := by
      rw [hdr, List.take_append_of_le_length (by omega), List.take_of_length_le (by omega)]
    have hs2 : nextX (v.length + 2) s ⟨A, [⟨1, 0, [97], [], [⟨[98], v, 3⟩], false⟩], [], 0⟩ = .ok ⟨A + B, [⟨1, 0, [97], [], [⟨[98], v, 3⟩], false⟩], v, A⟩ := by
      unfold nextX
      simp only []
      rw [if_pos h0, hend, htake, wordsX_esc _ _ _ _ (by omega)]
      simp [addX, hv]
    have hs3 : nextX (v.length + 2) s ⟨A + B, [⟨1, 0, [97], [], [⟨[98], v, 3⟩], false⟩], v, A⟩ = .ok ⟨A + B + 4, [⟨1, 0, [97], [], [⟨[98], v, 3⟩], false⟩, ⟨3, A, [], v, [], false⟩, ⟨2, A + B, [97], [], [], false⟩], [], A⟩ := by
      unfold nextX
      simp only [hclose]
      rw [hdc]
      simp [Lib.hasPrefix, List.isPrefixOf, finX, hv]
    have hres : backRes v v A (A + B) = [⟨1, 0, [97], [], [⟨[98], v, 3⟩], false⟩, ⟨3, A, [], v, [], false⟩, ⟨2, A + B, [97], [], [], false⟩] := by
      unfold backRes; rw [if_neg hv]; rfl
    rw [hres]
    have hga : s[A]? ≠ some 60 := by
      intro e
      exact h0 (by simpa [List.getElem?_drop] using e)
    refine .step _ _ _ (by simp <;> omega) (fun h => absurd h hga) hs2 (by simp <;> omega) (by simp <;> omega) (by simp) (by simp <;> omega) ?_
    refine .step _ _ _ (by simp <;> omega) (fun _ h => by rw [show (⟨A + B, [⟨1, 0, [97], [], [⟨[98], v, 3⟩], false⟩], v, A⟩ : XS).place = A + B from rfl, hdc] at h; simp [Lib.hasPrefix, List.isPrefixOf] at h) hs3 (by simp) (by simp <;> omega) (by simp) (by simp) ?_
    exact CutRun.done (f := v.length + 2) (s := s) ⟨A + B + 4, [⟨1, 0, [97], [], [⟨[98], v, 3⟩], false⟩, ⟨3, A, [], v, [], false⟩, ⟨2, A + B, [97], [], [], false⟩], [], A⟩ (by simp <;> omega)
end Go.Proofs.YtmhhkekokfpppaaDoor
