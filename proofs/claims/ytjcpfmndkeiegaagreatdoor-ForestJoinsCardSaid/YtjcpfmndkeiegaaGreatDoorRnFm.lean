/- Plain words for the document's Join: an insertion keeps an order; what it tells is what forest's Join tells. Sizes of the numbers in the document's Join, to the base 10,000. The walk of hornbeamref12's text. Rows of the document's fractions. The document's fractions: part by part, in boxes, in rows; appends of rows. The walk of hornbeamref12's Join: its first loop. -/
import Derived.Test.YtjcpfmndkeiegaaGreatDoorFoXZ
import Derived.Test.YtjcpfmndkeiegaaGreatDoorRfGI
import Derived.Test.YtjcpfmndkeiegaaGreatDoorRfLM
import Derived.Test.YtjcpfmndkeiegaaGreatDoorTs
import Derived.Test.YtjcpfmndkeiegaaGreatDoorRnAD
import Derived.Test.YtjcpfmndkeiegaaGreatDoorQb
import Derived.BigQuiet
import Derived.Test.YtjcpfmndkeiegaaGreatDoorTbAE
import Derived.Deep.DeepCutAuto
import Derived.Deep.RegionHeld3
import Derived.Deep.RegionLaw
namespace Go.Proofs.YtjcpfmndkeiegaaGreatDoor
open Go.RowKit
set_option linter.unusedVariables false

/-- One more fraction, behind those that are not above it. -/
def insQ (q : Rat) : List Rat → List Rat
  | [] => [q]
  | x :: l => if cmpQ x q ≤ 0 then x :: insQ q l else q :: x :: l
theorem cmpQ_le {x q : Rat} : cmpQ x q ≤ 0 ↔ x ≤ q := by
  unfold cmpQ
  by_cases h1 : x < q
  · simp [h1, Rat.le_of_lt h1]
  · by_cases h2 : q < x
    · simp only [if_neg h1, if_pos h2]
      exact ⟨fun h => absurd h (by decide), fun h => absurd h2 (Rat.not_lt.2 h)⟩
    · simp only [if_neg h1, if_neg h2]
      exact ⟨fun _ => Rat.not_lt.1 h2, fun _ => Int.le_refl _⟩
theorem insQ_at : ∀ (l : List Rat) (q : Rat) (k : Nat), k ≤ l.length → (∀ j, j < k → cmpQ (l.getD j 0) q ≤ 0) → (k = l.length ∨ ¬ cmpQ (l.getD k 0) q ≤ 0) → insQ q l = l.take k ++ q :: l.drop k
  | [], q, k, hk, _, _ => by
    obtain rfl : k = 0 := by simpa using hk
    rfl
  | x :: l, q, 0, _, _, h => by
    rcases h with h | h
    · cases h
    · unfold insQ
      rw [if_neg (by simpa using h)]
      rfl
  | x :: l, q, k + 1, hk, h1, h2 => by
    unfold insQ
    rw [if_pos (by simpa using h1 0 (by omega)), insQ_at l q k (by simpa using hk) (fun j hj => by simpa using h1 (j + 1) (by omega)) (by simpa using h2)]
    rfl
theorem insQ_perm (q : Rat) : ∀ l : List Rat, (insQ q l).Perm (q :: l)
  | [] => .refl _
  | x :: l => by
    unfold insQ
    split
    · exact ((insQ_perm q l).cons x).trans (.swap _ _ _)
    · exact .refl _
theorem insQ_sorted (q : Rat) : ∀ l : List Rat, l.Pairwise (· ≤ ·) → (insQ q l).Pairwise (· ≤ ·)
  | [], _ => by simp [insQ]
  | x :: l, h => by
    rw [List.pairwise_cons] at h
    unfold insQ
    split
    · rename_i hx
      rw [List.pairwise_cons]
      refine ⟨fun y hy => ?_, insQ_sorted q l h.2⟩
      rcases List.mem_cons.1 ((insQ_perm q l).mem_iff.1 hy) with rfl | hy
      · exact cmpQ_le.1 hx
      · exact h.1 y hy
    · rename_i hx
      have hq : q ≤ x := by
        rcases (Rat.le_total : x ≤ q ∨ q ≤ x) with h1 | h1
        · exact absurd (cmpQ_le.2 h1) hx
        · exact h1
      rw [List.pairwise_cons]
      refine ⟨fun y hy => ?_, List.pairwise_cons.2 h⟩
      rcases List.mem_cons.1 hy with rfl | hy
      · exact hq
      · exact Rat.le_trans hq (h.1 y hy)
/-- All fractions, one by one. -/
def insAll (qs : List Rat) : List Rat := qs.foldl (fun o q => insQ q o) []
theorem insAll_snoc (qs : List Rat) (q : Rat) : insAll (qs ++ [q]) = insQ q (insAll qs) := by simp [insAll]
theorem insAll_both (qs : List Rat) : (insAll qs).Perm qs ∧ (insAll qs).Pairwise (· ≤ ·) := by
  rw [← List.reverse_reverse qs]
  induction qs.reverse with
  | nil => exact ⟨.refl _, List.Pairwise.nil⟩
  | cons q l ih =>
    rw [List.reverse_cons, insAll_snoc]
    refine ⟨(insQ_perm q _).trans ((ih.1.cons q).trans ?_), insQ_sorted q _ ih.2⟩
    exact (List.perm_append_comm (l₁ := [q]) (l₂ := l.reverse))
theorem insAll_len (qs : List Rat) : (insAll qs).length = qs.length := (insAll_both qs).1.length_eq
theorem sortedQ_of {l : List Rat} (h : l.Pairwise (· ≤ ·)) : SortedQ l := by
  intro i j hij hj
  rw [List.getD, List.getD, List.getElem?_eq_getElem hj, List.getElem?_eq_getElem (by omega)]
  exact Rat.not_lt.2 ((List.pairwise_iff_getElem.1 h) i j (by omega) hj hij)
theorem wAt_none (i : Nat) : wAt [] i = 1 := by unfold wAt; simp
/-- The document's weights: those of the method. -/
def mW (m : Int) (ws : List ByteArray) : List ByteArray := if m = 3 then ws else []
/-- The document's number. -/
def num12 (m : Int) (qs : List Rat) (ws : List ByteArray) : Rat :=
  if m = 2 ∨ m = 3 then divP (wSum qs (mW m ws) qs.length) (wAll (mW m ws) qs.length)
  else if m = 4 then divP ((insAll qs).getD ((qs.length - 1) / 2) 0 + (insAll qs).getD (qs.length / 2) 0) 2
  else if m = 5 then (insAll qs).getD (qs.length - 1) 0
  else if m = 6 then (insAll qs).getD 0 0
  else wSum qs (mW m ws) qs.length
theorem wAll_none (k : Nat) : wAll [] k = ((k : Int) : Rat) := by
  rw [wAll_alike (q := 1) (fun i _ => wAt_none i)]
  grind
theorem wSum_none (qs : List Rat) : wSum qs [] qs.length = sumQ qs := by
  rw [wSum_alike (q := 1) (Nat.le_refl _) (fun i _ => wAt_none i), List.take_length]
  grind
theorem getD_mem {l : List Rat} {i : Nat} (h : i < l.length) : l.getD i 0 ∈ l := by
  rw [List.getD, List.getElem?_eq_getElem h]; exact List.getElem_mem h
theorem mid_both {l : List Rat} (h : 0 < l.length) : divP (l.getD ((l.length - 1) / 2) 0 + l.getD (l.length / 2) 0) 2 = midQ l := by
  unfold midQ
  by_cases h2 : l.length % 2 = 1
  · rw [if_pos h2, show (l.length - 1) / 2 = l.length / 2 by omega]
    unfold divP
    rw [if_neg (by decide)]
    grind
  · rw [if_neg h2, show (l.length - 1) / 2 = l.length / 2 - 1 by omega]
/-- The document's number is one that forest's together tells. -/
theorem num12_tog {m : Int} {qs : List Rat} (ws : List ByteArray) (hm : m = 1 ∨ m = 2 ∨ m = 4 ∨ m = 5 ∨ m = 6) (h0 : 0 < qs.length) : TogR m qs (num12 m qs ws) := by
  obtain ⟨hp, hs⟩ := insAll_both qs
  have hl := insAll_len qs
  rcases hm with rfl | rfl | rfl | rfl | rfl
  · exact .inl ⟨rfl, wSum_none qs⟩
  · refine .inr (.inl ⟨rfl, ?_⟩)
    show divP (wSum qs [] qs.length) (wAll [] qs.length) = _
    rw [wSum_none, wAll_none]
  · refine .inr (.inr (.inl ⟨rfl, insAll qs, hp, sortedQ_of hs, ?_⟩))
    show divP ((insAll qs).getD ((qs.length - 1) / 2) 0 + (insAll qs).getD (qs.length / 2) 0) 2 = _
    rw [← hl]
    exact mid_both (by omega)
  · refine .inr (.inr (.inr (.inl ⟨rfl, ?_⟩)))
    show IsPick 1 qs ((insAll qs).getD (qs.length - 1) 0)
    refine ⟨hp.mem_iff.1 (getD_mem (by omega)), fun y hy => ?_⟩
    obtain ⟨i, hi, rfl⟩ := List.getElem_of_mem (hp.mem_iff.2 hy)
    rw [Ne, cmpQ_gt]
    by_cases hii : i = qs.length - 1
    · subst hii
      rw [List.getD, List.getElem?_eq_getElem hi]
      exact ltQ_irrefl _
    · have := sortedQ_of hs i (qs.length - 1) (by omega) (by omega)
      rwa [show (insAll qs).getD i 0 = (insAll qs)[i] by rw [List.getD, List.getElem?_eq_getElem hi]; rfl] at this
  · refine .inr (.inr (.inr (.inr ⟨rfl, ?_⟩)))
    show IsPick (-1) qs ((insAll qs).getD 0 0)
    refine ⟨hp.mem_iff.1 (getD_mem (by omega)), fun y hy => ?_⟩
    obtain ⟨i, hi, rfl⟩ := List.getElem_of_mem (hp.mem_iff.2 hy)
    rw [Ne, cmpQ_lt]
    by_cases hii : i = 0
    · subst hii
      rw [List.getD, List.getElem?_eq_getElem hi]
      exact ltQ_irrefl _
    · have := sortedQ_of hs 0 i (by omega) hi
      rwa [show (insAll qs).getD i 0 = (insAll qs)[i] by rw [List.getD, List.getElem?_eq_getElem hi]; rfl] at this
/-- Are all texts numbers? -/
def wholeB (ns : List ByteArray) : Bool := decide (0 < ns.length) && ns.all fun s => decide (parseRC s.data.toList = 0)
/-- What the document's Join tells. -/
def want12 (m : Int) (ns ws : List ByteArray) : List ByteArray :=
  if m = 8 then ns.map cleanS
  else if m = 7 ∧ 0 < ns.length then (ns.map cleanS).take 1
  else if m = 9 ∧ 0 < ns.length then (ns.map cleanS).drop (ns.length - 1)
  else if m < 1 ∨ 6 < m ∨ wholeB ns = false then [⟨#[]⟩]
  else if m = 3 ∧ wAll ws ns.length = 0 then [⟨#[]⟩]
  else [⟨(textQ (num12 m (ns.map fun s => parseRQ s.data.toList) ws)).toArray⟩]
/-- Sizes to the base 10,000. -/
theorem sz3 (n : Nat) : Rf.szN n ≤ 3 * szN n := by
  refine Rf.szN_le (Nat.lt_of_lt_of_le (szN_lt n) ?_)
  rw [Nat.pow_mul]
  exact Nat.pow_le_pow_left (by decide) _
theorem wholeB_iff {ns : List ByteArray} : wholeB ns = true ↔ 0 < ns.length ∧ ∀ s ∈ ns, parseRC s.data.toList = 0 := by
  unfold wholeB
  simp [List.all_eq_true]
end Go.Proofs.YtjcpfmndkeiegaaGreatDoor
namespace Go.Proofs.YtjcpfmndkeiegaaGreatDoor
set_option linter.unusedVariables false

theorem rsz {n b : Nat} (h : szN n ≤ b) (hb : b ≤ 133333) : Rf.szN n ≤ 400000 := Nat.le_trans (sz3 n) (by omega)
theorem rsz_wee {q : Rat} (h : weeQ q) : Rf.szN (numQ q) ≤ 400000 ∧ Rf.szN q.den ≤ 400000 := ⟨rsz h.1 (by decide), rsz h.2 (by decide)⟩
theorem rsz_wSum {qs : List Rat} (h : ∀ q ∈ qs, weeQ q) (ws : List ByteArray) {k : Nat} (hk : k ≤ 31) : Rf.szN (numQ (wSum qs ws k)) ≤ 400000 ∧ Rf.szN (wSum qs ws k).den ≤ 400000 := by
  obtain ⟨h1, h2⟩ := wSum_sz h ws k
  exact ⟨rsz h1 (by omega), rsz h2 (by omega)⟩
theorem rsz_wAll (ws : List ByteArray) {k : Nat} (hk : k ≤ 31) : Rf.szN (numQ (wAll ws k)) ≤ 400000 ∧ Rf.szN (wAll ws k).den ≤ 400000 := by
  obtain ⟨h1, h2⟩ := wAll_sz ws k
  exact ⟨rsz h1 (by omega), rsz h2 (by omega)⟩
theorem rsz_mul {a b : Rat} (ha : weeQ a) (hb : weeQ b) : Rf.szN (numQ (a * b)) ≤ 400000 ∧ Rf.szN (a * b).den ≤ 400000 := by
  obtain ⟨h1, h2⟩ := mulQ_sz a b
  obtain ⟨a1, a2⟩ := ha
  obtain ⟨b1, b2⟩ := hb
  exact ⟨rsz h1 (by omega), rsz h2 (by omega)⟩
theorem rsz_add {a b : Rat} (ha : weeQ a) (hb : weeQ b) : Rf.szN (numQ (a + b)) ≤ 400000 ∧ Rf.szN (a + b).den ≤ 400000 := by
  obtain ⟨h1, h2⟩ := addQ_sz a b
  obtain ⟨a1, a2⟩ := ha
  obtain ⟨b1, b2⟩ := hb
  exact ⟨rsz h1 (by omega), rsz h2 (by omega)⟩
theorem two_wee : weeQ 2 := ⟨Nat.le_trans (szN_small (by decide)) (by decide), Nat.le_trans (szN_small (by decide)) (by decide)⟩
theorem rsz_mid {a b : Rat} (ha : weeQ a) (hb : weeQ b) : Rf.szN (numQ (divP (a + b) 2)) ≤ 400000 ∧ Rf.szN (divP (a + b) 2).den ≤ 400000 := by
  obtain ⟨h1, h2⟩ := addQ_sz a b
  obtain ⟨a1, a2⟩ := ha
  obtain ⟨b1, b2⟩ := hb
  obtain ⟨d1, d2⟩ := divP_sz (x := a + b) (y := 2) (by decide)
  obtain ⟨t1, t2⟩ := two_wee
  exact ⟨rsz d1 (by omega), rsz d2 (by omega)⟩
theorem rsz_div {qs : List Rat} (h : ∀ q ∈ qs, weeQ q) (ws : List ByteArray) {k : Nat} (hk : k ≤ 31) (h0 : wAll ws k ≠ 0) : Rf.szN (numQ (divP (wSum qs ws k) (wAll ws k))) ≤ 400000 ∧ Rf.szN (divP (wSum qs ws k) (wAll ws k)).den ≤ 400000 := by
  obtain ⟨h1, h2⟩ := wSum_sz h ws k
  obtain ⟨a1, a2⟩ := wAll_sz ws k
  obtain ⟨d1, d2⟩ := divP_sz (x := wSum qs ws k) h0
  exact ⟨rsz d1 (by omega), rsz d2 (by omega)⟩
theorem insAll_wee {qs : List Rat} (h : ∀ q ∈ qs, weeQ q) : ∀ q ∈ insAll qs, weeQ q := fun q hq => h q ((insAll_both qs).1.mem_iff.1 hq)
end Go.Proofs.YtjcpfmndkeiegaaGreatDoor
namespace Go.Proofs.YtjcpfmndkeiegaaGreatDoor.Rf
open Go.RowKit Go.Proofs.YtjcpfmndkeiegaaGreatDoor
set_option linter.unusedVariables false

set_option maxRecDepth 100000 in
set_option maxHeartbeats 8000000 in
theorem tx_any (s : ByteArray) (hs : s.size ≤ 100000) (w : World) :
    Calls Tryz.prog 25 #[.string s] w fun e w' => ∃ v, e = .returned (.tuple #[v, .bool (decide (parseRC s.data.toList = 0))]) ∧ RefNew (w.heap.size + 1) w' v (parseRQ s.data.toList) ∧ Below w.heap.size w w' := by
  obtain ⟨W1, hW1⟩ : ∃ W1, w.alloc ref0 = W1 := ⟨_, rfl⟩
  have hB1 : Below w.heap.size w W1 := by rw [← hW1]; exact (Below.refl _ w).alloc (Nat.le_refl _) _
  have k1 : BlkAt W1 w.heap.size 33 #[.bool false, .slice none 0 0, .slice none 0 0] := by rw [← hW1]; exact BlkAt.new w _ _
  have HK1 := Lib.hid k1
  have HB1 := Lib.hid hB1
  have HP := Lib.hid (fun W => refParse_any s hs W)
  have HE := Lib.hid (show ((((parseRC s.data.toList : Nat) : Int)) == 0) = decide (parseRC s.data.toList = 0) by
    by_cases h : parseRC s.data.toList = 0
    · rw [h]; rfl
    · rw [decide_eq_false h]; exact beq_eq_false_iff_ne.2 (by omega))
  obtain ⟨b, hb⟩ : ∃ b, decide (parseRC s.data.toList = 0) = b := ⟨_, rfl⟩
  rw [hb] at HE ⊢
  unfold ParR at HP
  obtain ⟨z, hz⟩ : ∃ z : Int, ((parseRC s.data.toList : Nat) : Int) = z := ⟨_, rfl⟩
  obtain ⟨q, hq⟩ : ∃ q, parseRQ s.data.toList = q := ⟨_, rfl⟩
  rw [hz, hq] at HP
  rw [hz] at HE
  rw [hq]
  clear k1 hB1 hb hz hq
  go_enter Tryz.func25, Tryz.ntmps25
  go_wp2_with fail
  refine (HP.out _).mono ?_
  clear HP
  rintro e w7 ⟨v7, rfl, hN7, hB7⟩
  obtain ⟨v1, v2, rfl, hn1, hn2⟩ := hN7
  have hn1' := hn1
  have hn2' := hn2
  obtain ⟨a7, c7, rfl, -⟩ := hn1'
  obtain ⟨b7, d7, rfl, -⟩ := hn2'
  obtain ⟨s1, hs1⟩ : ∃ s1, szN (numQ q) = s1 := ⟨_, rfl⟩
  obtain ⟨s2, hs2⟩ : ∃ s2, szN q.den = s2 := ⟨_, rfl⟩
  obtain ⟨ng, hng⟩ : ∃ ng, negQ q = ng := ⟨_, rfl⟩
  rw [hs1] at hn1 ⊢
  rw [hs2] at hn2 ⊢
  rw [hng]
  have HNg := Lib.hid hng
  have HSz := Lib.hid HK1.out.lt
  have HB7 := Lib.hid (HB1.out.trans (hB7.mono HB1.out.size))
  have hk7 := HK1.out.below hB7 HK1.out.lt
  have HN7 := Lib.hid (show RefNew (w.heap.size + 1) (w7.alloc (.cells #[.bool ng, .slice a7 s1 c7, .slice b7 s2 d7] 33)) (.agg #[.bool (negQ q), .slice a7 s1 c7, .slice b7 s2 d7]) q from
    RefNew.below (RefNew.mono ⟨_, _, rfl, hn1, hn2⟩ (by have := HSz.out; omega)) ((Below.refl _ w7).alloc (Nat.le_refl _) _))
  have kz := hk7.alloc (.cells #[.bool ng, .slice a7 s1 c7, .slice b7 s2 d7] 33)
  have HKz := Lib.hid kz
  have s0 := kz.cell 0
  have s1' := kz.cell 1
  have s2' := kz.cell 2
  have t0 := kz.frozen 0
  have t1 := kz.frozen 1
  have t2 := kz.frozen 2
  clear hn1 hn2 hs1 hs2 hng hB7 hk7 kz hW1
  go_wp2
  obtain ⟨r1, r2, r3⟩ := res_ref HKz.out rfl (Nat.le_refl _) (HB7.out.alloc HB7.out.size _) HN7.out
  rw [HNg.out] at r1 r2 r3
  exact bodyPost_ret (r_ct rfl rfl (aggRef.load rfl r1)) rfl ⟨_, by rw [HE.out]; rfl, r2, r3⟩
end Go.Proofs.YtjcpfmndkeiegaaGreatDoor.Rf
namespace Go.Proofs.YtjcpfmndkeiegaaGreatDoor.Rf
open Go.RowKit Go.Proofs.YtjcpfmndkeiegaaGreatDoor
set_option linter.unusedVariables false

theorem RefAt.keep {w w' : World} {v : Value} {q : Rat} (h : RefAt w v q) (hk : KeepT 3 w w') : RefAt w' v q := by
  obtain ⟨va, vb, h1, h2, h3⟩ := h
  exact ⟨va, vb, h1, h2.keep hk, h3.keep hk⟩
/-- A fraction's three cells. -/
structure RefC where
  q : Rat
  a : Option Addr
  c : Nat
  b : Option Addr
  d : Nat
def cellsF (r : RefC) : List Value := [.bool (negQ r.q), .slice r.a (szN (numQ r.q)) r.c, .slice r.b (szN r.q.den) r.d]
theorem cellsF_len (r : RefC) : (cellsF r).length = 3 := rfl
def RefIn (w : World) (r : RefC) : Prop := DgAt w (.slice r.a (szN (numQ r.q)) r.c) (numQ r.q) ∧ DgAt w (.slice r.b (szN r.q.den) r.d) r.q.den
theorem RefIn.keep {w w' : World} {r : RefC} (h : RefIn w r) (hk : KeepT 3 w w') : RefIn w' r := ⟨h.1.keep hk, h.2.keep hk⟩
theorem RefIn.ref {w : World} {r : RefC} (h : RefIn w r) : RefAt w (.agg (cellsF r).toArray) r.q := ⟨_, _, rfl, h.1, h.2⟩
/-- A row of the document's fractions of the call's own. -/
def RefRow (w : World) (base : Nat) (v : Value) (qs : List Rat) : Prop := ∃ rs : List RefC, rs.map (·.q) = qs ∧ w.ownsRow base 33 3 v rs.length (rs.flatMap cellsF) ∧ ∀ r ∈ rs, RefIn w r
theorem refC_of {w : World} {v : Value} {q : Rat} (h : RefAt w v q) : ∃ r : RefC, v = .agg (cellsF r).toArray ∧ r.q = q ∧ RefIn w r := by
  obtain ⟨va, vb, rfl, h1, h2⟩ := h
  have h1' := h1
  have h2' := h2
  obtain ⟨a, c, rfl, -⟩ := h1'
  obtain ⟨b, d, rfl, -⟩ := h2'
  exact ⟨⟨q, a, c, b, d⟩, rfl, rfl, h1, h2⟩
theorem RefRow.nil (w : World) (base : Nat) : RefRow w base (.slice none 0 0) [] := ⟨[], rfl, World.ownsRow_nil _ _ _ _, fun r hr => by cases hr⟩
theorem RefRow.below {w w' : World} {base : Nat} {v : Value} {qs : List Rat} (h : RefRow w base v qs) (hB : Below w.heap.size w w') : RefRow w' base v qs := by
  obtain ⟨rs, h1, h2, h3⟩ := h
  exact ⟨rs, h1, rowKept h2 hB, fun r hr => (h3 r hr).keep (KeepT.of_below hB)⟩
end Go.Proofs.YtjcpfmndkeiegaaGreatDoor.Rf
namespace Go.Proofs.YtjcpfmndkeiegaaGreatDoor.Rf
open Go.RowKit Go.Proofs.YtjcpfmndkeiegaaGreatDoor
set_option linter.unusedVariables false

/-- A fraction's value, part by part. -/
def RefE (W : World) (q : Rat) (ng : Bool) (a : Option Addr) (s1 c : Nat) (b : Option Addr) (s2 d : Nat) : Prop := negQ q = ng ∧ szN (numQ q) = s1 ∧ szN q.den = s2 ∧ RefIn W ⟨q, a, c, b, d⟩
theorem refE_of {w : World} {v : Value} {q : Rat} (h : RefAt w v q) : ∃ ng a s1 c b s2 d, v = .agg #[.bool ng, .slice a s1 c, .slice b s2 d] ∧ RefE w q ng a s1 c b s2 d := by
  obtain ⟨va, vb, rfl, h1, h2⟩ := h
  have h1' := h1
  have h2' := h2
  obtain ⟨a, c, rfl, -⟩ := h1'
  obtain ⟨b, d, rfl, -⟩ := h2'
  exact ⟨_, a, _, c, b, _, d, rfl, rfl, rfl, rfl, h1, h2⟩
theorem RefE.ref {w : World} {q : Rat} {ng : Bool} {a b : Option Addr} {s1 c s2 d : Nat} (h : RefE w q ng a s1 c b s2 d) : RefAt w (.agg #[.bool ng, .slice a s1 c, .slice b s2 d]) q := by
  obtain ⟨rfl, rfl, rfl, h1, h2⟩ := h
  exact ⟨_, _, rfl, h1, h2⟩
theorem RefE.keep {w w' : World} {q : Rat} {ng : Bool} {a b : Option Addr} {s1 c s2 d : Nat} (h : RefE w q ng a s1 c b s2 d) (hk : KeepT 3 w w') : RefE w' q ng a s1 c b s2 d :=
  ⟨h.1, h.2.1, h.2.2.1, h.2.2.2.keep hk⟩
theorem RefE.below {w w' : World} {q : Rat} {ng : Bool} {a b : Option Addr} {s1 c s2 d : Nat} (h : RefE w q ng a s1 c b s2 d) (hB : Below w.heap.size w w') : RefE w' q ng a s1 c b s2 d := h.keep (KeepT.of_below hB)
theorem RefE.cells {w : World} {q : Rat} {ng : Bool} {a b : Option Addr} {s1 c s2 d : Nat} (h : RefE w q ng a s1 c b s2 d) : cellsF ⟨q, a, c, b, d⟩ = [.bool ng, .slice a s1 c, .slice b s2 d] := by
  obtain ⟨rfl, rfl, rfl, -⟩ := h
  rfl
/-- A box that holds a fraction. -/
def RefBox (W : World) (B : Nat) (q : Rat) : Prop := ∃ ng a s1 c b s2 d, BlkAt W B 33 #[.bool ng, .slice a s1 c, .slice b s2 d] ∧ RefE W q ng a s1 c b s2 d
theorem RefBox.lt {W : World} {B : Nat} {q : Rat} (h : RefBox W B q) : B < W.heap.size := by
  obtain ⟨_, _, _, _, _, _, _, h1, -⟩ := h
  exact h1.lt
theorem RefBox.below {W W' : World} {B : Nat} {q : Rat} (h : RefBox W B q) (hB : Below W.heap.size W W') : RefBox W' B q := by
  obtain ⟨ng, a, s1, c, b, s2, d, h1, h2⟩ := h
  exact ⟨ng, a, s1, c, b, s2, d, h1.below hB h1.lt, h2.below hB⟩
theorem RefBox.keep {W W' : World} {B : Nat} {q : Rat} (h : RefBox W B q) (hk : KeepT 3 W W') (hb : W'.heap[B]? = W.heap[B]?) : RefBox W' B q := by
  obtain ⟨ng, a, s1, c, b, s2, d, h1, h2⟩ := h
  exact ⟨ng, a, s1, c, b, s2, d, hb.trans h1, h2.keep hk⟩
/-- A box takes a fraction. -/
abbrev put3 (W : World) (g : Nat) (x0 x1 x2 : Value) : World := ((W.setCell ⟨g, 0, none⟩ x0).setCell ⟨g, 1, none⟩ x1).setCell ⟨g, 2, none⟩ x2
theorem put3_ne {W : World} {g k : Nat} {x0 x1 x2 : Value} (h : k ≠ g) : (put3 W g x0 x1 x2).heap[k]? = W.heap[k]? :=
  (Below.heap_setCell _ ⟨g, 2, none⟩ x2 k h).trans ((Below.heap_setCell _ ⟨g, 1, none⟩ x1 k h).trans (Below.heap_setCell _ ⟨g, 0, none⟩ x0 k h))
theorem put3_at {W : World} {g : Nat} {x0 x1 x2 y0 y1 y2 : Value} (h : BlkAt W g 33 #[y0, y1, y2]) : BlkAt (put3 W g x0 x1 x2) g 33 #[x0, x1, x2] := ((h.set 0 x0).set 1 x1).set 2 x2
theorem put3_keep {W : World} {g : Nat} {x0 x1 x2 : Value} {cs : Array Value} {e : TypeId} (he : e ≠ 33) (h : BlkAt W g 33 cs) : KeepT e W (put3 W g x0 x1 x2) := fun k cur h1 => by
  have hne : k ≠ g := fun e' => by
    subst e'
    rw [show W.heap[k]? = _ from h] at h1
    cases h1
    exact he rfl
  exact (put3_ne hne).trans h1
theorem put3_size {W : World} {g : Nat} {x0 x1 x2 : Value} : (put3 W g x0 x1 x2).heap.size = W.heap.size := by simp [put3, World.size_setCell]
theorem put3_below {w W : World} {base g : Nat} {x0 x1 x2 : Value} (h : Below base w W) (hg : base ≤ g) : Below base w (put3 W g x0 x1 x2) :=
  ((h.setCell (p := ⟨g, 0, none⟩) hg _).setCell (p := ⟨g, 1, none⟩) hg _).setCell (p := ⟨g, 2, none⟩) hg _
theorem RefBox.put {W : World} {g : Nat} {q : Rat} {ng : Bool} {a b : Option Addr} {s1 c s2 d : Nat} {y0 y1 y2 : Value} (h : BlkAt W g 33 #[y0, y1, y2]) (hE : RefE W q ng a s1 c b s2 d) : RefBox (put3 W g (.bool ng) (.slice a s1 c) (.slice b s2 d)) g q :=
  ⟨ng, a, s1, c, b, s2, d, put3_at h, hE.keep (put3_keep (by decide) h)⟩
theorem RefBox.far {W : World} {B g : Nat} {q : Rat} {x0 x1 x2 : Value} {cs : Array Value} (h : RefBox W B q) (hne : B ≠ g) (hg : BlkAt W g 33 cs) : RefBox (put3 W g x0 x1 x2) B q :=
  h.keep (put3_keep (by decide) hg) (put3_ne hne)
theorem flatF : ∀ (rs : List RefC) (i j : Nat), j < 3 → (rs.flatMap cellsF)[i * 3 + j]? = (rs[i]?).bind fun r => (cellsF r)[j]?
  | [], i, j, _ => by simp
  | r :: rs, 0, j, hj => by
    rw [List.flatMap_cons, List.getElem?_append_left (by rw [cellsF_len]; omega), Nat.zero_mul, Nat.zero_add]
    rfl
  | r :: rs, i + 1, j, hj => by
    rw [List.flatMap_cons, List.getElem?_append_right (by rw [cellsF_len]; omega), cellsF_len, show (i + 1) * 3 + j - 3 = i * 3 + j by omega, flatF rs i j hj]
    rfl
theorem flatF_len (rs : List RefC) : (rs.flatMap cellsF).length = rs.length * 3 := by
  induction rs with
  | nil => rfl
  | cons r rs ih => rw [List.flatMap_cons, List.length_append, cellsF_len, ih, List.length_cons]; omega
theorem RefRow.form {W : World} {base : Nat} {v : Value} {qs : List Rat} (h : RefRow W base v qs) (h0 : 0 < qs.length) : ∃ g c, v = .slice (some ⟨g, 0, none⟩) qs.length c ∧ base ≤ g ∧ g < W.heap.size ∧ qs.length ≤ c := by
  obtain ⟨rs, rfl, ho, -⟩ := h
  rw [List.length_map] at h0 ⊢
  rcases ho.2 with ⟨_, h1⟩ | ⟨g, cap, cur, rfl, hb, hg, h1, _⟩
  · omega
  · exact ⟨g, cap, rfl, hb, (Array.getElem?_eq_some_iff.1 hg).1, h1⟩
theorem RefRow.slice {W : World} {base : Nat} {v : Value} {qs : List Rat} (h : RefRow W base v qs) : ∃ a c, v = .slice a qs.length c := by
  obtain ⟨rs, rfl, ho, -⟩ := h
  rw [List.length_map]
  exact ownsRow_slice' ho
/-- What lies at a place of a row. -/
theorem RefRow.at {W : World} {base g n c i : Nat} {qs : List Rat} (h : RefRow W base (.slice (some ⟨g, 0, none⟩) n c) qs) (hi : i < qs.length) :
    ∃ ng a s1 c' b s2 d, W.cell? ⟨g, i * 3, none⟩ = some (.bool ng) ∧ W.cell? ⟨g, i * 3 + 1, none⟩ = some (.slice a s1 c') ∧ W.cell? ⟨g, i * 3 + 2, none⟩ = some (.slice b s2 d) ∧ RefE W (qs.getD i 0) ng a s1 c' b s2 d := by
  obtain ⟨rs, rfl, ho, hin⟩ := h
  rw [List.length_map] at hi
  obtain ⟨r, hr⟩ : ∃ r, rs[i] = r := ⟨_, rfl⟩
  have hq : (rs.map (·.q)).getD i 0 = r.q := by rw [List.getD, List.getElem?_map, List.getElem?_eq_getElem hi, hr]; rfl
  rw [hq]
  have hc : ∀ j u, j < 3 → (cellsF r)[j]? = some u → W.cell? ⟨g, i * 3 + j, none⟩ = some u := fun j u hj hu => by
    have := ho.cells (g := g) rfl (i * 3 + j) u (by rw [flatF rs i j hj, List.getElem?_eq_getElem hi, hr]; exact hu)
    have hadd : (⟨g, 0, none⟩ : Addr).add (i * 3 + j) = ⟨g, i * 3 + j, none⟩ := by unfold Addr.add; split <;> simp_all
    rwa [hadd] at this
  obtain ⟨q, a, c', b, d⟩ := r
  exact ⟨_, a, _, c', b, _, d, hc 0 _ (by omega) rfl, hc 1 _ (by omega) rfl, hc 2 _ (by omega) rfl, rfl, rfl, rfl, hin _ (by rw [← hr]; exact List.getElem_mem hi)⟩
/-- A row of cells of fractions of the call's own. -/
def OwnF (W : World) (base : Nat) (v : Value) (rs : List RefC) : Prop := W.ownsRow base 33 3 v rs.length (rs.flatMap cellsF)
/-- A slice of fractions as it lies. -/
def RefX (W : World) (xv : Value) (rs : List RefC) : Prop := (∃ ad c, xv = .slice (some ad) rs.length c ∧ ∀ j u, (rs.flatMap cellsF)[j]? = some u → W.cell? (ad.add j) = some u ∧ (ad.add j).block < W.heap.size) ∨ (xv = .slice none 0 0 ∧ rs = [])
theorem RefX.below {W W' : World} {xv : Value} {rs : List RefC} (h : RefX W xv rs) (hB : Below W.heap.size W W') : RefX W' xv rs := by
  rcases h with ⟨ad, c, rfl, h⟩ | h
  · exact .inl ⟨ad, c, rfl, fun j u hu => ⟨(hB.cell (p := ad.add j) (h j u hu).2).trans (h j u hu).1, Nat.lt_of_lt_of_le (h j u hu).2 hB.size⟩⟩
  · exact .inr h
theorem cellsF_one (rs : List RefC) : ∀ u ∈ rs.flatMap cellsF, u.oneCell' = true := fun u hu => by
  obtain ⟨r, _, hu⟩ := List.mem_flatMap.1 hu
  simp [cellsF] at hu
  rcases hu with rfl | rfl | rfl <;> rfl
theorem OwnF.nil (W : World) (base : Nat) : OwnF W base (.slice none 0 0) [] := World.ownsRow_nil _ _ _ _
theorem infoF : (Tryz.prog.info? 33).map (fun i => (i.zero, i.size, i.bytes)) = some (some (.agg #[.bool false, .slice none 0 0, .slice none 0 0]), 3, 56) := by kernel_rfl
/-- An append of a slice of fractions onto one's own. -/
theorem run_appF (w : World) (base : Nat) (v xv : Value) (l ys : List RefC) (hv : OwnF w base v l) (hx : RefX w xv ys) (hlen : l.length + ys.length ≤ 1000000) (hbase : base ≤ w.heap.size) :
    ∃ v' w', (Builtin.append_ #[69, 69] 69 #[v, xv]).run Tryz.prog w = .ok v' w' ∧ OwnF w' base v' (l ++ ys) ∧ w.grownBy w' v.ownBlock := by
  obtain ⟨i0, hi, hz0, hz1, hz2⟩ := info_parts infoF
  rcases hx with ⟨ad, c, rfl, h⟩ | ⟨rfl, rfl⟩
  · obtain ⟨v', w', hr, h2, h3, _, _⟩ := run_append_own_at (P := Tryz.prog) w base 69 69 33 i0 _ 3 56 Tryz.underlying69 hi hz0 hz1 hz2 rfl (by decide) v l.length _ hv ad ys.length c (ys.flatMap cellsF) (flatF_len ys)
      (fun j u hu => (h j u hu).1) (cellsF_one ys) (by unfold maxLen; omega) (by omega) hbase
    refine ⟨v', w', hr, ?_, h3⟩
    unfold OwnF
    rw [List.length_append, List.flatMap_append]
    exact h2
  · refine ⟨v, w, ?_, by rw [List.append_nil]; exact hv, World.grownBy.refl w _⟩
    obtain ⟨b, n, c, rfl, hnc⟩ : ∃ b n c, v = .slice b n c ∧ n ≤ c := by
      rcases hv.2 with ⟨rfl, h0⟩ | ⟨g, cap, cur, rfl, hb, hg, h1, -⟩
      · exact ⟨none, 0, 0, rfl, Nat.le_refl _⟩
      · exact ⟨_, _, _, rfl, h1⟩
    exact run_append_nothing (P := Tryz.prog) w _ _ _ _ i0 Tryz.underlying69 hi b n c hnc _ (by
      refine ⟨.inl ⟨_, Tryz.underlying69⟩, fun w' => ?_, ?_, ?_, by simp, fun u hu => by cases hu⟩
      · simp [Builtin.lenOf]
      · rw [hz1]; simp [Builtin.firstCells]
      · rw [hz1]; simp [Builtin.firstCells])
/-- At a step of a region that draws. -/
theorem step_appF {w : World} {ops : Array Oper} {o : Oper} {a : Act} {K : Act → World → Prop} {Q : Exit → Act → World → Prop} {E : Prop} (hgd : o.guard = none) (s x : Operand)
    (ho : o.op = .call { callee := .builtin .append, args := #[s, x], argTypes := #[69, 69] }) (hty : o.type = 69)
    (base : Nat) (v xv : Value) (l ys : List RefC) (hs : a.eval s = v) (hxe : a.eval x = xv) (hv : OwnF w base v l) (hx : RefX w xv ys) (hlen : l.length + ys.length ≤ 1000000) (hbase : base ≤ w.heap.size)
    (h : ∀ v' w', OwnF w' base v' (l ++ ys) → Below base w w' → w.grownBy w' v.ownBlock → K (a.put o.dst v') w') :
    if Region.wanted o (yielded ops a.tmps) = true then Oper.wp Tryz.prog o a w K Q else E := by
  have hw : Region.wanted o (yielded ops a.tmps) = true := by simp [Region.wanted, hgd]
  rw [if_pos hw]
  obtain ⟨v', w', hr, h2, h3⟩ := run_appF w base v xv l ys hv hx hlen hbase
  unfold Oper.wp execOp
  simp only [ho, hty, resolve, invoke, builtin, Sem.run_bind, Sem.run_pure, Result.andThen_ok, List.map_toArray, List.map_cons, List.map_nil, hs, hxe, hr]
  exact h v' w' h2 ((Below.refl base w).grown h3 hbase fun k e => (hv.lt k e).1) h3
end Go.Proofs.YtjcpfmndkeiegaaGreatDoor.Rf
namespace Go.Proofs.YtjcpfmndkeiegaaGreatDoor.Rf
open Go.RowKit Go.Proofs.YtjcpfmndkeiegaaGreatDoor
set_option linter.unusedVariables false

theorem slF : SlT Tryz.prog 69 33 3 56 := SlT.mk Tryz.underlying69 (z := .agg #[.bool false, .slice none 0 0, .slice none 0 0]) (by kernel_rfl) rfl (by decide) (by decide)
theorem parseV10 (s : ByteArray) : szN (numQ (parseRQ s.data.toList)) ≤ 1200 ∧ szN (parseRQ s.data.toList).den ≤ 1200 := by
  generalize s.data.toList = l
  unfold parseRQ
  by_cases h : parseRC l = 0
  · rw [if_pos h]
    unfold valQ
    have hd : parseV (denL l) ≠ 0 := fun hd => by
      unfold parseRC at h
      split at h
      · cases h
      · split at h
        · cases h
        · rw [if_pos (.inl hd)] at h; cases h
    obtain ⟨z1, z2, -⟩ := lowQ_all (neg := negL l) (n := parseV (numL l)) hd
    rw [z1, z2]
    exact ⟨Nat.le_trans (szN_mono (Nat.div_le_self _ _)) (parseV_sz2 _), Nat.le_trans (szN_mono (Nat.div_le_self _ _)) (parseV_sz2 _)⟩
  · rw [if_neg h]
    exact ⟨by rw [num_zero, szN_zero]; omega, Nat.le_trans (szN_small (by decide)) (by decide)⟩
theorem text_of {s : ByteArray} (h : parseRC s.data.toList = 0) : str (textQ (parseRQ s.data.toList)) = .string s := by
  have e : textQ (parseRQ s.data.toList) = s.data.toList := by
    have h' := h
    unfold parseRQ
    rw [if_pos h]
    unfold parseRC at h
    by_cases h1 : parseC (numL s.data.toList) = 3 ∨ parseC (denL s.data.toList) = 3
    · rw [if_pos h1] at h; cases h
    rw [if_neg h1] at h
    by_cases h2 : parseC (numL s.data.toList) ≠ 0 ∨ parseC (denL s.data.toList) ≠ 0
    · rw [if_pos h2] at h; cases h
    rw [if_neg h2] at h
    by_cases h3 : parseV (denL s.data.toList) = 0 ∨ textQ (valQ s.data.toList) ≠ s.data.toList
    · rw [if_pos h3] at h; cases h
    · exact Classical.byContradiction fun e => h3 (.inr e)
  show Value.string ⟨(textQ (parseRQ s.data.toList)).toArray⟩ = _
  rw [e]
theorem slT : SlT Tryz.prog 22 9 1 16 := SlT.mk Tryz.underlying22 (z := .string ⟨#[]⟩) (by kernel_rfl) rfl (by decide) (by decide)
theorem RefRow.keep {w w' : World} {base : Nat} {v : Value} {qs : List Rat} (h : RefRow w base v qs) (k1 : KeepT 33 w w') (k2 : KeepT 3 w w') : RefRow w' base v qs := by
  obtain ⟨rs, h1, h2, h3⟩ := h
  exact ⟨rs, h1, k1.owns h2, fun r hr => (h3 r hr).keep k2⟩
theorem keepT_alloc (e : TypeId) (w : World) (o : Obj) : KeepT e w (w.alloc o) := KeepT.of_below ((Below.refl _ w).alloc (Nat.le_refl _) o)
/-- Behind the two appends of a round. -/
theorem jn_push {base k : Nat} {w5 w6 w7 : World} {tx v6 v7 l : Value} {t : ByteArray} {ts : List ByteArray} {rs : List RefC} {r : RefC}
    (htx : w5.ownsRow base 9 1 tx k (ts.map sv)) (hl : w5.ownsRow base 33 3 l k (rs.flatMap cellsF)) (hrl : rs.length = k) (htl : ts.length = k)
    (hin : ∀ x ∈ rs, RefIn w5 x) (hr : RefIn w5 r)
    (ho6 : w6.ownsRow base 9 1 v6 (k + 1) (ts.map sv ++ [.string t])) (hg6 : (w5.alloc (.cells #[.string t] 9)).grownBy w6 tx.ownBlock)
    (ho7 : w7.ownsRow base 33 3 v7 (k + 1) (rs.flatMap cellsF ++ cellsF r)) (hg7 : (w6.alloc (.cells (cellsF r).toArray 33)).grownBy w7 l.ownBlock) :
    StrRow w7 base v6 (ts ++ [t]) ∧ RefRow w7 base v7 (rs.map (·.q) ++ [r.q]) := by
  have k56 : ∀ e : TypeId, e ≠ 9 → KeepT e w5 w6 := fun e he => (keepT_alloc e w5 _).trans (KeepT.grown (htx.alloc _) he hg6)
  have hl6 := (k56 33 (by decide)).owns hl
  have k67 : ∀ e : TypeId, e ≠ 33 → KeepT e w6 w7 := fun e he => (keepT_alloc e w6 _).trans (KeepT.grown (hl6.alloc _) he hg7)
  have ki : KeepT 3 w5 w7 := (k56 _ (by decide)).trans (k67 _ (by decide))
  refine ⟨?_, rs ++ [r], by simp, ?_, fun x hx => ?_⟩
  · unfold StrRow
    rw [List.length_append, htl, List.map_append]
    exact (k67 9 (by decide)).owns ho6
  · rw [List.length_append, hrl, List.flatMap_append]
    simpa using ho7
  · rcases List.mem_append.1 hx with hx | hx
    · exact (hin x hx).keep ki
    · obtain rfl : x = r := by simpa using hx
      exact hr.keep ki
/-- A slice's texts as they lie, in a block of texts. -/
def RdT (w : World) (a : Option Addr) (l : List ByteArray) : Prop := ∀ i (h : i < l.length), ∃ x cur, a = some x ∧ w.heap[x.block]? = some (.cells cur 9 (0, 0)) ∧ w.cell? (x.add i) = some (.string l[i])
theorem RdT.rd {w : World} {a : Option Addr} {l : List ByteArray} (h : RdT w a l) : RdS w a l := fun i hi => by
  obtain ⟨x, cur, h1, h2, h3⟩ := h i hi
  exact ⟨x, h1, (Array.getElem?_eq_some_iff.1 h2).1, h3⟩
theorem RdT.own {w : World} {base n c : Nat} {vb : Option Addr} {l : List ByteArray} (h : StrRow w base (.slice vb n c) l) : RdT w vb l := fun i hi => by
  obtain ⟨x, h1, h2, h3⟩ := rdS_own h i hi
  subst h1
  obtain ⟨g, cap, he, hb, hlt⟩ := World.ownsRow.form h (by omega)
  simp only [Value.slice.injEq, Option.some.injEq] at he
  obtain ⟨rfl, rfl, rfl⟩ := he
  obtain ⟨cur, hc, _⟩ := own_at h (g := g) rfl
  exact ⟨_, cur, rfl, hc, h3⟩
theorem RdT.blk {w : World} {g : Nat} {l : List ByteArray} (h : BlkAt w g 9 (l.map sv).toArray) : RdT w (some ⟨g, 0, none⟩) l := fun i hi => by
  obtain ⟨x, h1, h2, h3⟩ := RdS.blk h i hi
  cases h1
  exact ⟨_, _, rfl, h, h3⟩
theorem RdT.take {w : World} {x : Addr} {l : List ByteArray} (h : RdT w (some x) l) (k : Nat) : RdT w (some x) (l.take k) := fun i hi => by
  rw [List.length_take] at hi
  obtain ⟨y, cur, h1, h2, h3⟩ := h i (by omega)
  exact ⟨y, cur, h1, h2, by rw [h3, List.getElem_take]⟩
theorem RdT.drop {w : World} {x : Addr} {l : List ByteArray} (h : RdT w (some x) l) (k : Nat) : RdT w (some (x.add k)) (l.drop k) := fun i hi => by
  rw [List.length_drop] at hi
  obtain ⟨y, cur, h1, h2, h3⟩ := h (k + i) (by omega)
  cases h1
  refine ⟨_, cur, rfl, by rw [Go.Proofs.YtjcpfmndkeiegaaGreatDoor.add_block]; exact h2, ?_⟩
  rw [Addr.add_add, h3, List.getElem_drop]
/-- A slice of texts is told. -/
def TellS (w w' : World) (e : Ending) (l : List ByteArray) : Prop := ∃ v c, e = .returned (.slice v l.length c) ∧ RdT w' v l ∧ Below w.heap.size w w'
theorem no_end {w wr : World} {l : List ByteArray} (h : BlkAt wr w.heap.size 9 #[.string ⟨#[]⟩]) (hl : l = [⟨#[]⟩]) (hB : Below w.heap.size w wr) : TellS w wr (.returned (.slice (some ⟨w.heap.size, 0, none⟩) 1 1)) l := by
  subst hl
  exact ⟨_, _, rfl, RdT.blk h, hB⟩
theorem int_zero (W : World) : Calls Tryz.prog 26 #[.int .i64 0] W fun e w' => ∃ v, e = .returned v ∧ RefAt w' v 0 ∧ Below W.heap.size W w' := by
  have h := refInt_any (n := 0) (by decide) W
  refine h.mono ?_
  rintro e w' ⟨v, rfl, hv, hB⟩
  exact ⟨v, rfl, by simpa using hv.at, hB⟩
theorem int_one (W : World) : Calls Tryz.prog 26 #[.int .i64 1] W fun e w' => ∃ v, e = .returned v ∧ RefAt w' v 1 ∧ Below W.heap.size W w' := by
  have h := refInt_any (n := 1) (by decide) W
  refine h.mono ?_
  rintro e w' ⟨v, rfl, hv, hB⟩
  exact ⟨v, rfl, by simpa using hv.at, hB⟩
theorem int_two (W : World) : Calls Tryz.prog 26 #[.int .i64 2] W fun e w' => ∃ v, e = .returned v ∧ RefAt w' v 2 ∧ Below W.heap.size W w' := by
  have h := refInt_any (n := 2) (by decide) W
  refine h.mono ?_
  rintro e w' ⟨v, rfl, hv, hB⟩
  exact ⟨v, rfl, by simpa using hv.at, hB⟩
theorem jn_two {w4 W5 : World} (h : (w4.alloc ref0).alloc ref0 = W5) : BlkAt W5 w4.heap.size 33 #[.bool false, .slice none 0 0, .slice none 0 0] ∧ BlkAt W5 (w4.heap.size + 1) 33 #[.bool false, .slice none 0 0, .slice none 0 0] ∧ Below w4.heap.size w4 W5 := by
  subst h
  refine ⟨(BlkAt.new w4 _ _).alloc _, ?_, ((Below.refl _ w4).alloc (Nat.le_refl _) _).alloc (by simp) _⟩
  have := BlkAt.new (w4.alloc ref0) 33 #[.bool false, .slice none 0 0, .slice none 0 0]
  rwa [World.size_alloc] at this
/-- The second loop. -/
def J2 (wq : World) (Bs : Nat) (qs : List Rat) (ws : List ByteArray) (ov pv : Value) (W : World) : Prop :=
  ∃ i : Nat, pv = .int .i64 (i : Nat) ∧ i ≤ qs.length ∧ RefBox W Bs (wSum qs ws i) ∧ RefBox W (Bs + 1) (wAll ws i) ∧ RefRow W (Bs + 2) ov (insAll (qs.take i)) ∧ Below wq.heap.size wq W ∧ (wq.heap.size ≤ Bs ∧ Bs + 2 ≤ W.heap.size)
theorem jn2_start {wq w4 W5 : World} {me : Int} {ws : List ByteArray} (qs : List Rat) {ng3 ng4 : Bool} {a3 b3 a4 b4 : Option Addr} {s3 c3 t3 d3 s4 c4 t4 d4 : Nat} (hs : BlkAt W5 w4.heap.size 33 #[.bool false, .slice none 0 0, .slice none 0 0]) (ha : BlkAt W5 (w4.heap.size + 1) 33 #[.bool false, .slice none 0 0, .slice none 0 0])
    (h3 : RefE W5 0 ng3 a3 s3 c3 b3 t3 d3) (h4 : RefE W5 0 ng4 a4 s4 c4 b4 t4 d4) (hB : Below wq.heap.size wq W5) (hz : wq.heap.size ≤ w4.heap.size) :
    J2 wq w4.heap.size qs (mW me ws) (.slice none 0 0) (.int .i64 0) (put3 (put3 W5 w4.heap.size (.bool ng3) (.slice a3 s3 c3) (.slice b3 t3 d3)) (w4.heap.size + 1) (.bool ng4) (.slice a4 s4 c4) (.slice b4 t4 d4)) := by
  have h1 : RefBox (put3 W5 w4.heap.size (.bool ng3) (.slice a3 s3 c3) (.slice b3 t3 d3)) w4.heap.size 0 := RefBox.put hs h3
  have ha1 : BlkAt (put3 W5 w4.heap.size (.bool ng3) (.slice a3 s3 c3) (.slice b3 t3 d3)) (w4.heap.size + 1) 33 #[.bool false, .slice none 0 0, .slice none 0 0] := (put3_ne (by omega)).trans ha
  refine ⟨0, rfl, Nat.zero_le _, h1.far (by omega) ha1, RefBox.put ha1 (h4.keep (put3_keep (by decide) hs)), RefRow.nil _ _, put3_below (put3_below hB hz) (by omega), hz, ?_⟩
  rw [put3_size, put3_size]
  exact ha.lt
theorem jn_sum {wr wv w6 : World} {Bs : Nat} {q : Rat} {x0 x1 x2 : Value} {ng : Bool} {a b : Option Addr} {s c t d : Nat} (hk : BlkAt wv Bs 33 #[x0, x1, x2]) (hB : Below wv.heap.size wv w6) (hE : RefE w6 q ng a s c b t d) (hBr : Below wr.heap.size wr wv) (hz : wr.heap.size ≤ Bs) :
    RefBox (put3 w6 Bs (.bool ng) (.slice a s c) (.slice b t d)) Bs q ∧ KeepT 3 wv (put3 w6 Bs (.bool ng) (.slice a s c) (.slice b t d)) ∧ (∀ g, g ≠ Bs → g < wv.heap.size → (put3 w6 Bs (.bool ng) (.slice a s c) (.slice b t d)).heap[g]? = wv.heap[g]?) ∧ Below wr.heap.size wr (put3 w6 Bs (.bool ng) (.slice a s c) (.slice b t d)) := by
  have hk6 := hk.below hB hk.lt
  exact ⟨RefBox.put hk6 hE, (KeepT.of_below hB).trans (put3_keep (by decide) hk6), fun g hg hg2 => (put3_ne hg).trans (hB.block g hg2), put3_below (hBr.trans (hB.mono hBr.size)) hz⟩
theorem jn_all {wr wv w6 : World} {Bs : Nat} {q : Rat} {x0 x1 x2 : Value} {ng : Bool} {a b : Option Addr} {s c t d : Nat} (hk : BlkAt wv Bs 33 #[x0, x1, x2]) (hB : Below wv.heap.size wv w6) (hE : RefE w6 q ng a s c b t d) (hBr : Below wr.heap.size wr wv) (hz : wr.heap.size ≤ Bs) :
    RefBox (put3 w6 Bs (.bool ng) (.slice a s c) (.slice b t d)) Bs q ∧ KeepT 3 wv (put3 w6 Bs (.bool ng) (.slice a s c) (.slice b t d)) ∧ (∀ g, g ≠ Bs → g < wv.heap.size → (put3 w6 Bs (.bool ng) (.slice a s c) (.slice b t d)).heap[g]? = wv.heap[g]?) ∧ Below wr.heap.size wr (put3 w6 Bs (.bool ng) (.slice a s c) (.slice b t d)) := jn_sum hk hB hE hBr hz
theorem take_wee {qs : List Rat} (h : ∀ q ∈ qs, weeQ q) (i : Nat) : ∀ q ∈ qs.take i, weeQ q := fun q hq => h q (List.mem_of_mem_take hq)
theorem RefRow.far {W W' : World} {base : Nat} {v : Value} {qs : List Rat} (h : RefRow W base v qs) (hk : KeepT 3 W W') (hb : ∀ g, base ≤ g → g < W.heap.size → W'.heap[g]? = W.heap[g]?) : RefRow W' base v qs := by
  obtain ⟨rs, h1, h2, h3⟩ := h
  exact ⟨rs, h1, own_keep h2 (fun g hg => hb g (own_at h2 hg).choose_spec.2 (own_lt h2 hg)), fun r hr => (h3 r hr).keep hk⟩
theorem jn2_next {wr W9 wz w3 : World} {Bs i kk : Nat} {qs : List Rat} {ws' : List ByteArray} {ors : List RefC} {rl : RefC} {v3 ov : Value} (hi : i < qs.length)
    (HJ : RefBox W9 Bs (wSum qs ws' (i + 1)) ∧ RefBox W9 (Bs + 1) (wAll ws' (i + 1)) ∧ RefRow W9 (Bs + 2) ov (insAll (qs.take i)) ∧ Below wr.heap.size wr W9) (hBz : Below W9.heap.size W9 wz) (hB3 : Below wz.heap.size wz w3) (hz : wr.heap.size ≤ Bs)
    (horq : ors.map (·.q) = insAll (qs.take i)) (hoi : ∀ r ∈ ors, RefIn wz r) (hrl : RefIn wz rl) (hrq : rl.q = qs.getD i 0) (hins : insQ (qs.getD i 0) (insAll (qs.take i)) = (insAll (qs.take i)).take kk ++ qs.getD i 0 :: (insAll (qs.take i)).drop kk)
    (ho : OwnF w3 wz.heap.size v3 (ors.take kk ++ [rl] ++ ors.drop kk)) : J2 wr Bs qs ws' v3 (.int .i64 ((i : Int) + 1)) w3 := by
  obtain ⟨h1, h2, h3, h4⟩ := HJ
  have hB9 : Below W9.heap.size W9 w3 := hBz.trans (hB3.mono hBz.size)
  have hlt := h2.lt
  have hq : qs.take (i + 1) = qs.take i ++ [qs.getD i 0] := by
    rw [List.take_add_one, List.getD, List.getElem?_eq_getElem hi]; rfl
  refine ⟨i + 1, by go_num, hi, h1.below hB9, h2.below hB9, ⟨ors.take kk ++ [rl] ++ ors.drop kk, ?_, ?_, fun r hr => ?_⟩, h4.trans (hB9.mono h4.size), hz, by have := hB9.size; omega⟩
  · rw [hq, insAll_snoc, hins, List.map_append, List.map_append, List.map_take, List.map_drop, horq, List.map_singleton, hrq, List.append_assoc]
    rfl
  · exact ownsRow_mono ho (by have := hBz.size; omega)
  · have hk := KeepT.of_below (e := 3) hB3
    rcases List.mem_append.1 hr with hr | hr
    · rcases List.mem_append.1 hr with hr | hr
      · exact (hoi r (List.mem_of_mem_take hr)).keep hk
      · obtain rfl : r = rl := by simpa using hr
        exact hrl.keep hk
    · exact (hoi r (List.mem_of_mem_drop hr)).keep hk
theorem OwnF.slice {w : World} {base : Nat} {v : Value} {l : List RefC} (h : OwnF w base v l) {n : Nat} (hl : l.length = n) : ∃ a c, v = .slice a n c := by
  subst hl
  exact ownsRow_slice' h
theorem refX_blk {w : World} {g : Nat} {r : RefC} {x0 x1 x2 : Value} (h : BlkAt w g 33 #[x0, x1, x2]) (hr : cellsF r = [x0, x1, x2]) : RefX w (.slice (some ⟨g, 0, none⟩) 1 1) [r] :=
  .inl ⟨⟨g, 0, none⟩, 1, rfl, fun j u hu => ⟨by
    have e : [r].flatMap cellsF = [x0, x1, x2] := by simp [hr]
    rw [e] at hu
    have hadd : (⟨g, 0, none⟩ : Addr).add j = ⟨g, j, none⟩ := by unfold Addr.add; split <;> simp_all
    rw [hadd, h.cell j, ← hu]
    simp, by rw [add_block]; exact h.lt⟩⟩
theorem refX_row {w : World} {base i oc kk : Nat} {oa : Option Addr} {ors : List RefC} (h : OwnF w base (.slice oa i oc) ors) (hl : ors.length = i) (hk : kk ≤ i) :
    i ≤ oc ∧ RefX w (.slice oa kk oc) (ors.take kk) ∧ RefX w (.slice (if oc = kk then oa else oa.map fun x => x.add (kk * 3)) (i - kk) (oc - kk)) (ors.drop kk) := by
  unfold OwnF at h
  have hlt := h.lt
  rcases h.2 with ⟨h0, h1⟩ | ⟨g, cap, cur, hv, hb, hg, h1, h2, h3, h4⟩
  · simp only [Value.slice.injEq] at h0
    obtain ⟨rfl, rfl, rfl⟩ := h0
    obtain rfl : kk = 0 := by omega
    obtain rfl : ors = [] := List.eq_nil_of_length_eq_zero hl
    exact ⟨Nat.le_refl _, .inr ⟨rfl, rfl⟩, .inr ⟨rfl, rfl⟩⟩
  · simp only [Value.slice.injEq] at hv
    obtain ⟨rfl, _, rfl⟩ := hv
    have hgl : g < w.heap.size := (Array.getElem?_eq_some_iff.1 hg).1
    refine ⟨by omega, .inl ⟨⟨g, 0, none⟩, oc, by rw [List.length_take, hl, Nat.min_eq_left hk], fun j u hu => ?_⟩, ?_⟩
    · refine ⟨h.cells (g := g) rfl j u ?_, by rw [add_block]; exact hgl⟩
      have hj : j < kk * 3 := by
        have := (List.getElem?_eq_some_iff.1 hu).1
        rw [flatF_len, List.length_take] at this
        omega
      have e : ors.flatMap cellsF = (ors.take kk).flatMap cellsF ++ (ors.drop kk).flatMap cellsF := by rw [← List.flatMap_append, List.take_append_drop]
      rw [e, List.getElem?_append_left (by rw [flatF_len, List.length_take, hl, Nat.min_eq_left hk]; exact hj)]
      exact hu
    · by_cases hoc : oc = kk
      · rw [if_pos hoc]
        have e0 : ors.drop kk = [] := List.drop_eq_nil_of_le (by omega)
        exact .inl ⟨⟨g, 0, none⟩, _, by rw [List.length_drop, hl], fun j u hu => by rw [e0] at hu; cases hu⟩
      rw [if_neg hoc, show (some (⟨g, 0, none⟩ : Addr)).map (fun x => x.add (kk * 3)) = some ⟨g, kk * 3, none⟩ by
        show some _ = _
        unfold Addr.add
        split <;> simp_all]
      refine .inl ⟨⟨g, kk * 3, none⟩, _, by rw [List.length_drop, hl], fun j u hu => ?_⟩
      have e : ors.flatMap cellsF = (ors.take kk).flatMap cellsF ++ (ors.drop kk).flatMap cellsF := by rw [← List.flatMap_append, List.take_append_drop]
      have hL : ((ors.take kk).flatMap cellsF).length = kk * 3 := by rw [flatF_len, List.length_take, hl, Nat.min_eq_left hk]
      have := h.cells (g := g) rfl (kk * 3 + j) u (by rw [e, List.getElem?_append_right (by rw [hL]; omega), hL, Nat.add_sub_cancel_left]; exact hu)
      refine ⟨?_, by rw [add_block]; exact hgl⟩
      have hadd0 : ∀ o x : Nat, (⟨g, o, none⟩ : Addr).add x = ⟨g, o + x, none⟩ := fun o x => by unfold Addr.add; split <;> simp_all
      have hadd : (⟨g, 0, none⟩ : Addr).add (kk * 3 + j) = (⟨g, kk * 3, none⟩ : Addr).add j := by
        rw [hadd0, hadd0, Nat.zero_add]
      rw [← hadd]
      exact this
theorem tell_one {w w5 : World} {l : List UInt8} {L : List ByteArray} (hB : Below w.heap.size w w5) (hL : L = [⟨l.toArray⟩]) : TellS w (w5.alloc (.cells #[str l] 9)) (.returned (.slice (some ⟨w5.heap.size, 0, none⟩) 1 1)) L := by
  subst hL
  exact ⟨_, _, rfl, RdT.blk (BlkAt.new w5 9 #[str l]), hB.alloc hB.size _⟩
theorem divP_eq {x y : Rat} (h : y ≠ 0) : divP x y = x / y := if_neg h
theorem num12_1 (qs : List Rat) (ws : List ByteArray) : num12 1 qs ws = wSum qs (mW 1 ws) qs.length := by
  unfold num12
  rw [if_neg (by decide), if_neg (by decide), if_neg (by decide), if_neg (by decide)]
theorem num12_23 {m : Int} (hm : m = 2 ∨ m = 3) (qs : List Rat) (ws : List ByteArray) : num12 m qs ws = divP (wSum qs (mW m ws) qs.length) (wAll (mW m ws) qs.length) := by
  unfold num12
  rw [if_pos hm]
theorem num12_4 (qs : List Rat) (ws : List ByteArray) : num12 4 qs ws = divP ((insAll qs).getD ((qs.length - 1) / 2) 0 + (insAll qs).getD (qs.length / 2) 0) 2 := by
  unfold num12
  rw [if_neg (by decide), if_pos rfl]
theorem num12_5 (qs : List Rat) (ws : List ByteArray) : num12 5 qs ws = (insAll qs).getD (qs.length - 1) 0 := by
  unfold num12
  rw [if_neg (by decide), if_neg (by decide), if_pos rfl]
theorem num12_6 (qs : List Rat) (ws : List ByteArray) : num12 6 qs ws = (insAll qs).getD 0 0 := by
  unfold num12
  rw [if_neg (by decide), if_neg (by decide), if_neg (by decide), if_pos rfl]
/-- The first loop. -/
def Jn1 (ns : List ByteArray) (w : World) (l wh tx p : Value) (W : World) : Prop :=
  ∃ k : Nat, p = .int .i64 (k : Nat) ∧ k ≤ ns.length ∧ wh = .bool (decide (0 < ns.length) && (ns.take k).all fun s => decide (parseRC s.data.toList = 0)) ∧ StrRow W w.heap.size tx ((ns.take k).map cleanS) ∧ RefRow W w.heap.size l ((ns.take k).map fun s => parseRQ s.data.toList) ∧ Below w.heap.size w W
theorem jn1_next {ns : List ByteArray} {w w7 : World} {k : Nat} {s t : ByteArray} {q : Rat} {rs : List RefC} {v6 v7 : Value} {wh ok : Bool} (hk : ns[k]? = some s) (hc : cleanS s = t) (hq : parseRQ s.data.toList = q) (hrq : rs.map (·.q) = (ns.take k).map fun s => parseRQ s.data.toList)
    (hp : StrRow w7 w.heap.size v6 (((ns.take k).map cleanS) ++ [t]) ∧ RefRow w7 w.heap.size v7 (rs.map (·.q) ++ [q])) (hw : (decide (0 < ns.length) && (ns.take k).all fun s => decide (parseRC s.data.toList = 0)) = wh) (ho : decide (parseRC s.data.toList = 0) = ok) (hB : Below w.heap.size w w7) (hkl : k < ns.length) :
    Jn1 ns w v7 (.bool (wh && ok)) v6 (.int .i64 ((k : Int) + 1)) w7 := by
  have e : ns.take (k + 1) = ns.take k ++ [s] := by rw [List.take_add_one, hk]; rfl
  refine ⟨k + 1, by go_num, hkl, ?_, ?_, ?_, hB⟩
  · rw [e, List.all_append, ← Bool.and_assoc, hw, ← ho]; simp
  · rw [e, List.map_append, List.map_singleton, hc]; exact hp.1
  · rw [e, List.map_append, List.map_singleton, hq, ← hrq]; exact hp.2
theorem jn_cells {base k B : Nat} {w5 w6 : World} {tx : Value} {ts : List Value} {t : ByteArray} {x0 x1 x2 : Value} (htx : w5.ownsRow base 9 1 tx k ts) (hk : BlkAt w5 B 33 #[x0, x1, x2]) (hg6 : (w5.alloc (.cells #[.string t] 9)).grownBy w6 tx.ownBlock) :
    w6.cell? ⟨B, 0, none⟩ = some x0 ∧ w6.cell? ⟨B, 1, none⟩ = some x1 ∧ w6.cell? ⟨B, 2, none⟩ = some x2 := by
  have h := (hk.alloc (.cells #[.string t] 9)).grown hg6 (fun e => blk_ne htx hk (by decide) e.symm)
  exact ⟨h.cell 0, h.cell 1, h.cell 2⟩
theorem jn_keepL {base k : Nat} {w5 w6 : World} {tx l : Value} {ts xs : List Value} {t : ByteArray} (htx : w5.ownsRow base 9 1 tx k ts) (hl : w5.ownsRow base 33 3 l k xs) (hg6 : (w5.alloc (.cells #[.string t] 9)).grownBy w6 tx.ownBlock) : w6.ownsRow base 33 3 l k xs :=
  ((keepT_alloc 33 w5 _).trans (KeepT.grown (htx.alloc _) (by decide) hg6)).owns hl
set_option maxRecDepth 100000 in
set_option maxHeartbeats 8000000 in
theorem join12_any {w : World} {a b : Option Addr} {n c m d : Nat} {ns ws : List ByteArray} (me : Int) (hr : RdS w a ns) (hn : ns.length = n) (hl : n ≤ 30) (hs : ∀ s ∈ ns, s.size ≤ 100000) (hw : RdS w b ws) (hwl : ws.length = m) (hws : ∀ s ∈ ws, s.size ≤ 100000) :
    Calls Tryz.prog 11 #[.int .i64 me, .slice a n c, .slice b m d] w fun e w' => TellS w w' e (want12 me ns ws) := by
  obtain ⟨W1, hW1⟩ : ∃ W1, w.alloc (.cells #[.string ⟨#[]⟩] 9) = W1 := ⟨_, rfl⟩
  have hB1 : Below w.heap.size w W1 := by rw [← hW1]; exact (Below.refl _ w).alloc (Nat.le_refl _) _
  have HK1 := Lib.hid (show BlkAt W1 w.heap.size 9 #[.string ⟨#[]⟩] by rw [← hW1]; exact BlkAt.new w _ _)
  have HB1 := Lib.hid hB1
  have HR := Lib.hid (hr.below hB1)
  have HN := Lib.hid hn
  have HS := Lib.hid hs
  have HWr := Lib.hid (hw.below hB1)
  have HWl := Lib.hid hwl
  have HWs := Lib.hid hws
  clear hr hn hs hB1 hw hwl hws
  go_enter Tryz.func11, Tryz.ntmps11
  go_wp2
  go_loopw [8, 9, 10, 11] (fun l wh tx p W => Jn1 ns W1 l wh tx p W) (fun l wh tx p W => n - (intOf p).toNat)
  case atStart => exact ⟨0, rfl, Nat.zero_le _, by rw [HN.out]; simp, by simpa using strRow_nil _ _, by simpa using RefRow.nil _ _, Below.refl _ _⟩
  case round =>
    obtain ⟨k, rfl, hk, rfl, htx, hl, hB⟩ := hrel
    rw [HN.out] at hk
    have htl : ((ns.take k).map cleanS).length = k := by rw [List.length_map, List.length_take, HN.out, Nat.min_eq_left hk]
    unfold StrRow at htx
    rw [htl] at htx
    obtain ⟨tb, tc, rfl⟩ := ownsRow_slice' htx
    obtain ⟨rs, hrq, ho, hin⟩ := hl
    have hrl : rs.length = k := by
      have := congrArg List.length hrq
      rw [List.length_map, List.length_map, List.length_take, HN.out, Nat.min_eq_left hk] at this
      exact this
    rw [hrl] at ho
    obtain ⟨lb, lc, rfl⟩ := ownsRow_slice' ho
    have HB := Lib.hid hB
    have HTx := Lib.hid htx
    have HO := Lib.hid ho
    have HRq := Lib.hid hrq
    have HIn := Lib.hid hin
    have HRl := Lib.hid hrl
    have HTl := Lib.hid htl
    obtain ⟨wh, hwh⟩ : ∃ wh, (decide (0 < ns.length) && (ns.take k).all fun s => decide (parseRC s.data.toList = 0)) = wh := ⟨_, rfl⟩
    have HWh := Lib.hid hwh
    rw [hwh]
    clear hB htx ho hrq hin hrl htl hwh
    by_cases hlt : k < n
    · obtain ⟨x, rfl, hxb, hxc⟩ := (HR.out.below HB.out) k (by rw [HN.out]; exact hlt)
      obtain ⟨s, hs⟩ : ∃ s, ns[k]'(by rw [HN.out]; exact hlt) = s := ⟨_, rfl⟩
      rw [hs] at hxc
      have HT := Lib.hid (fun W => tx_any s (HS.out s (by rw [← hs]; exact List.getElem_mem _)) W)
      have HSk := Lib.hid (show ns[k]? = some s by rw [List.getElem?_eq_getElem (by rw [HN.out]; exact hlt), hs])
      clear hs hxb
      by_cases hz : parseRC s.data.toList = 0
      · rw [decide_eq_true hz] at HT
        have HZ := Lib.hid hz
        clear hz
        go_wp2_with fail
        refine (HT.out _).mono ?_
        clear HT
        rintro e w3 ⟨v3, rfl, hN3, hB3⟩
        obtain ⟨q, hq⟩ : ∃ q, parseRQ s.data.toList = q := ⟨_, rfl⟩
        rw [hq] at hN3
        have HQ := Lib.hid hq
        obtain ⟨v1, v2, rfl, hn1, hn2⟩ := hN3
        have hn1' := hn1
        have hn2' := hn2
        obtain ⟨a3, c3, rfl, -⟩ := hn1'
        obtain ⟨b3, d3, rfl, -⟩ := hn2'
        have HI3 := Lib.hid (show RefIn w3 ⟨q, a3, c3, b3, d3⟩ from ⟨hn1.at, hn2.at⟩)
        have HB3 := Lib.hid hB3
        obtain ⟨s1, hs1⟩ : ∃ s1, szN (numQ q) = s1 := ⟨_, rfl⟩
        obtain ⟨s2, hs2⟩ : ∃ s2, szN q.den = s2 := ⟨_, rfl⟩
        obtain ⟨ng, hng⟩ : ∃ ng, negQ q = ng := ⟨_, rfl⟩
        rw [hs1, hs2, hng]
        have HQs := Lib.hid (And.intro hs1 (And.intro hs2 hng))
        have hlen := HRl.out
        obtain ⟨t, ht⟩ : ∃ t, cleanS s = t := ⟨_, rfl⟩
        have HTt := Lib.hid ht
        have hts : t = s := by rw [← ht]; exact if_pos HZ.out
        have HTx3 := Lib.hid (fun (W : World) (hW : Below w3.heap.size w3 W) => (refText_any ((show RefAt w3 (.agg #[.bool ng, .slice a3 s1 c3, .slice b3 s2 d3]) q from ⟨_, _, by rw [← hng], by rw [← hs1]; exact hn1.at, by rw [← hs2]; exact hn2.at⟩).below hW) (by rw [← hq]; exact Nat.le_trans (parseV10 s).1 (by decide)) (by rw [← hq]; exact Nat.le_trans (parseV10 s).2 (by decide))).mono (R' := fun e w' => e = .returned (.string t) ∧ Below W.heap.size W w') (by rintro e w' ⟨rfl, h⟩; exact ⟨by rw [hts, ← hq, text_of HZ.out], h⟩))
        have hA := (Below.refl _ w3).alloc (Nat.le_refl _) (Obj.cells #[.bool ng, .slice a3 s1 c3, .slice b3 s2 d3] 33)
        have hk3 : BlkAt (w3.alloc (Obj.cells #[.bool ng, .slice a3 s1 c3, .slice b3 s2 d3] 33)) w3.heap.size 33 #[.bool ng, .slice a3 s1 c3, .slice b3 s2 d3] := BlkAt.new w3 _ _
        have HA := Lib.hid (And.intro hA hk3)
        clear hq hn1 hn2 hB3 hs1 hs2 hng hts ht hlen hA hk3
        cases wh
        all_goals
          go_wp2_with (first
            | (go_at_call 24; refine (HTx3.out _ HA.out.1).mono ?_; rintro e w5 ⟨rfl, hB5⟩; have h35 : Below w3.heap.size w3 w5 := HA.out.1.trans (hB5.mono HA.out.1.size); have k5 := HA.out.2.below hB5 HA.out.2.lt; have h5 : Below wr.heap.size wr w5 := HB3.out.trans (h35.mono HB3.out.size); clear hB5; have HW5 := Lib.hid (HB.out.trans (h5.mono HB.out.size)); have HT5 := Lib.hid (rowKept HTx.out h5); have HL5 := Lib.hid (rowKept HO.out h5); have HI5 := Lib.hid (fun x hx => (HIn.out x hx).keep (KeepT.of_below h5)); have HR5 := Lib.hid (HI3.out.keep (KeepT.of_below h35)); have HK5 := Lib.hid k5; clear h5 h35 k5)
            | (at_builtin; refine wpList_app _ rfl _ _ _ _ _ _ slT rfl W1.heap.size W1 (HW5.out.alloc HW5.out.size _) (by have := HW5.out.size; rw [World.size_alloc]; omega) _ _ _ rfl (HT5.out.alloc _) ⟨w5.heap.size, 0, none⟩ [.string t] rfl rfl (cell_one_new _ _ _) (by intro u hu; simp at hu; subst hu; rfl) (by omega) ?_; intro v6 w6 ho6 hB6 hb6 hg6; obtain ⟨q0, q1, q2⟩ := jn_cells HT5.out HK5.out hg6; have HO6 := Lib.hid ho6; have HG6 := Lib.hid hg6; have HB6 := Lib.hid hB6; have HL6 := Lib.hid (jn_keepL HT5.out HL5.out hg6); obtain ⟨v6b, v6c, rfl⟩ := ownsRow_slice' ho6; clear ho6 hg6 hB6)
            | (at_builtin; refine wpList_app _ rfl _ _ _ _ _ _ slF rfl W1.heap.size W1 (HB6.out.alloc HB6.out.size _) (by have := HB6.out.size; rw [World.size_alloc]; omega) _ _ _ rfl (HL6.out.alloc _) ⟨w6.heap.size, 0, none⟩ [.bool ng, .slice a3 s1 c3, .slice b3 s2 d3] rfl rfl (news_blk (BlkAt.new w6 33 #[.bool ng, .slice a3 s1 c3, .slice b3 s2 d3])) (by intro u hu; simp at hu; rcases hu with rfl | rfl | rfl <;> rfl) (by omega) ?_; intro v7 w7 ho7 hB7 hb7 hg7; obtain ⟨v7b, v7c, rfl⟩ := ownsRow_slice' ho7; have HO7 := Lib.hid ho7; have HG7 := Lib.hid hg7; have HB7 := Lib.hid hB7; clear ho7 hg7 hB7))
          obtain ⟨rfl, rfl, rfl⟩ := HQs.out
          refine ⟨?_, by simp only [intOf]; omega⟩
          exact jn1_next (ok := true) HSk.out HTt.out HQ.out HRq.out (jn_push HT5.out HL5.out HRl.out HTl.out HI5.out HR5.out HO6.out HG6.out HO7.out HG7.out) HWh.out (decide_eq_true HZ.out) HB7.out (by rw [HN.out]; exact hlt)
      · rw [decide_eq_false hz] at HT
        have HZ := Lib.hid hz
        clear hz
        go_wp2_with fail
        refine (HT.out _).mono ?_
        clear HT
        rintro e w3 ⟨v3, rfl, hN3, hB3⟩
        obtain ⟨q, hq⟩ : ∃ q, parseRQ s.data.toList = q := ⟨_, rfl⟩
        rw [hq] at hN3
        have HQ := Lib.hid hq
        obtain ⟨v1, v2, rfl, hn1, hn2⟩ := hN3
        have hn1' := hn1
        have hn2' := hn2
        obtain ⟨a3, c3, rfl, -⟩ := hn1'
        obtain ⟨b3, d3, rfl, -⟩ := hn2'
        have HI3 := Lib.hid (show RefIn w3 ⟨q, a3, c3, b3, d3⟩ from ⟨hn1.at, hn2.at⟩)
        have HB3 := Lib.hid hB3
        obtain ⟨s1, hs1⟩ : ∃ s1, szN (numQ q) = s1 := ⟨_, rfl⟩
        obtain ⟨s2, hs2⟩ : ∃ s2, szN q.den = s2 := ⟨_, rfl⟩
        obtain ⟨ng, hng⟩ : ∃ ng, negQ q = ng := ⟨_, rfl⟩
        rw [hs1, hs2, hng]
        have HQs := Lib.hid (And.intro hs1 (And.intro hs2 hng))
        have hlen := HRl.out
        obtain ⟨t, ht⟩ : ∃ t, cleanS s = t := ⟨_, rfl⟩
        have HTt := Lib.hid ht
        have hts : t = ⟨#[]⟩ := by rw [← ht]; exact if_neg HZ.out
        have hA := (Below.refl _ w3).alloc (Nat.le_refl _) (Obj.cells #[.bool ng, .slice a3 s1 c3, .slice b3 s2 d3] 33)
        subst hts
        have h35 := hA
        have k5 : BlkAt (w3.alloc (Obj.cells #[.bool ng, .slice a3 s1 c3, .slice b3 s2 d3] 33)) w3.heap.size 33 #[.bool ng, .slice a3 s1 c3, .slice b3 s2 d3] := BlkAt.new w3 _ _
        have h5 : Below wr.heap.size wr (w3.alloc (Obj.cells #[.bool ng, .slice a3 s1 c3, .slice b3 s2 d3] 33)) := HB3.out.trans (h35.mono HB3.out.size)
        have HW5 := Lib.hid (HB.out.trans (h5.mono HB.out.size))
        have HT5 := Lib.hid (rowKept HTx.out h5)
        have HL5 := Lib.hid (rowKept HO.out h5)
        have HI5 := Lib.hid (fun x hx => (HIn.out x hx).keep (KeepT.of_below h5))
        have HR5 := Lib.hid (HI3.out.keep (KeepT.of_below h35))
        have HK5 := Lib.hid k5
        clear h5 h35 k5
        clear hq hn1 hn2 hB3 hs1 hs2 hng ht hlen hA
        cases wh
        all_goals
          go_wp2_with (first
            | (at_builtin; refine wpList_app _ rfl _ _ _ _ _ _ slT rfl W1.heap.size W1 (HW5.out.alloc HW5.out.size _) (by have := HW5.out.size; rw [World.size_alloc]; omega) _ _ _ rfl (HT5.out.alloc _) ⟨w3.heap.size + 1, 0, none⟩ [.string ⟨#[]⟩] rfl rfl (news_blk (two_more w3 (Obj.cells #[.bool ng, .slice a3 s1 c3, .slice b3 s2 d3] 33) 9 #[.string ⟨#[]⟩])) (by intro u hu; simp at hu; subst hu; rfl) (by omega) ?_; intro v6 w6 ho6 hB6 hb6 hg6; obtain ⟨q0, q1, q2⟩ := jn_cells HT5.out HK5.out hg6; have HO6 := Lib.hid ho6; have HG6 := Lib.hid hg6; have HB6 := Lib.hid hB6; have HL6 := Lib.hid (jn_keepL HT5.out HL5.out hg6); obtain ⟨v6b, v6c, rfl⟩ := ownsRow_slice' ho6; clear ho6 hg6 hB6)
            | (at_builtin; refine wpList_app _ rfl _ _ _ _ _ _ slF rfl W1.heap.size W1 (HB6.out.alloc HB6.out.size _) (by have := HB6.out.size; rw [World.size_alloc]; omega) _ _ _ rfl (HL6.out.alloc _) ⟨w6.heap.size, 0, none⟩ [.bool ng, .slice a3 s1 c3, .slice b3 s2 d3] rfl rfl (news_blk (BlkAt.new w6 33 #[.bool ng, .slice a3 s1 c3, .slice b3 s2 d3])) (by intro u hu; simp at hu; rcases hu with rfl | rfl | rfl <;> rfl) (by omega) ?_; intro v7 w7 ho7 hB7 hb7 hg7; obtain ⟨v7b, v7c, rfl⟩ := ownsRow_slice' ho7; have HO7 := Lib.hid ho7; have HG7 := Lib.hid hg7; have HB7 := Lib.hid hB7; clear ho7 hg7 hB7))
          obtain ⟨rfl, rfl, rfl⟩ := HQs.out
          refine ⟨?_, by simp only [intOf]; omega⟩
          exact jn1_next (ok := false) HSk.out HTt.out HQ.out HRq.out (jn_push HT5.out HL5.out HRl.out HTl.out HI5.out HR5.out HO6.out HG6.out HO7.out HG7.out) HWh.out (decide_eq_false HZ.out) HB7.out (by rw [HN.out]; exact hlt)
    · obtain rfl : k = n := by omega
      have htk : ns.take k = ns := List.take_of_length_le (by rw [HN.out]; exact Nat.le_refl _)
      rw [htk] at HTx HRq HTl HWh
      have HStr := Lib.hid (show StrRow wr W1.heap.size (.slice tb k tc) (ns.map cleanS) by unfold StrRow; rw [HTl.out]; exact HTx.out)
      have HRow := Lib.hid (show RefRow wr W1.heap.size (.slice lb k lc) (ns.map fun s => parseRQ s.data.toList) from ⟨rs, HRq.out, by rw [HRl.out]; exact HO.out, HIn.out⟩)
      have HBw := Lib.hid (HB1.out.trans (HB.out.mono HB1.out.size))
      clear htk HR
      by_cases h8 : me = 8
      · subst h8
        go_wp2
        go_ret
        refine ⟨tb, tc, ?_, ?_, HBw.out⟩
        · show _ = Ending.returned (.slice tb (ns.map cleanS).length tc)
          rw [HTl.out]
          rfl
        · exact RdT.own HStr.out
      have b8 : (me == 8) = false := beq_eq_false_iff_ne.2 h8
      have HW8 := Lib.hid h8
      clear h8
      by_cases h7 : me = 7 ∧ 0 < k
      · obtain ⟨rfl, h0⟩ := h7
        have h0I : (0 : Int) < (k : Int) := by omega
        obtain ⟨g, c', hge, hgb, hgl, hgc⟩ := strRow_form HStr.out HTl.out h0
        simp only [Value.slice.injEq, true_and] at hge
        obtain ⟨rfl, rfl⟩ := hge
        have h1c : (1 : Int) ≤ (tc : Int) := by omega
        go_wp2
        go_ret
        refine ⟨some ⟨g, 0, none⟩, tc, ?_, ?_, HBw.out⟩
        · have : (want12 7 ns ws).length = 1 := by
            unfold want12
            rw [if_neg (by decide), if_pos ⟨rfl, by rw [HN.out]; exact h0⟩, List.length_take, List.length_map, HN.out]
            omega
          rw [this]
          rfl
        · have : want12 7 ns ws = (ns.map cleanS).take 1 := by
            unfold want12
            rw [if_neg (by decide), if_pos ⟨rfl, by rw [HN.out]; exact h0⟩]
          rw [this]
          exact (RdT.own HStr.out).take 1
      have b7 : (me == 7) = false ∨ ¬ (0 < k) := by
        by_cases e : me = 7
        · exact .inr (fun h => h7 ⟨e, h⟩)
        · exact .inl (beq_eq_false_iff_ne.2 e)
      have HW7 := Lib.hid h7
      clear h7
      by_cases h9 : me = 9 ∧ 0 < k
      · obtain ⟨rfl, h0⟩ := h9
        have h0I : (0 : Int) < (k : Int) := by omega
        obtain ⟨g, c', hge, hgb, hgl, hgc⟩ := strRow_form HStr.out HTl.out h0
        simp only [Value.slice.injEq, true_and] at hge
        obtain ⟨rfl, rfl⟩ := hge
        obtain ⟨j, rfl⟩ : ∃ j, k = j + 1 := ⟨k - 1, by omega⟩
        have h1c : (j : Int) + 1 ≤ (tc : Int) := by omega
        clear b7
        go_wp2
        go_ret
        have e : want12 9 ns ws = (ns.map cleanS).drop j := by
          unfold want12
          rw [if_neg (by decide), if_neg (fun h => absurd h.1 (by decide)), if_pos ⟨rfl, by rw [HN.out]; exact h0⟩, HN.out]
          rfl
        refine ⟨some ⟨g, j, none⟩, tc - j, ?_, ?_, HBw.out⟩
        · rw [e, List.length_drop, List.length_map, HN.out, show j + 1 - j = 1 by omega]; rfl
        · rw [e]
          have := (RdT.own HStr.out).drop j
          rwa [show (⟨g, 0, none⟩ : Addr).add j = ⟨g, j, none⟩ by unfold Addr.add; split <;> simp_all] at this
      have HW9 := Lib.hid h9
      have b9 : (me == 9) = false ∨ ¬ (0 < k) := by
        by_cases e : me = 9
        · exact .inr (fun h => h9 ⟨e, h⟩)
        · exact .inl (beq_eq_false_iff_ne.2 e)
      clear h9
      have HW12 := Lib.hid (show want12 me ns ws = if me < 1 ∨ 6 < me ∨ wholeB ns = false then [⟨#[]⟩] else if me = 3 ∧ wAll ws ns.length = 0 then [⟨#[]⟩] else [⟨(textQ (num12 me (ns.map fun s => parseRQ s.data.toList) ws)).toArray⟩] by
        unfold want12
        rw [if_neg HW8.out, if_neg (by rw [HN.out]; exact HW7.out), if_neg (by rw [HN.out]; exact HW9.out)])
      have HNo := Lib.hid (HK1.out.below HB.out HK1.out.lt)
      by_cases h0 : 0 < k
      · have h0I : (0 : Int) < (k : Int) := by omega
        have m7 : (me == 7) = false := by rcases b7 with h | h; exact h; exact absurd h0 h
        have m9 : (me == 9) = false := by rcases b9 with h | h; exact h; exact absurd h0 h
        clear b7 b9
        have HM79 := Lib.hid (show me ≠ 7 ∧ me ≠ 9 from ⟨by simpa using m7, by simpa using m9⟩)
        by_cases hm1 : me < 1
        · cases wh
          all_goals
            go_wp2
            go_ret
            exact no_end HNo.out (by rw [HW12.out, if_pos (.inl hm1)]) HBw.out
        by_cases hm6 : 6 < me
        · have hm1' : 1 ≤ me := by omega
          cases wh
          all_goals
            go_wp2
            go_ret
            exact no_end HNo.out (by rw [HW12.out, if_pos (.inr (.inl hm6))]) HBw.out
        have hm1' : 1 ≤ me := by omega
        have hm6' : me ≤ 6 := by omega
        cases wh
        · go_wp2
          go_ret
          exact no_end HNo.out (by rw [HW12.out, if_pos (.inr (.inr HWh.out))]) HBw.out
        have HMe := Lib.hid (And.intro hm1' hm6')
        clear hm1 hm6
        have HI0 := Lib.hid (fun W => int_zero W)
        have HI1 := HI0
        have HQl := Lib.hid (show (ns.map fun s => parseRQ s.data.toList).length = k by rw [List.length_map, HN.out])
        clear HTx HO HRq HIn HRl HTl HStr HNo
        go_wp2_with (first
          | (go_at_call 26; refine (HI0.out _).mono ?_; rintro e w3 ⟨v3, rfl, hN3, hB3⟩; obtain ⟨ng3, a3, s3, c3, b3, t3, d3, rfl, hE3⟩ := refE_of hN3; have HE3 := Lib.hid hE3; have HB3 := Lib.hid hB3; clear hN3 hE3 hB3 HI0)
          | (go_at_call 26; refine (HI1.out _).mono ?_; rintro e w4 ⟨v4, rfl, hN4, hB4⟩; obtain ⟨ng4, a4, s4, c4, b4, t4, d4, rfl, hE4⟩ := refE_of hN4; have HE4 := Lib.hid hE4; have HB4 := Lib.hid hB4; obtain ⟨W5, hW5⟩ : ∃ W5, (w4.alloc ref0).alloc ref0 = W5 := ⟨_, rfl⟩; have HP := Lib.hid (jn_two hW5); obtain ⟨hk5s, hk5a, hB5⟩ := HP.out; have q0 := hk5s.cell 0; have q1 := hk5s.cell 1; have q2 := hk5s.cell 2; have q3 := hk5a.cell 0; have q4 := hk5a.cell 1; have q5 := hk5a.cell 2; have r0 := hk5s.frozen 0; have r1 := hk5s.frozen 1; have r2 := hk5s.frozen 2; have r3 := hk5a.frozen 0; have r4 := hk5a.frozen 1; have r5 := hk5a.frozen 2; clear hN4 hE4 hB4 HI1 hk5s hk5a hB5))
        obtain ⟨qs, hqs⟩ : ∃ qs, (ns.map fun s => parseRQ s.data.toList) = qs := ⟨_, rfl⟩
        rw [hqs] at HRow HQl HW12
        have HQs := Lib.hid hqs
        have HWee := Lib.hid (show ∀ q ∈ qs, weeQ q by rw [← hqs]; exact parse_wee ns)
        have hl31 : k ≤ 31 := by omega
        obtain ⟨hk5s, hk5a, hB5⟩ := HP.out
        have HSt := Lib.hid (jn2_start (me := me) (ws := ws) qs hk5s hk5a (HE3.out.below (HB4.out.trans (hB5.mono HB4.out.size))) (HE4.out.below hB5) (HB3.out.trans ((HB4.out.trans (hB5.mono HB4.out.size)).mono HB3.out.size)) (Nat.le_trans HB3.out.size HB4.out.size))
        obtain ⟨gl, lc', hge, hgl, hglt, -⟩ := HRow.out.form (by rw [HQl.out]; exact h0)
        rw [HQl.out] at hge
        simp only [Value.slice.injEq, true_and] at hge
        obtain ⟨rfl, rfl⟩ := hge
        clear hqs hk5s hk5a hB5 q0 q1 q2 q3 q4 q5 r0 r1 r2 r3 r4 r5 hW5
        have HSt' := HSt.out
        obtain ⟨W6, hW6⟩ : ∃ W6, ((((((W5.setCell ⟨w4.heap.size, 0, none⟩ (.bool ng3)).setCell ⟨w4.heap.size, 1, none⟩ (.slice a3 s3 c3)).setCell ⟨w4.heap.size, 2, none⟩ (.slice b3 t3 d3)).setCell ⟨w4.heap.size + 1, 0, none⟩ (.bool ng4)).setCell ⟨w4.heap.size + 1, 1, none⟩ (.slice a4 s4 c4)).setCell ⟨w4.heap.size + 1, 2, none⟩ (.slice b4 t4 d4)) = W6 := ⟨_, rfl⟩
        have HSt2 := Lib.hid (show J2 wr w4.heap.size qs (mW me ws) (.slice none 0 0) (.int .i64 0) W6 by rw [← hW6]; exact HSt')
        rw [hW6]
        clear HSt' hW6 HSt HP HE3 HE4 HB4
        obtain ⟨Bs, hBs⟩ : ∃ Bs, w4.heap.size = Bs := ⟨_, rfl⟩
        rw [hBs] at HSt2 ⊢
        clear hBs
        go_loopw [17, 18] (fun ov pv W => J2 wr Bs qs (mW me ws) ov pv W) (fun ov pv W => k - (intOf pv).toNat)
        case atStart => exact HSt2.out
        case round =>
          rename World => wx
          obtain ⟨i, rfl, hi, hS, hA, hO, hB, hz⟩ := hrel
          rw [HQl.out] at hi
          have HS2 := Lib.hid hS
          have HA2 := Lib.hid hA
          have HO2 := Lib.hid hO
          have HB2 := Lib.hid hB
          have HZ2 := Lib.hid hz
          obtain ⟨oa, oc, rfl⟩ := hO.slice
          rw [insAll_len, List.length_take, HQl.out, Nat.min_eq_left hi] at HO2 ⊢
          clear hS hA hO hB hz
          by_cases hlt : i < k
          · have HI1 := Lib.hid (fun W => int_one W)
            obtain ⟨ngl, al, sl, cl, bl, tl, dl, y0, y1, y2, hEl⟩ := (HRow.out.below HB2.out).at (i := i) (by rw [HQl.out]; exact hlt)
            have HEl := Lib.hid hEl
            have HY := Lib.hid (And.intro y0 (And.intro y1 y2))
            have hltI : (i : Int) < (k : Int) := by omega
            clear hEl y0 y1 y2
            go_upto_region 29 with (go_at_call 26; refine (HI1.out _).mono ?_; rintro e w3 ⟨v3, rfl, hN3, hB3⟩; obtain ⟨ng3, a3, s3, c3, b3, t3, d3, rfl, hE3⟩ := refE_of hN3; have HE3 := Lib.hid hE3; have HB3 := Lib.hid hB3; clear hN3 hE3 hB3 HI1)
            obtain ⟨W3, hW3⟩ : ∃ W3, w3.alloc (.cells #[.bool ng3, .slice a3 s3 c3, .slice b3 t3 d3] 33) = W3 := ⟨_, rfl⟩
            rw [hW3]
            have HK3 := Lib.hid (show BlkAt W3 w3.heap.size 33 #[.bool ng3, .slice a3 s3 c3, .slice b3 t3 d3] by rw [← hW3]; exact BlkAt.new w3 _ _)
            have HB3' := Lib.hid (show Below wx.heap.size wx W3 by rw [← hW3]; exact HB3.out.alloc HB3.out.size _)
            have HE3' := Lib.hid (show RefE W3 1 ng3 a3 s3 c3 b3 t3 d3 by rw [← hW3]; exact HE3.out.below ((Below.refl _ w3).alloc (Nat.le_refl _) _))
            have HL3 := Lib.hid (show wx.heap.size ≤ w3.heap.size from HB3.out.size)
            obtain ⟨Bw, hBw⟩ : ∃ Bw, w3.heap.size = Bw := ⟨_, rfl⟩
            rw [hBw] at HK3 HL3 ⊢
            clear hW3 HE3 HB3 hBw
            go_cut [112] (fun s wv => s = .bool (decide (me = 3) && decide (i < m)) ∧ wv = W3)
            case first =>
              by_cases h3 : me = 3
              · subst h3
                go_wp2
                go_meet
                exact ⟨by simp, rfl⟩
              · have h3' : (me == 3) = false := beq_eq_false_iff_ne.2 h3
                have HD3 := Lib.hid (decide_eq_false h3)
                clear h3
                go_wp2
                go_meet
                exact ⟨by rw [HD3.out]; rfl, rfl⟩
            case rest =>
              obtain ⟨rfl, rfl⟩ := hcut
              go_upto_if 112 with (fail)
              go_cut [19] (fun s wv => s = .pointer (some ⟨Bw, 0, none⟩) ∧ RefBox wv Bw (wAt (mW me ws) i) ∧ Below wx.heap.size wx wv)
              case first =>
                by_cases hc : me = 3 ∧ i < m
                · obtain ⟨rfl, him⟩ := hc
                  obtain ⟨z, rfl, hzb, hzc⟩ := (HWr.out.below (HB.out.trans ((HB2.out.trans (HB3'.out.mono HB2.out.size)).mono HB.out.size))) i (by rw [HWl.out]; exact him)
                  obtain ⟨s, hs⟩ : ∃ s, ws[i]'(by rw [HWl.out]; exact him) = s := ⟨_, rfl⟩
                  rw [hs] at hzc
                  have HT := Lib.hid (fun W => tx_any s (HWs.out s (by rw [← hs]; exact List.getElem_mem _)) W)
                  have HAt := Lib.hid (show wAt (mW 3 ws) i = if parseRC s.data.toList = 0 then parseRQ s.data.toList else 1 by
                    unfold mW wAt
                    rw [if_pos rfl, List.getElem?_eq_getElem (by rw [HWl.out]; exact him), hs])
                  have himI : (i : Int) < (m : Int) := by omega
                  have hdd : (decide ((3 : Int) = 3) && decide (i < m)) = true := by simp [him]
                  rw [hdd]
                  clear hs hzb hdd
                  by_cases hz : parseRC s.data.toList = 0
                  · rw [decide_eq_true hz] at HT
                    have HZ := Lib.hid (show wAt (mW 3 ws) i = parseRQ s.data.toList by rw [HAt.out, if_pos hz])
                    clear hz
                    obtain ⟨qw, hqw⟩ : ∃ qw, parseRQ s.data.toList = qw := ⟨_, rfl⟩
                    rw [hqw] at HT HZ
                    clear hqw HAt
                    go_wp2_with fail
                    refine (HT.out _).mono ?_
                    clear HT
                    rintro e w5 ⟨v5, rfl, hN5, hB5⟩
                    obtain ⟨ng5, a5, s5, c5, b5, t5, d5, rfl, hE5⟩ := refE_of hN5.at
                    obtain ⟨W6, hW6⟩ : ∃ W6, w5.alloc (.cells #[.bool ng5, .slice a5 s5 c5, .slice b5 t5 d5] 33) = W6 := ⟨_, rfl⟩
                    have hk6 : BlkAt W6 w5.heap.size 33 #[.bool ng5, .slice a5 s5 c5, .slice b5 t5 d5] := by rw [← hW6]; exact BlkAt.new w5 _ _
                    have hB56 : Below w5.heap.size w5 W6 := by rw [← hW6]; exact (Below.refl _ w5).alloc (Nat.le_refl _) _
                    have hB36 : Below wc.heap.size wc W6 := hB5.trans (hB56.mono hB5.size)
                    have HE6 := Lib.hid (hE5.below hB56)
                    have hkw := HK3.out.below hB36 HK3.out.lt
                    have HKw := Lib.hid hkw
                    have HB6 := Lib.hid (HB3'.out.trans (hB36.mono HB3'.out.size))
                    have q0 := hk6.cell 0
                    have q1 := hk6.cell 1
                    have q2 := hk6.cell 2
                    have r0 := hkw.cell 0
                    have r1 := hkw.cell 1
                    have r2 := hkw.cell 2
                    have f0 := hkw.frozen 0
                    have f1 := hkw.frozen 1
                    have f2 := hkw.frozen 2
                    clear hN5 hB5 hE5 hk6 hB56 hB36 hkw
                    go_wp2
                    go_meet
                    exact ⟨rfl, by rw [HZ.out]; exact RefBox.put HKw.out HE6.out, put3_below HB6.out HL3.out⟩
                  · rw [decide_eq_false hz] at HT
                    have HZ := Lib.hid (show wAt (mW 3 ws) i = 1 by rw [HAt.out, if_neg hz])
                    clear hz HAt
                    go_wp2_with fail
                    refine (HT.out _).mono ?_
                    clear HT
                    rintro e w5 ⟨v5, rfl, hN5, hB5⟩
                    obtain ⟨ng5, a5, s5, c5, b5, t5, d5, rfl, hE5⟩ := refE_of hN5.at
                    have HB5 := Lib.hid (hB5.alloc hB5.size (.cells #[.bool ng5, .slice a5 s5 c5, .slice b5 t5 d5] 33))
                    clear hN5 hB5 hE5
                    go_wp2
                    go_meet
                    exact ⟨rfl, by rw [HZ.out]; exact ⟨_, _, _, _, _, _, _, HK3.out.below HB5.out HK3.out.lt, HE3'.out.below HB5.out⟩, HB3'.out.trans (HB5.out.mono HB3'.out.size)⟩
                · have hdd : (decide (me = 3) && decide (i < m)) = false := by
                    by_cases h3 : me = 3
                    · simp [h3, show ¬ i < m from fun h => hc ⟨h3, h⟩]
                    · simp [h3]
                  have HZ := Lib.hid (show wAt (mW me ws) i = 1 by
                    unfold mW
                    by_cases h3 : me = 3
                    · rw [if_pos h3]
                      unfold wAt
                      rw [List.getElem?_eq_none (by rw [HWl.out]; exact Nat.le_of_not_lt fun h => hc ⟨h3, h⟩)]
                    · rw [if_neg h3, wAt_none])
                  rw [hdd]
                  clear hdd hc
                  go_wp2
                  go_meet
                  exact ⟨rfl, by rw [HZ.out]; exact ⟨_, _, _, _, _, _, _, HK3.out, HE3'.out⟩, HB3'.out⟩
              case rest =>
                rename World => wv
                obtain ⟨rfl, hW, hBv⟩ := hcut
                obtain ⟨ngw, aw, sw, cw, bw, tw, dw, hkw, hEw⟩ := hW
                obtain ⟨ngs, as1, ss1, cs1, bs1, ts1, ds1, hks, hEs⟩ := HS2.out.below hBv
                obtain ⟨nga, aa, sa, ca, ba, ta, da, hka, hEa⟩ := HA2.out.below hBv
                obtain ⟨y0, y1, y2⟩ := HY.out
                have hgx : gl < wx.heap.size := Nat.lt_of_lt_of_le hglt HB2.out.size
                have z0 := (hBv.cell (p := ⟨gl, i * 3, none⟩) hgx).trans y0
                have z1 := (hBv.cell (p := ⟨gl, i * 3 + 1, none⟩) hgx).trans y1
                have z2 := (hBv.cell (p := ⟨gl, i * 3 + 2, none⟩) hgx).trans y2
                have HEl' := Lib.hid (HEl.out.below hBv)
                have HEw := Lib.hid hEw
                have HEs := Lib.hid hEs
                have HEa := Lib.hid hEa
                have HKw := Lib.hid hkw
                have HKs := Lib.hid hks
                have HKa := Lib.hid hka
                have HBv := Lib.hid hBv
                have hglv := Nat.lt_of_lt_of_le hgx hBv.size
                have HO3 := Lib.hid (HO2.out.below hBv)
                have w0 := hkw.cell 0
                have w1 := hkw.cell 1
                have w2 := hkw.cell 2
                have s0 := hks.cell 0
                have s1 := hks.cell 1
                have s2 := hks.cell 2
                have f0 := hks.frozen 0
                have f1 := hks.frozen 1
                have f2 := hks.frozen 2
                clear y0 y1 y2 hkw hEw hks hEs hka hEa hBv
                go_upto_region 33 with (fail)
                go_cut [19] (fun s wy => s = .pointer (some ⟨Bw, 0, none⟩) ∧ RefBox wy Bs (wSum qs (mW me ws) (i + 1)) ∧ KeepT 3 wv wy ∧ (∀ g, g ≠ Bs → g < wv.heap.size → wy.heap[g]? = wv.heap[g]?) ∧ Below wr.heap.size wr wy)
                case first =>
                  have HM := Lib.hid (fun (W : World) (hW : Below wv.heap.size wv W) => refMul_any (HEl'.out.ref.below hW) (HEw.out.ref.below hW) (rsz_wee (getD_wee HWee.out i)).1 (rsz_wee (getD_wee HWee.out i)).2 (rsz_wee (wAt_wee (mW me ws) i)).1 (rsz_wee (wAt_wee (mW me ws) i)).2)
                  have HAd := Lib.hid (fun (W : World) (v : Value) (hW : Below wv.heap.size wv W) (hv : RefAt W v (qs.getD i 0 * wAt (mW me ws) i)) => refAdd_any (HEs.out.ref.below hW) hv (rsz_wSum HWee.out (mW me ws) (Nat.le_trans hi hl31)).1 (rsz_wSum HWee.out (mW me ws) (Nat.le_trans hi hl31)).2 (rsz_mul (getD_wee HWee.out i) (wAt_wee (mW me ws) i)).1 (rsz_mul (getD_wee HWee.out i) (wAt_wee (mW me ws) i)).2)
                  have HN9 := Lib.hid (fun (W : World) (hW : Below wv.heap.size wv W) => And.intro ((hW.cell (p := ⟨gl, i * 3, none⟩) hglv).trans z0) (And.intro ((hW.cell (p := ⟨gl, i * 3 + 1, none⟩) hglv).trans z1) (And.intro ((hW.cell (p := ⟨gl, i * 3 + 2, none⟩) hglv).trans z2) (And.intro ((hW.cell (p := ⟨Bw, 0, none⟩) HKw.out.lt).trans w0) (And.intro ((hW.cell (p := ⟨Bw, 1, none⟩) HKw.out.lt).trans w1) (And.intro ((hW.cell (p := ⟨Bw, 2, none⟩) HKw.out.lt).trans w2) (And.intro ((hW.cell (p := ⟨Bs, 0, none⟩) HKs.out.lt).trans s0) (And.intro ((hW.cell (p := ⟨Bs, 1, none⟩) HKs.out.lt).trans s1) (And.intro ((hW.cell (p := ⟨Bs, 2, none⟩) HKs.out.lt).trans s2) ((hW.frozen (p := ⟨Bs, 0, none⟩) HKs.out.lt).trans f0))))))))))
                  have HZb := HZ2.out.1
                  have HBrv := Lib.hid (HB2.out.trans (HBv.out.mono HB2.out.size))
                  go_region_law
                    (first
                      | (go_simp; go_at_call 28; refine (HM.out _ ((Below.refl _ wv).drew)).mono ?_; rintro e w5 ⟨v5, rfl, hN5, hB5⟩; replace hB5 : Below wv.heap.size wv w5 := ((Below.refl _ wv).drew).trans hB5; obtain ⟨z0, z1, z2, w0, w1, w2, s0, s1, s2, f0⟩ := HN9.out w5 hB5; obtain ⟨ng5, a5, s5, c5, b5, t5, d5, rfl, hE5⟩ := refE_of hN5.at; have HE5 := Lib.hid hE5; have HB5 := Lib.hid hB5; clear hE5 hB5 hN5)
                      | (go_simp; go_at_call 27; refine (HAd.out _ _ HB5.out HE5.out.ref).mono ?_; rintro e w6 ⟨v6, rfl, hN6, hB6⟩; replace hB6 : Below wv.heap.size wv w6 := HB5.out.trans (hB6.mono HB5.out.size); obtain ⟨z0, z1, z2, w0, w1, w2, s0, s1, s2, f0⟩ := HN9.out w6 hB6; obtain ⟨f1, f2⟩ : w6.frozen? ⟨Bs, 1, none⟩ = false ∧ w6.frozen? ⟨Bs, 2, none⟩ = false := ⟨(HKs.out.below hB6 HKs.out.lt).frozen 1, (HKs.out.below hB6 HKs.out.lt).frozen 2⟩; obtain ⟨ng6, a6, s6, c6, b6, t6, d6, rfl, hE6⟩ := refE_of hN6.at; have HE6 := Lib.hid hE6; have HB6 := Lib.hid hB6; clear hE6 hB6 hN6))
                  all_goals
                    go_wp2
                    go_meet
                    exact ⟨rfl, jn_sum HKs.out HB6.out HE6.out HBrv.out HZ2.out.1⟩
                case rest =>
                  rename World => wy
                  obtain ⟨rfl, hS, hKt, hfar, hBy⟩ := hcut
                  have hne : Bw ≠ Bs := by have := HL3.out; have := HZ2.out; omega
                  have hna : Bs + 1 ≠ Bs := by omega
                  have hkw := (hfar Bw hne HKw.out.lt).trans HKw.out
                  have hka := (hfar (Bs + 1) hna HKa.out.lt).trans HKa.out
                  have hkw : BlkAt wy Bw 33 #[.bool ngw, .slice aw sw cw, .slice bw tw dw] := hkw
                  have hka : BlkAt wy (Bs + 1) 33 #[.bool nga, .slice aa sa ca, .slice ba ta da] := hka
                  have HEw2 := Lib.hid (HEw.out.keep hKt)
                  have HEa2 := Lib.hid (HEa.out.keep hKt)
                  have HO4 := Lib.hid (HO3.out.far hKt (fun g hg hg2 => hfar g (by have := hg; omega) hg2))
                  have HS4 := Lib.hid hS
                  have HBy := Lib.hid hBy
                  have HKw2 := Lib.hid hkw
                  have HKa2 := Lib.hid hka
                  have w0 := hkw.cell 0
                  have w1 := hkw.cell 1
                  have w2 := hkw.cell 2
                  have s0 := hka.cell 0
                  have s1 := hka.cell 1
                  have s2 := hka.cell 2
                  clear hS hKt hfar hBy hne hna hkw hka
                  have HAl := Lib.hid (refAdd_any HEa2.out.ref HEw2.out.ref (rsz_wAll (mW me ws) (Nat.le_trans hi hl31)).1 (rsz_wAll (mW me ws) (Nat.le_trans hi hl31)).2 (rsz_wee (wAt_wee (mW me ws) i)).1 (rsz_wee (wAt_wee (mW me ws) i)).2)
                  go_wp2_with fail
                  refine HAl.out.mono ?_
                  rintro e w8 ⟨v8, rfl, hN8, hB8⟩
                  obtain ⟨ng8, a8, s8, c8, b8, t8, d8, rfl, hE8⟩ := refE_of hN8.at
                  have hk8 := HKa2.out.below hB8 HKa2.out.lt
                  have HE8 := Lib.hid hE8
                  have HB8 := Lib.hid hB8
                  have HK8 := Lib.hid hk8
                  have s0 := hk8.cell 0
                  have s1 := hk8.cell 1
                  have s2 := hk8.cell 2
                  have f0 := hk8.frozen 0
                  have f1 := hk8.frozen 1
                  have f2 := hk8.frozen 2
                  clear hN8 hB8 hE8 hk8 HAl
                  go_upto_block 5 with (fail)
                  obtain ⟨W9, hW9⟩ : ∃ W9, (((w8.setCell ⟨Bs + 1, 0, none⟩ (.bool ng8)).setCell ⟨Bs + 1, 1, none⟩ (.slice a8 s8 c8)).setCell ⟨Bs + 1, 2, none⟩ (.slice b8 t8 d8)) = W9 := ⟨_, rfl⟩
                  have HJ := Lib.hid (show RefBox W9 Bs (wSum qs (mW me ws) (i + 1)) ∧ RefBox W9 (Bs + 1) (wAll (mW me ws) (i + 1)) ∧ RefRow W9 (Bs + 2) (.slice oa i oc) (insAll (qs.take i)) ∧ Below wr.heap.size wr W9 by
                    rw [← hW9]
                    have h8 := jn_all HKa2.out HB8.out HE8.out HBy.out (Nat.le_succ_of_le HZ2.out.1)
                    exact ⟨RefBox.keep HS4.out h8.2.1 (h8.2.2.1 Bs (by omega) HS4.out.lt), h8.1, HO4.out.far h8.2.1 (fun g hg hg2 => h8.2.2.1 g (by omega) hg2), h8.2.2.2⟩)
                  rw [hW9]
                  have hgl9 : gl < W9.heap.size := Nat.lt_of_lt_of_le hglt HJ.out.2.2.2.size
                  obtain ⟨ngl, al, sl, cl, bl, tl, dl, y0, y1, y2, hEl⟩ := (HRow.out.below HJ.out.2.2.2).at (i := i) (by rw [HQl.out]; exact hlt)
                  have HEl9 := Lib.hid hEl
                  have HY9 := Lib.hid (And.intro y0 (And.intro y1 y2))
                  have HZ9 := Lib.hid (show Bs + 2 ≤ W9.heap.size from by have := HJ.out.2.1.lt; omega)
                  clear hW9 y0 y1 y2 hEl z0 z1 z2 w0 w1 w2 s0 s1 s2 f0 f1 f2
                  clear HEl' HEl HY HEw HEs HEa HKw HKs HKa HBv HO3 HO4 HS4 HBy HKw2 HKa2 HEw2 HEa2 HE8 HB8 HK8 HK3 HB3' HE3' HL3 HS2 HA2 HO2
                  have HOl := Lib.hid (show (insAll (qs.take i)).length = i by rw [insAll_len, List.length_take, HQl.out, Nat.min_eq_left hi])
                  go_cut [22] (fun s wz => ∃ kk : Nat, s = .int .i64 kk ∧ kk ≤ i ∧ (∀ j, j < kk → cmpQ ((insAll (qs.take i)).getD j 0) (qs.getD i 0) ≤ 0) ∧ (kk = i ∨ ¬ cmpQ ((insAll (qs.take i)).getD kk 0) (qs.getD i 0) ≤ 0) ∧ Below W9.heap.size W9 wz)
                  case first =>
                    go_wp2
                    go_loopw [22] (fun p W => ∃ kk : Nat, p = .int .i64 kk ∧ kk ≤ i ∧ (Hid (∀ j, j < kk → cmpQ ((insAll (qs.take i)).getD j 0) (qs.getD i 0) ≤ 0)) ∧ Below W9.heap.size W9 W) (fun p W => i - (intOf p).toNat)
                    case atStart => exact ⟨0, rfl, Nat.zero_le _, Lib.hid (fun j hj => absurd hj (Nat.not_lt_zero j)), Below.refl _ _⟩
                    case round =>
                      rename World => wk
                      obtain ⟨kk, rfl, hkk, HK, hBk⟩ := hrel
                      have HBk := Lib.hid hBk
                      clear hBk
                      by_cases hki : kk < i
                      · have hkiI : (kk : Int) < (i : Int) := by omega
                        obtain ⟨go, co', hoe, hob, hog, -⟩ := HJ.out.2.2.1.form (by rw [HOl.out]; omega)
                        rw [HOl.out] at hoe
                        simp only [Value.slice.injEq, true_and] at hoe
                        obtain ⟨rfl, rfl⟩ := hoe
                        obtain ⟨ngo, ao, so1, co1, bo1, to1, do1, z0, z1, z2, hEo⟩ := (HJ.out.2.2.1.below HBk.out).at (i := kk) (by rw [HOl.out]; exact hki)
                        have hokl : go < wk.heap.size := Nat.lt_of_lt_of_le hog HBk.out.size
                        have hglk : gl < wk.heap.size := Nat.lt_of_lt_of_le hgl9 HBk.out.size
                        obtain ⟨y0, y1, y2⟩ := HY9.out
                        have p0 := lift_cell (a := ⟨gl, i * 3, none⟩) hglk ((HBk.out.cell (p := ⟨gl, i * 3, none⟩) hgl9).trans y0)
                        have p1 := lift_cell (a := ⟨gl, i * 3 + 1, none⟩) hglk ((HBk.out.cell (p := ⟨gl, i * 3 + 1, none⟩) hgl9).trans y1)
                        have p2 := lift_cell (a := ⟨gl, i * 3 + 2, none⟩) hglk ((HBk.out.cell (p := ⟨gl, i * 3 + 2, none⟩) hgl9).trans y2)
                        have p3 := lift_cell (a := ⟨go, kk * 3, none⟩) hokl z0
                        have p4 := lift_cell (a := ⟨go, kk * 3 + 1, none⟩) hokl z1
                        have p5 := lift_cell (a := ⟨go, kk * 3 + 2, none⟩) hokl z2
                        obtain ⟨cm, hcm⟩ : ∃ cm, cmpQ ((insAll (qs.take i)).getD kk 0) (qs.getD i 0) = cm := ⟨_, rfl⟩
                        have HCm := Lib.hid hcm
                        have HEk := Lib.hid (HEl9.out.below HBk.out)
                        have HC := Lib.hid (fun p => refCmp_any (hEo.ref.below (below_lift wk p)) (HEk.out.ref.below (below_lift wk p)) (rsz_wee (getD_wee (insAll_wee (take_wee HWee.out i)) kk)).1 (rsz_wee (getD_wee (insAll_wee (take_wee HWee.out i)) kk)).2 (rsz_wee (getD_wee HWee.out i)).1 (rsz_wee (getD_wee HWee.out i)).2)
                        rw [hcm] at HC
                        clear hEo z0 z1 z2 y0 y1 y2 hcm
                        have mixed : Tryz.prog.follows .mixedOrders = true := by kernel_rfl
                        by_cases hle : cm ≤ 0
                        · go_wp2_with fail
                          refine wp_region_quiet_below mixed (by kernel_rfl) ?_
                          repeat (quiet_step (first | (go_at_call 29; exact calls_lift (HC.out _))))
                          refine wpQuiet_nil ?_
                          intro _ hw'
                          obtain ⟨pp, hw''⟩ := hw'
                          subst hw''
                          have HB2 := Lib.hid (HBk.out.trans ((below_lift wk pp).mono HBk.out.size))
                          clear p0 p1 p2 p3 p4 p5
                          generalize lift wk pp = w2 at *
                          go_wp2
                          exact ⟨⟨kk + 1, by go_num, hki, Lib.hid (fun j hj => by
                            by_cases e : j = kk
                            · rw [e, HCm.out]; exact hle
                            · exact HK.out j (by omega)), HB2.out⟩, by simp only [intOf]; omega⟩
                        · go_wp2_with fail
                          refine wp_region_quiet_below mixed (by kernel_rfl) ?_
                          repeat (quiet_step (first | (go_at_call 29; exact calls_lift (HC.out _))))
                          refine wpQuiet_nil ?_
                          intro _ hw'
                          obtain ⟨pp, hw''⟩ := hw'
                          subst hw''
                          have HB2 := Lib.hid (HBk.out.trans ((below_lift wk pp).mono HBk.out.size))
                          have hle' : 0 < cm := by omega
                          clear p0 p1 p2 p3 p4 p5
                          generalize lift wk pp = w2 at *
                          go_wp2
                          go_meet
                          exact ⟨kk, rfl, hkk, HK.out, .inr (by rw [HCm.out]; exact hle), HB2.out⟩
                      · have hki' : ¬ (kk : Int) < (i : Int) := by omega
                        have hkie : kk = i := by omega
                        have HKi := Lib.hid hkie
                        clear hkie
                        go_wp2_with fail
                        go_quiet (fail)
                        go_wp2
                        go_meet
                        exact ⟨kk, rfl, hkk, HK.out, .inl HKi.out, below_drewN' HBk.out nq⟩
                  case rest =>
                    rename World => wz
                    obtain ⟨kk, rfl, hkk, hlo, hup, hBz⟩ := hcut
                    have HIns := Lib.hid (insQ_at (insAll (qs.take i)) (qs.getD i 0) kk (by rw [HOl.out]; exact hkk) hlo (by rw [HOl.out]; exact hup))
                    have HBz := Lib.hid hBz
                    obtain ⟨ors, horq, hoo, hoi⟩ := HJ.out.2.2.1.below hBz
                    have horl : ors.length = i := by rw [← HOl.out, ← horq, List.length_map]
                    have HOr := Lib.hid (And.intro horq (And.intro hoi horl))
                    have HX := Lib.hid (refX_row (kk := kk) (show OwnF wz (Bs + 2) (.slice oa i oc) ors by unfold OwnF; rw [horl]; rw [horl] at hoo; exact hoo) horl hkk)
                    have HElz := Lib.hid (HEl9.out.below HBz.out)
                    obtain ⟨y0, y1, y2⟩ := HY9.out
                    have hglz : gl < wz.heap.size := Nat.lt_of_lt_of_le hgl9 HBz.out.size
                    have z0 := (HBz.out.cell (p := ⟨gl, i * 3, none⟩) hgl9).trans y0
                    have z1 := (HBz.out.cell (p := ⟨gl, i * 3 + 1, none⟩) hgl9).trans y1
                    have z2 := (HBz.out.cell (p := ⟨gl, i * 3 + 2, none⟩) hgl9).trans y2
                    have hkiI : (kk : Int) ≤ (i : Int) := by omega
                    have HN1 := Lib.hid (And.intro horl (And.intro hkk hi))
                    clear hlo hup hBz horq hoo hoi horl y0 y1 y2
                    obtain ⟨hic, hx0, hx1⟩ := HX.out
                    have HX0 := Lib.hid hx0
                    have HX1 := Lib.hid hx1
                    have hicI : (i : Int) ≤ (oc : Int) := by omega
                    have hkcI : (kk : Int) ≤ (oc : Int) := by omega
                    clear hx0 hx1
                    have HLk := Lib.hid (show (ors.take kk).length = kk ∧ (ors.drop kk).length = i - kk ∧ kk ≤ 31 ∧ i ≤ 31 by
                      obtain ⟨a1, a2, a3⟩ := HN1.out
                      refine ⟨by rw [List.length_take, a1, Nat.min_eq_left a2], by rw [List.length_drop, a1], by omega, by omega⟩)
                    obtain ⟨rl, hrl⟩ : ∃ rl : RefC, rl = ⟨qs.getD i 0, al, cl, bl, dl⟩ := ⟨_, rfl⟩
                    have HRl' := Lib.hid (show cellsF rl = [.bool ngl, .slice al sl cl, .slice bl tl dl] ∧ rl.q = qs.getD i 0 ∧ RefIn wz rl by rw [hrl]; exact ⟨HElz.out.cells, rfl, HElz.out.2.2.2⟩)
                    have HD0 := Lib.hid (show Below wz.heap.size wz wz.drew from (Below.refl _ wz).drew)
                    have HDA := Lib.hid (show Below wz.heap.size wz (wz.drew.alloc (.cells #[.bool ngl, .slice al sl cl, .slice bl tl dl] 33)) from ((Below.refl _ wz).drew).alloc (Nat.le_refl _) _)
                    have HLn := Lib.hid (show ([] : List RefC).length + (ors.take kk).length ≤ 1000000 ∧ (ors.take kk).length + [rl].length ≤ 1000000 ∧ (ors.take kk ++ [rl]).length + (ors.drop kk).length ≤ 1000000 ∧ (ors.take kk ++ [rl]).length = kk + 1 by
                      obtain ⟨a1, a2, a3, a4⟩ := HLk.out
                      have e1 : [rl].length = 1 := rfl
                      have e0 : ([] : List RefC).length = 0 := rfl
                      have e2 : (ors.take kk ++ [rl]).length = kk + 1 := by rw [List.length_append, a1, e1]
                      exact ⟨by rw [e0, a1]; omega, by rw [a1, e1]; omega, by rw [e2, a2]; omega, e2⟩)
                    clear hrl
                    go_wp2_with fail
                    go_region_law (first
                      | (refine step_appF (by rfl) (.const (.slice none 0 0)) (.tmp 154) (by rfl) (by rfl) wz.heap.size (.slice none 0 0) (.slice oa kk oc) [] (ors.take kk) (by kernel_rfl) (by kernel_rfl) (OwnF.nil _ _) (HX0.out.below HD0.out) HLn.out.1 (Nat.le_refl _) ?_; intro v1 w1 ho1 hB1 hg1; have hB1' : Below wz.heap.size wz w1 := HD0.out.trans hB1; rw [List.nil_append] at ho1; obtain ⟨va1, vc1, rfl⟩ := ho1.slice HLk.out.1; have HO1 := Lib.hid ho1; have HB1' := Lib.hid hB1'; have z0 := (hB1'.cell (p := ⟨gl, i * 3, none⟩) hglz).trans z0; have z1 := (hB1'.cell (p := ⟨gl, i * 3 + 1, none⟩) hglz).trans z1; have z2 := (hB1'.cell (p := ⟨gl, i * 3 + 2, none⟩) hglz).trans z2; clear ho1 hB1 hg1 hB1')
                      | (refine step_appF (by rfl) (.const (.slice none 0 0)) (.tmp 154) (by rfl) (by rfl) wz.heap.size (.slice none 0 0) (.slice oa kk oc) [] (ors.take kk) (by kernel_rfl) (by kernel_rfl) (OwnF.nil _ _) (HX0.out.below HDA.out) HLn.out.1 HDA.out.size ?_; intro v1 w1 ho1 hB1 hg1; have hB1' : Below wz.heap.size wz w1 := HDA.out.trans hB1; rw [List.nil_append] at ho1; obtain ⟨va1, vc1, rfl⟩ := ho1.slice HLk.out.1; have HO1 := Lib.hid ho1; have HB1' := Lib.hid hB1'; have HKb := Lib.hid (show BlkAt w1 wz.heap.size 33 #[.bool ngl, .slice al sl cl, .slice bl tl dl] from (BlkAt.new wz.drew 33 #[.bool ngl, .slice al sl cl, .slice bl tl dl]).grown hg1 (fun e => by cases e)); clear ho1 hB1 hg1 hB1')
                      | (refine step_appF (by rfl) (.tmp 155) (.tmp 160) (by rfl) (by rfl) wz.heap.size (.slice va1 kk vc1) (.slice (some ⟨w1.heap.size, 0, none⟩) 1 1) (ors.take kk) [rl] (by kernel_rfl) (by kernel_rfl) (HO1.out.alloc _) (refX_blk (BlkAt.new w1 _ _) HRl'.out.1) HLn.out.2.1 (HB1'.out.alloc HB1'.out.size _).size ?_; intro v2 w2 ho2 hB2 hg2; have hB2' : Below wz.heap.size wz w2 := (HB1'.out.alloc HB1'.out.size _).trans hB2; obtain ⟨va2, vc2, rfl⟩ := ho2.slice (n := kk + 1) HLn.out.2.2.2; have HO2' := Lib.hid ho2; have HB2' := Lib.hid hB2'; clear ho2 hB2 hg2 hB2')
                      | (refine step_appF (by rfl) (.tmp 155) (.tmp 160) (by rfl) (by rfl) wz.heap.size (.slice va1 kk vc1) (.slice (some ⟨wz.heap.size, 0, none⟩) 1 1) (ors.take kk) [rl] (by kernel_rfl) (by kernel_rfl) HO1.out (refX_blk HKb.out HRl'.out.1) HLn.out.2.1 HB1'.out.size ?_; intro v2 w2 ho2 hB2 hg2; have hB2' : Below wz.heap.size wz w2 := HB1'.out.trans hB2; obtain ⟨va2, vc2, rfl⟩ := ho2.slice (n := kk + 1) HLn.out.2.2.2; have HO2' := Lib.hid ho2; have HB2' := Lib.hid hB2'; clear ho2 hB2 hg2 hB2')
                      | (refine step_appF (by rfl) (.tmp 161) (.tmp 164) (by rfl) (by rfl) wz.heap.size (.slice va2 (kk + 1) vc2) (.slice (if oc = kk then oa else oa.map fun x => x.add (kk * 3)) (i - kk) (oc - kk)) (ors.take kk ++ [rl]) (ors.drop kk) (by kernel_rfl) (by kernel_rfl) HO2'.out (HX1.out.below HB2'.out) HLn.out.2.2.1 HB2'.out.size ?_; intro v3 w3 ho3 hB3 hg3; have HB3' := Lib.hid (HB2'.out.trans hB3); have HO3' := Lib.hid ho3; clear ho3 hB3 hg3))
                    all_goals
                      have HJn := Lib.hid (jn2_next (by rw [HQl.out]; exact hlt) HJ.out HBz.out HB3'.out HZ2.out.1 HOr.out.1 HOr.out.2.1 HRl'.out.2.2 HRl'.out.2.1 HIns.out HO3'.out)
                      go_wp2
                      exact ⟨HJn.out, by simp only [intOf]; omega⟩
          · obtain rfl : i = k := by omega
            have htk : qs.take i = qs := List.take_of_length_le (by rw [HQl.out]; exact Nat.le_refl _)
            rw [htk] at HO2
            have HWw := Lib.hid (HBw.out.trans (HB2.out.mono HBw.out.size))
            have HW0 := Lib.hid (show wholeB ns = true from HWh.out)
            have hltI : ¬ (i : Int) < (i : Int) := by omega
            obtain ⟨ngs, as1, ss1, cs1, bs1, ts1, ds1, hks, hEs⟩ := HS2.out
            obtain ⟨nga, aa, sa, ca, ba, ta, da, hka, hEa⟩ := HA2.out
            have HEs := Lib.hid hEs
            have HEa := Lib.hid hEa
            have HKs := Lib.hid hks
            have HKa := Lib.hid hka
            have s0 := hks.cell 0
            have s1 := hks.cell 1
            have s2 := hks.cell 2
            have f0 := hks.frozen 0
            have f1 := hks.frozen 1
            have f2 := hks.frozen 2
            have a0 := hka.cell 0
            have a1 := hka.cell 1
            have a2 := hka.cell 2
            have hcs : me = 1 ∨ me = 2 ∨ me = 3 ∨ me = 4 ∨ me = 5 ∨ me = 6 := by omega
            clear htk hks hEs hka hEa hlt hi
            rcases hcs with rfl | h23 | h23 | rfl | rfl | rfl
            · have HTx := Lib.hid (refText_any HEs.out.ref (Nat.le_trans (rsz_wSum HWee.out (mW 1 ws) hl31).1 (by decide)) (Nat.le_trans (rsz_wSum HWee.out (mW 1 ws) hl31).2 (by decide)))
              have HEq := Lib.hid (show want12 1 ns ws = [⟨(textQ (wSum qs (mW 1 ws) i)).toArray⟩] by
                rw [HW12.out, if_neg (by rw [HW0.out]; simp), if_neg (fun h => absurd h.1 (by decide)), num12_1, HQl.out])
              go_wp2_with (go_at_call 24; refine HTx.out.mono ?_; rintro e w5 ⟨rfl, hB5⟩; have HB5 := Lib.hid (HWw.out.trans (hB5.mono HWw.out.size)); clear hB5)
              go_ret
              exact tell_one HB5.out HEq.out
            · subst h23
              have hA0 := Lib.hid (show wAll (mW 2 ws) i ≠ 0 by
                rw [show mW 2 ws = [] from rfl, wAll_none]
                exact intQ_ne h0)
              have hnz := Lib.hid (show ¬ ((2 : Int) = 3 ∧ wAll ws ns.length = 0) from fun h => absurd h.1 (by decide))
              have hza : ((sa : Int) == 0) = false := beq_eq_false_iff_ne.2 (by
                intro e
                have e1 : szN (numQ (wAll (mW 2 ws) i)) = 0 := by rw [HEa.out.2.1]; omega
                exact hA0.out (numQ_zero.1 (Classical.byContradiction fun h => by have := szN_pos h; omega)))
              have HDv := Lib.hid (refDiv_any HEs.out.ref HEa.out.ref (rsz_wSum HWee.out (mW 2 ws) hl31).1 (rsz_wSum HWee.out (mW 2 ws) hl31).2 (rsz_wAll (mW 2 ws) hl31).1 (rsz_wAll (mW 2 ws) hl31).2 hA0.out)
              have HEq := Lib.hid (show want12 2 ns ws = [⟨(textQ (divP (wSum qs (mW 2 ws) i) (wAll (mW 2 ws) i))).toArray⟩] by
                rw [HW12.out, if_neg (by rw [HW0.out]; simp), if_neg hnz.out, num12_23 (by decide), HQl.out])
              have HSz := Lib.hid (rsz_div HWee.out (mW 2 ws) hl31 hA0.out)
              go_wp2_with (first
                | (go_at_call 30; refine HDv.out.mono ?_; rintro e w5 ⟨v5, rfl, hN5, hB5⟩; obtain ⟨ng5, a5, s5, c5, b5, t5, d5, rfl, hE5⟩ := refE_of hN5.at; have hk5 := HKs.out.below hB5 HKs.out.lt; have q0 := hk5.cell 0; have q1 := hk5.cell 1; have q2 := hk5.cell 2; have g0 := hk5.frozen 0; have g1 := hk5.frozen 1; have g2 := hk5.frozen 2; have HP := Lib.hid (jn_sum HKs.out hB5 hE5 HB2.out HZ2.out.1); have HB5 := Lib.hid (put3_below (x0 := .bool ng5) (x1 := .slice a5 s5 c5) (x2 := .slice b5 t5 d5) (HWw.out.trans (hB5.mono HWw.out.size)) (show w.heap.size ≤ Bs from Nat.le_trans HBw.out.size HZ2.out.1)); have HTx := Lib.hid (refText_any (w := put3 w5 Bs (.bool ng5) (.slice a5 s5 c5) (.slice b5 t5 d5)) ((hE5.keep (put3_keep (by decide) hk5)).ref) (Nat.le_trans (divP_eq hA0.out ▸ HSz.out.1) (by decide)) (Nat.le_trans (divP_eq hA0.out ▸ HSz.out.2) (by decide))); clear hN5 hB5 hE5 hk5)
                | (go_at_call 24; refine HTx.out.mono ?_; rintro e w6 ⟨rfl, hB6⟩; have HB6 := Lib.hid (HB5.out.trans (hB6.mono HB5.out.size)); clear hB6))
              go_ret
              exact tell_one HB6.out (by rw [HEq.out, ← divP_eq hA0.out])
            · subst h23
              by_cases hA : wAll ws i = 0
              · have hza : ((sa : Int) == 0) = true := beq_iff_eq.2 (by
                  have e1 := HEa.out.2.1
                  rw [show mW 3 ws = ws from rfl, hA, num_zero, szN_zero] at e1
                  omega)
                have HNo := Lib.hid (HK1.out.below (HB.out.trans (HB2.out.mono HB.out.size)) HK1.out.lt)
                have HEq := Lib.hid (show want12 3 ns ws = [⟨#[]⟩] by
                  rw [HW12.out, if_neg (by rw [HW0.out]; simp), if_pos ⟨rfl, by rw [HN.out]; exact hA⟩])
                clear hA
                go_wp2
                go_ret
                exact no_end HNo.out HEq.out HWw.out
              have hA0 := Lib.hid (show wAll (mW 3 ws) i ≠ 0 by
                rw [show mW 3 ws = ws from rfl]
                exact hA)
              have hnz := Lib.hid (show ¬ ((3 : Int) = 3 ∧ wAll ws ns.length = 0) from fun h => hA (by rw [← HN.out]; exact h.2))
              clear hA
              have hza : ((sa : Int) == 0) = false := beq_eq_false_iff_ne.2 (by
                intro e
                have e1 : szN (numQ (wAll (mW 3 ws) i)) = 0 := by rw [HEa.out.2.1]; omega
                exact hA0.out (numQ_zero.1 (Classical.byContradiction fun h => by have := szN_pos h; omega)))
              have HDv := Lib.hid (refDiv_any HEs.out.ref HEa.out.ref (rsz_wSum HWee.out (mW 3 ws) hl31).1 (rsz_wSum HWee.out (mW 3 ws) hl31).2 (rsz_wAll (mW 3 ws) hl31).1 (rsz_wAll (mW 3 ws) hl31).2 hA0.out)
              have HEq := Lib.hid (show want12 3 ns ws = [⟨(textQ (divP (wSum qs (mW 3 ws) i) (wAll (mW 3 ws) i))).toArray⟩] by
                rw [HW12.out, if_neg (by rw [HW0.out]; simp), if_neg hnz.out, num12_23 (by decide), HQl.out])
              have HSz := Lib.hid (rsz_div HWee.out (mW 3 ws) hl31 hA0.out)
              go_wp2_with (first
                | (go_at_call 30; refine HDv.out.mono ?_; rintro e w5 ⟨v5, rfl, hN5, hB5⟩; obtain ⟨ng5, a5, s5, c5, b5, t5, d5, rfl, hE5⟩ := refE_of hN5.at; have hk5 := HKs.out.below hB5 HKs.out.lt; have q0 := hk5.cell 0; have q1 := hk5.cell 1; have q2 := hk5.cell 2; have g0 := hk5.frozen 0; have g1 := hk5.frozen 1; have g2 := hk5.frozen 2; have HP := Lib.hid (jn_sum HKs.out hB5 hE5 HB2.out HZ2.out.1); have HB5 := Lib.hid (put3_below (x0 := .bool ng5) (x1 := .slice a5 s5 c5) (x2 := .slice b5 t5 d5) (HWw.out.trans (hB5.mono HWw.out.size)) (show w.heap.size ≤ Bs from Nat.le_trans HBw.out.size HZ2.out.1)); have HTx := Lib.hid (refText_any (w := put3 w5 Bs (.bool ng5) (.slice a5 s5 c5) (.slice b5 t5 d5)) ((hE5.keep (put3_keep (by decide) hk5)).ref) (Nat.le_trans (divP_eq hA0.out ▸ HSz.out.1) (by decide)) (Nat.le_trans (divP_eq hA0.out ▸ HSz.out.2) (by decide))); clear hN5 hB5 hE5 hk5)
                | (go_at_call 24; refine HTx.out.mono ?_; rintro e w6 ⟨rfl, hB6⟩; have HB6 := Lib.hid (HB5.out.trans (hB6.mono HB5.out.size)); clear hB6))
              go_ret
              exact tell_one HB6.out (by rw [HEq.out, ← divP_eq hA0.out])
            · obtain ⟨go, co', hoe, hob, hog, hoc⟩ := HO2.out.form (by rw [insAll_len, HQl.out]; exact h0)
              rw [insAll_len, HQl.out] at hoe
              simp only [Value.slice.injEq, true_and] at hoe
              obtain ⟨rfl, rfl⟩ := hoe
              obtain ⟨j1, hj1⟩ : ∃ j, (i - 1) / 2 = j := ⟨_, rfl⟩
              obtain ⟨j2, hj2⟩ : ∃ j, i / 2 = j := ⟨_, rfl⟩
              have hq1 : IntKind.i64.wrap ((IntKind.i64.wrap ((i : Int) - 1)).tdiv 2) = (j1 : Int) := by
                rw [IntWalk.i64_in ((i : Int) - 1) (by omega), Int.tdiv_eq_ediv_of_nonneg (by omega), IntWalk.i64_in _ (by omega)]
                omega
              have hq2 : IntKind.i64.wrap ((i : Int) / 2) = (j2 : Int) := by
                rw [IntWalk.i64_in _ (by omega)]
                omega
              have hl1 : (j1 : Int) < (i : Int) := by omega
              have hl2 : (j2 : Int) < (i : Int) := by omega
              have h1I : (1 : Int) ≤ (i : Int) := by omega
              obtain ⟨ngo, ao, so1, co1, bo1, to1, do1, y0, y1, y2, hEo⟩ := HO2.out.at (i := j1) (by rw [insAll_len, HQl.out]; omega)
              obtain ⟨ngp, ap, sp1, cp1, bp1, tp1, dp1, z0, z1, z2, hEp⟩ := HO2.out.at (i := j2) (by rw [insAll_len, HQl.out]; omega)
              have HEo := Lib.hid hEo
              have HEp := Lib.hid hEp
              have hw1 := getD_wee (insAll_wee HWee.out) j1
              have hw2 := getD_wee (insAll_wee HWee.out) j2
              have HEq := Lib.hid (show want12 4 ns ws = [⟨(textQ (divP ((insAll qs).getD j1 0 + (insAll qs).getD j2 0) 2)).toArray⟩] by
                rw [HW12.out, if_neg (by rw [HW0.out]; simp), if_neg (fun h => absurd h.1 (by decide)), num12_4, HQl.out, hj1, hj2])
              have HSz := Lib.hid (rsz_mid hw1 hw2)
              have HSa := Lib.hid (rsz_add hw1 hw2)
              have HAd := Lib.hid (fun (W : World) (hW : Below wx.heap.size wx W) => refAdd_any (HEo.out.ref.below hW) (HEp.out.ref.below hW) (rsz_wee hw1).1 (rsz_wee hw1).2 (rsz_wee hw2).1 (rsz_wee hw2).2)
              have HI2 := Lib.hid (fun W => int_two W)
              clear hj1 hj2 hEo hEp hw1 hw2
              go_upto_region 47 with (fail)
              go_region_law (first
                | (go_simp; go_at_call 27; refine (HAd.out _ ((Below.refl _ wx).drew)).mono ?_; rintro e w5 ⟨v5, rfl, hN5, hB5⟩; obtain ⟨ng5, a5, s5, c5, b5, t5, d5, rfl, hE5⟩ := refE_of hN5.at; have HE5 := Lib.hid hE5; have HB5 := Lib.hid (show Below wx.heap.size wx w5 from ((Below.refl _ wx).drew).trans hB5); clear hN5 hB5 hE5)
                | (go_simp; go_at_call 26; refine (HI2.out _).mono ?_; rintro e w6 ⟨v6, rfl, hN6, hB6⟩; obtain ⟨ng6, a6, s6, c6, b6, t6, d6, rfl, hE6⟩ := refE_of hN6; have HE6 := Lib.hid hE6; have HE56 := Lib.hid (HE5.out.below hB6); have HB6 := Lib.hid (HB5.out.trans (hB6.mono HB5.out.size)); clear hN6 hB6 hE6)
                | (go_simp; go_at_call 30; refine (refDiv_any HE56.out.ref HE6.out.ref HSa.out.1 HSa.out.2 (rsz_wee two_wee).1 (rsz_wee two_wee).2 (by decide)).mono ?_; rintro e w7 ⟨v7, rfl, hN7, hB7⟩; obtain ⟨ng7, a7, s7, c7, b7, t7, d7, rfl, hE7⟩ := refE_of hN7.at; have HB7' : Below wx.heap.size wx w7 := HB6.out.trans (hB7.mono HB6.out.size); have hk7 := HKs.out.below HB7' HKs.out.lt; have q0 := hk7.cell 0; have q1 := hk7.cell 1; have q2 := hk7.cell 2; have g0 := hk7.frozen 0; have g1 := hk7.frozen 1; have g2 := hk7.frozen 2; have HB8 := Lib.hid (put3_below (x0 := .bool ng7) (x1 := .slice a7 s7 c7) (x2 := .slice b7 t7 d7) (HWw.out.trans (HB7'.mono HWw.out.size)) (show w.heap.size ≤ Bs from Nat.le_trans HBw.out.size HZ2.out.1)); have HTx := Lib.hid (refText_any (w := put3 w7 Bs (.bool ng7) (.slice a7 s7 c7) (.slice b7 t7 d7)) ((hE7.keep (put3_keep (by decide) hk7)).ref) (Nat.le_trans (divP_eq (show (2 : Rat) ≠ 0 by decide) ▸ HSz.out.1) (by decide)) (Nat.le_trans (divP_eq (show (2 : Rat) ≠ 0 by decide) ▸ HSz.out.2) (by decide))); clear hN7 hB7 hE7 HB7'))
              all_goals
                go_wp2_with (go_at_call 24; refine HTx.out.mono ?_; rintro e w8 ⟨rfl, hB9⟩; have HB9 := Lib.hid (HB8.out.trans (hB9.mono HB8.out.size)); clear hB9)
                go_ret
                exact tell_one HB9.out (by rw [HEq.out, ← divP_eq (show (2 : Rat) ≠ 0 by decide)]; rfl)
            · obtain ⟨go, co', hoe, hob, hog, hoc⟩ := HO2.out.form (by rw [insAll_len, HQl.out]; exact h0)
              rw [insAll_len, HQl.out] at hoe
              simp only [Value.slice.injEq, true_and] at hoe
              obtain ⟨rfl, rfl⟩ := hoe
              obtain ⟨j, hj⟩ : ∃ j, i - 1 = j := ⟨_, rfl⟩
              have hjI : (i : Int) - 1 = (j : Int) := by omega
              have hjl : (j : Int) < (i : Int) := by omega
              obtain ⟨ngo, ao, so1, co1, bo1, to1, do1, z0, z1, z2, hEo⟩ := HO2.out.at (i := j) (by rw [insAll_len, HQl.out]; omega)
              have HJe := Lib.hid hj
              clear hj
              have HSz := Lib.hid (rsz_wee (getD_wee (insAll_wee HWee.out) j))
              have HEq := Lib.hid (show want12 5 ns ws = [⟨(textQ ((insAll qs).getD j 0)).toArray⟩] by
                rw [HW12.out, if_neg (by rw [HW0.out]; simp), if_neg (fun h => absurd h.1 (by decide)), num12_5, HQl.out, HJe.out])
              have HP := Lib.hid (jn_sum HKs.out (Below.refl _ wx) hEo HB2.out HZ2.out.1)
              have HB5 := Lib.hid (put3_below (x0 := .bool ngo) (x1 := .slice ao so1 co1) (x2 := .slice bo1 to1 do1) HWw.out (show w.heap.size ≤ Bs from Nat.le_trans HBw.out.size HZ2.out.1))
              have HTx := Lib.hid (refText_any (w := put3 wx Bs (.bool ngo) (.slice ao so1 co1) (.slice bo1 to1 do1)) ((hEo.keep (put3_keep (by decide) HKs.out)).ref) (Nat.le_trans HSz.out.1 (by decide)) (Nat.le_trans HSz.out.2 (by decide)))
              clear hEo
              go_wp2_with (go_at_call 24; refine HTx.out.mono ?_; rintro e w6 ⟨rfl, hB6⟩; have HB6 := Lib.hid (HB5.out.trans (hB6.mono HB5.out.size)); clear hB6)
              go_ret
              exact tell_one HB6.out HEq.out
            · obtain ⟨go, co', hoe, hob, hog, hoc⟩ := HO2.out.form (by rw [insAll_len, HQl.out]; exact h0)
              rw [insAll_len, HQl.out] at hoe
              simp only [Value.slice.injEq, true_and] at hoe
              obtain ⟨rfl, rfl⟩ := hoe
              obtain ⟨ngo, ao, so1, co1, bo1, to1, do1, z0, z1, z2, hEo⟩ := HO2.out.at (i := 0) (by rw [insAll_len, HQl.out]; exact h0)
              simp only [Nat.zero_mul, Nat.zero_add] at z0 z1 z2
              have HSz := Lib.hid (rsz_wee (getD_wee (insAll_wee HWee.out) 0))
              have HEq := Lib.hid (show want12 6 ns ws = [⟨(textQ ((insAll qs).getD 0 0)).toArray⟩] by
                rw [HW12.out, if_neg (by rw [HW0.out]; simp), if_neg (fun h => absurd h.1 (by decide)), num12_6])
              have HP := Lib.hid (jn_sum HKs.out (Below.refl _ wx) hEo HB2.out HZ2.out.1)
              have HB5 := Lib.hid (put3_below (x0 := .bool ngo) (x1 := .slice ao so1 co1) (x2 := .slice bo1 to1 do1) HWw.out (show w.heap.size ≤ Bs from Nat.le_trans HBw.out.size HZ2.out.1))
              have HTx := Lib.hid (refText_any (w := put3 wx Bs (.bool ngo) (.slice ao so1 co1) (.slice bo1 to1 do1)) ((hEo.keep (put3_keep (by decide) HKs.out)).ref) (Nat.le_trans HSz.out.1 (by decide)) (Nat.le_trans HSz.out.2 (by decide)))
              clear hEo
              go_wp2_with (go_at_call 24; refine HTx.out.mono ?_; rintro e w6 ⟨rfl, hB6⟩; have HB6 := Lib.hid (HB5.out.trans (hB6.mono HB5.out.size)); clear hB6)
              go_ret
              exact tell_one HB6.out HEq.out
      · obtain rfl : k = 0 := by omega
        have hwf : wh = false := by rw [← HWh.out, HN.out]; rfl
        subst hwf
        clear b7 b9
        by_cases hm1 : me < 1
        · have m7 : (me == 7) = false := beq_eq_false_iff_ne.2 (by omega)
          have m9 : (me == 9) = false := beq_eq_false_iff_ne.2 (by omega)
          go_wp2
          go_ret
          exact no_end HNo.out (by rw [HW12.out, if_pos (.inl hm1)]) HBw.out
        have hm1' : 1 ≤ me := by omega
        by_cases hm6 : 6 < me
        · by_cases m7 : me = 7
          · subst m7
            go_wp2
            go_ret
            exact no_end HNo.out (by rw [HW12.out, if_pos (.inr (.inl (by decide)))]) HBw.out
          by_cases m9 : me = 9
          · subst m9
            go_wp2
            go_ret
            exact no_end HNo.out (by rw [HW12.out, if_pos (.inr (.inl (by decide)))]) HBw.out
          have m7 : (me == 7) = false := beq_eq_false_iff_ne.2 m7
          have m9 : (me == 9) = false := beq_eq_false_iff_ne.2 m9
          go_wp2
          go_ret
          exact no_end HNo.out (by rw [HW12.out, if_pos (.inr (.inl hm6))]) HBw.out
        have hm6' : me ≤ 6 := by omega
        have m7 : (me == 7) = false := beq_eq_false_iff_ne.2 (by omega)
        have m9 : (me == 9) = false := beq_eq_false_iff_ne.2 (by omega)
        go_wp2
        go_ret
        exact no_end HNo.out (by rw [HW12.out, if_pos (.inr (.inr HWh.out))]) HBw.out
end Go.Proofs.YtjcpfmndkeiegaaGreatDoor.Rf
