/- The document's Int, RatText and Digits of a whole number: the decimal text. -/
import Derived.Test.YtgdnibdahldekabDoorNmG
import Derived.Lib.ItoaLen
namespace Go.Proofs.YtgdnibdahldekabDoor
open Go.RowKit
set_option linter.unusedVariables false

/-- What Make answers is laid in a block of its own. -/
theorem rat_store {B : Nat} {w W : World} {xs : List Int} {neg : Bool} {G : Nat} {qa : Option Addr} {qn qc : Nat} {da : Option Addr} {dn dc : Nat} (hG : BlkAt W G 78 #[.bool false, .slice none 0 0, .slice none 0 0]) (hB : Below B w W) (hBG : B ≤ G) (hq : NS W (.slice qa qn qc) xs) (hd : NS W (.slice da dn dc) [1]) :
    ∀ W', ((W.setCell ⟨G, 0, none⟩ (.bool neg)).setCell ⟨G, 1, none⟩ (.slice qa qn qc)).setCell ⟨G, 2, none⟩ (.slice da dn dc) = W' → BlkAt W' G 78 #[.bool neg, .slice qa qn qc, .slice da dn dc] ∧ Below B w W' ∧ NS W' (.slice qa qn qc) xs ∧ NS W' (.slice da dn dc) [1] := fun W' e => by
  obtain ⟨W2, e2, h1, h2, h3⟩ := rat_laid hG hB hBG neg (q := .slice qa qn qc) (d := .slice da dn dc) rfl rfl
  rw [e] at e2
  subst e2
  exact ⟨h1, h2, h3 _ _ hq, h3 _ _ hd⟩
theorem NS.sl {W : World} {v : Value} {xs : List Int} (h : NS W v xs) : ∃ a n c, v = .slice a n c := by
  obtain ⟨a, c, e, _⟩ := h
  exact ⟨a, _, c, e⟩

set_option maxRecDepth 100000 in
set_option maxHeartbeats 1600000 in
theorem int_pos (u : Nat) (hu : u ≤ 9223372036854775807) (w : World) :
    Calls Tryd.prog 57 #[.int .i64 u] w fun e W' => MakeD w (limbs u) false e W' := by
  have hlen := limbs_len5 (show u < 18446744073709551616 by omega)
  have HLen := Lib.hid hlen
  clear hlen
  have hB0 : Below w.heap.size w (w.alloc (.cells #[.bool false, .slice none 0 0, .slice none 0 0] 78)) := (Below.refl _ w).alloc (Nat.le_refl _) _
  have hK0 : BlkAt (w.alloc (.cells #[.bool false, .slice none 0 0, .slice none 0 0] 78)) w.heap.size 78 #[.bool false, .slice none 0 0, .slice none 0 0] := BlkAt.new _ _ _
  have hs0 : w.heap.size < (w.alloc (.cells #[.bool false, .slice none 0 0, .slice none 0 0] 78)).heap.size := by simp
  have hz : ¬ (u : Int) < 0 := by omega
  go_enter Tryd.func57, Tryd.ntmps57
  go_wp2_with fail
  generalize w.alloc (.cells #[.bool false, .slice none 0 0, .slice none 0 0] 78) = w1 at *
  refine (of_any u (by omega) w1).mono ?_
  rintro e w2 ⟨v, rfl, hv, hB2⟩
  have HM := Lib.hid (make_one false v (.slice (some ⟨w2.heap.size, 0, none⟩) 1 1) (limbs u) (by have := HLen.out; omega) (limbs_range u) (fun hp => limbs_last u (by
    apply Decidable.byContradiction
    intro hn
    obtain rfl : u = 0 := by omega
    rw [limbs_zero] at hp
    exact absurd hp (by simp))) (fun e => by cases e) (w2.alloc (.cells #[.int .i64 1] 3)) (hv.below ((Below.refl _ _).alloc (Nat.le_refl _) _)) (ns_new1 w2 1))
  have HB2 := Lib.hid hB2
  clear hv hB2
  go_wp2_with fail
  refine HM.out.mono ?_
  rintro e w4 ⟨q, d, rfl, hq, hd, hB4⟩
  obtain ⟨qa, qn, qc, rfl⟩ := hq.sl
  obtain ⟨da, dn, dc, rfl⟩ := hd.sl
  have hB24 := (HB2.out.alloc HB2.out.size (.cells #[.int .i64 1] 3)).trans (hB4.mono (by simp; exact Nat.le_succ_of_le HB2.out.size))
  have hK4 := hK0.below hB24 hs0
  have fz := hK4.frozen
  have c0 : w4.cell? ⟨w.heap.size, 0, none⟩ = some (.bool false) := (hK4.cell 0).trans rfl
  have c1 : w4.cell? ⟨w.heap.size, 1, none⟩ = some (.slice none 0 0) := (hK4.cell 1).trans rfl
  have c2 : w4.cell? ⟨w.heap.size, 2, none⟩ = some (.slice none 0 0) := (hK4.cell 2).trans rfl
  have HF := Lib.hid (rat_store (neg := false) hK4 (hB0.trans (hB24.mono (Nat.le_of_lt hs0))) (Nat.le_refl _) hq hd)
  clear hq hd hB4 hB24 hK4 hB0 hK0
  go_wp2
  obtain ⟨k1, k2, k3, k4⟩ := HF.out _ rfl
  refine bodyPost_ret (results_c rfl rfl aggR rfl k1) rfl ?_
  exact ⟨_, _, rfl, k3, k4, k2⟩
set_option maxRecDepth 100000 in
set_option maxHeartbeats 1600000 in
theorem int_neg (u : Nat) (hu0 : 0 < u) (hu : u ≤ 9223372036854775808) (w : World) :
    Calls Tryd.prog 57 #[.int .i64 (-(u : Int))] w fun e W' => MakeD w (limbs u) true e W' := by
  have hlen := limbs_len5 (show u < 18446744073709551616 by omega)
  have HLen := Lib.hid hlen
  clear hlen
  have hB0 : Below w.heap.size w (w.alloc (.cells #[.bool false, .slice none 0 0, .slice none 0 0] 78)) := (Below.refl _ w).alloc (Nat.le_refl _) _
  have hK0 : BlkAt (w.alloc (.cells #[.bool false, .slice none 0 0, .slice none 0 0] 78)) w.heap.size 78 #[.bool false, .slice none 0 0, .slice none 0 0] := BlkAt.new _ _ _
  have hs0 : w.heap.size < (w.alloc (.cells #[.bool false, .slice none 0 0, .slice none 0 0] 78)).heap.size := by simp
  obtain ⟨z, hzu⟩ : ∃ z : Int, -(u : Int) = z := ⟨_, rfl⟩
  rw [hzu]
  have hz : z < 0 := by omega
  have e1 : -(z + 1) + 1 = (u : Int) := by omega
  have hb1 : -9223372036854775808 ≤ z := by omega
  have HZ := Lib.hid hzu
  clear hzu
  go_enter Tryd.func57, Tryd.ntmps57
  go_wp2_with fail
  generalize w.alloc (.cells #[.bool false, .slice none 0 0, .slice none 0 0] 78) = w1 at *
  refine (of_any u (by omega) w1).mono ?_
  rintro e w2 ⟨v, rfl, hv, hB2⟩
  have HM := Lib.hid (make_one true v (.slice (some ⟨w2.heap.size, 0, none⟩) 1 1) (limbs u) (by have := HLen.out; omega) (limbs_range u) (fun hp => limbs_last u (by
    apply Decidable.byContradiction
    intro hn
    obtain rfl : u = 0 := by omega
    rw [limbs_zero] at hp
    exact absurd hp (by simp))) (fun _ => by rw [limbs_pos hu0]; simp) (w2.alloc (.cells #[.int .i64 1] 3)) (hv.below ((Below.refl _ _).alloc (Nat.le_refl _) _)) (ns_new1 w2 1))
  have HB2 := Lib.hid hB2
  clear hv hB2
  go_wp2_with fail
  refine HM.out.mono ?_
  rintro e w4 ⟨q, d, rfl, hq, hd, hB4⟩
  obtain ⟨qa, qn, qc, rfl⟩ := hq.sl
  obtain ⟨da, dn, dc, rfl⟩ := hd.sl
  have hB24 := (HB2.out.alloc HB2.out.size (.cells #[.int .i64 1] 3)).trans (hB4.mono (by simp; exact Nat.le_succ_of_le HB2.out.size))
  have hK4 := hK0.below hB24 hs0
  have fz := hK4.frozen
  have c0 : w4.cell? ⟨w.heap.size, 0, none⟩ = some (.bool false) := (hK4.cell 0).trans rfl
  have c1 : w4.cell? ⟨w.heap.size, 1, none⟩ = some (.slice none 0 0) := (hK4.cell 1).trans rfl
  have c2 : w4.cell? ⟨w.heap.size, 2, none⟩ = some (.slice none 0 0) := (hK4.cell 2).trans rfl
  have HF := Lib.hid (rat_store (neg := true) hK4 (hB0.trans (hB24.mono (Nat.le_of_lt hs0))) (Nat.le_refl _) hq hd)
  clear hq hd hB4 hB24 hK4 hB0 hK0
  go_wp2
  obtain ⟨k1, k2, k3, k4⟩ := HF.out _ rfl
  refine bodyPost_ret (results_c rfl rfl aggR rfl k1) rfl ?_
  exact ⟨_, _, rfl, k3, k4, k2⟩

/-- The text of a whole number. -/
def ratL (neg : Bool) (u : Nat) : List UInt8 := if neg then 45 :: Lib.decDigits u else Lib.decDigits u
set_option maxRecDepth 100000 in
set_option maxHeartbeats 1600000 in
theorem ratText_any (neg : Bool) (u : Nat) (hu : u < 18446744073709551616) (q d : Value) (w : World) (hq : NS w q (limbs u)) (hd : NS w d [1]) :
    Calls Tryd.prog 56 #[.agg #[.bool neg, q, d]] w fun e W' => e = .returned (.string ⟨(ratL neg u).toArray⟩) ∧ Below w.heap.size w W' := by
  obtain ⟨qa, qn, qc, rfl⟩ := hq.sl
  obtain ⟨da, dn, dc, rfl⟩ := hd.sl
  have hB0 : Below w.heap.size w (w.alloc (.cells #[.bool neg, .slice qa qn qc, .slice da dn dc] 78)) := (Below.refl _ w).alloc (Nat.le_refl _) _
  have hK0 : BlkAt (w.alloc (.cells #[.bool neg, .slice qa qn qc, .slice da dn dc] 78)) w.heap.size 78 #[.bool neg, .slice qa qn qc, .slice da dn dc] := BlkAt.new _ _ _
  have hs0 : w.heap.size < (w.alloc (.cells #[.bool neg, .slice qa qn qc, .slice da dn dc] 78)).heap.size := by simp
  have HT := Lib.hid (text_num u hu (.slice qa qn qc) _ (hq.below hB0))
  have HD0 := Lib.hid (hd.below hB0)
  have hlen : (Lib.decDigits u).length ≤ 20 := by
    rw [Lib.decDigits_length]
    exact Lib.nDigits_le20 u hu
  go_enter Tryd.func56, Tryd.ntmps56
  have c1 : (w.alloc (.cells #[.bool neg, .slice qa qn qc, .slice da dn dc] 78)).cell? ⟨w.heap.size, 1, none⟩ = some (.slice qa qn qc) := (hK0.cell 1).trans rfl
  clear hq hd
  go_wp2_with fail
  generalize w.alloc (.cells #[.bool neg, .slice qa qn qc, .slice da dn dc] 78) = w1 at *
  refine HT.out.mono ?_
  rintro e w2 ⟨rfl, hB2⟩
  have hK2 := hK0.below hB2 hs0
  have d0 : w2.cell? ⟨w.heap.size, 0, none⟩ = some (.bool neg) := (hK2.cell 0).trans rfl
  have d2 : w2.cell? ⟨w.heap.size, 2, none⟩ = some (.slice da dn dc) := (hK2.cell 2).trans rfl
  have HCm := Lib.hid (cmp_dig (.slice da dn dc) (.slice (some ⟨w2.heap.size, 0, none⟩) 1 1) 1 1 (by omega) (by omega) (w2.alloc (.cells #[.int .i64 1] 3)) ((HD0.out.below hB2).below ((Below.refl _ _).alloc (Nat.le_refl _) _)) (ns_new1 w2 1))
  have HB02 := Lib.hid (hB0.trans (hB2.mono (Nat.le_of_lt hs0)))
  have HS2 := Lib.hid (Nat.le_trans (Nat.le_of_lt hs0) hB2.size)
  clear hB0 hB2 hK0 hK2 c1 HT HD0
  have HZ := Lib.hid (show cmpZ 1 1 = 0 from rfl)
  generalize hs : Lib.decDigits u = s at *
  have HSs := Lib.hid hs
  clear hs
  cases neg with
  | true =>
    go_wp2_with fail
    refine HCm.out.mono ?_
    rintro e w3 ⟨rfl, hB3⟩
    rw [HZ.out]
    go_wp2
    go_ret
    exact ⟨by rw [show ratL true u = 45 :: s from by rw [← HSs.out]; rfl]; exact congrArg (fun b => Ending.returned (Value.string b)) (ba_cons 45 s), (HB02.out.alloc HS2.out _).trans (hB3.mono (by simp; exact Nat.le_succ_of_le HS2.out))⟩
  | false =>
    go_wp2_with fail
    refine HCm.out.mono ?_
    rintro e w3 ⟨rfl, hB3⟩
    rw [HZ.out]
    go_wp2
    go_ret
    exact ⟨by rw [show ratL false u = s from HSs.out]; rfl, (HB02.out.alloc HS2.out _).trans (hB3.mono (by simp; exact Nat.le_succ_of_le HS2.out))⟩

set_option maxRecDepth 100000 in
theorem digits_any (v : Int) (h0 : -9223372036854775808 ≤ v) (h1 : v ≤ 9223372036854775807) (w : World) :
    Calls Tryd.prog 26 #[.int .i64 v] w fun e W' => e = .returned (.string ⟨(Lib.itoa v).toArray⟩) ∧ Below w.heap.size w W' := by
  obtain ⟨u, neg, hu, hI, hT⟩ : ∃ (u : Nat) (neg : Bool), u < 18446744073709551616 ∧ (∀ W, Calls Tryd.prog 57 #[.int .i64 v] W fun e W' => MakeD W (limbs u) neg e W') ∧ ratL neg u = Lib.itoa v := by
    by_cases h : v < 0
    · refine ⟨v.natAbs, true, by omega, fun W => ?_, by unfold ratL Lib.itoa; rw [if_pos h]; rfl⟩
      have := int_neg v.natAbs (by omega) (by omega) W
      rwa [show -(v.natAbs : Int) = v by omega] at this
    · refine ⟨v.toNat, false, by omega, fun W => ?_, by unfold ratL Lib.itoa; rw [if_neg h]; rfl⟩
      have := int_pos v.toNat (by omega) W
      rwa [show (v.toNat : Int) = v by omega] at this
  rw [← hT]
  have HI := Lib.hid (hI w)
  clear hI hT h0 h1
  go_enter Tryd.func26, Tryd.ntmps26
  go_wp2_with fail
  refine HI.out.mono ?_
  rintro e w1 ⟨q, d, rfl, hq, hd, hB⟩
  have HR := Lib.hid (ratText_any neg u hu q d w1 hq hd)
  clear hq hd
  go_wp2_with fail
  refine HR.out.mono ?_
  rintro e w2 ⟨rfl, hB2⟩
  go_wp2
  go_ret
  exact ⟨rfl, hB.trans (hB2.mono hB.size)⟩
end Go.Proofs.YtgdnibdahldekabDoor
