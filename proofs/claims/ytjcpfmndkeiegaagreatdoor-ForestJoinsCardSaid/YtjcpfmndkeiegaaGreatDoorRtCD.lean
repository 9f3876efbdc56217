/- The walks of rat's cross, Mul. The walk of rat's Div. -/
import Derived.Test.YtjcpfmndkeiegaaGreatDoorRtAB
import Derived.Deep.RegionHeld3
namespace Go.Proofs.YtjcpfmndkeiegaaGreatDoor
open Go.RowKit
set_option linter.unusedVariables false

/-- Two boxes of fractions. -/
theorem rats_new (w : World) (ca cb : Array Value) : BlkAt ((w.alloc (.cells ca 59)).alloc (.cells cb 59)) w.heap.size 59 ca ∧
    BlkAt ((w.alloc (.cells ca 59)).alloc (.cells cb 59)) (w.heap.size + 1) 59 cb ∧ Below w.heap.size w ((w.alloc (.cells ca 59)).alloc (.cells cb 59)) := by
  refine ⟨(BlkAt.new w _ _).alloc _, ?_, ((Below.refl _ w).alloc (Nat.le_refl _) _).alloc (by simp) _⟩
  have := BlkAt.new (w.alloc (.cells ca 59)) 59 cb
  simpa using this
theorem two_more (W : World) (o : Obj) (t : TypeId) (c : Array Value) : BlkAt ((W.alloc o).alloc (.cells c t)) (W.heap.size + 1) t c := by
  have := BlkAt.new (W.alloc o) t c
  simpa using this
/-- The numerator of a fraction as a number. -/
theorem num_at {w : World} {a : Option Addr} {c : Nat} {q : Rat} (h : RdL w a (limbs (numQ q))) : NatAt w (.agg #[.slice a (szN (numQ q)) c]) (numQ q) := ⟨a, c, rfl, h⟩
theorem natAt_mk {w : World} {a : Option Addr} {c n : Nat} (h : RdL w a (limbs n)) : NatAt w (.agg #[.slice a (szN n) c]) n := ⟨a, c, rfl, h⟩
theorem ratAt_mk {w : World} {a b : Option Addr} {c d : Nat} {q : Rat} (h : RdL w a (limbs (numQ q))) (h' : RdL w b (limbs (denQ q))) : RatAt w (.agg #[.bool (negQ q), .slice a (szN (numQ q)) c, .slice b (szN (denQ q)) d]) q := ⟨a, c, b, d, rfl, h, h'⟩
/-- The cells of two fractions' boxes. -/
def RatCells (w W : World) (x0 x1 x2 y0 y1 y2 : Value) : Prop := W.cell? ⟨w.heap.size, 0, none⟩ = some x0 ∧ W.cell? ⟨w.heap.size, 1, none⟩ = some x1 ∧ W.cell? ⟨w.heap.size, 2, none⟩ = some x2 ∧
  W.cell? ⟨w.heap.size + 1, 0, none⟩ = some y0 ∧ W.cell? ⟨w.heap.size + 1, 1, none⟩ = some y1 ∧ W.cell? ⟨w.heap.size + 1, 2, none⟩ = some y2
theorem RatCells.of {w W : World} {x0 x1 x2 y0 y1 y2 : Value} (h1 : BlkAt W w.heap.size 59 #[x0, x1, x2]) (h2 : BlkAt W (w.heap.size + 1) 59 #[y0, y1, y2]) : RatCells w W x0 x1 x2 y0 y1 y2 :=
  ⟨h1.cell 0, h1.cell 1, h1.cell 2, h2.cell 0, h2.cell 1, h2.cell 2⟩
set_option maxRecDepth 20000 in
set_option maxHeartbeats 8000000 in
theorem cross_any {va vb : Value} {x y : Rat} {w : World} (hx : RatAt w va x) (hy : RatAt w vb y) (h1 : szN (numQ x) ≤ 1000000) (h2 : szN x.den ≤ 1000000) (h3 : szN (numQ y) ≤ 1000000) (h4 : szN y.den ≤ 1000000) :
    Calls Tryz.prog 116 #[va, vb] w fun e w' => ∃ v1 v2, e = .returned (.tuple #[v1, v2]) ∧ NatAt w' v1 (numQ x * y.den) ∧ NatAt w' v2 (numQ y * x.den) ∧ Below w.heap.size w w' := by
  have HDx := Lib.hid (fun (W : World) (hW : Below w.heap.size w W) => den_any (hx.below hW))
  have HDy := Lib.hid (fun (W : World) (hW : Below w.heap.size w W) => den_any (hy.below hW))
  obtain ⟨a, c, b, d, rfl, ha, hb⟩ := hx
  obtain ⟨a', c', b', d', rfl, ha', hb'⟩ := hy
  have HNx := Lib.hid (fun (W : World) (hW : Below w.heap.size w W) => num_at (c := c) (ha.below hW))
  have HNy := Lib.hid (fun (W : World) (hW : Below w.heap.size w W) => num_at (c := c') (ha'.below hW))
  obtain ⟨x0, hx0⟩ : ∃ x0, negQ x = x0 := ⟨_, rfl⟩
  obtain ⟨n1, hn1⟩ : ∃ n, szN (numQ x) = n := ⟨_, rfl⟩
  obtain ⟨n2, hn2⟩ : ∃ n, szN (denQ x) = n := ⟨_, rfl⟩
  obtain ⟨y0, hy0⟩ : ∃ x0, negQ y = x0 := ⟨_, rfl⟩
  obtain ⟨m1, hm1⟩ : ∃ n, szN (numQ y) = n := ⟨_, rfl⟩
  obtain ⟨m2, hm2⟩ : ∃ n, szN (denQ y) = n := ⟨_, rfl⟩
  have HS1 := Lib.hid h1
  have HS2 := Lib.hid h2
  have HS3 := Lib.hid h3
  have HS4 := Lib.hid h4
  have HX0 := Lib.hid hx0
  have HY0 := Lib.hid hy0
  rw [hx0, hn1, hn2] at HDx ⊢
  rw [hy0, hm1, hm2] at HDy ⊢
  rw [hn1] at HNx
  rw [hm1] at HNy
  obtain ⟨W2, hW2⟩ : ∃ W2, (((w.alloc (.cells #[.bool x0, .slice a n1 c, .slice b n2 d] 59)).alloc (.cells #[.bool y0, .slice a' m1 c', .slice b' m2 d'] 59)).alloc (.cells #[.slice none 0 0] 57)).alloc (.cells #[.slice none 0 0] 57) = W2 := ⟨_, rfl⟩
  obtain ⟨b0, b1, hB2⟩ := rats_new w #[.bool x0, .slice a n1 c, .slice b n2 d] #[.bool y0, .slice a' m1 c', .slice b' m2 d']
  have b2 := BlkAt.new ((w.alloc (.cells #[.bool x0, .slice a n1 c, .slice b n2 d] 59)).alloc (.cells #[.bool y0, .slice a' m1 c', .slice b' m2 d'] 59)) 57 #[.slice none 0 0]
  have b0 := b0.alloc (.cells #[.slice none 0 0] 57)
  have b1 := b1.alloc (.cells #[.slice none 0 0] 57)
  have hB2 := hB2.alloc (by simp; omega) (.cells #[.slice none 0 0] 57)
  have b3 := two_more ((w.alloc (.cells #[.bool x0, .slice a n1 c, .slice b n2 d] 59)).alloc (.cells #[.bool y0, .slice a' m1 c', .slice b' m2 d'] 59)) (.cells #[.slice none 0 0] 57) 57 #[.slice none 0 0]
  have b0 := b0.alloc (.cells #[.slice none 0 0] 57)
  have b1 := b1.alloc (.cells #[.slice none 0 0] 57)
  have b2 := b2.alloc (.cells #[.slice none 0 0] 57)
  have hB2 := hB2.alloc (by simp; omega) (.cells #[.slice none 0 0] 57)
  rw [hW2] at b0 b1 b2 b3 hB2
  simp only [World.size_alloc] at b2 b3
  have HK0 := Lib.hid b0
  have HK1 := Lib.hid b1
  have HK2 := Lib.hid b2
  have HK3 := Lib.hid b3
  have HB2 := Lib.hid hB2
  obtain ⟨q0, q1, q2, q3, q4, q5⟩ := RatCells.of b0 b1
  clear ha hb ha' hb' b0 b1 b2 b3 hB2 hx0 hn1 hn2 hy0 hm1 hm2 h1 h2 h3 h4
  have hne1 : w.heap.size ≠ w.heap.size + 1 + 1 := by omega
  have hne2 : w.heap.size ≠ w.heap.size + 1 + 1 + 1 := by omega
  have hne3 : w.heap.size + 1 + 1 ≠ w.heap.size := by omega
  have hne4 : w.heap.size + 1 + 1 + 1 ≠ w.heap.size := by omega
  go_enter Tryz.func116, Tryz.ntmps116
  go_wp2_with fail
  clear hW2
  go_region_held3 (fun W => W.cell? ⟨w.heap.size, 0, none⟩ = some (.bool x0) ∧ W.cell? ⟨w.heap.size, 1, none⟩ = some (.slice a n1 c) ∧ W.cell? ⟨w.heap.size, 2, none⟩ = some (.slice b n2 d) ∧ W.cell? ⟨w.heap.size + 1, 0, none⟩ = some (.bool y0) ∧ W.cell? ⟨w.heap.size + 1, 1, none⟩ = some (.slice a' m1 c') ∧ W.cell? ⟨w.heap.size + 1, 2, none⟩ = some (.slice b' m2 d')) (go_keep)
    (first
      | (go_at_call 100; refine (HDy.out _ HB2.out.drew).mono ?_; clear HDy; rintro e w3 ⟨v3, rfl, hN3, hB3⟩; replace hB3 : Below W2.heap.size W2 w3 := ((Below.refl _ W2).drew).trans hB3; have HB3 := Lib.hid hB3; obtain ⟨q0, q1, q2, q3, q4, q5⟩ := RatCells.of (HK0.out.below HB3.out HK0.out.lt) (HK1.out.below HB3.out HK1.out.lt); have HM := Lib.hid (mul_any (HNx.out _ (HB2.out.trans (hB3.mono HB2.out.size))) hN3 HS1.out HS4.out); have HW3 := Lib.hid (HB2.out.trans (hB3.mono HB2.out.size)); clear hN3 hB3)
      | (go_at_call 99; refine HM.out.mono ?_; clear HM; rintro e w4 ⟨v4, rfl, hN4, hB4⟩; obtain ⟨a4, c4, rfl, hr4⟩ := hN4; have hN4 := natAt_mk (c := c4) hr4; have HB4 := Lib.hid (HB3.out.trans (hB4.mono HB3.out.size)); obtain ⟨q0, q1, q2, q3, q4, q5⟩ := RatCells.of (HK0.out.below HB4.out HK0.out.lt) (HK1.out.below HB4.out HK1.out.lt); have HN4 := Lib.hid hN4; have HW4 := Lib.hid (HW3.out.trans (hB4.mono HW3.out.size)); have HD2 := Lib.hid (HDx.out _ HW4.out); clear hN4 hB4 hr4)
      | (go_at_call 100; refine HD2.out.mono ?_; clear HD2; rintro e w5 ⟨v5, rfl, hN5, hB5⟩; have HB5 := Lib.hid (HB4.out.trans (hB5.mono HB4.out.size)); obtain ⟨q0, q1, q2, q3, q4, q5⟩ := RatCells.of (HK0.out.below HB5.out HK0.out.lt) (HK1.out.below HB5.out HK1.out.lt); have HB45 := Lib.hid hB5; have HW5 := Lib.hid (HW4.out.trans (hB5.mono HW4.out.size)); have HM2 := Lib.hid (mul_any (HNy.out _ HW5.out) hN5 HS3.out HS2.out); clear hN5 hB5)
      | (go_at_call 99; refine HM2.out.mono ?_; clear HM2; rintro e w6 ⟨v6, rfl, hN6, hB6⟩; obtain ⟨a6, c6, rfl, hr6⟩ := hN6; have HN7 := Lib.hid (natAt_mk (c := c6) hr6); have HB6 := Lib.hid (HB5.out.trans (hB6.mono HB5.out.size)); obtain ⟨q0, q1, q2, q3, q4, q5⟩ := RatCells.of (HK0.out.below HB6.out HK0.out.lt) (HK1.out.below HB6.out HK1.out.lt); have HN6 := Lib.hid ((HN4.out.below HB45.out).below hB6); have HW6 := Lib.hid (HW5.out.trans (hB6.mono HW5.out.size)); have r2 := HK2.out.below HB6.out HK2.out.lt; have r3 := HK3.out.below HB6.out HK3.out.lt; have s2 := r2.cell 0; have s3 := r3.cell 0; have t2 := r2.frozen 0; have t3 := r3.frozen 0; have HR2 := Lib.hid r2; have HR3 := Lib.hid r3; clear hB6 r2 r3 hr6))
  go_wp2
  obtain ⟨k1, k2, k3, k4, k5⟩ := res_two HR2.out HR3.out (by omega) (by omega) (by omega) HW6.out HN6.out HN7.out
  exact bodyPost_ret (r_cc rfl rfl rfl (aggNat.load rfl k1) (aggNat.load rfl k2)) rfl ⟨_, _, rfl, k3, k4, k5⟩
set_option maxRecDepth 20000 in
set_option maxHeartbeats 8000000 in
theorem ratMul_any {va vb : Value} {x y : Rat} {w : World} (hx : RatAt w va x) (hy : RatAt w vb y) (h1 : szN (numQ x) ≤ 400000) (h2 : szN x.den ≤ 400000) (h3 : szN (numQ y) ≤ 400000) (h4 : szN y.den ≤ 400000) :
    Calls Tryz.prog 102 #[va, vb] w fun e w' => ∃ v, e = .returned v ∧ RatAt w' v (x * y) ∧ Below w.heap.size w w' := by
  have HDx := Lib.hid (fun (W : World) (hW : Below w.heap.size w W) => den_any (hx.below hW))
  have HDy := Lib.hid (fun (W : World) (hW : Below w.heap.size w W) => den_any (hy.below hW))
  obtain ⟨a, c, b, d, rfl, ha, hb⟩ := hx
  obtain ⟨a', c', b', d', rfl, ha', hb'⟩ := hy
  have HNx := Lib.hid (fun (W : World) (hW : Below w.heap.size w W) => num_at (c := c) (ha.below hW))
  have HNy := Lib.hid (fun (W : World) (hW : Below w.heap.size w W) => num_at (c := c') (ha'.below hW))
  obtain ⟨x0, hx0⟩ : ∃ x0, negQ x = x0 := ⟨_, rfl⟩
  obtain ⟨n1, hn1⟩ : ∃ n, szN (numQ x) = n := ⟨_, rfl⟩
  obtain ⟨n2, hn2⟩ : ∃ n, szN (denQ x) = n := ⟨_, rfl⟩
  obtain ⟨y0, hy0⟩ : ∃ x0, negQ y = x0 := ⟨_, rfl⟩
  obtain ⟨m1, hm1⟩ : ∃ n, szN (numQ y) = n := ⟨_, rfl⟩
  obtain ⟨m2, hm2⟩ : ∃ n, szN (denQ y) = n := ⟨_, rfl⟩
  have HS1 := Lib.hid h1
  have HS2 := Lib.hid h2
  have HS3 := Lib.hid h3
  have HS4 := Lib.hid h4
  have HX0 := Lib.hid hx0
  have HY0 := Lib.hid hy0
  rw [hx0, hn1, hn2] at HDx ⊢
  rw [hy0, hm1, hm2] at HDy ⊢
  rw [hn1] at HNx
  rw [hm1] at HNy
  obtain ⟨W2, hW2⟩ : ∃ W2, ((w.alloc (.cells #[.bool x0, .slice a n1 c, .slice b n2 d] 59)).alloc (.cells #[.bool y0, .slice a' m1 c', .slice b' m2 d'] 59)).alloc (.cells #[.bool false, .slice none 0 0, .slice none 0 0] 59) = W2 := ⟨_, rfl⟩
  obtain ⟨b0, b1, hB2⟩ := rats_new w #[.bool x0, .slice a n1 c, .slice b n2 d] #[.bool y0, .slice a' m1 c', .slice b' m2 d']
  have b2 := BlkAt.new ((w.alloc (.cells #[.bool x0, .slice a n1 c, .slice b n2 d] 59)).alloc (.cells #[.bool y0, .slice a' m1 c', .slice b' m2 d'] 59)) 59 #[.bool false, .slice none 0 0, .slice none 0 0]
  have b0 := b0.alloc (.cells #[.bool false, .slice none 0 0, .slice none 0 0] 59)
  have b1 := b1.alloc (.cells #[.bool false, .slice none 0 0, .slice none 0 0] 59)
  have hB2 := hB2.alloc (by simp; omega) (.cells #[.bool false, .slice none 0 0, .slice none 0 0] 59)
  rw [hW2] at b0 b1 b2 hB2
  simp only [World.size_alloc] at b2
  have HK0 := Lib.hid b0
  have HK1 := Lib.hid b1
  have HK2 := Lib.hid b2
  have HB2 := Lib.hid hB2
  obtain ⟨q0, q1, q2, q3, q4, q5⟩ := RatCells.of b0 b1
  clear ha hb ha' hb' b0 b1 b2 hB2 hx0 hn1 hn2 hy0 hm1 hm2 h1 h2 h3 h4
  have hne1 : w.heap.size ≠ w.heap.size + 1 + 1 := by omega
  have hne2 : w.heap.size ≠ w.heap.size + 1 + 1 + 1 := by omega
  have hne3 : w.heap.size + 1 + 1 ≠ w.heap.size := by omega
  have hne4 : w.heap.size + 1 + 1 + 1 ≠ w.heap.size := by omega
  go_enter Tryz.func102, Tryz.ntmps102
  go_wp2_with fail
  clear hW2
  have HMQ := Lib.hid (show lowQ (x0 != y0) (numQ x * numQ y) (x.den * y.den) = x * y by rw [← HX0.out, ← HY0.out]; exact mulQ x y)
  go_region_held3 (fun W => W.cell? ⟨w.heap.size, 0, none⟩ = some (.bool x0) ∧ W.cell? ⟨w.heap.size, 1, none⟩ = some (.slice a n1 c) ∧ W.cell? ⟨w.heap.size, 2, none⟩ = some (.slice b n2 d) ∧ W.cell? ⟨w.heap.size + 1, 0, none⟩ = some (.bool y0) ∧ W.cell? ⟨w.heap.size + 1, 1, none⟩ = some (.slice a' m1 c') ∧ W.cell? ⟨w.heap.size + 1, 2, none⟩ = some (.slice b' m2 d')) (go_keep)
    (first
      | (go_at_call 99; refine (mul_any (HNx.out _ HB2.out.drew) (HNy.out _ HB2.out.drew) (Nat.le_trans HS1.out (by decide)) (Nat.le_trans HS3.out (by decide))).mono ?_; rintro e w3 ⟨v3, rfl, hN3, hB3⟩; replace hB3 : Below W2.heap.size W2 w3 := ((Below.refl _ W2).drew).trans hB3; obtain ⟨a3, c3, rfl, hr3⟩ := hN3; have HV3 := Lib.hid (natAt_mk (c := c3) hr3); have HB3 := Lib.hid hB3; obtain ⟨q0, q1, q2, q3, q4, q5⟩ := RatCells.of (HK0.out.below HB3.out HK0.out.lt) (HK1.out.below HB3.out HK1.out.lt); have HW3 := Lib.hid (HB2.out.trans (HB3.out.mono HB2.out.size)); have HDx3 := Lib.hid (HDx.out _ HW3.out); clear HNx HNy HDx; clear hB3 hr3)
      | (go_at_call 100; refine (HDx3.out).mono ?_; rintro e w4 ⟨v4, rfl, hN4, hB4⟩; obtain ⟨a4, c4, rfl, hr4⟩ := hN4; have HV4 := Lib.hid (natAt_mk (c := c4) hr4); have HB4 := Lib.hid (HB3.out.trans (hB4.mono HB3.out.size)); obtain ⟨q0, q1, q2, q3, q4, q5⟩ := RatCells.of (HK0.out.below HB4.out HK0.out.lt) (HK1.out.below HB4.out HK1.out.lt); have HW4 := Lib.hid (HB2.out.trans (HB4.out.mono HB2.out.size)); replace HV3 := Lib.hid (HV3.out.below hB4); have HDy4 := Lib.hid (HDy.out _ HW4.out); clear HDx3 HDy; clear hB4 hr4)
      | (go_at_call 100; refine (HDy4.out).mono ?_; rintro e w5 ⟨v5, rfl, hN5, hB5⟩; obtain ⟨a5, c5, rfl, hr5⟩ := hN5; have HV5 := Lib.hid (natAt_mk (c := c5) hr5); have HB5 := Lib.hid (HB4.out.trans (hB5.mono HB4.out.size)); obtain ⟨q0, q1, q2, q3, q4, q5⟩ := RatCells.of (HK0.out.below HB5.out HK0.out.lt) (HK1.out.below HB5.out HK1.out.lt); have HW5 := Lib.hid (HB2.out.trans (HB5.out.mono HB2.out.size)); replace HV3 := Lib.hid (HV3.out.below hB5); replace HV4 := Lib.hid (HV4.out.below hB5); have HM5 := Lib.hid (mul_any HV4.out HV5.out (Nat.le_trans HS2.out (by decide)) (Nat.le_trans HS4.out (by decide))); clear HDy4; clear hB5 hr5)
      | (go_at_call 99; refine (HM5.out).mono ?_; rintro e w6 ⟨v6, rfl, hN6, hB6⟩; obtain ⟨a6, c6, rfl, hr6⟩ := hN6; have HV6 := Lib.hid (natAt_mk (c := c6) hr6); have HB6 := Lib.hid (HB5.out.trans (hB6.mono HB5.out.size)); obtain ⟨q0, q1, q2, q3, q4, q5⟩ := RatCells.of (HK0.out.below HB6.out HK0.out.lt) (HK1.out.below HB6.out HK1.out.lt); have HW6 := Lib.hid (HB2.out.trans (HB6.out.mono HB2.out.size)); replace HV3 := Lib.hid (HV3.out.below hB6); have HL6 := Lib.hid (lowest_any (x0 != y0) HV3.out HV6.out (Nat.le_trans (szN_mul _ _) (by have := HS1.out; have := HS3.out; omega)) (Nat.le_trans (szN_mul _ _) (by have := HS2.out; have := HS4.out; omega)) (Nat.mul_ne_zero x.den_nz y.den_nz)); rw [HMQ.out] at HL6; clear HM5; clear hB6 hr6)
      | (go_at_call 96; refine (HL6.out).mono ?_; rintro e w7 ⟨v7, rfl, hN7, hB7⟩; obtain ⟨a7, c7, b7, d7, rfl, hr7, hs7⟩ := hN7; have HV7 := Lib.hid (ratAt_mk (c := c7) (d := d7) hr7 hs7); have HB7 := Lib.hid (HB6.out.trans (hB7.mono HB6.out.size)); obtain ⟨q0, q1, q2, q3, q4, q5⟩ := RatCells.of (HK0.out.below HB7.out HK0.out.lt) (HK1.out.below HB7.out HK1.out.lt); have HW7 := Lib.hid (HB2.out.trans (HB7.out.mono HB2.out.size)); have r2 := HK2.out.below HB7.out HK2.out.lt; have s0 := r2.cell 0; have s1 := r2.cell 1; have s2 := r2.cell 2; have t0 := r2.frozen 0; have t1 := r2.frozen 1; have t2 := r2.frozen 2; have HR2 := Lib.hid r2; clear r2 HL6; clear hB7 hr7 hs7))
  go_wp2
  obtain ⟨r1, r2, r3⟩ := res_rat HR2.out rfl (by omega) HW7.out HV7.out
  exact bodyPost_ret (r_c rfl rfl (aggRat.load rfl r1)) rfl ⟨_, rfl, r2, r3⟩
end Go.Proofs.YtjcpfmndkeiegaaGreatDoor
namespace Go.Proofs.YtjcpfmndkeiegaaGreatDoor
open Go.RowKit
set_option linter.unusedVariables false

theorem divQ {a b : Rat} (hb : b ≠ 0) : lowQ (negQ a != negQ b) (numQ a * b.den) (a.den * numQ b) = a / b := by
  have hbn : b.num ≠ 0 := fun h => hb (Rat.num_eq_zero.1 h)
  have h1 : numQ b⁻¹ = b.den := by
    unfold numQ
    rw [Rat.num_inv, Int.natAbs_mul, Int.natAbs_sign_of_ne_zero hbn, Nat.one_mul, Int.natAbs_natCast]
  have h2 : b⁻¹.den = numQ b := by
    rw [Rat.den_inv, if_neg hbn]; rfl
  have h3 : negQ b⁻¹ = negQ b := by
    unfold negQ
    rw [Rat.num_inv]
    have hd := b.den_pos
    by_cases h : b.num < 0
    · rw [Int.sign_eq_neg_one_of_neg h, decide_eq_true h]
      exact decide_eq_true (by omega)
    · rw [Int.sign_eq_one_of_pos (by omega), decide_eq_false h]
      exact decide_eq_false (by omega)
  rw [Rat.div_def, ← mulQ, h1, h2, h3]
/-- What Div tells: the fraction, and why not. -/
def divP (a b : Rat) : Rat := if b = 0 then 0 else a / b
def divC (b : Rat) : Nat := if b = 0 then 4 else 0
set_option maxRecDepth 20000 in
set_option maxHeartbeats 8000000 in
theorem ratDiv_any {va vb : Value} {x y : Rat} {w : World} (hx : RatAt w va x) (hy : RatAt w vb y) (h1 : szN (numQ x) ≤ 400000) (h2 : szN x.den ≤ 400000) (h3 : szN (numQ y) ≤ 400000) (h4 : szN y.den ≤ 400000) :
    Calls Tryz.prog 62 #[va, vb] w fun e w' => ∃ v, e = .returned (.tuple #[v, .int .i64 (divC y : Nat)]) ∧ RatAt w' v (divP x y) ∧ Below w.heap.size w w' := by
  have HDx := Lib.hid (fun (W : World) (hW : Below w.heap.size w W) => den_any (hx.below hW))
  have HDy := Lib.hid (fun (W : World) (hW : Below w.heap.size w W) => den_any (hy.below hW))
  obtain ⟨a, c, b, d, rfl, ha, hb⟩ := hx
  obtain ⟨a', c', b', d', rfl, ha', hb'⟩ := hy
  have HNx := Lib.hid (fun (W : World) (hW : Below w.heap.size w W) => num_at (c := c) (ha.below hW))
  have HNy := Lib.hid (fun (W : World) (hW : Below w.heap.size w W) => num_at (c := c') (ha'.below hW))
  obtain ⟨x0, hx0⟩ : ∃ x0, negQ x = x0 := ⟨_, rfl⟩
  obtain ⟨n1, hn1⟩ : ∃ n, szN (numQ x) = n := ⟨_, rfl⟩
  obtain ⟨n2, hn2⟩ : ∃ n, szN (denQ x) = n := ⟨_, rfl⟩
  obtain ⟨y0, hy0⟩ : ∃ x0, negQ y = x0 := ⟨_, rfl⟩
  obtain ⟨m1, hm1⟩ : ∃ n, szN (numQ y) = n := ⟨_, rfl⟩
  obtain ⟨m2, hm2⟩ : ∃ n, szN (denQ y) = n := ⟨_, rfl⟩
  have HS1 := Lib.hid h1
  have HS2 := Lib.hid h2
  have HS3 := Lib.hid h3
  have HS4 := Lib.hid h4
  have HX0 := Lib.hid hx0
  have HY0 := Lib.hid hy0
  rw [hx0, hn1, hn2] at HDx ⊢
  rw [hy0, hm1, hm2] at HDy ⊢
  rw [hn1] at HNx
  rw [hm1] at HNy
  obtain ⟨W2, hW2⟩ : ∃ W2, ((w.alloc (.cells #[.bool x0, .slice a n1 c, .slice b n2 d] 59)).alloc (.cells #[.bool y0, .slice a' m1 c', .slice b' m2 d'] 59)).alloc (.cells #[.bool false, .slice none 0 0, .slice none 0 0] 59) = W2 := ⟨_, rfl⟩
  obtain ⟨b0, b1, hB2⟩ := rats_new w #[.bool x0, .slice a n1 c, .slice b n2 d] #[.bool y0, .slice a' m1 c', .slice b' m2 d']
  have b2 := BlkAt.new ((w.alloc (.cells #[.bool x0, .slice a n1 c, .slice b n2 d] 59)).alloc (.cells #[.bool y0, .slice a' m1 c', .slice b' m2 d'] 59)) 59 #[.bool false, .slice none 0 0, .slice none 0 0]
  have b0 := b0.alloc (.cells #[.bool false, .slice none 0 0, .slice none 0 0] 59)
  have b1 := b1.alloc (.cells #[.bool false, .slice none 0 0, .slice none 0 0] 59)
  have hB2 := hB2.alloc (by simp; omega) (.cells #[.bool false, .slice none 0 0, .slice none 0 0] 59)
  rw [hW2] at b0 b1 b2 hB2
  simp only [World.size_alloc] at b2
  have HK0 := Lib.hid b0
  have HK1 := Lib.hid b1
  have HK2 := Lib.hid b2
  have HB2 := Lib.hid hB2
  obtain ⟨q0, q1, q2, q3, q4, q5⟩ := RatCells.of b0 b1
  clear ha hb ha' hb' b0 b1 b2 hB2 hx0 hn1 hn2 hy0 hm1 hm2 h1 h2 h3 h4
  have hne1 : w.heap.size ≠ w.heap.size + 1 + 1 := by omega
  have hne2 : w.heap.size ≠ w.heap.size + 1 + 1 + 1 := by omega
  have hne3 : w.heap.size + 1 + 1 ≠ w.heap.size := by omega
  have hne4 : w.heap.size + 1 + 1 + 1 ≠ w.heap.size := by omega
  have HZ := Lib.hid (zero_any (HNy.out _ HB2.out))
  by_cases h0 : y = 0
  · rw [decide_eq_true (numQ_zero.2 h0)] at HZ
    have e1 : divC y = 4 := if_pos h0
    have e2 : divP x y = 0 := if_pos h0
    rw [e1, e2]
    clear e1 e2 h0
    go_enter Tryz.func62, Tryz.ntmps62
    go_wp2_with (go_at_call 95; refine HZ.out.mono ?_; clear HZ; rintro e w3 ⟨rfl, hB3⟩; have k2 := HK2.out.below hB3 HK2.out.lt; have e0 := k2.cell 0; have e1 := k2.cell 1; have e2 := k2.cell 2; have f0 := k2.frozen 0; have f1 := k2.frozen 1; have f2 := k2.frozen 2; have HK2' := Lib.hid k2; have HB3 := Lib.hid (HB2.out.trans (hB3.mono HB2.out.size)); clear hB3 k2)
    obtain ⟨r1, r2, r3⟩ := res_rat HK2'.out rfl (by omega) HB3.out (RatAt.zero w3 0 0)
    exact bodyPost_ret (r_ct rfl rfl (aggRat.load rfl r1)) rfl ⟨_, rfl, r2, r3⟩
  · rw [decide_eq_false (fun h => h0 (numQ_zero.1 h))] at HZ
    have e1 : divC y = 0 := if_neg h0
    have e2 : divP x y = x / y := if_neg h0
    rw [e1, e2]
    have HMQ := Lib.hid (show lowQ (x0 != y0) (numQ x * y.den) (x.den * numQ y) = x / y by rw [← HX0.out, ← HY0.out]; exact divQ h0)
    have HYn := Lib.hid (show numQ y ≠ 0 from fun h => h0 (numQ_zero.1 h))
    clear e1 e2 h0
    go_enter Tryz.func62, Tryz.ntmps62
    go_wp2_with (go_at_call 95; refine HZ.out.mono ?_; clear HZ; rintro e w3 ⟨rfl, hB3⟩; replace HK0 := Lib.hid (HK0.out.below hB3 HK0.out.lt); replace HK1 := Lib.hid (HK1.out.below hB3 HK1.out.lt); replace HK2 := Lib.hid (HK2.out.below hB3 HK2.out.lt); replace HB2 := Lib.hid (HB2.out.trans (hB3.mono HB2.out.size)); obtain ⟨q0, q1, q2, q3, q4, q5⟩ := RatCells.of HK0.out HK1.out; clear hB3)
    clear hW2
    go_region_held3 (fun W => W.cell? ⟨w.heap.size, 0, none⟩ = some (.bool x0) ∧ W.cell? ⟨w.heap.size, 1, none⟩ = some (.slice a n1 c) ∧ W.cell? ⟨w.heap.size, 2, none⟩ = some (.slice b n2 d) ∧ W.cell? ⟨w.heap.size + 1, 0, none⟩ = some (.bool y0) ∧ W.cell? ⟨w.heap.size + 1, 1, none⟩ = some (.slice a' m1 c') ∧ W.cell? ⟨w.heap.size + 1, 2, none⟩ = some (.slice b' m2 d')) (go_keep)
      (first
        | (go_at_call 100; refine (HDy.out _ HB2.out.drew).mono ?_; rintro e w4 ⟨v4, rfl, hN4, hB4⟩; replace hB4 : Below w3.heap.size w3 w4 := ((Below.refl _ w3).drew).trans hB4; obtain ⟨a4, c4, rfl, hr4⟩ := hN4; have HV4 := Lib.hid (natAt_mk (c := c4) hr4); have HB4 := Lib.hid hB4; obtain ⟨q0, q1, q2, q3, q4, q5⟩ := RatCells.of (HK0.out.below HB4.out HK0.out.lt) (HK1.out.below HB4.out HK1.out.lt); have HW4 := Lib.hid (HB2.out.trans (HB4.out.mono HB2.out.size)); have HM4 := Lib.hid (mul_any (HNx.out _ HW4.out) HV4.out (Nat.le_trans HS1.out (by decide)) (Nat.le_trans HS4.out (by decide))); clear HDy HNx; clear hB4 hr4)
        | (go_at_call 99; refine (HM4.out).mono ?_; rintro e w5 ⟨v5, rfl, hN5, hB5⟩; obtain ⟨a5, c5, rfl, hr5⟩ := hN5; have HV5 := Lib.hid (natAt_mk (c := c5) hr5); have HB5 := Lib.hid (HB4.out.trans (hB5.mono HB4.out.size)); obtain ⟨q0, q1, q2, q3, q4, q5⟩ := RatCells.of (HK0.out.below HB5.out HK0.out.lt) (HK1.out.below HB5.out HK1.out.lt); have HW5 := Lib.hid (HB2.out.trans (HB5.out.mono HB2.out.size)); have HDx5 := Lib.hid (HDx.out _ HW5.out); clear HM4 HDx; clear hB5 hr5)
        | (go_at_call 100; refine (HDx5.out).mono ?_; rintro e w6 ⟨v6, rfl, hN6, hB6⟩; obtain ⟨a6, c6, rfl, hr6⟩ := hN6; have HV6 := Lib.hid (natAt_mk (c := c6) hr6); have HB6 := Lib.hid (HB5.out.trans (hB6.mono HB5.out.size)); obtain ⟨q0, q1, q2, q3, q4, q5⟩ := RatCells.of (HK0.out.below HB6.out HK0.out.lt) (HK1.out.below HB6.out HK1.out.lt); have HW6 := Lib.hid (HB2.out.trans (HB6.out.mono HB2.out.size)); replace HV5 := Lib.hid (HV5.out.below hB6); have HM6 := Lib.hid (mul_any HV6.out (HNy.out _ HW6.out) (Nat.le_trans HS2.out (by decide)) (Nat.le_trans HS3.out (by decide))); clear HDx5 HNy; clear hB6 hr6)
        | (go_at_call 99; refine (HM6.out).mono ?_; rintro e w7 ⟨v7, rfl, hN7, hB7⟩; obtain ⟨a7, c7, rfl, hr7⟩ := hN7; have HV7 := Lib.hid (natAt_mk (c := c7) hr7); have HB7 := Lib.hid (HB6.out.trans (hB7.mono HB6.out.size)); obtain ⟨q0, q1, q2, q3, q4, q5⟩ := RatCells.of (HK0.out.below HB7.out HK0.out.lt) (HK1.out.below HB7.out HK1.out.lt); have HW7 := Lib.hid (HB2.out.trans (HB7.out.mono HB2.out.size)); replace HV5 := Lib.hid (HV5.out.below hB7); have HL7 := Lib.hid (lowest_any (x0 != y0) HV5.out HV7.out (Nat.le_trans (szN_mul _ _) (by have := HS1.out; have := HS4.out; omega)) (Nat.le_trans (szN_mul _ _) (by have := HS2.out; have := HS3.out; omega)) (Nat.mul_ne_zero x.den_nz HYn.out)); rw [HMQ.out] at HL7; clear HM6; clear hB7 hr7)
        | (go_at_call 96; refine (HL7.out).mono ?_; rintro e w8 ⟨v8, rfl, hN8, hB8⟩; obtain ⟨a8, c8, b8, d8, rfl, hr8, hs8⟩ := hN8; have HV8 := Lib.hid (ratAt_mk (c := c8) (d := d8) hr8 hs8); have HB8 := Lib.hid (HB7.out.trans (hB8.mono HB7.out.size)); obtain ⟨q0, q1, q2, q3, q4, q5⟩ := RatCells.of (HK0.out.below HB8.out HK0.out.lt) (HK1.out.below HB8.out HK1.out.lt); have HW8 := Lib.hid (HB2.out.trans (HB8.out.mono HB2.out.size)); have r2 := HK2.out.below HB8.out HK2.out.lt; have s0 := r2.cell 0; have s1 := r2.cell 1; have s2 := r2.cell 2; have t0 := r2.frozen 0; have t1 := r2.frozen 1; have t2 := r2.frozen 2; have HR2 := Lib.hid r2; clear r2 HL7; clear hB8 hr8 hs8))
    go_wp2
    obtain ⟨r1, r2, r3⟩ := res_rat HR2.out rfl (by omega) HW8.out HV8.out
    exact bodyPost_ret (r_ct rfl rfl (aggRat.load rfl r1)) rfl ⟨_, rfl, r2, r3⟩
end Go.Proofs.YtjcpfmndkeiegaaGreatDoor
