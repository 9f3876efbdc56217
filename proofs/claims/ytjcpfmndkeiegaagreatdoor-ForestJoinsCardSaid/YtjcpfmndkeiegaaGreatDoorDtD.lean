/- The walks of rat's Den, cross, Cmp, where draws are told too. -/
import Derived.Test.YtjcpfmndkeiegaaGreatDoorDtAC
namespace Go.Proofs.YtjcpfmndkeiegaaGreatDoor.D
open Go.RowKit
set_option linter.unusedVariables false

/-- The stores of two results that are numbers. -/
theorem res_two {w W : World} {base g1 g2 : Nat} {u1 u2 : Value} {a1 a2 : Option Addr} {s1 c1 s2 c2 p q : Nat} (hb1 : BlkAt W g1 57 #[u1]) (hb2 : BlkAt W g2 57 #[u2]) (hne : g1 ≠ g2) (hg1 : base ≤ g1) (hg2 : base ≤ g2) (h : Below base w W)
    (hp : NatAt W (.agg #[.slice a1 s1 c1]) p) (hq : NatAt W (.agg #[.slice a2 s2 c2]) q) :
    BlkAt ((W.setCell ⟨g1, 0, none⟩ (.slice a1 s1 c1)).setCell ⟨g2, 0, none⟩ (.slice a2 s2 c2)) g1 57 #[.slice a1 s1 c1] ∧
    BlkAt ((W.setCell ⟨g1, 0, none⟩ (.slice a1 s1 c1)).setCell ⟨g2, 0, none⟩ (.slice a2 s2 c2)) g2 57 #[.slice a2 s2 c2] ∧
    NatAt ((W.setCell ⟨g1, 0, none⟩ (.slice a1 s1 c1)).setCell ⟨g2, 0, none⟩ (.slice a2 s2 c2)) (.agg #[.slice a1 s1 c1]) p ∧
    NatAt ((W.setCell ⟨g1, 0, none⟩ (.slice a1 s1 c1)).setCell ⟨g2, 0, none⟩ (.slice a2 s2 c2)) (.agg #[.slice a2 s2 c2]) q ∧
    Below base w ((W.setCell ⟨g1, 0, none⟩ (.slice a1 s1 c1)).setCell ⟨g2, 0, none⟩ (.slice a2 s2 c2)) := by
  have b1 := (hb1.set 0 (.slice a1 s1 c1)).far (p := ⟨g2, 0, none⟩) hne (.slice a2 s2 c2)
  have b0 := hb2.far (p := ⟨g1, 0, none⟩) (Ne.symm hne) (.slice a1 s1 c1)
  have b2 := b0.set 0 (.slice a2 s2 c2)
  have k1 := KeepT.blk hb1 (show 133 ≠ 57 by decide) (grow_set W g1 0 (.slice a1 s1 c1))
  have k2 := KeepT.blk b0 (show 133 ≠ 57 by decide) (grow_set _ g2 0 (.slice a2 s2 c2))
  exact ⟨b1, b2, (hp.keep k1).keep k2, (hq.keep k1).keep k2, (h.setCell (p := ⟨g1, 0, none⟩) hg1 _).setCell (p := ⟨g2, 0, none⟩) hg2 _⟩
theorem box2_new (w : World) (va vb : Value) : BlkAt ((w.alloc (.cells #[va] 57)).alloc (.cells #[vb] 57)) w.heap.size 57 #[va] ∧
    BlkAt ((w.alloc (.cells #[va] 57)).alloc (.cells #[vb] 57)) (w.heap.size + 1) 57 #[vb] ∧ Below w.heap.size w ((w.alloc (.cells #[va] 57)).alloc (.cells #[vb] 57)) := by
  refine ⟨(BlkAt.new w _ _).alloc _, ?_, ((Below.refl _ w).alloc (Nat.le_refl _) _).alloc (by simp) _⟩
  have := BlkAt.new (w.alloc (.cells #[va] 57)) 57 #[vb]
  simpa using this
theorem NatAt.drew {w : World} {v : Value} {n : Nat} (h : NatAt w v n) : NatAt w.drew v n := h.keep (fun _ _ h => h)
theorem RdL.drew {w : World} {a : Option Addr} {l : List Nat} (h : RdL w a l) : RdL w.drew a l := h.keep (fun _ _ h => h)
/-- A fraction as it lies. -/
def RatAt (w : World) (v : Value) (q : Rat) : Prop := ∃ a c b d, v = .agg #[.bool (negQ q), .slice a (szN (numQ q)) c, .slice b (szN (denQ q)) d] ∧ RdL w a (limbs (numQ q)) ∧ RdL w b (limbs (denQ q))
theorem RatAt.keep {w w' : World} {v : Value} {q : Rat} (h : RatAt w v q) (hk : KeepT 133 w w') : RatAt w' v q := by
  obtain ⟨a, c, b, d, h1, h2, h3⟩ := h
  exact ⟨a, c, b, d, h1, h2.keep hk, h3.keep hk⟩
theorem RatAt.below {w w' : World} {v : Value} {q : Rat} (h : RatAt w v q) (hB : Below w.heap.size w w') : RatAt w' v q := h.keep (KeepT.of_below hB)
theorem RatAt.drew {w : World} {v : Value} {q : Rat} (h : RatAt w v q) : RatAt w.drew v q := h.keep (fun _ _ h => h)
theorem RatAt.zero (w : World) (c d : Nat) : RatAt w (.agg #[.bool false, .slice none 0 c, .slice none 0 d]) 0 :=
  ⟨none, c, none, d, by rw [num_zero, den_zero, szN_zero, neg_zero], by rw [num_zero, limbs_zero]; exact RdL.nil w, by rw [den_zero, limbs_zero]; exact RdL.nil w⟩
theorem aggRat : AggT Tryz.prog 59 3 := ⟨_, Tryz.underlying59, rfl, by kernel_rfl⟩
/-- The cell of a result that is a fraction. -/
abbrev rat0 : Obj := .cells #[.bool false, .slice none 0 0, .slice none 0 0] 59
theorem of_one (w : World) : Calls Tryz.prog 101 #[.int .u64 1] w fun e w' => ∃ v, e = .returned v ∧ NatAt w' v 1 ∧ Below w.heap.size w w' := of_any 1 (by decide) w
set_option maxRecDepth 20000 in
set_option maxHeartbeats 8000000 in
theorem den_any {v : Value} {q : Rat} {w : World} (h : RatAt w v q) :
    Calls Tryz.prog 100 #[v] w fun e w' => ∃ v', e = .returned v' ∧ NatAt w' v' q.den ∧ Below w.heap.size w w' := by
  obtain ⟨a, c, b, d, rfl, ha, hb⟩ := h
  obtain ⟨W2, hW2⟩ : ∃ W2, (w.alloc (.cells #[.bool (negQ q), .slice a (szN (numQ q)) c, .slice b (szN (denQ q)) d] 59)).alloc (.cells #[.slice none 0 0] 57) = W2 := ⟨_, rfl⟩
  have hB2 : Below w.heap.size w W2 := by rw [← hW2]; exact ((Below.refl _ w).alloc (Nat.le_refl _) _).alloc (by simp) _
  have b0 : BlkAt W2 w.heap.size 59 #[.bool (negQ q), .slice a (szN (numQ q)) c, .slice b (szN (denQ q)) d] := by rw [← hW2]; exact (BlkAt.new w _ _).alloc _
  have b1 : BlkAt W2 (w.heap.size + 1) 57 #[.slice none 0 0] := by
    rw [← hW2]
    have := BlkAt.new (w.alloc (.cells #[.bool (negQ q), .slice a (szN (numQ q)) c, .slice b (szN (denQ q)) d] 59)) 57 #[.slice none 0 0]
    simpa using this
  have HZ := Lib.hid (zero_any (show NatAt W2 (.agg #[.slice b (szN (denQ q)) d]) (denQ q) from ⟨b, d, rfl, hb.below hB2⟩))
  have HB2 := Lib.hid hB2
  have c0 := b0.cell 0
  have c1 := b0.cell 1
  have c2 := b0.cell 2
  have HK0 := Lib.hid b0
  have HK1 := Lib.hid b1
  have HR := Lib.hid hb
  by_cases h0 : q.num = 0
  · rw [decide_eq_true (show denQ q = 0 by unfold denQ; rw [if_pos h0])] at HZ
    have HO := Lib.hid (fun W => of_any 1 (by decide) W)
    rw [denQ_one h0]
    clear h0 hB2 b0 b1 ha hb
    go_enter Tryz.func100, Tryz.ntmps100
    go_wp2_with (first
      | (go_at_call 95; refine HZ.out.mono ?_; clear HZ; rintro e w3 ⟨rfl, hB3⟩; have HB3 := Lib.hid hB3; clear hB3)
      | (go_at_call 101; refine (HO.out _).mono ?_; clear HO; rintro e w4 ⟨v4, rfl, hN4, hB4⟩; obtain ⟨a4, c4, rfl, hr4⟩ := hN4; have HR4 := Lib.hid hr4; have HB24 := Lib.hid (HB3.out.trans (hB4.mono HB3.out.size)); have k1 := HK1.out.below HB24.out HK1.out.lt; have e0 := k1.cell 0; have f0 := k1.frozen 0; have HK4 := Lib.hid k1; clear hr4 hB4 k1))
    obtain ⟨e1, e2, e3⟩ := res_at HK4.out (by omega) (HB2.out.trans (HB24.out.mono HB2.out.size)) (show NatAt w4 (.agg #[.slice a4 (szN 1) c4]) 1 from ⟨a4, c4, rfl, HR4.out⟩)
    exact bodyPost_ret (r_c rfl rfl e1) rfl ⟨_, rfl, e2, e3⟩
  · rw [decide_eq_false (show denQ q ≠ 0 by unfold denQ; rw [if_neg h0]; exact q.den_nz)] at HZ
    have HQ := Lib.hid (show denQ q = q.den by unfold denQ; rw [if_neg h0])
    clear h0 hB2 b0 b1 ha hb
    go_enter Tryz.func100, Tryz.ntmps100
    go_wp2_with (first
      | (go_at_call 95; refine HZ.out.mono ?_; clear HZ; rintro e w3 ⟨rfl, hB3⟩; have HB3 := Lib.hid hB3; have k0 := HK0.out.below hB3 HK0.out.lt; have k1 := HK1.out.below hB3 HK1.out.lt; have e2 := k0.cell 2; have e3 := k1.cell 0; have f3 := k1.frozen 0; have HK4 := Lib.hid k1; clear hB3 k0 k1))
    obtain ⟨e1, e2, e3⟩ := res_at HK4.out (by omega) (HB2.out.trans (HB3.out.mono HB2.out.size)) (show NatAt w3 (.agg #[.slice b (szN (denQ q)) d]) (denQ q) from ⟨b, d, rfl, (HR.out.below HB2.out).below HB3.out⟩)
    rw [← HQ.out]
    exact bodyPost_ret (r_c rfl rfl e1) rfl ⟨_, rfl, e2, e3⟩
/-- Two boxes of fractions. -/
theorem rats_new (w : World) (ca cb : Array Value) : BlkAt ((w.alloc (.cells ca 59)).alloc (.cells cb 59)) w.heap.size 59 ca ∧
    BlkAt ((w.alloc (.cells ca 59)).alloc (.cells cb 59)) (w.heap.size + 1) 59 cb ∧ Below w.heap.size w ((w.alloc (.cells ca 59)).alloc (.cells cb 59)) := by
  refine ⟨(BlkAt.new w _ _).alloc _, ?_, ((Below.refl _ w).alloc (Nat.le_refl _) _).alloc (by simp) _⟩
  have := BlkAt.new (w.alloc (.cells ca 59)) 59 cb
  simpa using this
theorem two_more (W : World) (o : Obj) (t : TypeId) (c : Array Value) : BlkAt ((W.alloc o).alloc (.cells c t)) (W.heap.size + 1) t c := by
  have := BlkAt.new (W.alloc o) t c
  simpa using this
/-- The numerator of a fraction as a number. -/
theorem num_at {w : World} {a : Option Addr} {c : Nat} {q : Rat} (h : RdL w a (limbs (numQ q))) : NatAt w (.agg #[.slice a (szN (numQ q)) c]) (numQ q) := ⟨a, c, rfl, h⟩
theorem natAt_mk {w : World} {a : Option Addr} {c n : Nat} (h : RdL w a (limbs n)) : NatAt w (.agg #[.slice a (szN n) c]) n := ⟨a, c, rfl, h⟩
theorem ratAt_mk {w : World} {a b : Option Addr} {c d : Nat} {q : Rat} (h : RdL w a (limbs (numQ q))) (h' : RdL w b (limbs (denQ q))) : RatAt w (.agg #[.bool (negQ q), .slice a (szN (numQ q)) c, .slice b (szN (denQ q)) d]) q := ⟨a, c, b, d, rfl, h, h'⟩
/-- The cells of two fractions' boxes. -/
def RatCells (w W : World) (x0 x1 x2 y0 y1 y2 : Value) : Prop := W.cell? ⟨w.heap.size, 0, none⟩ = some x0 ∧ W.cell? ⟨w.heap.size, 1, none⟩ = some x1 ∧ W.cell? ⟨w.heap.size, 2, none⟩ = some x2 ∧
  W.cell? ⟨w.heap.size + 1, 0, none⟩ = some y0 ∧ W.cell? ⟨w.heap.size + 1, 1, none⟩ = some y1 ∧ W.cell? ⟨w.heap.size + 1, 2, none⟩ = some y2
theorem RatCells.of {w W : World} {x0 x1 x2 y0 y1 y2 : Value} (h1 : BlkAt W w.heap.size 59 #[x0, x1, x2]) (h2 : BlkAt W (w.heap.size + 1) 59 #[y0, y1, y2]) : RatCells w W x0 x1 x2 y0 y1 y2 :=
  ⟨h1.cell 0, h1.cell 1, h1.cell 2, h2.cell 0, h2.cell 1, h2.cell 2⟩
set_option maxRecDepth 20000 in
set_option maxHeartbeats 8000000 in
theorem cross_any {va vb : Value} {x y : Rat} {w : World} (hx : RatAt w va x) (hy : RatAt w vb y) (h1 : szN (numQ x) ≤ 1000000) (h2 : szN x.den ≤ 1000000) (h3 : szN (numQ y) ≤ 1000000) (h4 : szN y.den ≤ 1000000) :
    Calls Tryz.prog 116 #[va, vb] w fun e w' => ∃ v1 v2, e = .returned (.tuple #[v1, v2]) ∧ NatAt w' v1 (numQ x * y.den) ∧ NatAt w' v2 (numQ y * x.den) ∧ Below w.heap.size w w' := by
  have HDx := Lib.hid (fun (W : World) (hW : Below w.heap.size w W) => den_any (hx.below hW))
  have HDy := Lib.hid (fun (W : World) (hW : Below w.heap.size w W) => den_any (hy.below hW))
  obtain ⟨a, c, b, d, rfl, ha, hb⟩ := hx
  obtain ⟨a', c', b', d', rfl, ha', hb'⟩ := hy
  have HNx := Lib.hid (fun (W : World) (hW : Below w.heap.size w W) => num_at (c := c) (ha.below hW))
  have HNy := Lib.hid (fun (W : World) (hW : Below w.heap.size w W) => num_at (c := c') (ha'.below hW))
  obtain ⟨x0, hx0⟩ : ∃ x0, negQ x = x0 := ⟨_, rfl⟩
  obtain ⟨n1, hn1⟩ : ∃ n, szN (numQ x) = n := ⟨_, rfl⟩
  obtain ⟨n2, hn2⟩ : ∃ n, szN (denQ x) = n := ⟨_, rfl⟩
  obtain ⟨y0, hy0⟩ : ∃ x0, negQ y = x0 := ⟨_, rfl⟩
  obtain ⟨m1, hm1⟩ : ∃ n, szN (numQ y) = n := ⟨_, rfl⟩
  obtain ⟨m2, hm2⟩ : ∃ n, szN (denQ y) = n := ⟨_, rfl⟩
  have HS1 := Lib.hid h1
  have HS2 := Lib.hid h2
  have HS3 := Lib.hid h3
  have HS4 := Lib.hid h4
  have HX0 := Lib.hid hx0
  have HY0 := Lib.hid hy0
  rw [hx0, hn1, hn2] at HDx ⊢
  rw [hy0, hm1, hm2] at HDy ⊢
  rw [hn1] at HNx
  rw [hm1] at HNy
  obtain ⟨W2, hW2⟩ : ∃ W2, (((w.alloc (.cells #[.bool x0, .slice a n1 c, .slice b n2 d] 59)).alloc (.cells #[.bool y0, .slice a' m1 c', .slice b' m2 d'] 59)).alloc (.cells #[.slice none 0 0] 57)).alloc (.cells #[.slice none 0 0] 57) = W2 := ⟨_, rfl⟩
  obtain ⟨b0, b1, hB2⟩ := rats_new w #[.bool x0, .slice a n1 c, .slice b n2 d] #[.bool y0, .slice a' m1 c', .slice b' m2 d']
  have b2 := BlkAt.new ((w.alloc (.cells #[.bool x0, .slice a n1 c, .slice b n2 d] 59)).alloc (.cells #[.bool y0, .slice a' m1 c', .slice b' m2 d'] 59)) 57 #[.slice none 0 0]
  have b0 := b0.alloc (.cells #[.slice none 0 0] 57)
  have b1 := b1.alloc (.cells #[.slice none 0 0] 57)
  have hB2 := hB2.alloc (by simp; omega) (.cells #[.slice none 0 0] 57)
  have b3 := two_more ((w.alloc (.cells #[.bool x0, .slice a n1 c, .slice b n2 d] 59)).alloc (.cells #[.bool y0, .slice a' m1 c', .slice b' m2 d'] 59)) (.cells #[.slice none 0 0] 57) 57 #[.slice none 0 0]
  have b0 := b0.alloc (.cells #[.slice none 0 0] 57)
  have b1 := b1.alloc (.cells #[.slice none 0 0] 57)
  have b2 := b2.alloc (.cells #[.slice none 0 0] 57)
  have hB2 := hB2.alloc (by simp; omega) (.cells #[.slice none 0 0] 57)
  rw [hW2] at b0 b1 b2 b3 hB2
  simp only [World.size_alloc] at b2 b3
  have HK0 := Lib.hid b0
  have HK1 := Lib.hid b1
  have HK2 := Lib.hid b2
  have HK3 := Lib.hid b3
  have HB2 := Lib.hid hB2
  obtain ⟨q0, q1, q2, q3, q4, q5⟩ := RatCells.of b0 b1
  clear ha hb ha' hb' b0 b1 b2 b3 hB2 hx0 hn1 hn2 hy0 hm1 hm2 h1 h2 h3 h4
  have hne1 : w.heap.size ≠ w.heap.size + 1 + 1 := by omega
  have hne2 : w.heap.size ≠ w.heap.size + 1 + 1 + 1 := by omega
  have hne3 : w.heap.size + 1 + 1 ≠ w.heap.size := by omega
  have hne4 : w.heap.size + 1 + 1 + 1 ≠ w.heap.size := by omega
  go_enter Tryz.func116, Tryz.ntmps116
  go_wp2_with fail
  clear hW2
  go_region_held3 (fun W => W.cell? ⟨w.heap.size, 0, none⟩ = some (.bool x0) ∧ W.cell? ⟨w.heap.size, 1, none⟩ = some (.slice a n1 c) ∧ W.cell? ⟨w.heap.size, 2, none⟩ = some (.slice b n2 d) ∧ W.cell? ⟨w.heap.size + 1, 0, none⟩ = some (.bool y0) ∧ W.cell? ⟨w.heap.size + 1, 1, none⟩ = some (.slice a' m1 c') ∧ W.cell? ⟨w.heap.size + 1, 2, none⟩ = some (.slice b' m2 d')) (go_keep)
    (first
      | (go_at_call 100; refine (HDy.out _ HB2.out.drew).mono ?_; clear HDy; rintro e w3 ⟨v3, rfl, hN3, hB3⟩; replace hB3 : Below W2.heap.size W2 w3 := ((Below.refl _ W2).drew).trans hB3; have HB3 := Lib.hid hB3; obtain ⟨q0, q1, q2, q3, q4, q5⟩ := RatCells.of (HK0.out.below HB3.out HK0.out.lt) (HK1.out.below HB3.out HK1.out.lt); have HM := Lib.hid (mul_any (HNx.out _ (HB2.out.trans (hB3.mono HB2.out.size))) hN3 HS1.out HS4.out); have HW3 := Lib.hid (HB2.out.trans (hB3.mono HB2.out.size)); clear hN3 hB3)
      | (go_at_call 99; refine HM.out.mono ?_; clear HM; rintro e w4 ⟨v4, rfl, hN4, hB4⟩; obtain ⟨a4, c4, rfl, hr4⟩ := hN4; have hN4 := natAt_mk (c := c4) hr4; have HB4 := Lib.hid (HB3.out.trans (hB4.mono HB3.out.size)); obtain ⟨q0, q1, q2, q3, q4, q5⟩ := RatCells.of (HK0.out.below HB4.out HK0.out.lt) (HK1.out.below HB4.out HK1.out.lt); have HN4 := Lib.hid hN4; have HW4 := Lib.hid (HW3.out.trans (hB4.mono HW3.out.size)); have HD2 := Lib.hid (HDx.out _ HW4.out); clear hN4 hB4 hr4)
      | (go_at_call 100; refine HD2.out.mono ?_; clear HD2; rintro e w5 ⟨v5, rfl, hN5, hB5⟩; have HB5 := Lib.hid (HB4.out.trans (hB5.mono HB4.out.size)); obtain ⟨q0, q1, q2, q3, q4, q5⟩ := RatCells.of (HK0.out.below HB5.out HK0.out.lt) (HK1.out.below HB5.out HK1.out.lt); have HB45 := Lib.hid hB5; have HW5 := Lib.hid (HW4.out.trans (hB5.mono HW4.out.size)); have HM2 := Lib.hid (mul_any (HNy.out _ HW5.out) hN5 HS3.out HS2.out); clear hN5 hB5)
      | (go_at_call 99; refine HM2.out.mono ?_; clear HM2; rintro e w6 ⟨v6, rfl, hN6, hB6⟩; obtain ⟨a6, c6, rfl, hr6⟩ := hN6; have HN7 := Lib.hid (natAt_mk (c := c6) hr6); have HB6 := Lib.hid (HB5.out.trans (hB6.mono HB5.out.size)); obtain ⟨q0, q1, q2, q3, q4, q5⟩ := RatCells.of (HK0.out.below HB6.out HK0.out.lt) (HK1.out.below HB6.out HK1.out.lt); have HN6 := Lib.hid ((HN4.out.below HB45.out).below hB6); have HW6 := Lib.hid (HW5.out.trans (hB6.mono HW5.out.size)); have r2 := HK2.out.below HB6.out HK2.out.lt; have r3 := HK3.out.below HB6.out HK3.out.lt; have s2 := r2.cell 0; have s3 := r3.cell 0; have t2 := r2.frozen 0; have t3 := r3.frozen 0; have HR2 := Lib.hid r2; have HR3 := Lib.hid r3; clear hB6 r2 r3 hr6))
  go_wp2
  obtain ⟨k1, k2, k3, k4, k5⟩ := res_two HR2.out HR3.out (by omega) (by omega) (by omega) HW6.out HN6.out HN7.out
  exact bodyPost_ret (r_cc rfl rfl rfl (aggNat.load rfl k1) (aggNat.load rfl k2)) rfl ⟨_, _, rfl, k3, k4, k5⟩
set_option maxRecDepth 20000 in
set_option maxHeartbeats 8000000 in
theorem ratCmp_any {va vb : Value} {x y : Rat} {w : World} (hx : RatAt w va x) (hy : RatAt w vb y) (h1 : szN (numQ x) ≤ 400000) (h2 : szN x.den ≤ 400000) (h3 : szN (numQ y) ≤ 400000) (h4 : szN y.den ≤ 400000) :
    Calls Tryz.prog 104 #[va, vb] w fun e w' => e = .returned (.int .i64 (cmpQ x y)) ∧ Below w.heap.size w w' := by
  have HCr := Lib.hid (fun (W : World) (hW : Below w.heap.size w W) => cross_any (hx.below hW) (hy.below hW) (by omega) (by omega) (by omega) (by omega))
  rw [cmpQ_cases]
  have HDx := Lib.hid (fun (W : World) (hW : Below w.heap.size w W) => den_any (hx.below hW))
  have HDy := Lib.hid (fun (W : World) (hW : Below w.heap.size w W) => den_any (hy.below hW))
  obtain ⟨a, c, b, d, rfl, ha, hb⟩ := hx
  obtain ⟨a', c', b', d', rfl, ha', hb'⟩ := hy
  have HNx := Lib.hid (fun (W : World) (hW : Below w.heap.size w W) => num_at (c := c) (ha.below hW))
  have HNy := Lib.hid (fun (W : World) (hW : Below w.heap.size w W) => num_at (c := c') (ha'.below hW))
  obtain ⟨x0, hx0⟩ : ∃ x0, negQ x = x0 := ⟨_, rfl⟩
  obtain ⟨n1, hn1⟩ : ∃ n, szN (numQ x) = n := ⟨_, rfl⟩
  obtain ⟨n2, hn2⟩ : ∃ n, szN (denQ x) = n := ⟨_, rfl⟩
  obtain ⟨y0, hy0⟩ : ∃ x0, negQ y = x0 := ⟨_, rfl⟩
  obtain ⟨m1, hm1⟩ : ∃ n, szN (numQ y) = n := ⟨_, rfl⟩
  obtain ⟨m2, hm2⟩ : ∃ n, szN (denQ y) = n := ⟨_, rfl⟩
  have HS1 := Lib.hid h1
  have HS2 := Lib.hid h2
  have HS3 := Lib.hid h3
  have HS4 := Lib.hid h4
  have HX0 := Lib.hid hx0
  have HY0 := Lib.hid hy0
  rw [hx0, hn1, hn2] at HDx HCr ⊢
  rw [hy0, hm1, hm2] at HDy HCr ⊢
  rw [hn1] at HNx
  rw [hm1] at HNy
  obtain ⟨W2, hW2⟩ : ∃ W2, (w.alloc (.cells #[.bool x0, .slice a n1 c, .slice b n2 d] 59)).alloc (.cells #[.bool y0, .slice a' m1 c', .slice b' m2 d'] 59) = W2 := ⟨_, rfl⟩
  obtain ⟨b0, b1, hB2⟩ := rats_new w #[.bool x0, .slice a n1 c, .slice b n2 d] #[.bool y0, .slice a' m1 c', .slice b' m2 d']
  rw [hW2] at b0 b1  hB2
  have HK0 := Lib.hid b0
  have HK1 := Lib.hid b1
  have HB2 := Lib.hid hB2
  obtain ⟨q0, q1, q2, q3, q4, q5⟩ := RatCells.of b0 b1
  clear ha hb ha' hb' b0 b1  hB2 hx0 hn1 hn2 hy0 hm1 hm2 h1 h2 h3 h4
  have hne1 : w.heap.size ≠ w.heap.size + 1 + 1 := by omega
  have hne2 : w.heap.size ≠ w.heap.size + 1 + 1 + 1 := by omega
  have hne3 : w.heap.size + 1 + 1 ≠ w.heap.size := by omega
  have hne4 : w.heap.size + 1 + 1 + 1 ≠ w.heap.size := by omega
  have hnx1 : szN (numQ x * y.den) ≤ 800000 := Nat.le_trans (szN_mul _ _) (by have := HS1.out; have := HS4.out; omega)
  have hny1 : szN (numQ y * x.den) ≤ 800000 := Nat.le_trans (szN_mul _ _) (by have := HS3.out; have := HS2.out; omega)
  obtain ⟨nx, hnx⟩ : ∃ nx, numQ x * y.den = nx := ⟨_, rfl⟩
  obtain ⟨ny, hny⟩ : ∃ ny, numQ y * x.den = ny := ⟨_, rfl⟩
  rw [hnx] at HCr hnx1 ⊢
  rw [hny] at HCr hny1 ⊢
  have HSX := Lib.hid hnx1
  have HSY := Lib.hid hny1
  clear hnx hny hnx1 hny1 HNx HNy HDx HDy
  cases x0 <;> cases y0
  · go_enter Tryz.func104, Tryz.ntmps104
    go_wp2_with (first
      | (go_at_call 116; refine (HCr.out _ HB2.out).mono ?_; clear HCr; rintro e w3 ⟨v1, v2, rfl, hN1, hN2, hB3⟩; obtain ⟨a1, c1, rfl, hr1⟩ := hN1; obtain ⟨a2, c2, rfl, hr2⟩ := hN2; have HR1 := Lib.hid hr1; have HR2 := Lib.hid hr2; replace HK0 := Lib.hid (HK0.out.below hB3 HK0.out.lt); replace HK1 := Lib.hid (HK1.out.below hB3 HK1.out.lt); replace HB2 := Lib.hid (HB2.out.trans (hB3.mono HB2.out.size)); obtain ⟨b3, b4, hB4⟩ := box2_new w3 (.slice a1 (szN nx) c1) (.slice a2 (szN ny) c2); have i0 := ((HK0.out.alloc (.cells #[.slice a1 (szN nx) c1] 57)).alloc (.cells #[.slice a2 (szN ny) c2] 57)).cell 0; have i3 := ((HK1.out.alloc (.cells #[.slice a1 (szN nx) c1] 57)).alloc (.cells #[.slice a2 (szN ny) c2] 57)).cell 0; have i5 := b3.cell 0; have i6 := b4.cell 0; have HVX := Lib.hid (natAt_mk (c := c1) (hr1.below hB4)); have HVY := Lib.hid (natAt_mk (c := c2) (hr2.below hB4)); have HB4 := Lib.hid (HB2.out.trans (hB4.mono HB2.out.size)); clear hr1 hr2 hB3 b3 b4 hB4)
      | (go_at_call 110; refine (cmp_any HVX.out HVY.out (Nat.le_trans HSX.out (by decide)) (Nat.le_trans HSY.out (by decide))).mono ?_; rintro e w5 ⟨rfl, hB5⟩; have HB5 := Lib.hid (HB4.out.trans (hB5.mono HB4.out.size)); clear hB5))
    go_ret
    exact ⟨rfl, HB5.out⟩
  · go_enter Tryz.func104, Tryz.ntmps104
    go_wp2_with (first
      | (go_at_call 116; refine (HCr.out _ HB2.out).mono ?_; clear HCr; rintro e w3 ⟨v1, v2, rfl, hN1, hN2, hB3⟩; obtain ⟨a1, c1, rfl, hr1⟩ := hN1; obtain ⟨a2, c2, rfl, hr2⟩ := hN2; have HR1 := Lib.hid hr1; have HR2 := Lib.hid hr2; replace HK0 := Lib.hid (HK0.out.below hB3 HK0.out.lt); replace HK1 := Lib.hid (HK1.out.below hB3 HK1.out.lt); replace HB2 := Lib.hid (HB2.out.trans (hB3.mono HB2.out.size)); obtain ⟨b3, b4, hB4⟩ := box2_new w3 (.slice a1 (szN nx) c1) (.slice a2 (szN ny) c2); have i0 := ((HK0.out.alloc (.cells #[.slice a1 (szN nx) c1] 57)).alloc (.cells #[.slice a2 (szN ny) c2] 57)).cell 0; have i3 := ((HK1.out.alloc (.cells #[.slice a1 (szN nx) c1] 57)).alloc (.cells #[.slice a2 (szN ny) c2] 57)).cell 0; have i5 := b3.cell 0; have i6 := b4.cell 0; have HVX := Lib.hid (natAt_mk (c := c1) (hr1.below hB4)); have HVY := Lib.hid (natAt_mk (c := c2) (hr2.below hB4)); have HB4 := Lib.hid (HB2.out.trans (hB4.mono HB2.out.size)); clear hr1 hr2 hB3 b3 b4 hB4))
    go_ret
    exact ⟨rfl, HB4.out⟩
  · go_enter Tryz.func104, Tryz.ntmps104
    go_wp2_with (first
      | (go_at_call 116; refine (HCr.out _ HB2.out).mono ?_; clear HCr; rintro e w3 ⟨v1, v2, rfl, hN1, hN2, hB3⟩; obtain ⟨a1, c1, rfl, hr1⟩ := hN1; obtain ⟨a2, c2, rfl, hr2⟩ := hN2; have HR1 := Lib.hid hr1; have HR2 := Lib.hid hr2; replace HK0 := Lib.hid (HK0.out.below hB3 HK0.out.lt); replace HK1 := Lib.hid (HK1.out.below hB3 HK1.out.lt); replace HB2 := Lib.hid (HB2.out.trans (hB3.mono HB2.out.size)); obtain ⟨b3, b4, hB4⟩ := box2_new w3 (.slice a1 (szN nx) c1) (.slice a2 (szN ny) c2); have i0 := ((HK0.out.alloc (.cells #[.slice a1 (szN nx) c1] 57)).alloc (.cells #[.slice a2 (szN ny) c2] 57)).cell 0; have i3 := ((HK1.out.alloc (.cells #[.slice a1 (szN nx) c1] 57)).alloc (.cells #[.slice a2 (szN ny) c2] 57)).cell 0; have i5 := b3.cell 0; have i6 := b4.cell 0; have HVX := Lib.hid (natAt_mk (c := c1) (hr1.below hB4)); have HVY := Lib.hid (natAt_mk (c := c2) (hr2.below hB4)); have HB4 := Lib.hid (HB2.out.trans (hB4.mono HB2.out.size)); clear hr1 hr2 hB3 b3 b4 hB4))
    go_ret
    exact ⟨rfl, HB4.out⟩
  · go_enter Tryz.func104, Tryz.ntmps104
    go_wp2_with (first
      | (go_at_call 116; refine (HCr.out _ HB2.out).mono ?_; clear HCr; rintro e w3 ⟨v1, v2, rfl, hN1, hN2, hB3⟩; obtain ⟨a1, c1, rfl, hr1⟩ := hN1; obtain ⟨a2, c2, rfl, hr2⟩ := hN2; have HR1 := Lib.hid hr1; have HR2 := Lib.hid hr2; replace HK0 := Lib.hid (HK0.out.below hB3 HK0.out.lt); replace HK1 := Lib.hid (HK1.out.below hB3 HK1.out.lt); replace HB2 := Lib.hid (HB2.out.trans (hB3.mono HB2.out.size)); obtain ⟨b3, b4, hB4⟩ := box2_new w3 (.slice a1 (szN nx) c1) (.slice a2 (szN ny) c2); have i0 := ((HK0.out.alloc (.cells #[.slice a1 (szN nx) c1] 57)).alloc (.cells #[.slice a2 (szN ny) c2] 57)).cell 0; have i3 := ((HK1.out.alloc (.cells #[.slice a1 (szN nx) c1] 57)).alloc (.cells #[.slice a2 (szN ny) c2] 57)).cell 0; have i5 := b3.cell 0; have i6 := b4.cell 0; have HVX := Lib.hid (natAt_mk (c := c1) (hr1.below hB4)); have HVY := Lib.hid (natAt_mk (c := c2) (hr2.below hB4)); have HB4 := Lib.hid (HB2.out.trans (hB4.mono HB2.out.size)); clear hr1 hr2 hB3 b3 b4 hB4)
      | (go_at_call 110; refine (cmp_any HVY.out HVX.out (Nat.le_trans HSY.out (by decide)) (Nat.le_trans HSX.out (by decide))).mono ?_; rintro e w5 ⟨rfl, hB5⟩; have HB5 := Lib.hid (HB4.out.trans (hB5.mono HB4.out.size)); clear hB5))
    go_ret
    exact ⟨rfl, HB5.out⟩
theorem RatAt.plain {w : World} {v : Value} {q : Rat} (h : Go.Proofs.YtjcpfmndkeiegaaGreatDoor.RatAt w v q) : RatAt w v q := h
end Go.Proofs.YtjcpfmndkeiegaaGreatDoor.D
