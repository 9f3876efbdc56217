/- Words for fractions as they lie; the walks of rat's lowest, Of, Make, Den. The walks of rat's Of, Make. -/
import Derived.Test.YtjcpfmndkeiegaaGreatDoorNtO
import Derived.Test.YtjcpfmndkeiegaaGreatDoorNaZ
namespace Go.Proofs.YtjcpfmndkeiegaaGreatDoor
open Go.RowKit
set_option linter.unusedVariables false

/-- A fraction as it lies. -/
def RatAt (w : World) (v : Value) (q : Rat) : Prop := ∃ a c b d, v = .agg #[.bool (negQ q), .slice a (szN (numQ q)) c, .slice b (szN (denQ q)) d] ∧ RdL w a (limbs (numQ q)) ∧ RdL w b (limbs (denQ q))
theorem RatAt.keep {w w' : World} {v : Value} {q : Rat} (h : RatAt w v q) (hk : KeepT 133 w w') : RatAt w' v q := by
  obtain ⟨a, c, b, d, h1, h2, h3⟩ := h
  exact ⟨a, c, b, d, h1, h2.keep hk, h3.keep hk⟩
theorem RatAt.below {w w' : World} {v : Value} {q : Rat} (h : RatAt w v q) (hB : Below w.heap.size w w') : RatAt w' v q := h.keep (KeepT.of_below hB)
theorem RatAt.drew {w : World} {v : Value} {q : Rat} (h : RatAt w v q) : RatAt w.drew v q := h.keep (fun _ _ h => h)
theorem num_zero : numQ 0 = 0 := rfl
theorem den_zero : denQ 0 = 0 := rfl
theorem neg_zero : negQ 0 = false := rfl
theorem RatAt.zero (w : World) (c d : Nat) : RatAt w (.agg #[.bool false, .slice none 0 c, .slice none 0 d]) 0 :=
  ⟨none, c, none, d, by rw [num_zero, den_zero, szN_zero, neg_zero], by rw [num_zero, limbs_zero]; exact RdL.nil w, by rw [den_zero, limbs_zero]; exact RdL.nil w⟩
theorem aggRat : AggT Tryz.prog 59 3 := ⟨_, Tryz.underlying59, rfl, by kernel_rfl⟩
/-- The cell of a result that is a fraction. -/
abbrev rat0 : Obj := .cells #[.bool false, .slice none 0 0, .slice none 0 0] 59
/-- The stores of a result that is a fraction. -/
theorem res_rat {w W : World} {base g : Nat} {cs : Array Value} {v0 v1 v2 : Value} {q : Rat} (hb : BlkAt W g 59 cs) (hs : cs.size = 3) (hg : base ≤ g) (h : Below base w W) (hN : RatAt W (.agg #[v0, v1, v2]) q) :
    BlkAt (((W.setCell ⟨g, 0, none⟩ v0).setCell ⟨g, 1, none⟩ v1).setCell ⟨g, 2, none⟩ v2) g 59 #[v0, v1, v2] ∧
      RatAt (((W.setCell ⟨g, 0, none⟩ v0).setCell ⟨g, 1, none⟩ v1).setCell ⟨g, 2, none⟩ v2) (.agg #[v0, v1, v2]) q ∧ Below base w (((W.setCell ⟨g, 0, none⟩ v0).setCell ⟨g, 1, none⟩ v1).setCell ⟨g, 2, none⟩ v2) := by
  have h0 := hb.set 0 v0
  have h1 := h0.set 1 v1
  have h2 := h1.set 2 v2
  have k0 := KeepT.blk hb (show 133 ≠ 59 by decide) (grow_set W g 0 v0)
  have k1 := KeepT.blk h0 (show 133 ≠ 59 by decide) (grow_set _ g 1 v1)
  have k2 := KeepT.blk h1 (show 133 ≠ 59 by decide) (grow_set _ g 2 v2)
  have hcs : ((cs.setIfInBounds 0 v0).setIfInBounds 1 v1).setIfInBounds 2 v2 = #[v0, v1, v2] := by
    obtain ⟨l⟩ := cs
    match l, hs with
    | [a, b, c], _ => rfl
  rw [hcs] at h2
  exact ⟨h2, hN.keep ((k0.trans k1).trans k2), ((h.setCell (p := ⟨g, 0, none⟩) hg _).setCell (p := ⟨g, 1, none⟩) hg _).setCell (p := ⟨g, 2, none⟩) hg _⟩
theorem three_new (w : World) (va vb : Value) (cs : Array Value) (t : TypeId) : BlkAt (((w.alloc (.cells #[va] 57)).alloc (.cells #[vb] 57)).alloc (.cells cs t)) w.heap.size 57 #[va] ∧
    BlkAt (((w.alloc (.cells #[va] 57)).alloc (.cells #[vb] 57)).alloc (.cells cs t)) (w.heap.size + 1) 57 #[vb] ∧
    BlkAt (((w.alloc (.cells #[va] 57)).alloc (.cells #[vb] 57)).alloc (.cells cs t)) (w.heap.size + 1 + 1) t cs ∧
    Below w.heap.size w (((w.alloc (.cells #[va] 57)).alloc (.cells #[vb] 57)).alloc (.cells cs t)) := by
  obtain ⟨h1, h2, h3⟩ := box2_new w va vb
  refine ⟨h1.alloc _, h2.alloc _, ?_, h3.alloc (by simp; omega) _⟩
  have := BlkAt.new ((w.alloc (.cells #[va] 57)).alloc (.cells #[vb] 57)) t cs
  simpa using this
set_option maxRecDepth 20000 in
set_option maxHeartbeats 8000000 in
theorem lowest_any {va vb : Value} {n d : Nat} {w : World} (neg : Bool) (hx : NatAt w va n) (hy : NatAt w vb d) (hxs : szN n ≤ 1000000) (hys : szN d ≤ 1000000) (hd : d ≠ 0) :
    Calls Tryz.prog 96 #[.bool neg, va, vb] w fun e w' => ∃ v, e = .returned v ∧ RatAt w' v (lowQ neg n d) ∧ Below w.heap.size w w' := by
  have HZ := Lib.hid (fun (W : World) (hW : Below w.heap.size w W) => zero_any (hx.below hW))
  have HG := Lib.hid (fun (W : World) (hW : Below w.heap.size w W) => gcd_any (hx.below hW) (hy.below hW) hxs hys)
  have HX := Lib.hid hx
  have HY := Lib.hid hy
  obtain ⟨a, c, rfl, ha⟩ := hx
  obtain ⟨b, e, rfl, hb⟩ := hy
  obtain ⟨p, hp⟩ : ∃ p, szN n = p := ⟨_, rfl⟩
  obtain ⟨q, hq⟩ : ∃ q, szN d = q := ⟨_, rfl⟩
  obtain ⟨W2, hW2⟩ : ∃ W2, (((w.alloc (.cells #[.slice a p c] 57)).alloc (.cells #[.slice b q e] 57)).alloc (.cells #[.bool false, .slice none 0 0, .slice none 0 0] 59)) = W2 := ⟨_, rfl⟩
  obtain ⟨b0, b1, b2, hB2⟩ := three_new w (.slice a p c) (.slice b q e) #[.bool false, .slice none 0 0, .slice none 0 0] 59
  rw [hW2] at b0 b1 b2 hB2
  rw [hp] at HZ HG HX ⊢
  rw [hq] at HG HY ⊢
  have HK0 := Lib.hid b0
  have HK1 := Lib.hid b1
  have HK2 := Lib.hid b2
  have HB2 := Lib.hid hB2
  have HP := Lib.hid hp
  have HQ := Lib.hid hq
  have c0 := b0.cell 0
  have c1 := b1.cell 0
  have hl2 := b2.lt
  by_cases h0 : n = 0
  · rw [decide_eq_true h0] at HZ
    have HQz := Lib.hid (show lowQ neg n d = 0 by rw [h0]; exact lowQ_zero neg d)
    clear ha hb hp hq b0 b1 b2 hB2 h0
    go_enter Tryz.func96, Tryz.ntmps96
    go_wp2_with (go_at_call 95; refine (HZ.out _ HB2.out).mono ?_; clear HZ; rintro e w3 ⟨rfl, hB3⟩; have k2 := HK2.out.below hB3 hl2; have e0 := k2.cell 0; have e1 := k2.cell 1; have e2 := k2.cell 2; have f0 := k2.frozen 0; have f1 := k2.frozen 1; have f2 := k2.frozen 2; have HK2' := Lib.hid k2; have HB3 := Lib.hid (HB2.out.trans (hB3.mono HB2.out.size)); clear hB3 k2)
    obtain ⟨r1, r2, r3⟩ := res_rat HK2'.out rfl (by omega) HB3.out (RatAt.zero w3 0 0)
    rw [HQz.out]
    exact bodyPost_ret (r_c rfl rfl (aggRat.load rfl r1)) rfl ⟨_, rfl, r2, r3⟩
  · rw [decide_eq_false h0] at HZ
    have hg1 : n.gcd d ≤ n := Nat.gcd_le_left d (by omega)
    have hg0 : 0 < n.gcd d := Nat.gcd_pos_of_pos_left _ (by omega)
    have HN0 := Lib.hid h0
    have HGs := Lib.hid (show szN (n.gcd d) ≤ 1000000 from Nat.le_trans (szN_mono hg1) hxs)
    have HG0 := Lib.hid hg0
    have HXs := Lib.hid hxs
    have HYs := Lib.hid hys
    obtain ⟨g, hg⟩ : ∃ g, n.gcd d = g := ⟨_, rfl⟩
    have HGe := Lib.hid hg
    rw [hg] at HG HGs HG0
    clear ha hb hp hq b0 b1 b2 hB2 h0 hg1 hg0 hg
    go_enter Tryz.func96, Tryz.ntmps96
    go_wp2_with (first
      | (go_at_call 95; refine (HZ.out _ HB2.out).mono ?_; clear HZ; rintro e w3 ⟨rfl, hB3⟩; have d0 := (HK0.out.below hB3 HK0.out.lt).cell 0; have d1 := (HK1.out.below hB3 HK1.out.lt).cell 0; have HB23 := Lib.hid hB3; have HW3 := Lib.hid (HB2.out.trans (hB3.mono HB2.out.size)); clear hB3)
      | (go_at_call 114; refine (HG.out _ HW3.out).mono ?_; clear HG; rintro e w4 ⟨vg, rfl, hNg, hB4⟩; obtain ⟨ag, cg, rfl, hrg⟩ := hNg; have HD1 := Lib.hid (divMod_any ((HX.out.below (HW3.out.trans (hB4.mono HW3.out.size))).below ((Below.refl _ w4).alloc (Nat.le_refl _) (.cells #[.slice ag (szN g) cg] 57))) (show NatAt (w4.alloc (.cells #[.slice ag (szN g) cg] 57)) _ g from ⟨ag, cg, rfl, hrg.below ((Below.refl _ w4).alloc (Nat.le_refl _) _)⟩) HXs.out HGs.out HG0.out); have HB24 := Lib.hid (HB23.out.trans (hB4.mono HB23.out.size)); have HRg := Lib.hid hrg; have HW4 := Lib.hid (HW3.out.trans (hB4.mono HW3.out.size)); have hl4 := HB24.out.size; have e0 := ((HK0.out.below HB24.out HK0.out.lt).alloc (.cells #[.slice ag (szN g) cg] 57)).cell 0; have e1 := ((HK1.out.below HB24.out HK1.out.lt).alloc (.cells #[.slice ag (szN g) cg] 57)).cell 0; have eg := (BlkAt.new w4 57 #[.slice ag (szN g) cg]).cell 0; clear hrg hB4)
      | (go_at_call 115; refine HD1.out.mono ?_; clear HD1; rintro e w5 ⟨v1, v2, rfl, hN1, hN2, hB5⟩; obtain ⟨a1, c1', rfl, hr1⟩ := hN1; have HB45 := Lib.hid (((Below.refl _ w4).alloc (Nat.le_refl _) _).trans (hB5.mono (by simp))); have HB25 := Lib.hid (HB24.out.trans (HB45.out.mono HB24.out.size)); have k0 := HK0.out.below HB25.out HK0.out.lt; have k1 := HK1.out.below HB25.out HK1.out.lt; have k2 := HK2.out.below HB25.out HK2.out.lt; have kg := (BlkAt.new w4 57 #[.slice ag (szN g) cg]).below hB5 (by simp); have HN1 := Lib.hid (show NatAt w5 (.agg #[.slice a1 (szN (n / g)) c1']) (n / g) from ⟨a1, c1', rfl, hr1⟩); have kk := KeepT.blk k0 (show 133 ≠ 57 by decide) (grow_set w5 w.heap.size 0 (.slice a1 (szN (n / g)) c1')); have HKK := Lib.hid kk; have HW5 := Lib.hid (HB2.out.trans (HB25.out.mono HB2.out.size)); have g0 := k0.cell 0; have g1 := k1.cell 0; have gg := kg.cell 0; have h0 := k0.frozen 0; have HD2 := Lib.hid (divMod_any ((HY.out.below HW5.out).keep kk) ((show NatAt w5 (.agg #[.slice ag (szN g) cg]) g from ⟨ag, cg, rfl, HRg.out.below HB45.out⟩).keep kk) HYs.out HGs.out HG0.out); have HS0 := Lib.hid (k0.set 0 (.slice a1 (szN (n / g)) c1')); have HS1 := Lib.hid (k1.far (p := ⟨w.heap.size, 0, none⟩) (by simp) (.slice a1 (szN (n / g)) c1')); have HS2 := Lib.hid (k2.far (p := ⟨w.heap.size, 0, none⟩) (by simp; omega) (.slice a1 (szN (n / g)) c1')); clear hr1 hN2 hB5 k0 k1 k2 kg kk)
      | (go_at_call 115; refine HD2.out.mono ?_; clear HD2; rintro e w7 ⟨v3, v4, rfl, hN3, hN4, hB7⟩; obtain ⟨a3, c3, rfl, hr3⟩ := hN3; have k0 := HS0.out.below hB7 HS0.out.lt; have k1 := HS1.out.below hB7 HS1.out.lt; have k2 := HS2.out.below hB7 HS2.out.lt; have i0 := k0.cell 0; have i1 := k1.cell 0; have j1 := k1.frozen 0; have i2 := k2.cell 0; have i3 := k2.cell 1; have i4 := k2.cell 2; have j2 := k2.frozen 0; have j3 := k2.frozen 1; have j4 := k2.frozen 2; have HT0 := Lib.hid k0; have HT1 := Lib.hid k1; have HT2 := Lib.hid k2; have HR3 := Lib.hid hr3; have HM1 := Lib.hid ((HN1.out.keep HKK.out).below hB7); have HW7 := Lib.hid ((HW5.out.setCell (p := ⟨w.heap.size, 0, none⟩) (Nat.le_refl _) (.slice a1 (szN (n / g)) c1')).trans (hB7.mono (HW5.out.setCell (p := ⟨w.heap.size, 0, none⟩) (Nat.le_refl _) (.slice a1 (szN (n / g)) c1')).size)); clear hr3 hN4 hB7 k0 k1 k2))
    obtain ⟨z1, z2, z3, -⟩ := lowQ_parts (neg := neg) HN0.out hd
    rw [HGe.out] at z1 z2
    have kk := KeepT.blk HT1.out (show 133 ≠ 57 by decide) (grow_set w7 (w.heap.size + 1) 0 (.slice a3 (szN (d / g)) c3))
    obtain ⟨a', c', he, hr1⟩ := HM1.out
    simp only [Value.agg.injEq, Array.mk.injEq, List.cons.injEq, and_true, Value.slice.injEq] at he
    obtain ⟨rfl, -, rfl⟩ := he
    have hN : RatAt (w7.setCell ⟨w.heap.size + 1, 0, none⟩ (.slice a3 (szN (d / g)) c3)) (.agg #[.bool neg, .slice a1 (szN (n / g)) c1', .slice a3 (szN (d / g)) c3]) (lowQ neg n d) :=
      ⟨a1, c1', a3, c3, by rw [z1, z2, z3], by rw [z1]; exact hr1.keep kk, by rw [z2]; exact HR3.out.keep kk⟩
    obtain ⟨r1, r2, r3⟩ := res_rat (HT2.out.far (p := ⟨w.heap.size + 1, 0, none⟩) (by simp) (.slice a3 (szN (d / g)) c3)) rfl (by omega) (HW7.out.setCell (p := ⟨w.heap.size + 1, 0, none⟩) (show w.heap.size ≤ w.heap.size + 1 by omega) (.slice a3 (szN (d / g)) c3)) hN
    exact bodyPost_ret (r_c rfl rfl (aggRat.load rfl r1)) rfl ⟨_, rfl, r2, r3⟩
/-- The whole number that an int is. -/
theorem ofQ (v : Int) : lowQ (decide (v < 0)) v.natAbs 1 = (v : Rat) := by
  unfold lowQ
  have : (if decide (v < 0) = true then -(v.natAbs : Int) else (v.natAbs : Int)) = v := by
    by_cases h : v < 0
    · rw [decide_eq_true h]; simp; omega
    · rw [decide_eq_false h]; simp; omega
  rw [this]
  exact Rat.mkRat_one v
theorem szN_one : szN 1 ≤ 1 := szN_small (by decide)
set_option maxRecDepth 20000 in
set_option maxHeartbeats 8000000 in
theorem den_any {v : Value} {q : Rat} {w : World} (h : RatAt w v q) :
    Calls Tryz.prog 100 #[v] w fun e w' => ∃ v', e = .returned v' ∧ NatAt w' v' q.den ∧ Below w.heap.size w w' := by
  obtain ⟨a, c, b, d, rfl, ha, hb⟩ := h
  obtain ⟨W2, hW2⟩ : ∃ W2, (w.alloc (.cells #[.bool (negQ q), .slice a (szN (numQ q)) c, .slice b (szN (denQ q)) d] 59)).alloc (.cells #[.slice none 0 0] 57) = W2 := ⟨_, rfl⟩
  have hB2 : Below w.heap.size w W2 := by rw [← hW2]; exact ((Below.refl _ w).alloc (Nat.le_refl _) _).alloc (by simp) _
  have b0 : BlkAt W2 w.heap.size 59 #[.bool (negQ q), .slice a (szN (numQ q)) c, .slice b (szN (denQ q)) d] := by rw [← hW2]; exact (BlkAt.new w _ _).alloc _
  have b1 : BlkAt W2 (w.heap.size + 1) 57 #[.slice none 0 0] := by
    rw [← hW2]
    have := BlkAt.new (w.alloc (.cells #[.bool (negQ q), .slice a (szN (numQ q)) c, .slice b (szN (denQ q)) d] 59)) 57 #[.slice none 0 0]
    simpa using this
  have HZ := Lib.hid (zero_any (show NatAt W2 (.agg #[.slice b (szN (denQ q)) d]) (denQ q) from ⟨b, d, rfl, hb.below hB2⟩))
  have HB2 := Lib.hid hB2
  have c0 := b0.cell 0
  have c1 := b0.cell 1
  have c2 := b0.cell 2
  have HK0 := Lib.hid b0
  have HK1 := Lib.hid b1
  have HR := Lib.hid hb
  by_cases h0 : q.num = 0
  · rw [decide_eq_true (show denQ q = 0 by unfold denQ; rw [if_pos h0])] at HZ
    have HO := Lib.hid (fun W => of_any 1 (by decide) W)
    rw [denQ_one h0]
    clear h0 hB2 b0 b1 ha hb
    go_enter Tryz.func100, Tryz.ntmps100
    go_wp2_with (first
      | (go_at_call 95; refine HZ.out.mono ?_; clear HZ; rintro e w3 ⟨rfl, hB3⟩; have HB3 := Lib.hid hB3; clear hB3)
      | (go_at_call 101; refine (HO.out _).mono ?_; clear HO; rintro e w4 ⟨v4, rfl, hN4, hB4⟩; obtain ⟨a4, c4, rfl, hr4⟩ := hN4; have HR4 := Lib.hid hr4; have HB24 := Lib.hid (HB3.out.trans (hB4.mono HB3.out.size)); have k1 := HK1.out.below HB24.out HK1.out.lt; have e0 := k1.cell 0; have f0 := k1.frozen 0; have HK4 := Lib.hid k1; clear hr4 hB4 k1))
    obtain ⟨e1, e2, e3⟩ := res_at HK4.out (by omega) (HB2.out.trans (HB24.out.mono HB2.out.size)) (show NatAt w4 (.agg #[.slice a4 (szN 1) c4]) 1 from ⟨a4, c4, rfl, HR4.out⟩)
    exact bodyPost_ret (r_c rfl rfl e1) rfl ⟨_, rfl, e2, e3⟩
  · rw [decide_eq_false (show denQ q ≠ 0 by unfold denQ; rw [if_neg h0]; exact q.den_nz)] at HZ
    have HQ := Lib.hid (show denQ q = q.den by unfold denQ; rw [if_neg h0])
    clear h0 hB2 b0 b1 ha hb
    go_enter Tryz.func100, Tryz.ntmps100
    go_wp2_with (first
      | (go_at_call 95; refine HZ.out.mono ?_; clear HZ; rintro e w3 ⟨rfl, hB3⟩; have HB3 := Lib.hid hB3; have k0 := HK0.out.below hB3 HK0.out.lt; have k1 := HK1.out.below hB3 HK1.out.lt; have e2 := k0.cell 2; have e3 := k1.cell 0; have f3 := k1.frozen 0; have HK4 := Lib.hid k1; clear hB3 k0 k1))
    obtain ⟨e1, e2, e3⟩ := res_at HK4.out (by omega) (HB2.out.trans (HB3.out.mono HB2.out.size)) (show NatAt w3 (.agg #[.slice b (szN (denQ q)) d]) (denQ q) from ⟨b, d, rfl, (HR.out.below HB2.out).below HB3.out⟩)
    rw [← HQ.out]
    exact bodyPost_ret (r_c rfl rfl e1) rfl ⟨_, rfl, e2, e3⟩
end Go.Proofs.YtjcpfmndkeiegaaGreatDoor
namespace Go.Proofs.YtjcpfmndkeiegaaGreatDoor
open Go.RowKit
set_option linter.unusedVariables false

theorem szN_word {n : Nat} (h : n < 18446744073709551616) : szN n ≤ 2 := szN_le (by simpa using h)
theorem of_one (w : World) : Calls Tryz.prog 101 #[.int .u64 1] w fun e w' => ∃ v, e = .returned v ∧ NatAt w' v 1 ∧ Below w.heap.size w w' := of_any 1 (by decide) w
/-- A result's cell, first of all. -/
theorem rat_free {w W : World} (h : Below (w.heap.size + 1) (w.alloc rat0) W) : BlkAt W w.heap.size 59 #[.bool false, .slice none 0 0, .slice none 0 0] :=
  (BlkAt.new w _ _).below h (by omega)
theorem below_in {w W : World} {o : Obj} (h : Below (w.heap.size + 1) (w.alloc o) W) : Below w.heap.size w W := ((Below.refl _ w).alloc (Nat.le_refl _) o).trans (h.mono (by omega))
set_option maxRecDepth 20000 in
set_option maxHeartbeats 8000000 in
theorem ratOf_any (n : Nat) (hn : n < 9223372036854775808) (w : World) :
    Calls Tryz.prog 63 #[.int .i64 n] w fun e w' => ∃ v, e = .returned v ∧ RatAt w' v (lowQ false n 1) ∧ Below w.heap.size w w' := by
  have HO := Lib.hid (fun W => of_any n (by omega) W)
  have HO1 := Lib.hid (fun W => of_one W)
  have hI : (n : Int) ≤ 9223372036854775807 := by omega
  have HS := Lib.hid (show szN n ≤ 1000000 from Nat.le_trans (szN_word (by omega)) (by omega))
  have HB0 := Lib.hid (show Below (w.heap.size + 1) (w.alloc rat0) (w.alloc rat0) from Below.refl _ _)
  go_enter Tryz.func63, Tryz.ntmps63
  go_wp2_with (first
    | (go_at_call 101; refine (HO.out _).mono ?_; clear HO; rintro e w3 ⟨v3, rfl, hN3, hB3⟩; have HN3 := Lib.hid hN3; have HB3 := Lib.hid (HB0.out.trans (hB3.mono (by simp))); clear hN3 hB3)
    | (go_at_call 101; refine (HO1.out _).mono ?_; clear HO1; rintro e w4 ⟨v4, rfl, hN4, hB4⟩; have HL := Lib.hid (lowest_any false (HN3.out.below hB4) hN4 HS.out (Nat.le_trans szN_one (by decide)) (by decide)); have HB4 := Lib.hid (HB3.out.trans (hB4.mono (by have := HB3.out.size; simpa using this))); clear hN4 hB4)
    | (go_at_call 96; refine HL.out.mono ?_; clear HL; rintro e w5 ⟨v5, rfl, hN5, hB5⟩; have HB5 := Lib.hid (HB4.out.trans (hB5.mono (by have := HB4.out.size; simpa using this))); obtain ⟨a5, c5, b5, d5, rfl, hr5, hr6⟩ := hN5; have HN5 := Lib.hid (show RatAt w5 (.agg #[.bool (negQ (lowQ false n 1)), .slice a5 (szN (numQ (lowQ false n 1))) c5, .slice b5 (szN (denQ (lowQ false n 1))) d5]) (lowQ false n 1) from ⟨a5, c5, b5, d5, rfl, hr5, hr6⟩); have k := rat_free HB5.out; have c0 := k.cell 0; have c1 := k.cell 1; have c2 := k.cell 2; have f0 := k.frozen 0; have f1 := k.frozen 1; have f2 := k.frozen 2; have HK := Lib.hid k; clear hr5 hr6 hB5 k))
  obtain ⟨r1, r2, r3⟩ := res_rat HK.out rfl (Nat.le_refl _) (below_in HB5.out) HN5.out
  exact bodyPost_ret (r_c rfl rfl (aggRat.load rfl r1)) rfl ⟨_, rfl, r2, r3⟩
/-- What Make tells: the fraction, and why not. -/
def makeQ (neg : Bool) (n d : Nat) : Rat := if d = 0 then 0 else lowQ neg n d
def makeC (d : Nat) : Nat := if d = 0 then 4 else 0
set_option maxRecDepth 20000 in
set_option maxHeartbeats 8000000 in
theorem make_rat {va vb : Value} {n d : Nat} {w : World} (neg : Bool) (hx : NatAt w va n) (hy : NatAt w vb d) (hxs : szN n ≤ 1000000) (hys : szN d ≤ 1000000) :
    Calls Tryz.prog 59 #[.bool neg, va, vb] w fun e w' => ∃ v, e = .returned (.tuple #[v, .int .i64 (makeC d : Nat)]) ∧ RatAt w' v (makeQ neg n d) ∧ Below w.heap.size w w' := by
  have HZ := Lib.hid (fun (W : World) (hW : Below w.heap.size w W) => zero_any (hy.below hW))
  have HL := Lib.hid (fun (W : World) (hd : d ≠ 0) (hW : Below w.heap.size w W) => lowest_any neg (hx.below hW) (hy.below hW) hxs hys hd)
  obtain ⟨a, c, rfl, ha⟩ := hx
  obtain ⟨b, e, rfl, hb⟩ := hy
  obtain ⟨p, hp⟩ : ∃ p, szN n = p := ⟨_, rfl⟩
  obtain ⟨q, hq⟩ : ∃ q, szN d = q := ⟨_, rfl⟩
  obtain ⟨W2, hW2⟩ : ∃ W2, (((w.alloc (.cells #[.slice a p c] 57)).alloc (.cells #[.slice b q e] 57)).alloc (.cells #[.bool false, .slice none 0 0, .slice none 0 0] 59)) = W2 := ⟨_, rfl⟩
  obtain ⟨b0, b1, b2, hB2⟩ := three_new w (.slice a p c) (.slice b q e) #[.bool false, .slice none 0 0, .slice none 0 0] 59
  rw [hW2] at b0 b1 b2 hB2
  rw [hp] at HL ⊢
  rw [hq] at HL HZ ⊢
  have HK0 := Lib.hid b0
  have HK1 := Lib.hid b1
  have HK2 := Lib.hid b2
  have HB2 := Lib.hid hB2
  have c0 := b0.cell 0
  have c1 := b1.cell 0
  clear ha hb hp hq b0 b1 b2 hB2 hxs hys
  by_cases hd : d = 0
  · rw [decide_eq_true hd] at HZ
    have e1 : makeC d = 4 := if_pos hd
    have e2 : makeQ neg n d = 0 := if_pos hd
    rw [e1, e2]
    clear e1 e2 hd HL
    go_enter Tryz.func59, Tryz.ntmps59
    go_wp2_with (go_at_call 95; refine (HZ.out _ HB2.out).mono ?_; clear HZ; rintro e w3 ⟨rfl, hB3⟩; have k2 := HK2.out.below hB3 HK2.out.lt; have e0 := k2.cell 0; have e1 := k2.cell 1; have e2 := k2.cell 2; have f0 := k2.frozen 0; have f1 := k2.frozen 1; have f2 := k2.frozen 2; have HK2' := Lib.hid k2; have HB3 := Lib.hid (HB2.out.trans (hB3.mono HB2.out.size)); clear hB3 k2)
    obtain ⟨r1, r2, r3⟩ := res_rat HK2'.out rfl (by omega) HB3.out (RatAt.zero w3 0 0)
    exact bodyPost_ret (r_ct rfl rfl (aggRat.load rfl r1)) rfl ⟨_, rfl, r2, r3⟩
  · rw [decide_eq_false hd] at HZ
    have e1 : makeC d = 0 := if_neg hd
    have e2 : makeQ neg n d = lowQ neg n d := if_neg hd
    rw [e1, e2]
    have HD := Lib.hid hd
    clear e1 e2 hd
    go_enter Tryz.func59, Tryz.ntmps59
    go_wp2_with (first
      | (go_at_call 95; refine (HZ.out _ HB2.out).mono ?_; clear HZ; rintro e w3 ⟨rfl, hB3⟩; have d0 := (HK0.out.below hB3 HK0.out.lt).cell 0; have d1 := (HK1.out.below hB3 HK1.out.lt).cell 0; have HB23 := Lib.hid hB3; have HL3 := Lib.hid (HL.out _ HD.out (HB2.out.trans (hB3.mono HB2.out.size))); clear hB3 HL)
      | (go_at_call 96; refine HL3.out.mono ?_; clear HL3; rintro e w4 ⟨v4, rfl, hN4, hB4⟩; obtain ⟨a5, c5, b5, d5, rfl, hr5, hr6⟩ := hN4; have HN5 := Lib.hid (show RatAt w4 (.agg #[.bool (negQ (lowQ neg n d)), .slice a5 (szN (numQ (lowQ neg n d))) c5, .slice b5 (szN (denQ (lowQ neg n d))) d5]) (lowQ neg n d) from ⟨a5, c5, b5, d5, rfl, hr5, hr6⟩); have HB24 := Lib.hid (HB23.out.trans (hB4.mono HB23.out.size)); have k2 := HK2.out.below HB24.out HK2.out.lt; have e0 := k2.cell 0; have e1 := k2.cell 1; have e2 := k2.cell 2; have f0 := k2.frozen 0; have f1 := k2.frozen 1; have f2 := k2.frozen 2; have HK2' := Lib.hid k2; clear hr5 hr6 hB4 k2))
    obtain ⟨r1, r2, r3⟩ := res_rat HK2'.out rfl (by omega) (HB2.out.trans (HB24.out.mono HB2.out.size)) HN5.out
    exact bodyPost_ret (r_ct rfl rfl (aggRat.load rfl r1)) rfl ⟨_, rfl, r2, r3⟩
end Go.Proofs.YtjcpfmndkeiegaaGreatDoor
