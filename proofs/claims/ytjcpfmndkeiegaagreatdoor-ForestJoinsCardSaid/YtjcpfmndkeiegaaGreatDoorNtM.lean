/- The walk of nat.DivMod. -/
import Derived.Test.YtjcpfmndkeiegaaGreatDoorNtL
namespace Go.Proofs.YtjcpfmndkeiegaaGreatDoor
open Go.RowKit
set_option linter.unusedVariables false

/-- Both results of a division. -/
def DivP (w : World) (x y : Nat) (e : Ending) (w' : World) : Prop := ∃ v1 v2, e = .returned (.tuple #[v1, v2, .bool true]) ∧ NatAt w' v1 (x / y) ∧ NatAt w' v2 (x % y) ∧ Below w.heap.size w w'
/-- The stores of two results that are numbers. -/
theorem res_two {w W : World} {base g1 g2 : Nat} {u1 u2 : Value} {a1 a2 : Option Addr} {s1 c1 s2 c2 p q : Nat} (hb1 : BlkAt W g1 57 #[u1]) (hb2 : BlkAt W g2 57 #[u2]) (hne : g1 ≠ g2) (hg1 : base ≤ g1) (hg2 : base ≤ g2) (h : Below base w W)
    (hp : NatAt W (.agg #[.slice a1 s1 c1]) p) (hq : NatAt W (.agg #[.slice a2 s2 c2]) q) :
    BlkAt ((W.setCell ⟨g1, 0, none⟩ (.slice a1 s1 c1)).setCell ⟨g2, 0, none⟩ (.slice a2 s2 c2)) g1 57 #[.slice a1 s1 c1] ∧
    BlkAt ((W.setCell ⟨g1, 0, none⟩ (.slice a1 s1 c1)).setCell ⟨g2, 0, none⟩ (.slice a2 s2 c2)) g2 57 #[.slice a2 s2 c2] ∧
    NatAt ((W.setCell ⟨g1, 0, none⟩ (.slice a1 s1 c1)).setCell ⟨g2, 0, none⟩ (.slice a2 s2 c2)) (.agg #[.slice a1 s1 c1]) p ∧
    NatAt ((W.setCell ⟨g1, 0, none⟩ (.slice a1 s1 c1)).setCell ⟨g2, 0, none⟩ (.slice a2 s2 c2)) (.agg #[.slice a2 s2 c2]) q ∧
    Below base w ((W.setCell ⟨g1, 0, none⟩ (.slice a1 s1 c1)).setCell ⟨g2, 0, none⟩ (.slice a2 s2 c2)) := by
  have b1 := (hb1.set 0 (.slice a1 s1 c1)).far (p := ⟨g2, 0, none⟩) hne (.slice a2 s2 c2)
  have b0 := hb2.far (p := ⟨g1, 0, none⟩) (Ne.symm hne) (.slice a1 s1 c1)
  have b2 := b0.set 0 (.slice a2 s2 c2)
  have k1 := KeepT.blk hb1 (show 133 ≠ 57 by decide) (grow_set W g1 0 (.slice a1 s1 c1))
  have k2 := KeepT.blk b0 (show 133 ≠ 57 by decide) (grow_set _ g2 0 (.slice a2 s2 c2))
  exact ⟨b1, b2, (hp.keep k1).keep k2, (hq.keep k1).keep k2, (h.setCell (p := ⟨g1, 0, none⟩) hg1 _).setCell (p := ⟨g2, 0, none⟩) hg2 _⟩
theorem box2_new (w : World) (va vb : Value) : BlkAt ((w.alloc (.cells #[va] 57)).alloc (.cells #[vb] 57)) w.heap.size 57 #[va] ∧
    BlkAt ((w.alloc (.cells #[va] 57)).alloc (.cells #[vb] 57)) (w.heap.size + 1) 57 #[vb] ∧ Below w.heap.size w ((w.alloc (.cells #[va] 57)).alloc (.cells #[vb] 57)) := by
  refine ⟨(BlkAt.new w _ _).alloc _, ?_, ((Below.refl _ w).alloc (Nat.le_refl _) _).alloc (by simp) _⟩
  have := BlkAt.new (w.alloc (.cells #[va] 57)) 57 #[vb]
  simpa using this
theorem NatAt.drew {w : World} {v : Value} {n : Nat} (h : NatAt w v n) : NatAt w.drew v n := h.keep (fun _ _ h => h)
theorem RdL.drew {w : World} {a : Option Addr} {l : List Nat} (h : RdL w a l) : RdL w.drew a l := h.keep (fun _ _ h => h)
set_option maxRecDepth 20000 in
set_option maxHeartbeats 8000000 in
theorem div_lt {va vb : Value} {x y : Nat} {w : World} (hx : NatAt w va x) (hy : NatAt w vb y) (hxs : szN x ≤ 1000000) (hys : szN y ≤ 1000000) (h0 : 0 < y) (hlt : x < y) :
    Calls Tryz.prog 115 #[va, vb] w (DivP w x y) := by
  have HCm := Lib.hid (fun (W : World) (hW : Below w.heap.size w W) => cmp_any (hx.below hW) (hy.below hW) hxs hys)
  have hcm : cmpN x y = -1 := by unfold cmpN; rw [if_pos hlt]
  rw [hcm] at HCm
  have HZ := Lib.hid (fun (W : World) (hW : Below w.heap.size w W) => zero_any (hy.below hW))
  rw [show decide (y = 0) = false from decide_eq_false (by omega)] at HZ
  have e1 : x / y = 0 := Nat.div_eq_of_lt hlt
  have e2 : x % y = x := Nat.mod_eq_of_lt hlt
  unfold DivP
  rw [e1, e2]
  have hx0 := hx
  obtain ⟨a, c, rfl, ha⟩ := hx
  obtain ⟨b, d, rfl, hb⟩ := hy
  obtain ⟨n, hn⟩ : ∃ n, szN x = n := ⟨_, rfl⟩
  obtain ⟨m, hm⟩ : ∃ m, szN y = m := ⟨_, rfl⟩
  rw [hn] at hxs HCm hx0 ⊢
  rw [hm] at hys HCm HZ ⊢
  obtain ⟨W2, hW2⟩ : ∃ W2, (((w.alloc (.cells #[.slice a n c] 57)).alloc (.cells #[.slice b m d] 57)).alloc (.cells #[.slice none 0 0] 57)).alloc (.cells #[.slice none 0 0] 57) = W2 := ⟨_, rfl⟩
  obtain ⟨hbx, hbr, hB2, hz2⟩ := boxes4_new w (.slice a n c) (.slice b m d)
  rw [show box4 w (.slice a n c) (.slice b m d) = W2 from hW2] at hbx hbr hB2 hz2
  have HX := Lib.hid (hx0.below hB2)
  have HBx := Lib.hid hbx
  have HBr := Lib.hid hbr
  have HB2 := Lib.hid hB2
  have d0 := hbx.1.cell 0
  have d1 := hbx.2.1.cell 0
  clear ha hb hbx hbr hB2 hz2 hn hm hcm e1 e2 hx0
  go_enter Tryz.func115, Tryz.ntmps115
  go_wp2_with (first
    | (go_at_call 95; refine (HZ.out _ HB2.out).mono ?_; rintro e w3 ⟨rfl, hB3⟩; have HB3 := Lib.hid hB3; have hbx3 := HBx.out.below hB3; have c0 := hbx3.1.cell 0; have c1 := hbx3.2.1.cell 0; have HW3 := Lib.hid (HB2.out.trans (hB3.mono HB2.out.size)); have HC3 := Lib.hid (HCm.out _ HW3.out); clear hB3 hbx3)
    | (go_at_call 110; refine HC3.out.mono ?_; rintro e w4 ⟨rfl, hB4⟩; have hbx4 := (HBx.out.below HB3.out).below hB4; have hr4 := (HBr.out.below HB3.out HBr.out.lt).below hB4 (HBr.out.below HB3.out HBr.out.lt).lt; have e0 := hbx4.1.cell 0; have e2 := hbx4.2.2.cell 0; have e3 := hr4.cell 0; have f2 := hbx4.2.2.frozen 0; have f3 := hr4.frozen 0; have HX4 := Lib.hid ((HX.out.below HB3.out).below hB4); have HR2 := Lib.hid hbx4.2.2; have HR3 := Lib.hid hr4; have HB4 := Lib.hid (HW3.out.trans (hB4.mono HW3.out.size)); clear hbx4 hr4 hB4))
  go_region
  go_wp2
  obtain ⟨k1, k2, k3, k4, k5⟩ := res_two HR2.out HR3.out (by omega) (by omega) (by omega) HB4.out (NatAt.zero w4 0) HX4.out
  exact bodyPost_ret (r_cct rfl rfl rfl (aggNat.load rfl k1.drew) (aggNat.load rfl k2.drew)) rfl ⟨_, _, rfl, k3.drew, k4.drew, k5.drew⟩
theorem one_limb {y : Nat} (h : szN y = 1) : y < 4294967296 ∧ 0 < y ∧ (limbs y).getD 0 0 = y := by
  have h1 := szN_lt y
  rw [h] at h1
  have h0 : y ≠ 0 := fun e => by rw [e, szN_zero] at h; cases h
  refine ⟨by simpa using h1, by omega, ?_⟩
  rw [limbs_pos h0]
  show y % 4294967296 = y
  omega
theorem cmpN_ge {x y : Nat} (h : y ≤ x) : 0 ≤ cmpN x y := by unfold cmpN; rw [if_neg (by omega)]; split <;> omega
set_option maxRecDepth 20000 in
set_option maxHeartbeats 8000000 in
theorem div_one {va vb : Value} {x y : Nat} {w : World} (hx : NatAt w va x) (hy : NatAt w vb y) (hxs : szN x ≤ 1000000) (hle : y ≤ x) (h1 : szN y = 1) :
    Calls Tryz.prog 115 #[va, vb] w (DivP w x y) := by
  obtain ⟨y1, y2, y3⟩ := one_limb h1
  have HCm := Lib.hid (fun (W : World) (hW : Below w.heap.size w W) => cmp_any (hx.below hW) (hy.below hW) hxs (by omega))
  obtain ⟨z, hz⟩ : ∃ z, cmpN x y = z := ⟨_, rfl⟩
  have hz0 : 0 ≤ z := by rw [← hz]; exact cmpN_ge hle
  rw [hz] at HCm
  have HZ := Lib.hid (fun (W : World) (hW : Below w.heap.size w W) => zero_any (hy.below hW))
  rw [show decide (y = 0) = false from decide_eq_false (by omega)] at HZ
  unfold DivP
  obtain ⟨a, c, rfl, ha⟩ := hx
  obtain ⟨b, d, rfl, hb⟩ := hy
  obtain ⟨n, hn⟩ : ∃ n, szN x = n := ⟨_, rfl⟩
  rw [hn] at hxs HCm ⊢
  rw [h1] at HCm HZ ⊢
  obtain ⟨W2, hW2⟩ : ∃ W2, (((w.alloc (.cells #[.slice a n c] 57)).alloc (.cells #[.slice b 1 d] 57)).alloc (.cells #[.slice none 0 0] 57)).alloc (.cells #[.slice none 0 0] 57) = W2 := ⟨_, rfl⟩
  obtain ⟨hbx, hbr, hB2, hz2⟩ := boxes4_new w (.slice a n c) (.slice b 1 d)
  rw [show box4 w (.slice a n c) (.slice b 1 d) = W2 from hW2] at hbx hbr hB2 hz2
  have HBx := Lib.hid hbx
  have HBr := Lib.hid hbr
  have HB2 := Lib.hid hB2
  have HN := Lib.hid hn
  have HA := Lib.hid (ha.below hB2)
  have HBb := Lib.hid (hb.below hB2)
  have HH1 := Lib.hid h1
  have HY1 := Lib.hid y1
  have HY2 := Lib.hid y2
  have HY3 := Lib.hid y3
  have d0 := hbx.1.cell 0
  have d1 := hbx.2.1.cell 0
  have hyI : (y : Int) ≤ 4294967295 := by omega
  clear ha hb hbx hbr hB2 hz2 hn hz h1 y1 y2 y3 hle
  go_enter Tryz.func115, Tryz.ntmps115
  go_wp2_with (first
    | (go_at_call 95; refine (HZ.out _ HB2.out).mono ?_; clear HZ; rintro e w3 ⟨rfl, hB3⟩; have HB3 := Lib.hid hB3; have hbx3 := HBx.out.below hB3; have c0 := hbx3.1.cell 0; have c1 := hbx3.2.1.cell 0; have HW3 := Lib.hid (HB2.out.trans (hB3.mono HB2.out.size)); have HC3 := Lib.hid (HCm.out _ HW3.out); clear hB3 hbx3 HCm)
    | (go_at_call 110; refine HC3.out.mono ?_; clear HC3; rintro e w4 ⟨rfl, hB4⟩; have HB24 := Lib.hid (HB3.out.trans (hB4.mono HB3.out.size)); have hbx4 := HBx.out.below HB24.out; have e0 := hbx4.1.cell 0; have e1 := hbx4.2.1.cell 0; have HW4 := Lib.hid (HW3.out.trans (hB4.mono HW3.out.size)); have HC := Lib.hid (clone_any (c := c) (HA.out.below HB24.out) (by rw [limbs_len, HN.out]; omega)); rw [limbs_len, HN.out] at HC; clear hbx4 hB4)
    | (go_at_call 106; refine HC.out.mono ?_; clear HC; rintro e w5 ⟨v5, rfl, ho5, hB5⟩; have HB5 := Lib.hid (HB24.out.trans (hB5.mono HB24.out.size)); have hbx5 := HBx.out.below HB5.out; have g0 := hbx5.1.cell 0; have g1 := hbx5.2.1.cell 0; have HL := Lib.hid (less_any (b := y) hB5.size ho5.part (limbs_lim x) (by rw [limbs_len, HN.out]; omega) HY1.out HY2.out); have HB45 := Lib.hid hB5; obtain ⟨gb, hgb, _, hcb⟩ := (HBb.out.below HB5.out).at 0 (by rw [limbs_len, HH1.out]; omega); rw [HY3.out] at hcb; subst hgb; clear ho5 hB5 hbx5)
    | (go_at_call 107; refine HL.out.mono ?_; clear HL; rintro e w6 ⟨L6, rfl, ho6, hL6, hl6, hv6, hg6, hB6⟩; rw [limbs_val] at hv6 ⊢; obtain ⟨r, hr⟩ : ∃ r, x % y = r := ⟨_, rfl⟩; rw [hr]; have hrI : (r : Int) ≤ 4294967295 := (by have h1 := Nat.mod_lt x HY2.out; have h2 := HY1.out; omega); have HRm := Lib.hid hr; clear hr; obtain ⟨a6, c6, rfl, hc6, hr6⟩ := ho6.rd; have HB46 := Lib.hid (HB45.out.trans hB6); have HT := Lib.hid (trim_any hL6 hr6 hc6 (by rw [hl6, limbs_len, HN.out]; omega)); rw [hv6] at HT; clear ho6 hL6 hl6 hv6 hg6 hB6 hr6 hc6)
    | (go_at_call 94; refine HT.out.mono ?_; clear HT; rintro e w7 ⟨rfl, hN7, hB7⟩; have HB47 := Lib.hid (HB46.out.trans (hB7.mono HB46.out.size)); have HN7 := Lib.hid hN7; have HO := Lib.hid (of_any r (by omega) w7); clear hN7 hB7)
    | (go_at_call 101; refine HO.out.mono ?_; clear HO; rintro e w8 ⟨v8, rfl, hN8, hB8⟩; have HN7b := Lib.hid (HN7.out.below hB8); obtain ⟨a8, c8, rfl, hr8⟩ := hN8; have HR8 := Lib.hid hr8; have HB48 := Lib.hid (HB47.out.trans (hB8.mono HB47.out.size)); have HB28 := Lib.hid (HB24.out.trans (HB48.out.mono HB24.out.size)); have hbx8 := HBx.out.below HB28.out; have hr8' := HBr.out.below HB28.out HBr.out.lt; have q0 := hbx8.2.2.cell 0; have q1 := hbx8.2.2.frozen 0; have q2 := hr8'.cell 0; have q3 := hr8'.frozen 0; have HK2 := Lib.hid hbx8.2.2; have HK3 := Lib.hid hr8'; clear hr8 hB8 hbx8 hr8'))
  obtain ⟨k1, k2, k3, k4, k5⟩ := res_two HK2.out HK3.out (by omega) (by omega) (by omega) (HB2.out.trans (HB28.out.mono HB2.out.size)) HN7b.out (show NatAt w8 (.agg #[.slice a8 (szN r) c8]) r from ⟨a8, c8, rfl, HR8.out⟩)
  rw [HRm.out]
  exact bodyPost_ret (r_cct rfl rfl rfl (aggNat.load rfl k1) (aggNat.load rfl k2)) rfl ⟨_, _, rfl, k3, k4, k5⟩
set_option maxRecDepth 20000 in
set_option maxHeartbeats 8000000 in
theorem div_long {va vb : Value} {x y : Nat} {w : World} (hx : NatAt w va x) (hy : NatAt w vb y) (hxs : szN x ≤ 1000000) (hle : y ≤ x) (h2 : 2 ≤ szN y) :
    Calls Tryz.prog 115 #[va, vb] w (DivP w x y) := by
  have hys : szN y ≤ 1000000 := Nat.le_trans (szN_mono hle) hxs
  have hy0 : y ≠ 0 := fun e => by rw [e, szN_zero] at h2; omega
  have HCm := Lib.hid (fun (W : World) (hW : Below w.heap.size w W) => cmp_any (hx.below hW) (hy.below hW) hxs hys)
  obtain ⟨z, hz⟩ : ∃ z, cmpN x y = z := ⟨_, rfl⟩
  have hz0 : 0 ≤ z := by rw [← hz]; exact cmpN_ge hle
  rw [hz] at HCm
  have HZ := Lib.hid (fun (W : World) (hW : Below w.heap.size w W) => zero_any (hy.below hW))
  have HL := Lib.hid (fun (W : World) (hW : Below w.heap.size w W) => long_any (hx.below hW) (hy.below hW) hxs hle h2)
  rw [show decide (y = 0) = false from decide_eq_false hy0] at HZ
  unfold DivP
  obtain ⟨a, c, rfl, ha⟩ := hx
  obtain ⟨b, d, rfl, hb⟩ := hy
  obtain ⟨n, hn⟩ : ∃ n, szN x = n := ⟨_, rfl⟩
  obtain ⟨m, hm⟩ : ∃ m, szN y = m := ⟨_, rfl⟩
  rw [hn] at hxs HCm HL ⊢
  rw [hm] at hys HCm HZ HL h2 ⊢
  obtain ⟨W2, hW2⟩ : ∃ W2, (((w.alloc (.cells #[.slice a n c] 57)).alloc (.cells #[.slice b m d] 57)).alloc (.cells #[.slice none 0 0] 57)).alloc (.cells #[.slice none 0 0] 57) = W2 := ⟨_, rfl⟩
  obtain ⟨hbx, hbr, hB2, hz2⟩ := boxes4_new w (.slice a n c) (.slice b m d)
  rw [show box4 w (.slice a n c) (.slice b m d) = W2 from hW2] at hbx hbr hB2 hz2
  have HBx := Lib.hid hbx
  have HBr := Lib.hid hbr
  have HB2 := Lib.hid hB2
  have d0 := hbx.1.cell 0
  have d1 := hbx.2.1.cell 0
  have hm1 : (2 : Int) ≤ (m : Int) := by omega
  clear ha hb hbx hbr hB2 hz2 hn hm hz hle hy0
  go_enter Tryz.func115, Tryz.ntmps115
  go_wp2_with (first
    | (go_at_call 95; refine (HZ.out _ HB2.out).mono ?_; clear HZ; rintro e w3 ⟨rfl, hB3⟩; have HB3 := Lib.hid hB3; have hbx3 := HBx.out.below hB3; have c0 := hbx3.1.cell 0; have c1 := hbx3.2.1.cell 0; have HW3 := Lib.hid (HB2.out.trans (hB3.mono HB2.out.size)); have HC3 := Lib.hid (HCm.out _ HW3.out); clear hB3 hbx3 HCm)
    | (go_at_call 110; refine HC3.out.mono ?_; clear HC3; rintro e w4 ⟨rfl, hB4⟩; have HB24 := Lib.hid (HB3.out.trans (hB4.mono HB3.out.size)); have hbx4 := HBx.out.below HB24.out; have e0 := hbx4.1.cell 0; have e1 := hbx4.2.1.cell 0; have HW4 := Lib.hid (HW3.out.trans (hB4.mono HW3.out.size)); have HL4 := Lib.hid (HL.out _ HW4.out); clear hbx4 hB4 HL)
    | (go_at_call 131; refine HL4.out.mono ?_; clear HL4; rintro e w5 ⟨v1, v2, rfl, hN1, hN2, hB5⟩; obtain ⟨a1, c1, rfl, hr1⟩ := hN1; obtain ⟨a2, c2, rfl, hr2⟩ := hN2; have HR1 := Lib.hid hr1; have HR2 := Lib.hid hr2; have HB25 := Lib.hid (HB24.out.trans (hB5.mono HB24.out.size)); clear hr1 hr2 hB5))
  obtain ⟨W5, hW5⟩ : ∃ W5, (w5.alloc (.cells #[.slice a1 (szN (x / y)) c1] 57)).alloc (.cells #[.slice a2 (szN (x % y)) c2] 57) = W5 := ⟨_, rfl⟩
  obtain ⟨b1, b2, hB5⟩ := box2_new w5 (.slice a1 (szN (x / y)) c1) (.slice a2 (szN (x % y)) c2)
  rw [hW5] at b1 b2 hB5 ⊢
  have hB25 := HB25.out.trans (hB5.mono HB25.out.size)
  have hbx5 := HBx.out.below hB25
  have hr5 := HBr.out.below hB25 HBr.out.lt
  have p0 := b1.cell 0
  have p1 := b2.cell 0
  have e0 := hbx5.2.2.cell 0
  have e1 := hr5.cell 0
  have f0 := hbx5.2.2.frozen 0
  have f1 := hr5.frozen 0
  have HK2 := Lib.hid hbx5.2.2
  have HK3 := Lib.hid hr5
  have HN1 := Lib.hid (show NatAt W5 (.agg #[.slice a1 (szN (x / y)) c1]) (x / y) from ⟨a1, c1, rfl, HR1.out.below hB5⟩)
  have HN2 := Lib.hid (show NatAt W5 (.agg #[.slice a2 (szN (x % y)) c2]) (x % y) from ⟨a2, c2, rfl, HR2.out.below hB5⟩)
  have HW5 := Lib.hid (HB2.out.trans (hB25.mono HB2.out.size))
  have hsz := HB25.out.size
  have hl2 := HBr.out.lt
  clear hW5 b1 b2 hB5 hB25 hbx5 hr5
  go_region
  go_wp2
  obtain ⟨k1, k2, k3, k4, k5⟩ := res_two HK2.out HK3.out (by omega) (by omega) (by omega) HW5.out HN1.out HN2.out
  exact bodyPost_ret (r_cct rfl rfl rfl (aggNat.load rfl k1.drew) (aggNat.load rfl k2.drew)) rfl ⟨_, _, rfl, k3.drew, k4.drew, k5.drew⟩
theorem divMod_any {va vb : Value} {x y : Nat} {w : World} (hx : NatAt w va x) (hy : NatAt w vb y) (hxs : szN x ≤ 1000000) (hys : szN y ≤ 1000000) (h0 : 0 < y) :
    Calls Tryz.prog 115 #[va, vb] w (DivP w x y) := by
  by_cases hlt : x < y
  · exact div_lt hx hy hxs hys h0 hlt
  · have := szN_pos (n := y) (by omega)
    by_cases h1 : szN y = 1
    · exact div_one hx hy hxs (by omega) h1
    · exact div_long hx hy hxs (by omega) (by omega)
end Go.Proofs.YtjcpfmndkeiegaaGreatDoor
