/- The walk of rat's Add. -/
import Derived.Test.YtjcpfmndkeiegaaGreatDoorRtCD
namespace Go.Proofs.YtjcpfmndkeiegaaGreatDoor
open Go.RowKit
set_option linter.unusedVariables false

theorem chainB {a b c : World} (hA : Below a.heap.size a b) (hB : Below b.heap.size b c) : Below a.heap.size a c := hA.trans (hB.mono hA.size)
theorem setBox {W w : World} {B g : Nat} {v0 : Value} {a : Option Addr} {s c n : Nat} (hb : BlkAt w g 57 #[v0]) (hv : NatAt w (.agg #[.slice a s c]) n) (hB : Below B W w) (hg : B ≤ g) :
    BlkAt (w.setCell ⟨g, 0, none⟩ (.slice a s c)) g 57 #[.slice a s c] ∧ NatAt (w.setCell ⟨g, 0, none⟩ (.slice a s c)) (.agg #[.slice a s c]) n ∧ Below B W (w.setCell ⟨g, 0, none⟩ (.slice a s c)) :=
  ⟨hb.set 0 _, hv.keep (KeepT.blk hb (by decide) (grow_set w g 0 _)), hB.setCell (p := ⟨g, 0, none⟩) hg _⟩
/-- A box that was laid, behind a call. -/
theorem newBox_of {w W w' : World} {v : Value} {t : TypeId} (hB : Below W.heap.size W w') (hh : W.heap = (w.alloc (.cells #[v] t)).heap) : BlkAt w' w.heap.size t #[v] := by
  have h : BlkAt W w.heap.size t #[v] := by
    unfold BlkAt
    rw [hh]
    exact BlkAt.new w t #[v]
  exact h.below hB h.lt
set_option maxRecDepth 20000 in
set_option maxHeartbeats 8000000 in
theorem ratAdd_any {va vb : Value} {x y : Rat} {w : World} (hx : RatAt w va x) (hy : RatAt w vb y) (h1 : szN (numQ x) ≤ 400000) (h2 : szN x.den ≤ 400000) (h3 : szN (numQ y) ≤ 400000) (h4 : szN y.den ≤ 400000) :
    Calls Tryz.prog 97 #[va, vb] w fun e w' => ∃ v, e = .returned v ∧ RatAt w' v (x + y) ∧ Below w.heap.size w w' := by
  have HCr := Lib.hid (fun (W : World) (hW : Below w.heap.size w W) => cross_any (hx.below hW) (hy.below hW) (by omega) (by omega) (by omega) (by omega))
  have HDx := Lib.hid (fun (W : World) (hW : Below w.heap.size w W) => den_any (hx.below hW))
  have HDy := Lib.hid (fun (W : World) (hW : Below w.heap.size w W) => den_any (hy.below hW))
  obtain ⟨a, c, b, d, rfl, ha, hb⟩ := hx
  obtain ⟨a', c', b', d', rfl, ha', hb'⟩ := hy
  have HNx := Lib.hid (fun (W : World) (hW : Below w.heap.size w W) => num_at (c := c) (ha.below hW))
  have HNy := Lib.hid (fun (W : World) (hW : Below w.heap.size w W) => num_at (c := c') (ha'.below hW))
  obtain ⟨x0, hx0⟩ : ∃ x0, negQ x = x0 := ⟨_, rfl⟩
  obtain ⟨n1, hn1⟩ : ∃ n, szN (numQ x) = n := ⟨_, rfl⟩
  obtain ⟨n2, hn2⟩ : ∃ n, szN (denQ x) = n := ⟨_, rfl⟩
  obtain ⟨y0, hy0⟩ : ∃ x0, negQ y = x0 := ⟨_, rfl⟩
  obtain ⟨m1, hm1⟩ : ∃ n, szN (numQ y) = n := ⟨_, rfl⟩
  obtain ⟨m2, hm2⟩ : ∃ n, szN (denQ y) = n := ⟨_, rfl⟩
  have HS1 := Lib.hid h1
  have HS2 := Lib.hid h2
  have HS3 := Lib.hid h3
  have HS4 := Lib.hid h4
  have HX0 := Lib.hid hx0
  have HY0 := Lib.hid hy0
  rw [hx0, hn1, hn2] at HDx HCr ⊢
  rw [hy0, hm1, hm2] at HDy HCr ⊢
  rw [hn1] at HNx
  rw [hm1] at HNy
  obtain ⟨W2, hW2⟩ : ∃ W2, ((w.alloc (.cells #[.bool x0, .slice a n1 c, .slice b n2 d] 59)).alloc (.cells #[.bool y0, .slice a' m1 c', .slice b' m2 d'] 59)).alloc (.cells #[.bool false, .slice none 0 0, .slice none 0 0] 59) = W2 := ⟨_, rfl⟩
  obtain ⟨b0, b1, hB2⟩ := rats_new w #[.bool x0, .slice a n1 c, .slice b n2 d] #[.bool y0, .slice a' m1 c', .slice b' m2 d']
  have b2 := BlkAt.new ((w.alloc (.cells #[.bool x0, .slice a n1 c, .slice b n2 d] 59)).alloc (.cells #[.bool y0, .slice a' m1 c', .slice b' m2 d'] 59)) 59 #[.bool false, .slice none 0 0, .slice none 0 0]
  have b0 := b0.alloc (.cells #[.bool false, .slice none 0 0, .slice none 0 0] 59)
  have b1 := b1.alloc (.cells #[.bool false, .slice none 0 0, .slice none 0 0] 59)
  have hB2 := hB2.alloc (by simp; omega) (.cells #[.bool false, .slice none 0 0, .slice none 0 0] 59)
  rw [hW2] at b0 b1 b2 hB2
  simp only [World.size_alloc] at b2
  have HK0 := Lib.hid b0
  have HK1 := Lib.hid b1
  have HK2 := Lib.hid b2
  have HB2 := Lib.hid hB2
  obtain ⟨q0, q1, q2, q3, q4, q5⟩ := RatCells.of b0 b1
  clear ha hb ha' hb' b0 b1 b2 hB2 hx0 hn1 hn2 hy0 hm1 hm2 h1 h2 h3 h4
  have hne1 : w.heap.size ≠ w.heap.size + 1 + 1 := by omega
  have hne2 : w.heap.size ≠ w.heap.size + 1 + 1 + 1 := by omega
  have hne3 : w.heap.size + 1 + 1 ≠ w.heap.size := by omega
  have hne4 : w.heap.size + 1 + 1 + 1 ≠ w.heap.size := by omega
  go_enter Tryz.func97, Tryz.ntmps97
  go_wp2_with (first
    | (go_at_call 116; refine (HCr.out _ HB2.out).mono ?_; clear HCr; rintro e w3 ⟨v1, v2, rfl, hN1, hN2, hB3⟩; obtain ⟨a1, c1, rfl, hr1⟩ := hN1; obtain ⟨a2, c2, rfl, hr2⟩ := hN2; have HR1 := Lib.hid hr1; have HR2 := Lib.hid hr2; replace HK0 := Lib.hid (HK0.out.below hB3 HK0.out.lt); replace HK1 := Lib.hid (HK1.out.below hB3 HK1.out.lt); replace HK2 := Lib.hid (HK2.out.below hB3 HK2.out.lt); replace HB2 := Lib.hid (HB2.out.trans (hB3.mono HB2.out.size)); clear hr1 hr2 hB3))
  obtain ⟨nx, hnx⟩ : ∃ nx, numQ x * y.den = nx := ⟨_, rfl⟩
  obtain ⟨ny, hny⟩ : ∃ ny, numQ y * x.den = ny := ⟨_, rfl⟩
  rw [hnx] at HR1 ⊢
  rw [hny] at HR2 ⊢
  have HNXe := Lib.hid hnx
  have HNYe := Lib.hid hny
  obtain ⟨sx, hsx⟩ : ∃ sx, szN nx = sx := ⟨_, rfl⟩
  obtain ⟨sy, hsy⟩ : ∃ sy, szN ny = sy := ⟨_, rfl⟩
  obtain ⟨W4, hW4⟩ : ∃ W4, (w3.alloc (.cells #[.slice a1 (szN nx) c1] 57)).alloc (.cells #[.slice a2 (szN ny) c2] 57) = W4 := ⟨_, rfl⟩
  obtain ⟨b3, b4, hB4⟩ := box2_new w3 (.slice a1 (szN nx) c1) (.slice a2 (szN ny) c2)
  rw [hW4] at b3 b4 hB4 ⊢
  have HVX := Lib.hid (natAt_mk (c := c1) (HR1.out.below hB4))
  have HVY := Lib.hid (natAt_mk (c := c2) (HR2.out.below hB4))
  rw [hsx] at b3 HVX ⊢
  rw [hsy] at b4 HVY ⊢
  have HSX := Lib.hid hsx
  have HSY := Lib.hid hsy
  replace HK0 := Lib.hid (HK0.out.below hB4 HK0.out.lt)
  replace HK1 := Lib.hid (HK1.out.below hB4 HK1.out.lt)
  have hl3 := HK2.out.lt
  have HZ4 := Lib.hid (show w3.heap.size + 1 + 1 ≤ W4.heap.size from b4.lt)
  replace HK2 := Lib.hid (HK2.out.below hB4 HK2.out.lt)
  replace HB2 := Lib.hid (HB2.out.trans (hB4.mono HB2.out.size))
  have HK3 := Lib.hid b3
  have HK4 := Lib.hid b4
  have hdWa : W4.heap.size ≠ w.heap.size := by have := HK1.out.lt; omega
  have hdWb : W4.heap.size ≠ w.heap.size + 1 := by have := HK1.out.lt; omega
  obtain ⟨q0, q1, q2, q3, q4, q5⟩ := RatCells.of HK0.out HK1.out
  have HDxF := Lib.hid (fun (W : World) (hW : Below W4.heap.size W4 W) => HDx.out W (HB2.out.trans (hW.mono HB2.out.size)))
  clear hW4 b3 b4 hB4 hnx hny hsx hsy hW2
  obtain ⟨s6, hs6⟩ : ∃ s6, szN (x.den * y.den) = s6 := ⟨_, rfl⟩
  have HS6 := Lib.hid hs6
  clear hs6
  refine Code.wp_mono (Q := fun e aa W => ∃ g u19 u21 a6 c6, e = .normal ∧ aa = { tmps := #[.agg #[.bool x0, .slice a n1 c, .slice b n2 d], .agg #[.bool y0, .slice a' m1 c', .slice b' m2 d'], .pointer (some ⟨ w.heap.size, 0, none⟩), .pointer (some ⟨ w.heap.size + 1, 0, none⟩), .pointer (some ⟨ w.heap.size + 1 + 1, 0, none⟩), .pointer (some ⟨ w3.heap.size, 0, none⟩), .pointer (some ⟨ w3.heap.size + 1, 0, none⟩), .pointer (some ⟨ g, 0, none⟩), undef, undef, undef, undef, .tuple #[.agg #[.slice a1 sx c1], .agg #[.slice a2 sy c2]], .agg #[.bool x0, .slice a n1 c, .slice b n2 d], .agg #[.bool y0, .slice a' m1 c', .slice b' m2 d'], .tuple #[.agg #[.slice a1 sx c1], .agg #[.slice a2 sy c2]], .agg #[.slice a1 sx c1], .agg #[.slice a2 sy c2], .agg #[.bool x0, .slice a n1 c, .slice b n2 d], u19, .agg #[.bool y0, .slice a' m1 c', .slice b' m2 d'], u21, (.agg #[.slice a6 s6 c6]), undef, undef, undef, undef, undef, undef, undef, undef, undef, undef, undef, undef, undef, undef, undef, undef, undef, undef, undef, undef, undef, undef, undef, undef, undef, undef, undef, undef, undef, undef, undef, undef, undef, undef, undef], defers := [] } ∧ BlkAt W g 57 #[.slice a6 s6 c6] ∧ NatAt W (.agg #[.slice a6 s6 c6]) (x.den * y.den) ∧ Below W4.heap.size W4 W ∧ W4.heap.size ≤ g) ?_ ?_
  · rintro e aa Wf ⟨g, u19, u21, a6, c6, rfl, rfl, kd, hvd, hbf, hgw⟩
    clear HDx HDy HDxF
    replace HK0 := Lib.hid (HK0.out.below hbf HK0.out.lt)
    replace HK1 := Lib.hid (HK1.out.below hbf HK1.out.lt)
    replace HK2 := Lib.hid (HK2.out.below hbf HK2.out.lt)
    replace HK3 := Lib.hid (HK3.out.below hbf HK3.out.lt)
    replace HK4 := Lib.hid (HK4.out.below hbf HK4.out.lt)
    replace HVX := Lib.hid (HVX.out.below hbf)
    replace HVY := Lib.hid (HVY.out.below hbf)
    have HWf := Lib.hid (HB2.out.trans (hbf.mono HB2.out.size))
    have HKD := Lib.hid kd
    have HVD := Lib.hid hvd
    obtain ⟨q0, q1, q2, q3, q4, q5⟩ := RatCells.of HK0.out HK1.out
    have c3 := HK3.out.cell 0
    have c4' := HK4.out.cell 0
    have cd := kd.cell 0
    clear kd hvd hbf HB2 q0 q1 q2 q3 q4 q5 c3 c4' cd
    have q0 := HK0.out.cell 0
    have q3 := HK1.out.cell 0
    have c3 := HK3.out.cell 0
    have c4' := HK4.out.cell 0
    have cd := HKD.out.cell 0
    have hsxb : sx ≤ 800000 := by rw [← HSX.out, ← HNXe.out]; exact Nat.le_trans (szN_mul _ _) (by have := HS1.out; have := HS4.out; omega)
    have hsyb : sy ≤ 800000 := by rw [← HSY.out, ← HNYe.out]; exact Nat.le_trans (szN_mul _ _) (by have := HS3.out; have := HS2.out; omega)
    have hs6b : s6 ≤ 1000000 := by rw [← HS6.out]; exact Nat.le_trans (szN_mul _ _) (by have := HS2.out; have := HS4.out; omega)
    have hp1 : w3.heap.size ≠ w.heap.size + 1 + 1 := by omega
    have hp2 : w3.heap.size + 1 ≠ w.heap.size + 1 + 1 := by omega
    have hgW : w3.heap.size + 1 + 1 ≤ g := Nat.le_trans HZ4.out hgw
    have hp3 : g ≠ w.heap.size + 1 + 1 := by omega
    have hp4 : w.heap.size + 1 + 1 ≠ w3.heap.size := by omega
    have hp5 : w.heap.size + 1 + 1 ≠ w3.heap.size + 1 := by omega
    have hp6 : w.heap.size + 1 + 1 ≠ g := by omega
    have hp7 : w3.heap.size ≠ w.heap.size + 1 := by omega
    have hp8 : w.heap.size + 1 ≠ w3.heap.size := by omega
    by_cases hs : x0 = y0
    · subst hs
      have HMQ := Lib.hid (show lowQ x0 (nx + ny) (x.den * y.den) = x + y by rw [← HX0.out, ← HNXe.out, ← HNYe.out]; exact addQ_same (by rw [HX0.out, HY0.out]))
      have HAd := Lib.hid (fun (W : World) (hW : Below Wf.heap.size Wf W) => natAdd_any (HVX.out.below hW) (HVY.out.below hW) (by rw [HSX.out]; omega) (by rw [HSY.out]; omega))
      go_wp2
      go_region_held3 (fun W => W.cell? ⟨w.heap.size, 0, none⟩ = some (.bool x0) ∧ W.cell? ⟨w3.heap.size, 0, none⟩ = some (.slice a1 sx c1) ∧ W.cell? ⟨w3.heap.size + 1, 0, none⟩ = some (.slice a2 sy c2) ∧ W.cell? ⟨g, 0, none⟩ = some (.slice a6 s6 c6)) (go_keep)
        (first
          | (go_at_call 117; refine (HAd.out _ (by first | exact Below.refl _ _ | exact (Below.refl _ _).drew | exact (Below.refl _ _).alloc (Nat.le_refl _) _ | exact ((Below.refl _ _).drew).alloc (Nat.le_refl _) _ | exact ((Below.refl _ _).alloc (Nat.le_refl _) _).drew)).mono ?_; clear HAd; rintro e w7 ⟨v7, rfl, hN, hB⟩; obtain ⟨a7, c7, rfl, hr⟩ := hN; have HV7 := Lib.hid (natAt_mk (c := c7) hr); replace hB := chainB (a := Wf) (by first | exact Below.refl _ _ | exact (Below.refl _ _).drew | exact (Below.refl _ _).alloc (Nat.le_refl _) _ | exact ((Below.refl _ _).drew).alloc (Nat.le_refl _) _ | exact ((Below.refl _ _).alloc (Nat.le_refl _) _).drew) hB; have HB7 := Lib.hid hB; have q0 := (HK0.out.below HB7.out HK0.out.lt).cell 0; have q3 := (HK1.out.below HB7.out HK1.out.lt).cell 0; have c3 := (HK3.out.below HB7.out HK3.out.lt).cell 0; have c4' := (HK4.out.below HB7.out HK4.out.lt).cell 0; have cd := (HKD.out.below HB7.out HKD.out.lt).cell 0; have HL7 := Lib.hid (fun (W : World) (hW : Below w7.heap.size w7 W) => lowest_any x0 (HV7.out.below hW) ((HVD.out.below hB).below hW) (Nat.le_trans (szN_add _ _) (by rw [HSX.out, HSY.out]; omega)) (by rw [HS6.out]; exact hs6b) (Nat.mul_ne_zero x.den_nz y.den_nz)); rw [HMQ.out] at HL7; clear hB hr)
          | (go_at_call 96; refine (HL7.out _ (by first | exact Below.refl _ _ | exact (Below.refl _ _).drew | exact (Below.refl _ _).alloc (Nat.le_refl _) _ | exact ((Below.refl _ _).drew).alloc (Nat.le_refl _) _ | exact ((Below.refl _ _).alloc (Nat.le_refl _) _).drew)).mono ?_; clear HL7; rintro e w8 ⟨v8, rfl, hN, hB⟩; obtain ⟨a8, c8, b8, d8, rfl, hr, hs2⟩ := hN; have HV8 := Lib.hid (ratAt_mk (c := c8) (d := d8) hr hs2); replace hB := chainB (a := w7) (by first | exact Below.refl _ _ | exact (Below.refl _ _).drew | exact (Below.refl _ _).alloc (Nat.le_refl _) _ | exact ((Below.refl _ _).drew).alloc (Nat.le_refl _) _ | exact ((Below.refl _ _).alloc (Nat.le_refl _) _).drew) hB; have HB8 := Lib.hid (HB7.out.trans (hB.mono HB7.out.size)); have q0 := (HK0.out.below HB8.out HK0.out.lt).cell 0; have q3 := (HK1.out.below HB8.out HK1.out.lt).cell 0; have c3 := (HK3.out.below HB8.out HK3.out.lt).cell 0; have c4' := (HK4.out.below HB8.out HK4.out.lt).cell 0; have cd := (HKD.out.below HB8.out HKD.out.lt).cell 0; have r2 := HK2.out.below HB8.out HK2.out.lt; have s0 := r2.cell 0; have s1 := r2.cell 1; have s2 := r2.cell 2; have t0 := r2.frozen 0; have t1 := r2.frozen 1; have t2 := r2.frozen 2; have HR2 := Lib.hid r2; clear r2 hB hr hs2))
      go_wp2
      obtain ⟨r1, r2, r3⟩ := res_rat HR2.out rfl (by omega) (HWf.out.trans (HB8.out.mono HWf.out.size)) HV8.out
      exact bodyPost_ret (r_c rfl rfl (aggRat.load rfl r1)) rfl ⟨_, rfl, r2, r3⟩
    · have hs' : (x0 == y0) = false := beq_eq_false_iff_ne.2 hs
      by_cases hle : ny ≤ nx
      · have HSu := Lib.hid (fun (W : World) (hW : Below Wf.heap.size Wf W) => sub_ge (HVX.out.below hW) (HVY.out.below hW) (by rw [HSX.out]; omega) hle)
        have HMQ := Lib.hid (show lowQ x0 (nx - ny) (x.den * y.den) = x + y by rw [← HX0.out, ← HNXe.out, ← HNYe.out]; exact addQ_ge (by rw [HX0.out, HY0.out]; exact hs) (by rw [HNXe.out, HNYe.out]; exact hle))
        go_wp2_with (first
          | (go_at_call 118; refine (HSu.out _ (Below.refl _ _)).mono ?_; clear HSu; rintro e w7 ⟨v7, rfl, hN, hB⟩; obtain ⟨a7, c7, rfl, hr⟩ := hN; have HB7 := Lib.hid hB; have q0 := ((HK0.out.below HB7.out HK0.out.lt).alloc (.cells #[.slice a7 (szN (nx - ny)) c7] 57)).cell 0; have q3 := ((HK1.out.below HB7.out HK1.out.lt).alloc (.cells #[.slice a7 (szN (nx - ny)) c7] 57)).cell 0; have cd := ((HKD.out.below HB7.out HKD.out.lt).alloc (.cells #[.slice a7 (szN (nx - ny)) c7] 57)).cell 0; have e7 := (BlkAt.new w7 57 #[.slice a7 (szN (nx - ny)) c7]).cell 0; have HV7 := Lib.hid (natAt_mk (c := c7) hr); have HL7 := Lib.hid (fun (W : World) (hW : Below w7.heap.size w7 W) => lowest_any x0 (HV7.out.below hW) ((HVD.out.below hB).below hW) (Nat.le_trans (szN_mono (Nat.sub_le nx ny)) (by rw [HSX.out]; omega)) (by rw [HS6.out]; exact hs6b) (Nat.mul_ne_zero x.den_nz y.den_nz)); rw [HMQ.out] at HL7; clear hB hr)
          | (go_at_call 96; refine (HL7.out _ (by first | exact Below.refl _ _ | exact (Below.refl _ _).drew | exact (Below.refl _ _).alloc (Nat.le_refl _) _ | exact ((Below.refl _ _).drew).alloc (Nat.le_refl _) _ | exact ((Below.refl _ _).alloc (Nat.le_refl _) _).drew)).mono ?_; clear HL7; rintro e w8 ⟨v8, rfl, hN, hB⟩; obtain ⟨a8, c8, b8, d8, rfl, hr, hs2⟩ := hN; have HV8 := Lib.hid (ratAt_mk (c := c8) (d := d8) hr hs2); replace hB := chainB (a := w7) (by first | exact Below.refl _ _ | exact (Below.refl _ _).drew | exact (Below.refl _ _).alloc (Nat.le_refl _) _ | exact ((Below.refl _ _).drew).alloc (Nat.le_refl _) _ | exact ((Below.refl _ _).alloc (Nat.le_refl _) _).drew) hB; have HB8 := Lib.hid (HB7.out.trans (hB.mono HB7.out.size)); have q0 := (HK0.out.below HB8.out HK0.out.lt).cell 0; have q3 := (HK1.out.below HB8.out HK1.out.lt).cell 0; have c3 := (HK3.out.below HB8.out HK3.out.lt).cell 0; have c4' := (HK4.out.below HB8.out HK4.out.lt).cell 0; have cd := (HKD.out.below HB8.out HKD.out.lt).cell 0; have r2 := HK2.out.below HB8.out HK2.out.lt; have s0 := r2.cell 0; have s1 := r2.cell 1; have s2 := r2.cell 2; have t0 := r2.frozen 0; have t1 := r2.frozen 1; have t2 := r2.frozen 2; have HR2 := Lib.hid r2; clear r2 hB hr hs2))
        obtain ⟨r1, r2, r3⟩ := res_rat HR2.out rfl (by omega) (HWf.out.trans (HB8.out.mono HWf.out.size)) HV8.out
        exact bodyPost_ret (r_c rfl rfl (aggRat.load rfl r1)) rfl ⟨_, rfl, r2, r3⟩
      · have hlt : nx < ny := by omega
        have HSu := Lib.hid (fun (W : World) (hW : Below Wf.heap.size Wf W) => sub_lt (HVX.out.below hW) (HVY.out.below hW) (by rw [HSX.out]; omega) (by rw [HSY.out]; omega) hlt)
        have HSv := Lib.hid (fun (W : World) (hW : Below Wf.heap.size Wf W) => sub_ge (HVY.out.below hW) (HVX.out.below hW) (by rw [HSY.out]; omega) (Nat.le_of_lt hlt))
        have HMQ := Lib.hid (show lowQ y0 (ny - nx) (x.den * y.den) = x + y by rw [← HY0.out, ← HNXe.out, ← HNYe.out]; exact addQ_lt (by rw [HX0.out, HY0.out]; exact hs) (by rw [HNXe.out, HNYe.out]; exact Nat.le_of_lt hlt))
        go_wp2_with (first
          | (go_at_call 118; refine (HSu.out _ (Below.refl _ _)).mono ?_; clear HSu; rintro e w7 ⟨v7, rfl, hN, hB⟩; obtain ⟨a7, c7, rfl, hr⟩ := hN; have HB7 := Lib.hid hB; have q0 := ((HK0.out.below HB7.out HK0.out.lt).alloc (.cells #[.slice a7 (szN 0) c7] 57)).cell 0; have q3 := ((HK1.out.below HB7.out HK1.out.lt).alloc (.cells #[.slice a7 (szN 0) c7] 57)).cell 0; have cd := ((HKD.out.below HB7.out HKD.out.lt).alloc (.cells #[.slice a7 (szN 0) c7] 57)).cell 0; have c3 := ((HK3.out.below HB7.out HK3.out.lt).alloc (.cells #[.slice a7 (szN 0) c7] 57)).cell 0; have c4' := ((HK4.out.below HB7.out HK4.out.lt).alloc (.cells #[.slice a7 (szN 0) c7] 57)).cell 0; have HSv7 := Lib.hid (fun (W : World) (hW : Below w7.heap.size w7 W) => HSv.out W (HB7.out.trans (hW.mono HB7.out.size))); clear hB hr HSv)
          | (go_at_call 118; refine (HSv7.out _ (by first | exact Below.refl _ _ | exact (Below.refl _ _).drew | exact (Below.refl _ _).alloc (Nat.le_refl _) _ | exact ((Below.refl _ _).drew).alloc (Nat.le_refl _) _ | exact ((Below.refl _ _).alloc (Nat.le_refl _) _).drew)).mono ?_; clear HSv7; rintro e w8 ⟨v8, rfl, hN, hB⟩; obtain ⟨a8, c8, rfl, hr⟩ := hN; replace hB := chainB (a := w7) (by first | exact Below.refl _ _ | exact (Below.refl _ _).drew | exact (Below.refl _ _).alloc (Nat.le_refl _) _ | exact ((Below.refl _ _).drew).alloc (Nat.le_refl _) _ | exact ((Below.refl _ _).alloc (Nat.le_refl _) _).drew) hB; have HB8 := Lib.hid (HB7.out.trans (hB.mono HB7.out.size)); have HV8 := Lib.hid (natAt_mk (c := c8) hr); have q0 := ((HK0.out.below HB8.out HK0.out.lt).alloc (.cells #[.slice a8 (szN (ny - nx)) c8] 57)).cell 0; have q3 := ((HK1.out.below HB8.out HK1.out.lt).alloc (.cells #[.slice a8 (szN (ny - nx)) c8] 57)).cell 0; have cd := ((HKD.out.below HB8.out HKD.out.lt).alloc (.cells #[.slice a8 (szN (ny - nx)) c8] 57)).cell 0; have e8 := (BlkAt.new w8 57 #[.slice a8 (szN (ny - nx)) c8]).cell 0; have HL8 := Lib.hid (fun (W : World) (hW : Below w8.heap.size w8 W) => lowest_any y0 (HV8.out.below hW) ((HVD.out.below HB8.out).below hW) (Nat.le_trans (szN_mono (Nat.sub_le ny nx)) (by rw [HSY.out]; omega)) (by rw [HS6.out]; exact hs6b) (Nat.mul_ne_zero x.den_nz y.den_nz)); rw [HMQ.out] at HL8; clear hB hr)
          | (go_at_call 96; refine (HL8.out _ (by first | exact Below.refl _ _ | exact (Below.refl _ _).drew | exact (Below.refl _ _).alloc (Nat.le_refl _) _ | exact ((Below.refl _ _).drew).alloc (Nat.le_refl _) _ | exact ((Below.refl _ _).alloc (Nat.le_refl _) _).drew)).mono ?_; clear HL8; rintro e w9 ⟨v9, rfl, hN, hB⟩; obtain ⟨a9, c9, b9, d9, rfl, hr, hs2⟩ := hN; have HV9 := Lib.hid (ratAt_mk (c := c9) (d := d9) hr hs2); replace hB := chainB (a := w8) (by first | exact Below.refl _ _ | exact (Below.refl _ _).drew | exact (Below.refl _ _).alloc (Nat.le_refl _) _ | exact ((Below.refl _ _).drew).alloc (Nat.le_refl _) _ | exact ((Below.refl _ _).alloc (Nat.le_refl _) _).drew) hB; have HB9 := Lib.hid (HB8.out.trans (hB.mono HB8.out.size)); have q0 := (HK0.out.below HB9.out HK0.out.lt).cell 0; have q3 := (HK1.out.below HB9.out HK1.out.lt).cell 0; have c3 := (HK3.out.below HB9.out HK3.out.lt).cell 0; have c4' := (HK4.out.below HB9.out HK4.out.lt).cell 0; have cd := (HKD.out.below HB9.out HKD.out.lt).cell 0; have r2 := HK2.out.below HB9.out HK2.out.lt; have s0 := r2.cell 0; have s1 := r2.cell 1; have s2 := r2.cell 2; have t0 := r2.frozen 0; have t1 := r2.frozen 1; have t2 := r2.frozen 2; have HR2 := Lib.hid r2; clear r2 hB hr hs2))
        obtain ⟨r1, r2, r3⟩ := res_rat HR2.out rfl (by omega) (HWf.out.trans (HB9.out.mono HWf.out.size)) HV9.out
        exact bodyPost_ret (r_c rfl rfl (aggRat.load rfl r1)) rfl ⟨_, rfl, r2, r3⟩
  · go_region_held3 (fun W => W.cell? ⟨w.heap.size, 0, none⟩ = some (.bool x0) ∧ W.cell? ⟨w.heap.size, 1, none⟩ = some (.slice a n1 c) ∧ W.cell? ⟨w.heap.size, 2, none⟩ = some (.slice b n2 d) ∧ W.cell? ⟨w.heap.size + 1, 0, none⟩ = some (.bool y0) ∧ W.cell? ⟨w.heap.size + 1, 1, none⟩ = some (.slice a' m1 c') ∧ W.cell? ⟨w.heap.size + 1, 2, none⟩ = some (.slice b' m2 d')) (go_keep)
      (first
        | (go_at_call 100; refine (HDxF.out _ (by first | exact Below.refl _ _ | exact (Below.refl _ _).drew | exact (Below.refl _ _).alloc (Nat.le_refl _) _ | exact ((Below.refl _ _).drew).alloc (Nat.le_refl _) _ | exact ((Below.refl _ _).alloc (Nat.le_refl _) _).drew)).mono ?_; clear HDxF; rintro e w4 ⟨v4, rfl, hN, hB⟩; obtain ⟨a4, c4, rfl, hr⟩ := hN; have HV4 := Lib.hid (natAt_mk (c := c4) hr); (try have kb := newBox_of (w := W4) (v := .slice none 0 0) (t := 57) hB rfl); replace hB := chainB (a := W4) (by first | exact Below.refl _ _ | exact (Below.refl _ _).drew | exact (Below.refl _ _).alloc (Nat.le_refl _) _ | exact ((Below.refl _ _).drew).alloc (Nat.le_refl _) _ | exact ((Below.refl _ _).alloc (Nat.le_refl _) _).drew) hB; (try have kb := HKb.out.below hB HKb.out.lt); (try have eb := kb.cell 0); (try have fb := kb.frozen 0); (try have HKb := Lib.hid kb); (try clear kb); have HB4 := Lib.hid (show Below W4.heap.size W4 w4 from hB); obtain ⟨q0, q1, q2, q3, q4, q5⟩ := RatCells.of (HK0.out.below HB4.out HK0.out.lt) (HK1.out.below HB4.out HK1.out.lt); have zz := Nat.lt_of_lt_of_le HK1.out.lt HB4.out.size; have hd4a : w4.heap.size ≠ w.heap.size := (by omega); have hd4b : w4.heap.size ≠ w.heap.size + 1 := (by omega); clear zz; have HDy4 := Lib.hid (fun (W : World) (hW : Below w4.heap.size w4 W) => HDy.out W (HB2.out.trans ((HB4.out.trans (hW.mono HB4.out.size)).mono HB2.out.size))); clear hB hr)
        | (go_at_call 100; refine (HDy4.out _ (by first | exact Below.refl _ _ | exact (Below.refl _ _).drew | exact (Below.refl _ _).alloc (Nat.le_refl _) _ | exact ((Below.refl _ _).drew).alloc (Nat.le_refl _) _ | exact ((Below.refl _ _).alloc (Nat.le_refl _) _).drew)).mono ?_; clear HDy4; rintro e w5 ⟨v5, rfl, hN, hB⟩; obtain ⟨a5, c5, rfl, hr⟩ := hN; have HV5 := Lib.hid (natAt_mk (c := c5) hr); (try have kb := newBox_of (w := w4) (v := .slice none 0 0) (t := 57) hB rfl); replace hB := chainB (a := w4) (by first | exact Below.refl _ _ | exact (Below.refl _ _).drew | exact (Below.refl _ _).alloc (Nat.le_refl _) _ | exact ((Below.refl _ _).drew).alloc (Nat.le_refl _) _ | exact ((Below.refl _ _).alloc (Nat.le_refl _) _).drew) hB; (try have kb := HKb.out.below hB HKb.out.lt); (try have eb := kb.cell 0); (try have fb := kb.frozen 0); (try have HKb := Lib.hid kb); (try clear kb); have HB5 := Lib.hid (show Below W4.heap.size W4 w5 from (HB4.out.trans (hB.mono HB4.out.size))); obtain ⟨q0, q1, q2, q3, q4, q5⟩ := RatCells.of (HK0.out.below HB5.out HK0.out.lt) (HK1.out.below HB5.out HK1.out.lt); have zz := Nat.lt_of_lt_of_le HK1.out.lt HB5.out.size; have hd5a : w5.heap.size ≠ w.heap.size := (by omega); have hd5b : w5.heap.size ≠ w.heap.size + 1 := (by omega); clear zz; replace HV4 := Lib.hid (HV4.out.below hB); have HM5 := Lib.hid (fun (W : World) (hW : Below w5.heap.size w5 W) => mul_any (HV4.out.below hW) (HV5.out.below hW) (Nat.le_trans HS2.out (by decide)) (Nat.le_trans HS4.out (by decide))); clear hB hr)
        | (go_at_call 99; refine (HM5.out _ (by first | exact Below.refl _ _ | exact (Below.refl _ _).drew | exact (Below.refl _ _).alloc (Nat.le_refl _) _ | exact ((Below.refl _ _).drew).alloc (Nat.le_refl _) _ | exact ((Below.refl _ _).alloc (Nat.le_refl _) _).drew)).mono ?_; clear HM5; rintro e w6 ⟨v6, rfl, hN, hB⟩; obtain ⟨a6, c6, rfl, hr⟩ := hN; have HV6 := Lib.hid (natAt_mk (c := c6) hr); (try have kb := newBox_of (w := w5) (v := .slice none 0 0) (t := 57) hB rfl); replace hB := chainB (a := w5) (by first | exact Below.refl _ _ | exact (Below.refl _ _).drew | exact (Below.refl _ _).alloc (Nat.le_refl _) _ | exact ((Below.refl _ _).drew).alloc (Nat.le_refl _) _ | exact ((Below.refl _ _).alloc (Nat.le_refl _) _).drew) hB; (try have kb := HKb.out.below hB HKb.out.lt); (try have eb := kb.cell 0); (try have fb := kb.frozen 0); (try have HKb := Lib.hid kb); (try clear kb); have HB6 := Lib.hid (show Below W4.heap.size W4 w6 from (HB5.out.trans (hB.mono HB5.out.size))); obtain ⟨q0, q1, q2, q3, q4, q5⟩ := RatCells.of (HK0.out.below HB6.out HK0.out.lt) (HK1.out.below HB6.out HK1.out.lt); have zz := Nat.lt_of_lt_of_le HK1.out.lt HB6.out.size; have hd6a : w6.heap.size ≠ w.heap.size := (by omega); have hd6b : w6.heap.size ≠ w.heap.size + 1 := (by omega); clear zz; clear hB hr))
    · exact ⟨w6.heap.size, _, _, a6, c6, rfl, by rw [← HS6.out], by rw [← HS6.out]; exact BlkAt.new w6 57 #[.slice a6 (szN (x.den * y.den)) c6], by rw [← HS6.out]; exact HV6.out.below ((Below.refl _ w6).alloc (Nat.le_refl _) _), HB6.out.alloc HB6.out.size _, HB6.out.size⟩
    · obtain ⟨kd, hvd, hbf⟩ := setBox HKb.out HV6.out HB6.out HB5.out.size
      rw [HS6.out] at kd hvd hbf ⊢
      exact ⟨w5.heap.size, _, _, a6, c6, rfl, rfl, kd, hvd, hbf, HB5.out.size⟩
    · obtain ⟨kd, hvd, hbf⟩ := setBox HKb.out HV6.out HB6.out HB4.out.size
      rw [HS6.out] at kd hvd hbf ⊢
      exact ⟨w4.heap.size, _, _, a6, c6, rfl, rfl, kd, hvd, hbf, HB4.out.size⟩
    · obtain ⟨kd, hvd, hbf⟩ := setBox HKb.out HV6.out HB6.out (Nat.le_refl _)
      rw [HS6.out] at kd hvd hbf ⊢
      exact ⟨W4.heap.size, _, _, a6, c6, rfl, rfl, kd, hvd, hbf, (Nat.le_refl _)⟩
end Go.Proofs.YtjcpfmndkeiegaaGreatDoor
