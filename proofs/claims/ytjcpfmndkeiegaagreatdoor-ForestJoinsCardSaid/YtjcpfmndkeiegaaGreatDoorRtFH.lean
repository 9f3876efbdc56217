/- The walks of rat's Cmp, Whole. The walk of rat's Text. The walks of strings.Cut at one byte, of rat's Parse. -/
import Derived.Test.YtjcpfmndkeiegaaGreatDoorRtCD
namespace Go.Proofs.YtjcpfmndkeiegaaGreatDoor
open Go.RowKit
set_option linter.unusedVariables false

theorem cmpQ_is {x y : Rat} {p q : Nat} (h1 : x < y ↔ p < q) (h2 : y < x ↔ q < p) : cmpQ x y = cmpN p q := by
  unfold cmpQ cmpN
  by_cases h : p < q
  · rw [if_pos (h1.2 h), if_pos h]
  · rw [if_neg (fun h' => h (h1.1 h')), if_neg h]
    by_cases h3 : q < p
    · rw [if_pos (h2.2 h3), if_pos h3]
    · rw [if_neg (fun h' => h3 (h2.1 h')), if_neg h3]
theorem cmpQ_cases (x y : Rat) : cmpQ x y = if negQ x = true ∧ negQ y = true then cmpN (numQ y * x.den) (numQ x * y.den) else if negQ x = true then -1 else if negQ y = true then 1 else cmpN (numQ x * y.den) (numQ y * x.den) := by
  cases hx : negQ x <;> cases hy : negQ y
  · simp only [Bool.false_eq_true, false_and, if_false]
    exact cmpQ_is (cmpQ_pp hx hy) (cmpQ_pp hy hx)
  · simp only [Bool.false_eq_true, false_and, if_false, if_true]
    have h := cmpQ_np hy hx
    unfold cmpQ
    rw [if_neg (Rat.not_lt.2 (Rat.le_of_lt h)), if_pos h]
  · simp only [Bool.false_eq_true, and_false, if_false, if_true]
    have h := cmpQ_np hx hy
    unfold cmpQ
    rw [if_pos h]
  · simp only [and_self, if_true]
    exact cmpQ_is (cmpQ_nn hx hy) (cmpQ_nn hy hx)
set_option maxRecDepth 20000 in
set_option maxHeartbeats 8000000 in
theorem ratCmp_any {va vb : Value} {x y : Rat} {w : World} (hx : RatAt w va x) (hy : RatAt w vb y) (h1 : szN (numQ x) ≤ 400000) (h2 : szN x.den ≤ 400000) (h3 : szN (numQ y) ≤ 400000) (h4 : szN y.den ≤ 400000) :
    Calls Tryz.prog 104 #[va, vb] w fun e w' => e = .returned (.int .i64 (cmpQ x y)) ∧ Below w.heap.size w w' := by
  have HCr := Lib.hid (fun (W : World) (hW : Below w.heap.size w W) => cross_any (hx.below hW) (hy.below hW) (by omega) (by omega) (by omega) (by omega))
  rw [cmpQ_cases]
  have HDx := Lib.hid (fun (W : World) (hW : Below w.heap.size w W) => den_any (hx.below hW))
  have HDy := Lib.hid (fun (W : World) (hW : Below w.heap.size w W) => den_any (hy.below hW))
  obtain ⟨a, c, b, d, rfl, ha, hb⟩ := hx
  obtain ⟨a', c', b', d', rfl, ha', hb'⟩ := hy
  have HNx := Lib.hid (fun (W : World) (hW : Below w.heap.size w W) => num_at (c := c) (ha.below hW))
  have HNy := Lib.hid (fun (W : World) (hW : Below w.heap.size w W) => num_at (c := c') (ha'.below hW))
  obtain ⟨x0, hx0⟩ : ∃ x0, negQ x = x0 := ⟨_, rfl⟩
  obtain ⟨n1, hn1⟩ : ∃ n, szN (numQ x) = n := ⟨_, rfl⟩
  obtain ⟨n2, hn2⟩ : ∃ n, szN (denQ x) = n := ⟨_, rfl⟩
  obtain ⟨y0, hy0⟩ : ∃ x0, negQ y = x0 := ⟨_, rfl⟩
  obtain ⟨m1, hm1⟩ : ∃ n, szN (numQ y) = n := ⟨_, rfl⟩
  obtain ⟨m2, hm2⟩ : ∃ n, szN (denQ y) = n := ⟨_, rfl⟩
  have HS1 := Lib.hid h1
  have HS2 := Lib.hid h2
  have HS3 := Lib.hid h3
  have HS4 := Lib.hid h4
  have HX0 := Lib.hid hx0
  have HY0 := Lib.hid hy0
  rw [hx0, hn1, hn2] at HDx HCr ⊢
  rw [hy0, hm1, hm2] at HDy HCr ⊢
  rw [hn1] at HNx
  rw [hm1] at HNy
  obtain ⟨W2, hW2⟩ : ∃ W2, (w.alloc (.cells #[.bool x0, .slice a n1 c, .slice b n2 d] 59)).alloc (.cells #[.bool y0, .slice a' m1 c', .slice b' m2 d'] 59) = W2 := ⟨_, rfl⟩
  obtain ⟨b0, b1, hB2⟩ := rats_new w #[.bool x0, .slice a n1 c, .slice b n2 d] #[.bool y0, .slice a' m1 c', .slice b' m2 d']
  rw [hW2] at b0 b1  hB2
  have HK0 := Lib.hid b0
  have HK1 := Lib.hid b1
  have HB2 := Lib.hid hB2
  obtain ⟨q0, q1, q2, q3, q4, q5⟩ := RatCells.of b0 b1
  clear ha hb ha' hb' b0 b1  hB2 hx0 hn1 hn2 hy0 hm1 hm2 h1 h2 h3 h4
  have hne1 : w.heap.size ≠ w.heap.size + 1 + 1 := by omega
  have hne2 : w.heap.size ≠ w.heap.size + 1 + 1 + 1 := by omega
  have hne3 : w.heap.size + 1 + 1 ≠ w.heap.size := by omega
  have hne4 : w.heap.size + 1 + 1 + 1 ≠ w.heap.size := by omega
  have hnx1 : szN (numQ x * y.den) ≤ 800000 := Nat.le_trans (szN_mul _ _) (by have := HS1.out; have := HS4.out; omega)
  have hny1 : szN (numQ y * x.den) ≤ 800000 := Nat.le_trans (szN_mul _ _) (by have := HS3.out; have := HS2.out; omega)
  obtain ⟨nx, hnx⟩ : ∃ nx, numQ x * y.den = nx := ⟨_, rfl⟩
  obtain ⟨ny, hny⟩ : ∃ ny, numQ y * x.den = ny := ⟨_, rfl⟩
  rw [hnx] at HCr hnx1 ⊢
  rw [hny] at HCr hny1 ⊢
  have HSX := Lib.hid hnx1
  have HSY := Lib.hid hny1
  clear hnx hny hnx1 hny1 HNx HNy HDx HDy
  cases x0 <;> cases y0
  · go_enter Tryz.func104, Tryz.ntmps104
    go_wp2_with (first
      | (go_at_call 116; refine (HCr.out _ HB2.out).mono ?_; clear HCr; rintro e w3 ⟨v1, v2, rfl, hN1, hN2, hB3⟩; obtain ⟨a1, c1, rfl, hr1⟩ := hN1; obtain ⟨a2, c2, rfl, hr2⟩ := hN2; have HR1 := Lib.hid hr1; have HR2 := Lib.hid hr2; replace HK0 := Lib.hid (HK0.out.below hB3 HK0.out.lt); replace HK1 := Lib.hid (HK1.out.below hB3 HK1.out.lt); replace HB2 := Lib.hid (HB2.out.trans (hB3.mono HB2.out.size)); obtain ⟨b3, b4, hB4⟩ := box2_new w3 (.slice a1 (szN nx) c1) (.slice a2 (szN ny) c2); have i0 := ((HK0.out.alloc (.cells #[.slice a1 (szN nx) c1] 57)).alloc (.cells #[.slice a2 (szN ny) c2] 57)).cell 0; have i3 := ((HK1.out.alloc (.cells #[.slice a1 (szN nx) c1] 57)).alloc (.cells #[.slice a2 (szN ny) c2] 57)).cell 0; have i5 := b3.cell 0; have i6 := b4.cell 0; have HVX := Lib.hid (natAt_mk (c := c1) (hr1.below hB4)); have HVY := Lib.hid (natAt_mk (c := c2) (hr2.below hB4)); have HB4 := Lib.hid (HB2.out.trans (hB4.mono HB2.out.size)); clear hr1 hr2 hB3 b3 b4 hB4)
      | (go_at_call 110; refine (cmp_any HVX.out HVY.out (Nat.le_trans HSX.out (by decide)) (Nat.le_trans HSY.out (by decide))).mono ?_; rintro e w5 ⟨rfl, hB5⟩; have HB5 := Lib.hid (HB4.out.trans (hB5.mono HB4.out.size)); clear hB5))
    go_ret
    exact ⟨rfl, HB5.out⟩
  · go_enter Tryz.func104, Tryz.ntmps104
    go_wp2_with (first
      | (go_at_call 116; refine (HCr.out _ HB2.out).mono ?_; clear HCr; rintro e w3 ⟨v1, v2, rfl, hN1, hN2, hB3⟩; obtain ⟨a1, c1, rfl, hr1⟩ := hN1; obtain ⟨a2, c2, rfl, hr2⟩ := hN2; have HR1 := Lib.hid hr1; have HR2 := Lib.hid hr2; replace HK0 := Lib.hid (HK0.out.below hB3 HK0.out.lt); replace HK1 := Lib.hid (HK1.out.below hB3 HK1.out.lt); replace HB2 := Lib.hid (HB2.out.trans (hB3.mono HB2.out.size)); obtain ⟨b3, b4, hB4⟩ := box2_new w3 (.slice a1 (szN nx) c1) (.slice a2 (szN ny) c2); have i0 := ((HK0.out.alloc (.cells #[.slice a1 (szN nx) c1] 57)).alloc (.cells #[.slice a2 (szN ny) c2] 57)).cell 0; have i3 := ((HK1.out.alloc (.cells #[.slice a1 (szN nx) c1] 57)).alloc (.cells #[.slice a2 (szN ny) c2] 57)).cell 0; have i5 := b3.cell 0; have i6 := b4.cell 0; have HVX := Lib.hid (natAt_mk (c := c1) (hr1.below hB4)); have HVY := Lib.hid (natAt_mk (c := c2) (hr2.below hB4)); have HB4 := Lib.hid (HB2.out.trans (hB4.mono HB2.out.size)); clear hr1 hr2 hB3 b3 b4 hB4))
    go_ret
    exact ⟨rfl, HB4.out⟩
  · go_enter Tryz.func104, Tryz.ntmps104
    go_wp2_with (first
      | (go_at_call 116; refine (HCr.out _ HB2.out).mono ?_; clear HCr; rintro e w3 ⟨v1, v2, rfl, hN1, hN2, hB3⟩; obtain ⟨a1, c1, rfl, hr1⟩ := hN1; obtain ⟨a2, c2, rfl, hr2⟩ := hN2; have HR1 := Lib.hid hr1; have HR2 := Lib.hid hr2; replace HK0 := Lib.hid (HK0.out.below hB3 HK0.out.lt); replace HK1 := Lib.hid (HK1.out.below hB3 HK1.out.lt); replace HB2 := Lib.hid (HB2.out.trans (hB3.mono HB2.out.size)); obtain ⟨b3, b4, hB4⟩ := box2_new w3 (.slice a1 (szN nx) c1) (.slice a2 (szN ny) c2); have i0 := ((HK0.out.alloc (.cells #[.slice a1 (szN nx) c1] 57)).alloc (.cells #[.slice a2 (szN ny) c2] 57)).cell 0; have i3 := ((HK1.out.alloc (.cells #[.slice a1 (szN nx) c1] 57)).alloc (.cells #[.slice a2 (szN ny) c2] 57)).cell 0; have i5 := b3.cell 0; have i6 := b4.cell 0; have HVX := Lib.hid (natAt_mk (c := c1) (hr1.below hB4)); have HVY := Lib.hid (natAt_mk (c := c2) (hr2.below hB4)); have HB4 := Lib.hid (HB2.out.trans (hB4.mono HB2.out.size)); clear hr1 hr2 hB3 b3 b4 hB4))
    go_ret
    exact ⟨rfl, HB4.out⟩
  · go_enter Tryz.func104, Tryz.ntmps104
    go_wp2_with (first
      | (go_at_call 116; refine (HCr.out _ HB2.out).mono ?_; clear HCr; rintro e w3 ⟨v1, v2, rfl, hN1, hN2, hB3⟩; obtain ⟨a1, c1, rfl, hr1⟩ := hN1; obtain ⟨a2, c2, rfl, hr2⟩ := hN2; have HR1 := Lib.hid hr1; have HR2 := Lib.hid hr2; replace HK0 := Lib.hid (HK0.out.below hB3 HK0.out.lt); replace HK1 := Lib.hid (HK1.out.below hB3 HK1.out.lt); replace HB2 := Lib.hid (HB2.out.trans (hB3.mono HB2.out.size)); obtain ⟨b3, b4, hB4⟩ := box2_new w3 (.slice a1 (szN nx) c1) (.slice a2 (szN ny) c2); have i0 := ((HK0.out.alloc (.cells #[.slice a1 (szN nx) c1] 57)).alloc (.cells #[.slice a2 (szN ny) c2] 57)).cell 0; have i3 := ((HK1.out.alloc (.cells #[.slice a1 (szN nx) c1] 57)).alloc (.cells #[.slice a2 (szN ny) c2] 57)).cell 0; have i5 := b3.cell 0; have i6 := b4.cell 0; have HVX := Lib.hid (natAt_mk (c := c1) (hr1.below hB4)); have HVY := Lib.hid (natAt_mk (c := c2) (hr2.below hB4)); have HB4 := Lib.hid (HB2.out.trans (hB4.mono HB2.out.size)); clear hr1 hr2 hB3 b3 b4 hB4)
      | (go_at_call 110; refine (cmp_any HVY.out HVX.out (Nat.le_trans HSY.out (by decide)) (Nat.le_trans HSX.out (by decide))).mono ?_; rintro e w5 ⟨rfl, hB5⟩; have HB5 := Lib.hid (HB4.out.trans (hB5.mono HB4.out.size)); clear hB5))
    go_ret
    exact ⟨rfl, HB5.out⟩
theorem cmp_one {n : Nat} : (cmpN n 1 == 0) = decide (n = 1) := by
  unfold cmpN
  rw [Bool.eq_iff_iff, beq_iff_eq, decide_eq_true_iff]
  by_cases h : n < 1
  · rw [if_pos h]; omega
  · rw [if_neg h]
    by_cases h2 : 1 < n
    · rw [if_pos h2]; omega
    · rw [if_neg h2]; omega
set_option maxRecDepth 20000 in
set_option maxHeartbeats 8000000 in
theorem whole_any {v : Value} {q : Rat} {w : World} (h : RatAt w v q) (hs : szN q.den ≤ 1000000) :
    Calls Tryz.prog 69 #[v] w fun e w' => e = .returned (.bool (decide (q.den = 1))) ∧ Below w.heap.size w w' := by
  have HD := Lib.hid (fun (W : World) (hW : Below w.heap.size w W) => den_any (h.below hW))
  rw [← cmp_one]
  obtain ⟨a, c, b, d, rfl, ha, hb⟩ := h
  have HS := Lib.hid hs
  have hB1 := (Below.refl w.heap.size w).alloc (Nat.le_refl _) (.cells #[.bool (negQ q), .slice a (szN (numQ q)) c, .slice b (szN (denQ q)) d] 59)
  have HB1 := Lib.hid hB1
  obtain ⟨z, hz⟩ : ∃ z, cmpN q.den 1 = z := ⟨_, rfl⟩
  have HZ := Lib.hid hz
  rw [hz]
  clear ha hb hs hB1 hz
  go_enter Tryz.func69, Tryz.ntmps69
  go_wp2_with (first
    | (go_at_call 100; refine (HD.out _ HB1.out).mono ?_; clear HD; rintro e w3 ⟨v3, rfl, hN3, hB3⟩; have HN3 := Lib.hid hN3; have HB3 := Lib.hid (HB1.out.trans (hB3.mono HB1.out.size)); clear hN3 hB3)
    | (go_at_call 101; refine (of_one _).mono ?_; rintro e w4 ⟨v4, rfl, hN4, hB4⟩; have HC := Lib.hid (cmp_any (HN3.out.below hB4) hN4 HS.out (Nat.le_trans szN_one (by decide))); rw [HZ.out] at HC; have HB4 := Lib.hid (HB3.out.trans (hB4.mono HB3.out.size)); clear hN4 hB4)
    | (go_at_call 110; refine HC.out.mono ?_; clear HC; rintro e w5 ⟨rfl, hB5⟩; have HB5 := Lib.hid (HB4.out.trans (hB5.mono HB4.out.size)); clear hB5))
  go_ret
  exact ⟨rfl, HB5.out⟩
end Go.Proofs.YtjcpfmndkeiegaaGreatDoor
namespace Go.Proofs.YtjcpfmndkeiegaaGreatDoor
open Go.RowKit
set_option linter.unusedVariables false

/-- A fraction's text. -/
def textQ (q : Rat) : List UInt8 := (if negQ q = true then [45] else []) ++ textN (numQ q) ++ (if q.den = 1 then [] else 47 :: textN q.den)
theorem denQ_ne {q : Rat} (h : q.den ≠ 1) : denQ q = q.den := by
  unfold denQ
  rw [if_neg]
  exact fun h0 => h (denQ_one h0)
theorem textN_len (n : Nat) : (textN n).length ≤ 10 * szN n + 1 := by
  unfold textN
  by_cases h : n = 0
  · rw [if_pos h]; simp
  · rw [if_neg h]
    have h1 : n < 10 ^ (10 * szN n) := by
      refine Nat.lt_of_lt_of_le (szN_lt n) ?_
      rw [Nat.pow_mul]
      exact Nat.pow_le_pow_left (by decide) _
    have := decS_len_le n _ h1
    omega
theorem str_of {t : ByteArray} {l : List UInt8} (h : t.data.toList = l) : t = ⟨l.toArray⟩ := by subst h; rfl
/-- A text as a string, with its length. -/
theorem text_str (n : Nat) (h : szN n ≤ 1000000) : ∃ t : ByteArray, str (textN n) = .string t ∧ t.data.toList = textN n ∧ t.size ≤ 10000001 :=
  ⟨⟨(textN n).toArray⟩, rfl, rfl, by have := textN_len n; rw [size_mk]; omega⟩
set_option maxRecDepth 20000 in
set_option maxHeartbeats 8000000 in
theorem ratText_any {v : Value} {q : Rat} {w : World} (h : RatAt w v q) (h1 : szN (numQ q) ≤ 1000000) (h2 : szN q.den ≤ 1000000) :
    Calls Tryz.prog 21 #[v] w fun e w' => e = .returned (str (textQ q)) ∧ Below w.heap.size w w' := by
  have HWh := Lib.hid (fun (W : World) (hW : Below w.heap.size w W) => whole_any (h.below hW) h2)
  obtain ⟨a, c, b, d, rfl, ha, hb⟩ := h
  have hB1 := (Below.refl w.heap.size w).alloc (Nat.le_refl _) (.cells #[.bool (negQ q), .slice a (szN (numQ q)) c, .slice b (szN (denQ q)) d] 59)
  have hK := BlkAt.new w 59 #[.bool (negQ q), .slice a (szN (numQ q)) c, .slice b (szN (denQ q)) d]
  have HTn := Lib.hid (fun (W : World) (hW : Below w.heap.size w W) => natText_any (natAt_mk (c := c) (ha.below hW)) h1)
  obtain ⟨t1, ht1, hl1, hz1⟩ := text_str (numQ q) h1
  rw [ht1] at HTn
  have HL1 := Lib.hid hl1
  clear ht1 hl1
  obtain ⟨W1, hW1⟩ : ∃ W1, w.alloc (.cells #[.bool (negQ q), .slice a (szN (numQ q)) c, .slice b (szN (denQ q)) d] 59) = W1 := ⟨_, rfl⟩
  rw [hW1] at hB1 hK
  have HB1 := Lib.hid hB1
  have HK := Lib.hid hK
  have q0 := hK.cell 0
  have q1 := hK.cell 1
  have q2 := hK.cell 2
  by_cases hd : q.den = 1
  · rw [decide_eq_true hd] at HWh
    have HTx := Lib.hid (show textQ q = (if negQ q = true then [45] else []) ++ textN (numQ q) by unfold textQ; rw [if_pos hd, List.append_nil])
    rw [HTx.out]
    clear ha hb hB1 hK h1 h2
    obtain ⟨x0, hx0⟩ : ∃ x0, negQ q = x0 := ⟨_, rfl⟩
    rw [hx0] at hW1 HWh HK q0 ⊢
    cases x0
    all_goals
      go_enter Tryz.func21, Tryz.ntmps21
      go_wp2_with (first
        | (go_at_call 68; refine (HTn.out _ HB1.out).mono ?_; clear HTn; rintro e w3 ⟨rfl, hB3⟩; have q0 := (HK.out.below hB3 HK.out.lt).cell 0; have q1 := (HK.out.below hB3 HK.out.lt).cell 1; have q2 := (HK.out.below hB3 HK.out.lt).cell 2; have HB3 := Lib.hid (HB1.out.trans (hB3.mono HB1.out.size)); clear hB3)
        | (go_at_call 69; refine (HWh.out _ HB3.out).mono ?_; clear HWh; rintro e w4 ⟨rfl, hB4⟩; have HB4 := Lib.hid (HB3.out.trans (hB4.mono HB3.out.size)); clear hB4))
    · go_ret
      exact ⟨congrArg Ending.returned (by rw [str_of HL1.out]; rfl), HB4.out⟩
    · go_ret
      exact ⟨congrArg Ending.returned (by rw [str_of HL1.out]; rfl), HB4.out⟩
  · rw [decide_eq_false hd] at HWh
    rw [denQ_ne hd] at hb hW1 hK HK q2 HWh ⊢
    have HTd := Lib.hid (fun (W : World) (hW : Below w.heap.size w W) => natText_any (natAt_mk (c := d) (hb.below hW)) h2)
    have HTx := Lib.hid (show textQ q = (if negQ q = true then [45] else []) ++ textN (numQ q) ++ (47 :: textN q.den) by unfold textQ; rw [if_neg hd])
    rw [HTx.out]
    obtain ⟨t2, ht2, hl2, hz2⟩ := text_str q.den h2
    rw [ht2] at HTd
    have HL2 := Lib.hid hl2
    clear ht2 hl2 ha hb hB1 hK h1 h2
    obtain ⟨x0, hx0⟩ : ∃ x0, negQ q = x0 := ⟨_, rfl⟩
    rw [hx0] at hW1 HWh HK q0 ⊢
    have hd' := Lib.hid hd
    clear hd
    cases x0
    all_goals
      go_enter Tryz.func21, Tryz.ntmps21
      go_wp2_with (first
        | (go_at_call 68; refine (HTn.out _ HB1.out).mono ?_; clear HTn; rintro e w3 ⟨rfl, hB3⟩; have q0 := (HK.out.below hB3 HK.out.lt).cell 0; have q1 := (HK.out.below hB3 HK.out.lt).cell 1; have q2 := (HK.out.below hB3 HK.out.lt).cell 2; have HB13 := Lib.hid hB3; have HB3 := Lib.hid (HB1.out.trans (hB3.mono HB1.out.size)); clear hB3)
        | (go_at_call 69; refine (HWh.out _ HB3.out).mono ?_; clear HWh; rintro e w4 ⟨rfl, hB4⟩; have HB14 := Lib.hid (HB13.out.trans (hB4.mono HB13.out.size)); have q2 := (HK.out.below HB14.out HK.out.lt).cell 2; have HB4 := Lib.hid (HB3.out.trans (hB4.mono HB3.out.size)); clear hB4)
        | (go_at_call 68; refine (HTd.out _ HB4.out).mono ?_; clear HTd; rintro e w5 ⟨rfl, hB5⟩; have HB5 := Lib.hid (HB4.out.trans (hB5.mono HB4.out.size)); clear hB5))
    · go_ret
      exact ⟨congrArg Ending.returned (by rw [str_of HL1.out, str_of HL2.out]; rfl), HB5.out⟩
    · go_ret
      exact ⟨congrArg Ending.returned (by rw [str_of HL1.out, str_of HL2.out]; rfl), HB5.out⟩
end Go.Proofs.YtjcpfmndkeiegaaGreatDoor
namespace Go.Proofs.YtjcpfmndkeiegaaGreatDoor
open Go.RowKit
set_option linter.unusedVariables false

theorem index_lt (l : List UInt8) (c : UInt8) : Lib.indexByte l c < l.length := by
  induction l with
  | nil => simp [Lib.indexByte]
  | cons b t ih =>
    rw [Lib.indexByte]
    split
    · simp
    · split
      · simp; omega
      · simp; omega
/-- A text, cut at the first '/'. -/
def cutL (l : List UInt8) : List UInt8 × List UInt8 × Bool := if 0 ≤ Lib.indexByte l 47 then (l.take (Lib.indexByte l 47).toNat, l.drop ((Lib.indexByte l 47).toNat + 1), true) else (l, [], false)
/-- What Parse tells of a text. -/
def negL (l : List UInt8) : Bool := Lib.hasPrefix l [45]
def bodyL (l : List UInt8) : List UInt8 := Lib.trimPrefix l [45]
def numL (l : List UInt8) : List UInt8 := (cutL (bodyL l)).1
def denL (l : List UInt8) : List UInt8 := if (cutL (bodyL l)).2.2 = true then (cutL (bodyL l)).2.1 else [49]
def valQ (l : List UInt8) : Rat := lowQ (negL l) (parseV (numL l)) (parseV (denL l))
def parseRC (l : List UInt8) : Nat :=
  if parseC (numL l) = 3 ∨ parseC (denL l) = 3 then 3 else if parseC (numL l) ≠ 0 ∨ parseC (denL l) ≠ 0 then 2 else if parseV (denL l) = 0 ∨ textQ (valQ l) ≠ l then 3 else 0
def parseRQ (l : List UInt8) : Rat := if parseRC l = 0 then valQ l else 0
theorem cutL_len (l : List UInt8) : (cutL l).1.length ≤ l.length ∧ (cutL l).2.1.length ≤ l.length := by
  unfold cutL
  split
  · simp only [List.length_take, List.length_drop]; omega
  · simp
theorem bodyL_len (l : List UInt8) : (bodyL l).length ≤ l.length := by
  unfold bodyL Lib.trimPrefix
  split
  · simp
  · exact Nat.le_refl _
theorem numL_len (l : List UInt8) : (numL l).length ≤ l.length := Nat.le_trans (cutL_len _).1 (bodyL_len l)
theorem parseV_sz (l : List UInt8) : szN (parseV l) ≤ 1200 := by
  unfold parseV
  by_cases h : parseC l = 0
  · rw [if_pos h]
    unfold parseC at h
    by_cases h1 : numT l = true
    · rw [if_pos h1] at h
      by_cases h2 : 1200 < l.length
      · rw [if_pos h2] at h; cases h
      · have hd : l.all isDig = true := by unfold numT at h1; rw [Bool.and_eq_true] at h1; exact h1.1
        have h3 := numV_lt l hd
        have h4 : 10 ^ l.length ≤ 4294967296 ^ l.length := Nat.pow_le_pow_left (by decide) _
        exact Nat.le_trans (szN_le (Nat.lt_of_lt_of_le h3 h4)) (by omega)
    · rw [if_neg h1] at h; cases h
  · rw [if_neg h, szN_zero]; omega
set_option maxRecDepth 20000 in
set_option maxHeartbeats 8000000 in
theorem slCut_any (s : ByteArray) (hs : s.size ≤ 1000000) (w : World) :
    Calls Tryz.prog 91 #[.string s, .string ⟨#[47]⟩] w fun e w' => ∃ a b, e = .returned (.tuple #[.string a, .string b, .bool (cutL s.data.toList).2.2]) ∧ a.data.toList = (cutL s.data.toList).1 ∧ b.data.toList = (cutL s.data.toList).2.1 ∧ Below w.heap.size w w' := by
  have hi := index_lt s.data.toList 47
  have hge := Lib.indexByte_ge s.data.toList 47
  have hL : (s.data.toList.length : Int) = (s.size : Int) := by simp
  rw [hL] at hi
  obtain ⟨i, hie⟩ : ∃ i, Lib.indexByte s.data.toList 47 = i := ⟨_, rfl⟩
  have HI := Lib.hid (Tryz.stringslite_Index_one s 47 w)
  rw [hie] at HI hi hge
  by_cases h0 : 0 ≤ i
  · obtain ⟨k, rfl⟩ : ∃ k : Nat, i = k := ⟨i.toNat, by omega⟩
    have hc : cutL s.data.toList = (s.data.toList.take k, s.data.toList.drop (k + 1), true) := by unfold cutL; rw [hie, if_pos h0]; simp
    rw [hc]
    have hk : k < s.size := by omega
    clear hie hc hL
    go_enter Tryz.func91, Tryz.ntmps91
    go_wp2_with (go_at_call 113; refine HI.out.mono ?_; clear HI; rintro e w3 ⟨rfl, hw⟩; subst hw)
    go_region
    go_wp2
    refine bodyPost_ret (results_tmp3 rfl _ _ _) rfl ⟨_, _, rfl, ?_, ?_, (Below.refl _ _).drew⟩
    · rw [extract_list, List.drop_zero, Nat.sub_zero]
    · rw [extract_list, List.take_of_length_le (by simp)]
  · have hc : cutL s.data.toList = (s.data.toList, [], false) := by unfold cutL; rw [hie, if_neg h0]
    rw [hc]
    have h1 : i = -1 := by omega
    subst h1
    clear hie hc hL
    go_enter Tryz.func91, Tryz.ntmps91
    go_wp2_with (go_at_call 113; refine HI.out.mono ?_; clear HI; rintro e w3 ⟨rfl, hw⟩; subst hw)
    exact bodyPost_ret (results_tmp3 rfl _ _ _) rfl ⟨_, _, rfl, rfl, rfl, Below.refl _ _⟩
set_option maxRecDepth 20000 in
set_option maxHeartbeats 8000000 in
theorem cut_any (s : ByteArray) (hs : s.size ≤ 1000000) (w : World) :
    Calls Tryz.prog 57 #[.string s, .string ⟨#[47]⟩] w fun e w' => ∃ a b, e = .returned (.tuple #[.string a, .string b, .bool (cutL s.data.toList).2.2]) ∧ a.data.toList = (cutL s.data.toList).1 ∧ b.data.toList = (cutL s.data.toList).2.1 ∧ Below w.heap.size w w' := by
  have HC := Lib.hid (slCut_any s hs w)
  obtain ⟨t, ht⟩ : ∃ t, (cutL s.data.toList).2.2 = t := ⟨_, rfl⟩
  rw [ht] at HC ⊢
  clear ht
  go_enter Tryz.func57, Tryz.ntmps57
  go_wp2_with (go_at_call 91; refine HC.out.mono ?_; clear HC; rintro e w3 ⟨a, b, rfl, ha, hb, hB⟩; have HA := Lib.hid ha; have HB := Lib.hid hb; have HB3 := Lib.hid hB; clear ha hb hB)
  exact bodyPost_ret (results_tmp3 rfl _ _ _) rfl ⟨_, _, rfl, HA.out, HB.out, HB3.out⟩
end Go.Proofs.YtjcpfmndkeiegaaGreatDoor
