/- The walk of rat's Parse, where both parts are numbers. -/
import Derived.Test.YtjcpfmndkeiegaaGreatDoorRtI
namespace Go.Proofs.YtjcpfmndkeiegaaGreatDoor
open Go.RowKit
set_option linter.unusedVariables false

theorem mkQ_sz (ng : Bool) {nv dv : Nat} (h1 : szN nv ≤ 1200) (h2 : szN dv ≤ 1200) (hd : dv ≠ 0) : szN (numQ (makeQ ng nv dv)) ≤ 1000000 ∧ szN (makeQ ng nv dv).den ≤ 1000000 := by
  have e : makeQ ng nv dv = lowQ ng nv dv := if_neg hd
  rw [e]
  by_cases hn : nv = 0
  · rw [hn, lowQ_zero]
    exact ⟨by rw [num_zero, szN_zero]; omega, Nat.le_trans szN_one (by decide)⟩
  · obtain ⟨z1, -, -, z4⟩ := lowQ_parts (neg := ng) hn hd
    rw [z1, z4]
    exact ⟨Nat.le_trans (szN_mono (Nat.div_le_self _ _)) (by omega), Nat.le_trans (szN_mono (Nat.div_le_self _ _)) (by omega)⟩
set_option maxRecDepth 20000 in
set_option maxHeartbeats 8000000 in
theorem rp_nought (s : ByteArray) (hs : s.size ≤ 100000) (w : World) {nv dv : Nat} (hd : dv = 0) (h1 : ((parseC (numL s.data.toList) : Nat) : Int) = 0) (h2 : ((parseC (denL s.data.toList) : Nat) : Int) = 0) (g1 : parseV (numL s.data.toList) = nv) (g2 : parseV (denL s.data.toList) = dv) :
    Calls Tryz.prog 19 #[.string s] w fun e w' => ∃ v, e = .returned (.tuple #[v, .int .i64 3]) ∧ RatAt w' v 0 ∧ Below w.heap.size w w' := by
  have HMC := Lib.hid (show ((makeC dv : Nat) : Int) = 4 by rw [hd]; rfl)
  clear hd
  have HNs := Lib.hid (show szN nv ≤ 1200 by rw [← g1]; exact parseV_sz _)
  have HDs := Lib.hid (show szN dv ≤ 1200 by rw [← g2]; exact parseV_sz _)
  have HSz := Lib.hid hs
  have HC1 := Lib.hid (show ((parseC (cutL (bodyL s.data.toList)).1 : Nat) : Int) = _ from h1)
  have HV1 := Lib.hid (show parseV (cutL (bodyL s.data.toList)).1 = nv from g1)
  have HB0 := Lib.hid (show Below (w.heap.size + 1) (w.alloc rat0) (w.alloc rat0) from Below.refl _ _)
  obtain ⟨ng, hng⟩ : ∃ ng, negL s.data.toList = ng := ⟨_, rfl⟩
  have HNeg := Lib.hid hng
  unfold denL at h2 g2
  obtain ⟨tw, htw⟩ : ∃ tw, (cutL (bodyL s.data.toList)).2.2 = tw := ⟨_, rfl⟩
  have HTwo := Lib.hid htw
  rw [htw] at h2 g2
  clear hng htw h1 g1
  cases tw
  · rw [if_neg (by decide)] at h2 g2
    have HC2 := Lib.hid h2
    have HV2 := Lib.hid g2
    clear h2 g2
    go_enter Tryz.func19, Tryz.ntmps19
    go_wp2_with (first
      | (go_at_call 56; refine (cutPrefix_at s _).mono ?_; rintro e w3 ⟨b3, rfl, hb3, hw⟩; subst hw; have HCt := Lib.hid (cut_any b3 (by rw [size_list, hb3]; have := bodyL_len s.data.toList; have := HSz.out; rw [size_list] at this; omega)); rw [hb3, HTwo.out] at HCt; rw [HNeg.out]; clear hb3)
      | (go_at_call 57; refine (HCt.out _).mono ?_; clear HCt; rintro e w4 ⟨a4, b4, rfl, ha4, hb4, hB4⟩; have HP1 := Lib.hid (natParse_at (s := a4) (by rw [size_list, ha4]; have := numL_len s.data.toList; have := HSz.out; rw [size_list] at this; unfold numL at *; omega) ha4 HC1.out HV1.out); have HP2 := Lib.hid (natParse_at (s := ⟨#[49]⟩) (by decide) rfl HC2.out HV2.out); have HB4 := Lib.hid (HB0.out.trans (hB4.mono (by simp))); clear ha4 hb4 hB4)
      | (go_at_call 58; refine (HP1.out _).mono ?_; clear HP1; rintro e w5 ⟨v5, rfl, hN5, hB5⟩; obtain ⟨a5, c5, rfl, hr5⟩ := hN5; have HR5 := Lib.hid hr5; have HB5 := Lib.hid (HB4.out.trans (hB5.mono (by have := HB4.out.size; simpa using this))); clear hr5 hB5)
      | (go_at_call 58; refine (HP2.out _).mono ?_; clear HP2; rintro e w6 ⟨v6, rfl, hN6, hB6⟩; obtain ⟨a6, c6, rfl, hr6⟩ := hN6; obtain ⟨kR, kN, kD, hB57, hBf, hz6, hz5⟩ := parse_boxes (v6 := .slice a6 (szN dv) c6) HB5.out hB6; have e0 := kR.cell 0; have e1 := kR.cell 1; have e2 := kR.cell 2; have f0 := kR.frozen 0; have f1 := kR.frozen 1; have f2 := kR.frozen 2; have en := kN.cell 0; have ed := kD.cell 0; have HKR := Lib.hid kR; have HBf := Lib.hid hBf; have HNn := Lib.hid (natAt_mk (c := c5) (HR5.out.below hB57)); have HNd := Lib.hid (natAt_mk (c := c6) (hr6.below ((Below.refl _ w6).alloc (Nat.le_refl _) (.cells #[.slice a6 (szN dv) c6] 57)))); clear hr6 hB6 kR kN kD hB57 hBf)
      | (go_at_call 59; refine (make_rat ng HNn.out HNd.out (Nat.le_trans HNs.out (by decide)) (Nat.le_trans HDs.out (by decide))).mono ?_; rintro e w8 ⟨v8, rfl, hN8, hB8⟩; rw [HMC.out]; obtain ⟨a8, c8, b8, d8, rfl, hr8, hs8⟩ := hN8; have HRt := Lib.hid ((ratAt_mk (c := c8) (d := d8) hr8 hs8).below ((Below.refl _ w8).alloc (Nat.le_refl _) (.cells #[.bool (negQ (makeQ ng nv dv)), .slice a8 (szN (numQ (makeQ ng nv dv))) c8, .slice b8 (szN (denQ (makeQ ng nv dv))) d8] 59))); have kR := (HKR.out.below hB8 HKR.out.lt).alloc (.cells #[.bool (negQ (makeQ ng nv dv)), .slice a8 (szN (numQ (makeQ ng nv dv))) c8, .slice b8 (szN (denQ (makeQ ng nv dv))) d8] 59); have e0 := kR.cell 0; have e1 := kR.cell 1; have e2 := kR.cell 2; have f0 := kR.frozen 0; have f1 := kR.frozen 1; have f2 := kR.frozen 2; have HKR8 := Lib.hid kR; have kQ := BlkAt.new w8 59 #[.bool (negQ (makeQ ng nv dv)), .slice a8 (szN (numQ (makeQ ng nv dv))) c8, .slice b8 (szN (denQ (makeQ ng nv dv))) d8]; have i0 := kQ.cell 0; have i1 := kQ.cell 1; have i2 := kQ.cell 2; have HKQ8 := Lib.hid kQ; have HB8 := Lib.hid ((HBf.out.trans (hB8.mono (by simp; omega))).alloc (by have h2 := hB8.size; simp at h2; omega) (.cells #[.bool (negQ (makeQ ng nv dv)), .slice a8 (szN (numQ (makeQ ng nv dv))) c8, .slice b8 (szN (denQ (makeQ ng nv dv))) d8] 59)); clear hr8 hs8 hB8 kR kQ))
    obtain ⟨r1, r2, r3⟩ := res_rat HKR8.out rfl (Nat.le_refl _) (below_in HB8.out) (RatAt.zero _ 0 0)
    exact bodyPost_ret (r_ct rfl rfl (aggRat.load rfl r1)) rfl ⟨_, rfl, r2, r3⟩
  · rw [if_pos rfl] at h2 g2
    have HC2 := Lib.hid h2
    have HV2 := Lib.hid g2
    clear h2 g2
    go_enter Tryz.func19, Tryz.ntmps19
    go_wp2_with (first
      | (go_at_call 56; refine (cutPrefix_at s _).mono ?_; rintro e w3 ⟨b3, rfl, hb3, hw⟩; subst hw; have HCt := Lib.hid (cut_any b3 (by rw [size_list, hb3]; have := bodyL_len s.data.toList; have := HSz.out; rw [size_list] at this; omega)); rw [hb3, HTwo.out] at HCt; rw [HNeg.out]; clear hb3)
      | (go_at_call 57; refine (HCt.out _).mono ?_; clear HCt; rintro e w4 ⟨a4, b4, rfl, ha4, hb4, hB4⟩; have HP1 := Lib.hid (natParse_at (s := a4) (by rw [size_list, ha4]; have := numL_len s.data.toList; have := HSz.out; rw [size_list] at this; unfold numL at *; omega) ha4 HC1.out HV1.out); have HP2 := Lib.hid (natParse_at (s := b4) (by rw [size_list, hb4]; have := (cutL_len (bodyL s.data.toList)).2; have := bodyL_len s.data.toList; have := HSz.out; rw [size_list] at this; omega) hb4 HC2.out HV2.out); have HB4 := Lib.hid (HB0.out.trans (hB4.mono (by simp))); clear ha4 hb4 hB4)
      | (go_at_call 58; refine (HP1.out _).mono ?_; clear HP1; rintro e w5 ⟨v5, rfl, hN5, hB5⟩; obtain ⟨a5, c5, rfl, hr5⟩ := hN5; have HR5 := Lib.hid hr5; have HB5 := Lib.hid (HB4.out.trans (hB5.mono (by have := HB4.out.size; simpa using this))); clear hr5 hB5)
      | (go_at_call 58; refine (HP2.out _).mono ?_; clear HP2; rintro e w6 ⟨v6, rfl, hN6, hB6⟩; obtain ⟨a6, c6, rfl, hr6⟩ := hN6; obtain ⟨kR, kN, kD, hB57, hBf, hz6, hz5⟩ := parse_boxes (v6 := .slice a6 (szN dv) c6) HB5.out hB6; have e0 := kR.cell 0; have e1 := kR.cell 1; have e2 := kR.cell 2; have f0 := kR.frozen 0; have f1 := kR.frozen 1; have f2 := kR.frozen 2; have en := kN.cell 0; have ed := kD.cell 0; have HKR := Lib.hid kR; have HBf := Lib.hid hBf; have HNn := Lib.hid (natAt_mk (c := c5) (HR5.out.below hB57)); have HNd := Lib.hid (natAt_mk (c := c6) (hr6.below ((Below.refl _ w6).alloc (Nat.le_refl _) (.cells #[.slice a6 (szN dv) c6] 57)))); clear hr6 hB6 kR kN kD hB57 hBf)
      | (go_at_call 59; refine (make_rat ng HNn.out HNd.out (Nat.le_trans HNs.out (by decide)) (Nat.le_trans HDs.out (by decide))).mono ?_; rintro e w8 ⟨v8, rfl, hN8, hB8⟩; rw [HMC.out]; obtain ⟨a8, c8, b8, d8, rfl, hr8, hs8⟩ := hN8; have HRt := Lib.hid ((ratAt_mk (c := c8) (d := d8) hr8 hs8).below ((Below.refl _ w8).alloc (Nat.le_refl _) (.cells #[.bool (negQ (makeQ ng nv dv)), .slice a8 (szN (numQ (makeQ ng nv dv))) c8, .slice b8 (szN (denQ (makeQ ng nv dv))) d8] 59))); have kR := (HKR.out.below hB8 HKR.out.lt).alloc (.cells #[.bool (negQ (makeQ ng nv dv)), .slice a8 (szN (numQ (makeQ ng nv dv))) c8, .slice b8 (szN (denQ (makeQ ng nv dv))) d8] 59); have e0 := kR.cell 0; have e1 := kR.cell 1; have e2 := kR.cell 2; have f0 := kR.frozen 0; have f1 := kR.frozen 1; have f2 := kR.frozen 2; have HKR8 := Lib.hid kR; have kQ := BlkAt.new w8 59 #[.bool (negQ (makeQ ng nv dv)), .slice a8 (szN (numQ (makeQ ng nv dv))) c8, .slice b8 (szN (denQ (makeQ ng nv dv))) d8]; have i0 := kQ.cell 0; have i1 := kQ.cell 1; have i2 := kQ.cell 2; have HKQ8 := Lib.hid kQ; have HB8 := Lib.hid ((HBf.out.trans (hB8.mono (by simp; omega))).alloc (by have h2 := hB8.size; simp at h2; omega) (.cells #[.bool (negQ (makeQ ng nv dv)), .slice a8 (szN (numQ (makeQ ng nv dv))) c8, .slice b8 (szN (denQ (makeQ ng nv dv))) d8] 59)); clear hr8 hs8 hB8 kR kQ))
    obtain ⟨r1, r2, r3⟩ := res_rat HKR8.out rfl (Nat.le_refl _) (below_in HB8.out) (RatAt.zero _ 0 0)
    exact bodyPost_ret (r_ct rfl rfl (aggRat.load rfl r1)) rfl ⟨_, rfl, r2, r3⟩
set_option maxRecDepth 20000 in
set_option maxHeartbeats 8000000 in
theorem rp_other (s : ByteArray) (hs : s.size ≤ 100000) (w : World) {nv dv : Nat} (hd : dv ≠ 0) (hq : textQ (valQ s.data.toList) ≠ s.data.toList) (h1 : ((parseC (numL s.data.toList) : Nat) : Int) = 0) (h2 : ((parseC (denL s.data.toList) : Nat) : Int) = 0) (g1 : parseV (numL s.data.toList) = nv) (g2 : parseV (denL s.data.toList) = dv) :
    Calls Tryz.prog 19 #[.string s] w fun e w' => ∃ v, e = .returned (.tuple #[v, .int .i64 3]) ∧ RatAt w' v 0 ∧ Below w.heap.size w w' := by
  have HMC := Lib.hid (show ((makeC dv : Nat) : Int) = 0 by unfold makeC; rw [if_neg hd]; rfl)
  have HDn := Lib.hid hd
  unfold valQ at hq
  rw [g1, g2] at hq
  have HNs := Lib.hid (show szN nv ≤ 1200 by rw [← g1]; exact parseV_sz _)
  have HDs := Lib.hid (show szN dv ≤ 1200 by rw [← g2]; exact parseV_sz _)
  have HSz := Lib.hid hs
  have HC1 := Lib.hid (show ((parseC (cutL (bodyL s.data.toList)).1 : Nat) : Int) = _ from h1)
  have HV1 := Lib.hid (show parseV (cutL (bodyL s.data.toList)).1 = nv from g1)
  have HB0 := Lib.hid (show Below (w.heap.size + 1) (w.alloc rat0) (w.alloc rat0) from Below.refl _ _)
  obtain ⟨ng, hng⟩ : ∃ ng, negL s.data.toList = ng := ⟨_, rfl⟩
  have HNeg := Lib.hid hng
  rw [hng] at hq
  have HQe : makeQ ng nv dv = lowQ ng nv dv := if_neg hd
  rw [← HQe] at hq
  clear HQe
  obtain ⟨t, ht⟩ : ∃ t : ByteArray, t = ⟨(textQ (makeQ ng nv dv)).toArray⟩ := ⟨_, rfl⟩
  have HStr := Lib.hid (show str (textQ (makeQ ng nv dv)) = .string t by rw [ht])
  have hts3 : (t.toList == s.toList) = false := beq_eq_false_iff_ne.2 (fun h => hq (by rw [ByteArray.toList_eq, ByteArray.toList_eq, ht] at h; simpa using h))
  clear hq ht
  obtain ⟨hQs, hQd⟩ := mkQ_sz ng HNs.out HDs.out hd
  have HQs := Lib.hid hQs
  have HQd := Lib.hid hQd
  clear hQs hQd hd
  unfold denL at h2 g2
  obtain ⟨tw, htw⟩ : ∃ tw, (cutL (bodyL s.data.toList)).2.2 = tw := ⟨_, rfl⟩
  have HTwo := Lib.hid htw
  rw [htw] at h2 g2
  clear hng htw h1 g1
  cases tw
  · rw [if_neg (by decide)] at h2 g2
    have HC2 := Lib.hid h2
    have HV2 := Lib.hid g2
    clear h2 g2
    go_enter Tryz.func19, Tryz.ntmps19
    go_wp2_with (first
      | (go_at_call 56; refine (cutPrefix_at s _).mono ?_; rintro e w3 ⟨b3, rfl, hb3, hw⟩; subst hw; have HCt := Lib.hid (cut_any b3 (by rw [size_list, hb3]; have := bodyL_len s.data.toList; have := HSz.out; rw [size_list] at this; omega)); rw [hb3, HTwo.out] at HCt; rw [HNeg.out]; clear hb3)
      | (go_at_call 57; refine (HCt.out _).mono ?_; clear HCt; rintro e w4 ⟨a4, b4, rfl, ha4, hb4, hB4⟩; have HP1 := Lib.hid (natParse_at (s := a4) (by rw [size_list, ha4]; have := numL_len s.data.toList; have := HSz.out; rw [size_list] at this; unfold numL at *; omega) ha4 HC1.out HV1.out); have HP2 := Lib.hid (natParse_at (s := ⟨#[49]⟩) (by decide) rfl HC2.out HV2.out); have HB4 := Lib.hid (HB0.out.trans (hB4.mono (by simp))); clear ha4 hb4 hB4)
      | (go_at_call 58; refine (HP1.out _).mono ?_; clear HP1; rintro e w5 ⟨v5, rfl, hN5, hB5⟩; obtain ⟨a5, c5, rfl, hr5⟩ := hN5; have HR5 := Lib.hid hr5; have HB5 := Lib.hid (HB4.out.trans (hB5.mono (by have := HB4.out.size; simpa using this))); clear hr5 hB5)
      | (go_at_call 58; refine (HP2.out _).mono ?_; clear HP2; rintro e w6 ⟨v6, rfl, hN6, hB6⟩; obtain ⟨a6, c6, rfl, hr6⟩ := hN6; obtain ⟨kR, kN, kD, hB57, hBf, hz6, hz5⟩ := parse_boxes (v6 := .slice a6 (szN dv) c6) HB5.out hB6; have e0 := kR.cell 0; have e1 := kR.cell 1; have e2 := kR.cell 2; have f0 := kR.frozen 0; have f1 := kR.frozen 1; have f2 := kR.frozen 2; have en := kN.cell 0; have ed := kD.cell 0; have HKR := Lib.hid kR; have HBf := Lib.hid hBf; have HNn := Lib.hid (natAt_mk (c := c5) (HR5.out.below hB57)); have HNd := Lib.hid (natAt_mk (c := c6) (hr6.below ((Below.refl _ w6).alloc (Nat.le_refl _) (.cells #[.slice a6 (szN dv) c6] 57)))); clear hr6 hB6 kR kN kD hB57 hBf)
      | (go_at_call 59; refine (make_rat ng HNn.out HNd.out (Nat.le_trans HNs.out (by decide)) (Nat.le_trans HDs.out (by decide))).mono ?_; rintro e w8 ⟨v8, rfl, hN8, hB8⟩; rw [HMC.out]; obtain ⟨a8, c8, b8, d8, rfl, hr8, hs8⟩ := hN8; have HRt := Lib.hid ((ratAt_mk (c := c8) (d := d8) hr8 hs8).below ((Below.refl _ w8).alloc (Nat.le_refl _) (.cells #[.bool (negQ (makeQ ng nv dv)), .slice a8 (szN (numQ (makeQ ng nv dv))) c8, .slice b8 (szN (denQ (makeQ ng nv dv))) d8] 59))); have kR := (HKR.out.below hB8 HKR.out.lt).alloc (.cells #[.bool (negQ (makeQ ng nv dv)), .slice a8 (szN (numQ (makeQ ng nv dv))) c8, .slice b8 (szN (denQ (makeQ ng nv dv))) d8] 59); have e0 := kR.cell 0; have e1 := kR.cell 1; have e2 := kR.cell 2; have f0 := kR.frozen 0; have f1 := kR.frozen 1; have f2 := kR.frozen 2; have HKR8 := Lib.hid kR; have kQ := BlkAt.new w8 59 #[.bool (negQ (makeQ ng nv dv)), .slice a8 (szN (numQ (makeQ ng nv dv))) c8, .slice b8 (szN (denQ (makeQ ng nv dv))) d8]; have i0 := kQ.cell 0; have i1 := kQ.cell 1; have i2 := kQ.cell 2; have HKQ8 := Lib.hid kQ; have HB8 := Lib.hid ((HBf.out.trans (hB8.mono (by simp; omega))).alloc (by have h2 := hB8.size; simp at h2; omega) (.cells #[.bool (negQ (makeQ ng nv dv)), .slice a8 (szN (numQ (makeQ ng nv dv))) c8, .slice b8 (szN (denQ (makeQ ng nv dv))) d8] 59)); clear hr8 hs8 hB8 kR kQ)
      | (go_at_call 21; refine (ratText_any HRt.out HQs.out HQd.out).mono ?_; rintro e w9 ⟨rfl, hB9⟩; rw [HStr.out]; have kR := HKR8.out.below hB9 HKR8.out.lt; have e0 := kR.cell 0; have e1 := kR.cell 1; have e2 := kR.cell 2; have f0 := kR.frozen 0; have f1 := kR.frozen 1; have f2 := kR.frozen 2; have HKR9 := Lib.hid kR; have kQ := HKQ8.out.below hB9 HKQ8.out.lt; have i0 := kQ.cell 0; have i1 := kQ.cell 1; have i2 := kQ.cell 2; have HRt9 := Lib.hid (HRt.out.below hB9); have HB9 := Lib.hid (HB8.out.trans (hB9.mono (by have h2 := HB8.out.size; simp at h2; simp; omega))); clear hB9 kR kQ))
    obtain ⟨r1, r2, r3⟩ := res_rat HKR9.out rfl (Nat.le_refl _) (below_in HB9.out) (RatAt.zero _ 0 0)
    exact bodyPost_ret (r_ct rfl rfl (aggRat.load rfl r1)) rfl ⟨_, rfl, r2, r3⟩
  · rw [if_pos rfl] at h2 g2
    have HC2 := Lib.hid h2
    have HV2 := Lib.hid g2
    clear h2 g2
    go_enter Tryz.func19, Tryz.ntmps19
    go_wp2_with (first
      | (go_at_call 56; refine (cutPrefix_at s _).mono ?_; rintro e w3 ⟨b3, rfl, hb3, hw⟩; subst hw; have HCt := Lib.hid (cut_any b3 (by rw [size_list, hb3]; have := bodyL_len s.data.toList; have := HSz.out; rw [size_list] at this; omega)); rw [hb3, HTwo.out] at HCt; rw [HNeg.out]; clear hb3)
      | (go_at_call 57; refine (HCt.out _).mono ?_; clear HCt; rintro e w4 ⟨a4, b4, rfl, ha4, hb4, hB4⟩; have HP1 := Lib.hid (natParse_at (s := a4) (by rw [size_list, ha4]; have := numL_len s.data.toList; have := HSz.out; rw [size_list] at this; unfold numL at *; omega) ha4 HC1.out HV1.out); have HP2 := Lib.hid (natParse_at (s := b4) (by rw [size_list, hb4]; have := (cutL_len (bodyL s.data.toList)).2; have := bodyL_len s.data.toList; have := HSz.out; rw [size_list] at this; omega) hb4 HC2.out HV2.out); have HB4 := Lib.hid (HB0.out.trans (hB4.mono (by simp))); clear ha4 hb4 hB4)
      | (go_at_call 58; refine (HP1.out _).mono ?_; clear HP1; rintro e w5 ⟨v5, rfl, hN5, hB5⟩; obtain ⟨a5, c5, rfl, hr5⟩ := hN5; have HR5 := Lib.hid hr5; have HB5 := Lib.hid (HB4.out.trans (hB5.mono (by have := HB4.out.size; simpa using this))); clear hr5 hB5)
      | (go_at_call 58; refine (HP2.out _).mono ?_; clear HP2; rintro e w6 ⟨v6, rfl, hN6, hB6⟩; obtain ⟨a6, c6, rfl, hr6⟩ := hN6; obtain ⟨kR, kN, kD, hB57, hBf, hz6, hz5⟩ := parse_boxes (v6 := .slice a6 (szN dv) c6) HB5.out hB6; have e0 := kR.cell 0; have e1 := kR.cell 1; have e2 := kR.cell 2; have f0 := kR.frozen 0; have f1 := kR.frozen 1; have f2 := kR.frozen 2; have en := kN.cell 0; have ed := kD.cell 0; have HKR := Lib.hid kR; have HBf := Lib.hid hBf; have HNn := Lib.hid (natAt_mk (c := c5) (HR5.out.below hB57)); have HNd := Lib.hid (natAt_mk (c := c6) (hr6.below ((Below.refl _ w6).alloc (Nat.le_refl _) (.cells #[.slice a6 (szN dv) c6] 57)))); clear hr6 hB6 kR kN kD hB57 hBf)
      | (go_at_call 59; refine (make_rat ng HNn.out HNd.out (Nat.le_trans HNs.out (by decide)) (Nat.le_trans HDs.out (by decide))).mono ?_; rintro e w8 ⟨v8, rfl, hN8, hB8⟩; rw [HMC.out]; obtain ⟨a8, c8, b8, d8, rfl, hr8, hs8⟩ := hN8; have HRt := Lib.hid ((ratAt_mk (c := c8) (d := d8) hr8 hs8).below ((Below.refl _ w8).alloc (Nat.le_refl _) (.cells #[.bool (negQ (makeQ ng nv dv)), .slice a8 (szN (numQ (makeQ ng nv dv))) c8, .slice b8 (szN (denQ (makeQ ng nv dv))) d8] 59))); have kR := (HKR.out.below hB8 HKR.out.lt).alloc (.cells #[.bool (negQ (makeQ ng nv dv)), .slice a8 (szN (numQ (makeQ ng nv dv))) c8, .slice b8 (szN (denQ (makeQ ng nv dv))) d8] 59); have e0 := kR.cell 0; have e1 := kR.cell 1; have e2 := kR.cell 2; have f0 := kR.frozen 0; have f1 := kR.frozen 1; have f2 := kR.frozen 2; have HKR8 := Lib.hid kR; have kQ := BlkAt.new w8 59 #[.bool (negQ (makeQ ng nv dv)), .slice a8 (szN (numQ (makeQ ng nv dv))) c8, .slice b8 (szN (denQ (makeQ ng nv dv))) d8]; have i0 := kQ.cell 0; have i1 := kQ.cell 1; have i2 := kQ.cell 2; have HKQ8 := Lib.hid kQ; have HB8 := Lib.hid ((HBf.out.trans (hB8.mono (by simp; omega))).alloc (by have h2 := hB8.size; simp at h2; omega) (.cells #[.bool (negQ (makeQ ng nv dv)), .slice a8 (szN (numQ (makeQ ng nv dv))) c8, .slice b8 (szN (denQ (makeQ ng nv dv))) d8] 59)); clear hr8 hs8 hB8 kR kQ)
      | (go_at_call 21; refine (ratText_any HRt.out HQs.out HQd.out).mono ?_; rintro e w9 ⟨rfl, hB9⟩; rw [HStr.out]; have kR := HKR8.out.below hB9 HKR8.out.lt; have e0 := kR.cell 0; have e1 := kR.cell 1; have e2 := kR.cell 2; have f0 := kR.frozen 0; have f1 := kR.frozen 1; have f2 := kR.frozen 2; have HKR9 := Lib.hid kR; have kQ := HKQ8.out.below hB9 HKQ8.out.lt; have i0 := kQ.cell 0; have i1 := kQ.cell 1; have i2 := kQ.cell 2; have HRt9 := Lib.hid (HRt.out.below hB9); have HB9 := Lib.hid (HB8.out.trans (hB9.mono (by have h2 := HB8.out.size; simp at h2; simp; omega))); clear hB9 kR kQ))
    obtain ⟨r1, r2, r3⟩ := res_rat HKR9.out rfl (Nat.le_refl _) (below_in HB9.out) (RatAt.zero _ 0 0)
    exact bodyPost_ret (r_ct rfl rfl (aggRat.load rfl r1)) rfl ⟨_, rfl, r2, r3⟩
set_option maxRecDepth 20000 in
set_option maxHeartbeats 8000000 in
theorem rp_same (s : ByteArray) (hs : s.size ≤ 100000) (w : World) {nv dv : Nat} (hd : dv ≠ 0) (hq : textQ (valQ s.data.toList) = s.data.toList) (h1 : ((parseC (numL s.data.toList) : Nat) : Int) = 0) (h2 : ((parseC (denL s.data.toList) : Nat) : Int) = 0) (g1 : parseV (numL s.data.toList) = nv) (g2 : parseV (denL s.data.toList) = dv) :
    Calls Tryz.prog 19 #[.string s] w fun e w' => ∃ v, e = .returned (.tuple #[v, .int .i64 0]) ∧ RatAt w' v (valQ s.data.toList) ∧ Below w.heap.size w w' := by
  have HMC := Lib.hid (show ((makeC dv : Nat) : Int) = 0 by unfold makeC; rw [if_neg hd]; rfl)
  have HDn := Lib.hid hd
  unfold valQ at hq ⊢
  rw [g1, g2] at hq ⊢
  have HNs := Lib.hid (show szN nv ≤ 1200 by rw [← g1]; exact parseV_sz _)
  have HDs := Lib.hid (show szN dv ≤ 1200 by rw [← g2]; exact parseV_sz _)
  have HSz := Lib.hid hs
  have HC1 := Lib.hid (show ((parseC (cutL (bodyL s.data.toList)).1 : Nat) : Int) = _ from h1)
  have HV1 := Lib.hid (show parseV (cutL (bodyL s.data.toList)).1 = nv from g1)
  have HB0 := Lib.hid (show Below (w.heap.size + 1) (w.alloc rat0) (w.alloc rat0) from Below.refl _ _)
  obtain ⟨ng, hng⟩ : ∃ ng, negL s.data.toList = ng := ⟨_, rfl⟩
  have HNeg := Lib.hid hng
  rw [hng] at hq ⊢
  have HQe : makeQ ng nv dv = lowQ ng nv dv := if_neg hd
  rw [← HQe] at hq ⊢
  clear HQe
  have HStr := Lib.hid (show str (textQ (makeQ ng nv dv)) = .string s by rw [hq])
  clear hq
  obtain ⟨hQs, hQd⟩ := mkQ_sz ng HNs.out HDs.out hd
  have HQs := Lib.hid hQs
  have HQd := Lib.hid hQd
  clear hQs hQd hd
  unfold denL at h2 g2
  obtain ⟨tw, htw⟩ : ∃ tw, (cutL (bodyL s.data.toList)).2.2 = tw := ⟨_, rfl⟩
  have HTwo := Lib.hid htw
  rw [htw] at h2 g2
  clear hng htw h1 g1
  cases tw
  · rw [if_neg (by decide)] at h2 g2
    have HC2 := Lib.hid h2
    have HV2 := Lib.hid g2
    clear h2 g2
    go_enter Tryz.func19, Tryz.ntmps19
    go_wp2_with (first
      | (go_at_call 56; refine (cutPrefix_at s _).mono ?_; rintro e w3 ⟨b3, rfl, hb3, hw⟩; subst hw; have HCt := Lib.hid (cut_any b3 (by rw [size_list, hb3]; have := bodyL_len s.data.toList; have := HSz.out; rw [size_list] at this; omega)); rw [hb3, HTwo.out] at HCt; rw [HNeg.out]; clear hb3)
      | (go_at_call 57; refine (HCt.out _).mono ?_; clear HCt; rintro e w4 ⟨a4, b4, rfl, ha4, hb4, hB4⟩; have HP1 := Lib.hid (natParse_at (s := a4) (by rw [size_list, ha4]; have := numL_len s.data.toList; have := HSz.out; rw [size_list] at this; unfold numL at *; omega) ha4 HC1.out HV1.out); have HP2 := Lib.hid (natParse_at (s := ⟨#[49]⟩) (by decide) rfl HC2.out HV2.out); have HB4 := Lib.hid (HB0.out.trans (hB4.mono (by simp))); clear ha4 hb4 hB4)
      | (go_at_call 58; refine (HP1.out _).mono ?_; clear HP1; rintro e w5 ⟨v5, rfl, hN5, hB5⟩; obtain ⟨a5, c5, rfl, hr5⟩ := hN5; have HR5 := Lib.hid hr5; have HB5 := Lib.hid (HB4.out.trans (hB5.mono (by have := HB4.out.size; simpa using this))); clear hr5 hB5)
      | (go_at_call 58; refine (HP2.out _).mono ?_; clear HP2; rintro e w6 ⟨v6, rfl, hN6, hB6⟩; obtain ⟨a6, c6, rfl, hr6⟩ := hN6; obtain ⟨kR, kN, kD, hB57, hBf, hz6, hz5⟩ := parse_boxes (v6 := .slice a6 (szN dv) c6) HB5.out hB6; have e0 := kR.cell 0; have e1 := kR.cell 1; have e2 := kR.cell 2; have f0 := kR.frozen 0; have f1 := kR.frozen 1; have f2 := kR.frozen 2; have en := kN.cell 0; have ed := kD.cell 0; have HKR := Lib.hid kR; have HBf := Lib.hid hBf; have HNn := Lib.hid (natAt_mk (c := c5) (HR5.out.below hB57)); have HNd := Lib.hid (natAt_mk (c := c6) (hr6.below ((Below.refl _ w6).alloc (Nat.le_refl _) (.cells #[.slice a6 (szN dv) c6] 57)))); clear hr6 hB6 kR kN kD hB57 hBf)
      | (go_at_call 59; refine (make_rat ng HNn.out HNd.out (Nat.le_trans HNs.out (by decide)) (Nat.le_trans HDs.out (by decide))).mono ?_; rintro e w8 ⟨v8, rfl, hN8, hB8⟩; rw [HMC.out]; obtain ⟨a8, c8, b8, d8, rfl, hr8, hs8⟩ := hN8; have HRt := Lib.hid ((ratAt_mk (c := c8) (d := d8) hr8 hs8).below ((Below.refl _ w8).alloc (Nat.le_refl _) (.cells #[.bool (negQ (makeQ ng nv dv)), .slice a8 (szN (numQ (makeQ ng nv dv))) c8, .slice b8 (szN (denQ (makeQ ng nv dv))) d8] 59))); have kR := (HKR.out.below hB8 HKR.out.lt).alloc (.cells #[.bool (negQ (makeQ ng nv dv)), .slice a8 (szN (numQ (makeQ ng nv dv))) c8, .slice b8 (szN (denQ (makeQ ng nv dv))) d8] 59); have e0 := kR.cell 0; have e1 := kR.cell 1; have e2 := kR.cell 2; have f0 := kR.frozen 0; have f1 := kR.frozen 1; have f2 := kR.frozen 2; have HKR8 := Lib.hid kR; have kQ := BlkAt.new w8 59 #[.bool (negQ (makeQ ng nv dv)), .slice a8 (szN (numQ (makeQ ng nv dv))) c8, .slice b8 (szN (denQ (makeQ ng nv dv))) d8]; have i0 := kQ.cell 0; have i1 := kQ.cell 1; have i2 := kQ.cell 2; have HKQ8 := Lib.hid kQ; have HB8 := Lib.hid ((HBf.out.trans (hB8.mono (by simp; omega))).alloc (by have h2 := hB8.size; simp at h2; omega) (.cells #[.bool (negQ (makeQ ng nv dv)), .slice a8 (szN (numQ (makeQ ng nv dv))) c8, .slice b8 (szN (denQ (makeQ ng nv dv))) d8] 59)); clear hr8 hs8 hB8 kR kQ)
      | (go_at_call 21; refine (ratText_any HRt.out HQs.out HQd.out).mono ?_; rintro e w9 ⟨rfl, hB9⟩; rw [HStr.out]; have kR := HKR8.out.below hB9 HKR8.out.lt; have e0 := kR.cell 0; have e1 := kR.cell 1; have e2 := kR.cell 2; have f0 := kR.frozen 0; have f1 := kR.frozen 1; have f2 := kR.frozen 2; have HKR9 := Lib.hid kR; have kQ := HKQ8.out.below hB9 HKQ8.out.lt; have i0 := kQ.cell 0; have i1 := kQ.cell 1; have i2 := kQ.cell 2; have HRt9 := Lib.hid (HRt.out.below hB9); have HB9 := Lib.hid (HB8.out.trans (hB9.mono (by have h2 := HB8.out.size; simp at h2; simp; omega))); clear hB9 kR kQ))
    obtain ⟨r1, r2, r3⟩ := res_rat HKR9.out rfl (Nat.le_refl _) (below_in HB9.out) HRt9.out
    exact bodyPost_ret (r_ct rfl rfl (aggRat.load rfl r1)) rfl ⟨_, rfl, r2, r3⟩
  · rw [if_pos rfl] at h2 g2
    have HC2 := Lib.hid h2
    have HV2 := Lib.hid g2
    clear h2 g2
    go_enter Tryz.func19, Tryz.ntmps19
    go_wp2_with (first
      | (go_at_call 56; refine (cutPrefix_at s _).mono ?_; rintro e w3 ⟨b3, rfl, hb3, hw⟩; subst hw; have HCt := Lib.hid (cut_any b3 (by rw [size_list, hb3]; have := bodyL_len s.data.toList; have := HSz.out; rw [size_list] at this; omega)); rw [hb3, HTwo.out] at HCt; rw [HNeg.out]; clear hb3)
      | (go_at_call 57; refine (HCt.out _).mono ?_; clear HCt; rintro e w4 ⟨a4, b4, rfl, ha4, hb4, hB4⟩; have HP1 := Lib.hid (natParse_at (s := a4) (by rw [size_list, ha4]; have := numL_len s.data.toList; have := HSz.out; rw [size_list] at this; unfold numL at *; omega) ha4 HC1.out HV1.out); have HP2 := Lib.hid (natParse_at (s := b4) (by rw [size_list, hb4]; have := (cutL_len (bodyL s.data.toList)).2; have := bodyL_len s.data.toList; have := HSz.out; rw [size_list] at this; omega) hb4 HC2.out HV2.out); have HB4 := Lib.hid (HB0.out.trans (hB4.mono (by simp))); clear ha4 hb4 hB4)
      | (go_at_call 58; refine (HP1.out _).mono ?_; clear HP1; rintro e w5 ⟨v5, rfl, hN5, hB5⟩; obtain ⟨a5, c5, rfl, hr5⟩ := hN5; have HR5 := Lib.hid hr5; have HB5 := Lib.hid (HB4.out.trans (hB5.mono (by have := HB4.out.size; simpa using this))); clear hr5 hB5)
      | (go_at_call 58; refine (HP2.out _).mono ?_; clear HP2; rintro e w6 ⟨v6, rfl, hN6, hB6⟩; obtain ⟨a6, c6, rfl, hr6⟩ := hN6; obtain ⟨kR, kN, kD, hB57, hBf, hz6, hz5⟩ := parse_boxes (v6 := .slice a6 (szN dv) c6) HB5.out hB6; have e0 := kR.cell 0; have e1 := kR.cell 1; have e2 := kR.cell 2; have f0 := kR.frozen 0; have f1 := kR.frozen 1; have f2 := kR.frozen 2; have en := kN.cell 0; have ed := kD.cell 0; have HKR := Lib.hid kR; have HBf := Lib.hid hBf; have HNn := Lib.hid (natAt_mk (c := c5) (HR5.out.below hB57)); have HNd := Lib.hid (natAt_mk (c := c6) (hr6.below ((Below.refl _ w6).alloc (Nat.le_refl _) (.cells #[.slice a6 (szN dv) c6] 57)))); clear hr6 hB6 kR kN kD hB57 hBf)
      | (go_at_call 59; refine (make_rat ng HNn.out HNd.out (Nat.le_trans HNs.out (by decide)) (Nat.le_trans HDs.out (by decide))).mono ?_; rintro e w8 ⟨v8, rfl, hN8, hB8⟩; rw [HMC.out]; obtain ⟨a8, c8, b8, d8, rfl, hr8, hs8⟩ := hN8; have HRt := Lib.hid ((ratAt_mk (c := c8) (d := d8) hr8 hs8).below ((Below.refl _ w8).alloc (Nat.le_refl _) (.cells #[.bool (negQ (makeQ ng nv dv)), .slice a8 (szN (numQ (makeQ ng nv dv))) c8, .slice b8 (szN (denQ (makeQ ng nv dv))) d8] 59))); have kR := (HKR.out.below hB8 HKR.out.lt).alloc (.cells #[.bool (negQ (makeQ ng nv dv)), .slice a8 (szN (numQ (makeQ ng nv dv))) c8, .slice b8 (szN (denQ (makeQ ng nv dv))) d8] 59); have e0 := kR.cell 0; have e1 := kR.cell 1; have e2 := kR.cell 2; have f0 := kR.frozen 0; have f1 := kR.frozen 1; have f2 := kR.frozen 2; have HKR8 := Lib.hid kR; have kQ := BlkAt.new w8 59 #[.bool (negQ (makeQ ng nv dv)), .slice a8 (szN (numQ (makeQ ng nv dv))) c8, .slice b8 (szN (denQ (makeQ ng nv dv))) d8]; have i0 := kQ.cell 0; have i1 := kQ.cell 1; have i2 := kQ.cell 2; have HKQ8 := Lib.hid kQ; have HB8 := Lib.hid ((HBf.out.trans (hB8.mono (by simp; omega))).alloc (by have h2 := hB8.size; simp at h2; omega) (.cells #[.bool (negQ (makeQ ng nv dv)), .slice a8 (szN (numQ (makeQ ng nv dv))) c8, .slice b8 (szN (denQ (makeQ ng nv dv))) d8] 59)); clear hr8 hs8 hB8 kR kQ)
      | (go_at_call 21; refine (ratText_any HRt.out HQs.out HQd.out).mono ?_; rintro e w9 ⟨rfl, hB9⟩; rw [HStr.out]; have kR := HKR8.out.below hB9 HKR8.out.lt; have e0 := kR.cell 0; have e1 := kR.cell 1; have e2 := kR.cell 2; have f0 := kR.frozen 0; have f1 := kR.frozen 1; have f2 := kR.frozen 2; have HKR9 := Lib.hid kR; have kQ := HKQ8.out.below hB9 HKQ8.out.lt; have i0 := kQ.cell 0; have i1 := kQ.cell 1; have i2 := kQ.cell 2; have HRt9 := Lib.hid (HRt.out.below hB9); have HB9 := Lib.hid (HB8.out.trans (hB9.mono (by have h2 := HB8.out.size; simp at h2; simp; omega))); clear hB9 kR kQ))
    obtain ⟨r1, r2, r3⟩ := res_rat HKR9.out rfl (Nat.le_refl _) (below_in HB9.out) HRt9.out
    exact bodyPost_ret (r_ct rfl rfl (aggRat.load rfl r1)) rfl ⟨_, rfl, r2, r3⟩
end Go.Proofs.YtjcpfmndkeiegaaGreatDoor
