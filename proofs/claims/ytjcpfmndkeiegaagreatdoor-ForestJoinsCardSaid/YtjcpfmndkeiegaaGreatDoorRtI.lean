/- The walk of rat's Parse: the refusals by form and by size. -/
import Derived.Test.YtjcpfmndkeiegaaGreatDoorRtFH
namespace Go.Proofs.YtjcpfmndkeiegaaGreatDoor
open Go.RowKit
set_option linter.unusedVariables false

theorem natParse_at {s : ByteArray} {l : List UInt8} {z : Int} {n : Nat} (hs : s.size ≤ 1000000) (hl : s.data.toList = l) (hz : ((parseC l : Nat) : Int) = z) (hn : parseV l = n) (w : World) :
    Calls Tryz.prog 58 #[.string s] w fun e w' => ∃ v, e = .returned (.tuple #[v, .int .i64 z]) ∧ NatAt w' v n ∧ Below w.heap.size w w' := by
  subst hl hz hn
  exact natParse_any s hs w
theorem cutPrefix_at (s : ByteArray) (w : World) : Calls Tryz.prog 56 #[.string s, .string ⟨#[45]⟩] w fun e w' => ∃ b : ByteArray, e = .returned (.tuple #[.string b, .bool (negL s.data.toList)]) ∧ b.data.toList = bodyL s.data.toList ∧ w' = w :=
  (Tryz.strings_CutPrefix s ⟨#[45]⟩ w).mono fun e w' ⟨h1, h2⟩ => ⟨_, h1, rfl, h2⟩
theorem size_list (b : ByteArray) : b.size = b.data.toList.length := by simp
theorem parseC_cases (l : List UInt8) : parseC l = 0 ∨ parseC l = 2 ∨ parseC l = 3 := by
  unfold parseC
  split
  · split
    · exact .inr (.inl rfl)
    · exact .inl rfl
  · exact .inr (.inr rfl)
/-- The boxes behind the two calls of nat.Parse. -/
theorem parse_boxes {w w5 w6 : World} {v5 v6 : Value} (h5 : Below (w.heap.size + 1) (w.alloc rat0) w5) (h6 : Below (w5.alloc (.cells #[v5] 57)).heap.size (w5.alloc (.cells #[v5] 57)) w6) :
    BlkAt (w6.alloc (.cells #[v6] 57)) w.heap.size 59 #[.bool false, .slice none 0 0, .slice none 0 0] ∧ BlkAt (w6.alloc (.cells #[v6] 57)) w5.heap.size 57 #[v5] ∧ BlkAt (w6.alloc (.cells #[v6] 57)) w6.heap.size 57 #[v6] ∧
      Below w5.heap.size w5 (w6.alloc (.cells #[v6] 57)) ∧ Below (w.heap.size + 1) (w.alloc rat0) (w6.alloc (.cells #[v6] 57)) ∧ w5.heap.size + 1 ≤ w6.heap.size ∧ w.heap.size + 1 ≤ w5.heap.size := by
  have hz5 : w.heap.size + 1 ≤ w5.heap.size := by have := h5.size; simpa using this
  have hz6 : w5.heap.size + 1 ≤ w6.heap.size := by have := h6.size; simpa using this
  have hk := ((rat_free h5).alloc (.cells #[v5] 57))
  have h56 : Below w5.heap.size w5 w6 := ((Below.refl _ w5).alloc (Nat.le_refl _) (.cells #[v5] 57)).trans (h6.mono (by simp))
  refine ⟨(hk.below h6 hk.lt).alloc _, ((BlkAt.new w5 _ _).below h6 (by simp)).alloc _, BlkAt.new w6 _ _, h56.alloc (by omega) _, h5.trans ((h56.alloc (by omega) _).mono hz5), hz6, hz5⟩
set_option maxRecDepth 20000 in
set_option maxHeartbeats 8000000 in
theorem rp_formA (s : ByteArray) (hs : s.size ≤ 100000) (w : World) {z1 z2 : Int} {nv dv : Nat} (ez1 : z1 = 3)  (h1 : ((parseC (numL s.data.toList) : Nat) : Int) = z1) (h2 : ((parseC (denL s.data.toList) : Nat) : Int) = z2) (g1 : parseV (numL s.data.toList) = nv) (g2 : parseV (denL s.data.toList) = dv) :
    Calls Tryz.prog 19 #[.string s] w fun e w' => ∃ v, e = .returned (.tuple #[v, .int .i64 3]) ∧ RatAt w' v 0 ∧ Below w.heap.size w w' := by
  obtain rfl : z1 = 3 := ez1
  have HSz := Lib.hid hs
  have HC1 := Lib.hid (show ((parseC (cutL (bodyL s.data.toList)).1 : Nat) : Int) = _ from h1)
  have HV1 := Lib.hid (show parseV (cutL (bodyL s.data.toList)).1 = nv from g1)
  have HB0 := Lib.hid (show Below (w.heap.size + 1) (w.alloc rat0) (w.alloc rat0) from Below.refl _ _)
  obtain ⟨ng, hng⟩ : ∃ ng, negL s.data.toList = ng := ⟨_, rfl⟩
  have HNeg := Lib.hid hng
  unfold denL at h2 g2
  obtain ⟨tw, htw⟩ : ∃ tw, (cutL (bodyL s.data.toList)).2.2 = tw := ⟨_, rfl⟩
  have HTwo := Lib.hid htw
  rw [htw] at h2 g2
  clear hng htw h1 g1
  cases tw
  · rw [if_neg (by decide)] at h2 g2
    have HC2 := Lib.hid h2
    have HV2 := Lib.hid g2
    clear h2 g2
    go_enter Tryz.func19, Tryz.ntmps19
    go_wp2_with (first
      | (go_at_call 56; refine (cutPrefix_at s _).mono ?_; rintro e w3 ⟨b3, rfl, hb3, hw⟩; subst hw; have HCt := Lib.hid (cut_any b3 (by rw [size_list, hb3]; have := bodyL_len s.data.toList; have := HSz.out; rw [size_list] at this; omega)); rw [hb3, HTwo.out] at HCt; rw [HNeg.out]; clear hb3)
      | (go_at_call 57; refine (HCt.out _).mono ?_; clear HCt; rintro e w4 ⟨a4, b4, rfl, ha4, hb4, hB4⟩; have HP1 := Lib.hid (natParse_at (s := a4) (by rw [size_list, ha4]; have := numL_len s.data.toList; have := HSz.out; rw [size_list] at this; unfold numL at *; omega) ha4 HC1.out HV1.out); have HP2 := Lib.hid (natParse_at (s := ⟨#[49]⟩) (by decide) rfl HC2.out HV2.out); have HB4 := Lib.hid (HB0.out.trans (hB4.mono (by simp))); clear ha4 hb4 hB4)
      | (go_at_call 58; refine (HP1.out _).mono ?_; clear HP1; rintro e w5 ⟨v5, rfl, hN5, hB5⟩; obtain ⟨a5, c5, rfl, hr5⟩ := hN5; have HR5 := Lib.hid hr5; have HB5 := Lib.hid (HB4.out.trans (hB5.mono (by have := HB4.out.size; simpa using this))); clear hr5 hB5)
      | (go_at_call 58; refine (HP2.out _).mono ?_; clear HP2; rintro e w6 ⟨v6, rfl, hN6, hB6⟩; obtain ⟨a6, c6, rfl, hr6⟩ := hN6; obtain ⟨kR, kN, kD, hB57, hBf, hz6, hz5⟩ := parse_boxes (v6 := .slice a6 (szN dv) c6) HB5.out hB6; have e0 := kR.cell 0; have e1 := kR.cell 1; have e2 := kR.cell 2; have f0 := kR.frozen 0; have f1 := kR.frozen 1; have f2 := kR.frozen 2; have en := kN.cell 0; have ed := kD.cell 0; have HKR := Lib.hid kR; have HBf := Lib.hid hBf; have HNn := Lib.hid (natAt_mk (c := c5) (HR5.out.below hB57)); have HNd := Lib.hid (natAt_mk (c := c6) (hr6.below ((Below.refl _ w6).alloc (Nat.le_refl _) (.cells #[.slice a6 (szN dv) c6] 57)))); clear hr6 hB6 kR kN kD hB57 hBf))
    obtain ⟨r1, r2, r3⟩ := res_rat HKR.out rfl (Nat.le_refl _) (below_in HBf.out) (RatAt.zero _ 0 0)
    exact bodyPost_ret (r_ct rfl rfl (aggRat.load rfl r1)) rfl ⟨_, rfl, r2, r3⟩
  · rw [if_pos rfl] at h2 g2
    have HC2 := Lib.hid h2
    have HV2 := Lib.hid g2
    clear h2 g2
    go_enter Tryz.func19, Tryz.ntmps19
    go_wp2_with (first
      | (go_at_call 56; refine (cutPrefix_at s _).mono ?_; rintro e w3 ⟨b3, rfl, hb3, hw⟩; subst hw; have HCt := Lib.hid (cut_any b3 (by rw [size_list, hb3]; have := bodyL_len s.data.toList; have := HSz.out; rw [size_list] at this; omega)); rw [hb3, HTwo.out] at HCt; rw [HNeg.out]; clear hb3)
      | (go_at_call 57; refine (HCt.out _).mono ?_; clear HCt; rintro e w4 ⟨a4, b4, rfl, ha4, hb4, hB4⟩; have HP1 := Lib.hid (natParse_at (s := a4) (by rw [size_list, ha4]; have := numL_len s.data.toList; have := HSz.out; rw [size_list] at this; unfold numL at *; omega) ha4 HC1.out HV1.out); have HP2 := Lib.hid (natParse_at (s := b4) (by rw [size_list, hb4]; have := (cutL_len (bodyL s.data.toList)).2; have := bodyL_len s.data.toList; have := HSz.out; rw [size_list] at this; omega) hb4 HC2.out HV2.out); have HB4 := Lib.hid (HB0.out.trans (hB4.mono (by simp))); clear ha4 hb4 hB4)
      | (go_at_call 58; refine (HP1.out _).mono ?_; clear HP1; rintro e w5 ⟨v5, rfl, hN5, hB5⟩; obtain ⟨a5, c5, rfl, hr5⟩ := hN5; have HR5 := Lib.hid hr5; have HB5 := Lib.hid (HB4.out.trans (hB5.mono (by have := HB4.out.size; simpa using this))); clear hr5 hB5)
      | (go_at_call 58; refine (HP2.out _).mono ?_; clear HP2; rintro e w6 ⟨v6, rfl, hN6, hB6⟩; obtain ⟨a6, c6, rfl, hr6⟩ := hN6; obtain ⟨kR, kN, kD, hB57, hBf, hz6, hz5⟩ := parse_boxes (v6 := .slice a6 (szN dv) c6) HB5.out hB6; have e0 := kR.cell 0; have e1 := kR.cell 1; have e2 := kR.cell 2; have f0 := kR.frozen 0; have f1 := kR.frozen 1; have f2 := kR.frozen 2; have en := kN.cell 0; have ed := kD.cell 0; have HKR := Lib.hid kR; have HBf := Lib.hid hBf; have HNn := Lib.hid (natAt_mk (c := c5) (HR5.out.below hB57)); have HNd := Lib.hid (natAt_mk (c := c6) (hr6.below ((Below.refl _ w6).alloc (Nat.le_refl _) (.cells #[.slice a6 (szN dv) c6] 57)))); clear hr6 hB6 kR kN kD hB57 hBf))
    obtain ⟨r1, r2, r3⟩ := res_rat HKR.out rfl (Nat.le_refl _) (below_in HBf.out) (RatAt.zero _ 0 0)
    exact bodyPost_ret (r_ct rfl rfl (aggRat.load rfl r1)) rfl ⟨_, rfl, r2, r3⟩
set_option maxRecDepth 20000 in
set_option maxHeartbeats 8000000 in
theorem rp_formB (s : ByteArray) (hs : s.size ≤ 100000) (w : World) {z1 z2 : Int} {nv dv : Nat} (ez2 : z2 = 3) (hne : (z1 == 3) = false) (h1 : ((parseC (numL s.data.toList) : Nat) : Int) = z1) (h2 : ((parseC (denL s.data.toList) : Nat) : Int) = z2) (g1 : parseV (numL s.data.toList) = nv) (g2 : parseV (denL s.data.toList) = dv) :
    Calls Tryz.prog 19 #[.string s] w fun e w' => ∃ v, e = .returned (.tuple #[v, .int .i64 3]) ∧ RatAt w' v 0 ∧ Below w.heap.size w w' := by
  obtain rfl : z2 = 3 := ez2
  have HSz := Lib.hid hs
  have HC1 := Lib.hid (show ((parseC (cutL (bodyL s.data.toList)).1 : Nat) : Int) = _ from h1)
  have HV1 := Lib.hid (show parseV (cutL (bodyL s.data.toList)).1 = nv from g1)
  have HB0 := Lib.hid (show Below (w.heap.size + 1) (w.alloc rat0) (w.alloc rat0) from Below.refl _ _)
  obtain ⟨ng, hng⟩ : ∃ ng, negL s.data.toList = ng := ⟨_, rfl⟩
  have HNeg := Lib.hid hng
  unfold denL at h2 g2
  obtain ⟨tw, htw⟩ : ∃ tw, (cutL (bodyL s.data.toList)).2.2 = tw := ⟨_, rfl⟩
  have HTwo := Lib.hid htw
  rw [htw] at h2 g2
  clear hng htw h1 g1
  cases tw
  · rw [if_neg (by decide)] at h2 g2
    have HC2 := Lib.hid h2
    have HV2 := Lib.hid g2
    clear h2 g2
    go_enter Tryz.func19, Tryz.ntmps19
    go_wp2_with (first
      | (go_at_call 56; refine (cutPrefix_at s _).mono ?_; rintro e w3 ⟨b3, rfl, hb3, hw⟩; subst hw; have HCt := Lib.hid (cut_any b3 (by rw [size_list, hb3]; have := bodyL_len s.data.toList; have := HSz.out; rw [size_list] at this; omega)); rw [hb3, HTwo.out] at HCt; rw [HNeg.out]; clear hb3)
      | (go_at_call 57; refine (HCt.out _).mono ?_; clear HCt; rintro e w4 ⟨a4, b4, rfl, ha4, hb4, hB4⟩; have HP1 := Lib.hid (natParse_at (s := a4) (by rw [size_list, ha4]; have := numL_len s.data.toList; have := HSz.out; rw [size_list] at this; unfold numL at *; omega) ha4 HC1.out HV1.out); have HP2 := Lib.hid (natParse_at (s := ⟨#[49]⟩) (by decide) rfl HC2.out HV2.out); have HB4 := Lib.hid (HB0.out.trans (hB4.mono (by simp))); clear ha4 hb4 hB4)
      | (go_at_call 58; refine (HP1.out _).mono ?_; clear HP1; rintro e w5 ⟨v5, rfl, hN5, hB5⟩; obtain ⟨a5, c5, rfl, hr5⟩ := hN5; have HR5 := Lib.hid hr5; have HB5 := Lib.hid (HB4.out.trans (hB5.mono (by have := HB4.out.size; simpa using this))); clear hr5 hB5)
      | (go_at_call 58; refine (HP2.out _).mono ?_; clear HP2; rintro e w6 ⟨v6, rfl, hN6, hB6⟩; obtain ⟨a6, c6, rfl, hr6⟩ := hN6; obtain ⟨kR, kN, kD, hB57, hBf, hz6, hz5⟩ := parse_boxes (v6 := .slice a6 (szN dv) c6) HB5.out hB6; have e0 := kR.cell 0; have e1 := kR.cell 1; have e2 := kR.cell 2; have f0 := kR.frozen 0; have f1 := kR.frozen 1; have f2 := kR.frozen 2; have en := kN.cell 0; have ed := kD.cell 0; have HKR := Lib.hid kR; have HBf := Lib.hid hBf; have HNn := Lib.hid (natAt_mk (c := c5) (HR5.out.below hB57)); have HNd := Lib.hid (natAt_mk (c := c6) (hr6.below ((Below.refl _ w6).alloc (Nat.le_refl _) (.cells #[.slice a6 (szN dv) c6] 57)))); clear hr6 hB6 kR kN kD hB57 hBf))
    obtain ⟨r1, r2, r3⟩ := res_rat HKR.out rfl (Nat.le_refl _) (below_in HBf.out) (RatAt.zero _ 0 0)
    exact bodyPost_ret (r_ct rfl rfl (aggRat.load rfl r1)) rfl ⟨_, rfl, r2, r3⟩
  · rw [if_pos rfl] at h2 g2
    have HC2 := Lib.hid h2
    have HV2 := Lib.hid g2
    clear h2 g2
    go_enter Tryz.func19, Tryz.ntmps19
    go_wp2_with (first
      | (go_at_call 56; refine (cutPrefix_at s _).mono ?_; rintro e w3 ⟨b3, rfl, hb3, hw⟩; subst hw; have HCt := Lib.hid (cut_any b3 (by rw [size_list, hb3]; have := bodyL_len s.data.toList; have := HSz.out; rw [size_list] at this; omega)); rw [hb3, HTwo.out] at HCt; rw [HNeg.out]; clear hb3)
      | (go_at_call 57; refine (HCt.out _).mono ?_; clear HCt; rintro e w4 ⟨a4, b4, rfl, ha4, hb4, hB4⟩; have HP1 := Lib.hid (natParse_at (s := a4) (by rw [size_list, ha4]; have := numL_len s.data.toList; have := HSz.out; rw [size_list] at this; unfold numL at *; omega) ha4 HC1.out HV1.out); have HP2 := Lib.hid (natParse_at (s := b4) (by rw [size_list, hb4]; have := (cutL_len (bodyL s.data.toList)).2; have := bodyL_len s.data.toList; have := HSz.out; rw [size_list] at this; omega) hb4 HC2.out HV2.out); have HB4 := Lib.hid (HB0.out.trans (hB4.mono (by simp))); clear ha4 hb4 hB4)
      | (go_at_call 58; refine (HP1.out _).mono ?_; clear HP1; rintro e w5 ⟨v5, rfl, hN5, hB5⟩; obtain ⟨a5, c5, rfl, hr5⟩ := hN5; have HR5 := Lib.hid hr5; have HB5 := Lib.hid (HB4.out.trans (hB5.mono (by have := HB4.out.size; simpa using this))); clear hr5 hB5)
      | (go_at_call 58; refine (HP2.out _).mono ?_; clear HP2; rintro e w6 ⟨v6, rfl, hN6, hB6⟩; obtain ⟨a6, c6, rfl, hr6⟩ := hN6; obtain ⟨kR, kN, kD, hB57, hBf, hz6, hz5⟩ := parse_boxes (v6 := .slice a6 (szN dv) c6) HB5.out hB6; have e0 := kR.cell 0; have e1 := kR.cell 1; have e2 := kR.cell 2; have f0 := kR.frozen 0; have f1 := kR.frozen 1; have f2 := kR.frozen 2; have en := kN.cell 0; have ed := kD.cell 0; have HKR := Lib.hid kR; have HBf := Lib.hid hBf; have HNn := Lib.hid (natAt_mk (c := c5) (HR5.out.below hB57)); have HNd := Lib.hid (natAt_mk (c := c6) (hr6.below ((Below.refl _ w6).alloc (Nat.le_refl _) (.cells #[.slice a6 (szN dv) c6] 57)))); clear hr6 hB6 kR kN kD hB57 hBf))
    obtain ⟨r1, r2, r3⟩ := res_rat HKR.out rfl (Nat.le_refl _) (below_in HBf.out) (RatAt.zero _ 0 0)
    exact bodyPost_ret (r_ct rfl rfl (aggRat.load rfl r1)) rfl ⟨_, rfl, r2, r3⟩
set_option maxRecDepth 20000 in
set_option maxHeartbeats 8000000 in
theorem rp_limA (s : ByteArray) (hs : s.size ≤ 100000) (w : World) {z1 z2 : Int} {nv dv : Nat} (ez1 : z1 = 2) (hne : (z2 == 3) = false) (h1 : ((parseC (numL s.data.toList) : Nat) : Int) = z1) (h2 : ((parseC (denL s.data.toList) : Nat) : Int) = z2) (g1 : parseV (numL s.data.toList) = nv) (g2 : parseV (denL s.data.toList) = dv) :
    Calls Tryz.prog 19 #[.string s] w fun e w' => ∃ v, e = .returned (.tuple #[v, .int .i64 2]) ∧ RatAt w' v 0 ∧ Below w.heap.size w w' := by
  obtain rfl : z1 = 2 := ez1
  have HSz := Lib.hid hs
  have HC1 := Lib.hid (show ((parseC (cutL (bodyL s.data.toList)).1 : Nat) : Int) = _ from h1)
  have HV1 := Lib.hid (show parseV (cutL (bodyL s.data.toList)).1 = nv from g1)
  have HB0 := Lib.hid (show Below (w.heap.size + 1) (w.alloc rat0) (w.alloc rat0) from Below.refl _ _)
  obtain ⟨ng, hng⟩ : ∃ ng, negL s.data.toList = ng := ⟨_, rfl⟩
  have HNeg := Lib.hid hng
  unfold denL at h2 g2
  obtain ⟨tw, htw⟩ : ∃ tw, (cutL (bodyL s.data.toList)).2.2 = tw := ⟨_, rfl⟩
  have HTwo := Lib.hid htw
  rw [htw] at h2 g2
  clear hng htw h1 g1
  cases tw
  · rw [if_neg (by decide)] at h2 g2
    have HC2 := Lib.hid h2
    have HV2 := Lib.hid g2
    clear h2 g2
    go_enter Tryz.func19, Tryz.ntmps19
    go_wp2_with (first
      | (go_at_call 56; refine (cutPrefix_at s _).mono ?_; rintro e w3 ⟨b3, rfl, hb3, hw⟩; subst hw; have HCt := Lib.hid (cut_any b3 (by rw [size_list, hb3]; have := bodyL_len s.data.toList; have := HSz.out; rw [size_list] at this; omega)); rw [hb3, HTwo.out] at HCt; rw [HNeg.out]; clear hb3)
      | (go_at_call 57; refine (HCt.out _).mono ?_; clear HCt; rintro e w4 ⟨a4, b4, rfl, ha4, hb4, hB4⟩; have HP1 := Lib.hid (natParse_at (s := a4) (by rw [size_list, ha4]; have := numL_len s.data.toList; have := HSz.out; rw [size_list] at this; unfold numL at *; omega) ha4 HC1.out HV1.out); have HP2 := Lib.hid (natParse_at (s := ⟨#[49]⟩) (by decide) rfl HC2.out HV2.out); have HB4 := Lib.hid (HB0.out.trans (hB4.mono (by simp))); clear ha4 hb4 hB4)
      | (go_at_call 58; refine (HP1.out _).mono ?_; clear HP1; rintro e w5 ⟨v5, rfl, hN5, hB5⟩; obtain ⟨a5, c5, rfl, hr5⟩ := hN5; have HR5 := Lib.hid hr5; have HB5 := Lib.hid (HB4.out.trans (hB5.mono (by have := HB4.out.size; simpa using this))); clear hr5 hB5)
      | (go_at_call 58; refine (HP2.out _).mono ?_; clear HP2; rintro e w6 ⟨v6, rfl, hN6, hB6⟩; obtain ⟨a6, c6, rfl, hr6⟩ := hN6; obtain ⟨kR, kN, kD, hB57, hBf, hz6, hz5⟩ := parse_boxes (v6 := .slice a6 (szN dv) c6) HB5.out hB6; have e0 := kR.cell 0; have e1 := kR.cell 1; have e2 := kR.cell 2; have f0 := kR.frozen 0; have f1 := kR.frozen 1; have f2 := kR.frozen 2; have en := kN.cell 0; have ed := kD.cell 0; have HKR := Lib.hid kR; have HBf := Lib.hid hBf; have HNn := Lib.hid (natAt_mk (c := c5) (HR5.out.below hB57)); have HNd := Lib.hid (natAt_mk (c := c6) (hr6.below ((Below.refl _ w6).alloc (Nat.le_refl _) (.cells #[.slice a6 (szN dv) c6] 57)))); clear hr6 hB6 kR kN kD hB57 hBf))
    obtain ⟨r1, r2, r3⟩ := res_rat HKR.out rfl (Nat.le_refl _) (below_in HBf.out) (RatAt.zero _ 0 0)
    exact bodyPost_ret (r_ct rfl rfl (aggRat.load rfl r1)) rfl ⟨_, rfl, r2, r3⟩
  · rw [if_pos rfl] at h2 g2
    have HC2 := Lib.hid h2
    have HV2 := Lib.hid g2
    clear h2 g2
    go_enter Tryz.func19, Tryz.ntmps19
    go_wp2_with (first
      | (go_at_call 56; refine (cutPrefix_at s _).mono ?_; rintro e w3 ⟨b3, rfl, hb3, hw⟩; subst hw; have HCt := Lib.hid (cut_any b3 (by rw [size_list, hb3]; have := bodyL_len s.data.toList; have := HSz.out; rw [size_list] at this; omega)); rw [hb3, HTwo.out] at HCt; rw [HNeg.out]; clear hb3)
      | (go_at_call 57; refine (HCt.out _).mono ?_; clear HCt; rintro e w4 ⟨a4, b4, rfl, ha4, hb4, hB4⟩; have HP1 := Lib.hid (natParse_at (s := a4) (by rw [size_list, ha4]; have := numL_len s.data.toList; have := HSz.out; rw [size_list] at this; unfold numL at *; omega) ha4 HC1.out HV1.out); have HP2 := Lib.hid (natParse_at (s := b4) (by rw [size_list, hb4]; have := (cutL_len (bodyL s.data.toList)).2; have := bodyL_len s.data.toList; have := HSz.out; rw [size_list] at this; omega) hb4 HC2.out HV2.out); have HB4 := Lib.hid (HB0.out.trans (hB4.mono (by simp))); clear ha4 hb4 hB4)
      | (go_at_call 58; refine (HP1.out _).mono ?_; clear HP1; rintro e w5 ⟨v5, rfl, hN5, hB5⟩; obtain ⟨a5, c5, rfl, hr5⟩ := hN5; have HR5 := Lib.hid hr5; have HB5 := Lib.hid (HB4.out.trans (hB5.mono (by have := HB4.out.size; simpa using this))); clear hr5 hB5)
      | (go_at_call 58; refine (HP2.out _).mono ?_; clear HP2; rintro e w6 ⟨v6, rfl, hN6, hB6⟩; obtain ⟨a6, c6, rfl, hr6⟩ := hN6; obtain ⟨kR, kN, kD, hB57, hBf, hz6, hz5⟩ := parse_boxes (v6 := .slice a6 (szN dv) c6) HB5.out hB6; have e0 := kR.cell 0; have e1 := kR.cell 1; have e2 := kR.cell 2; have f0 := kR.frozen 0; have f1 := kR.frozen 1; have f2 := kR.frozen 2; have en := kN.cell 0; have ed := kD.cell 0; have HKR := Lib.hid kR; have HBf := Lib.hid hBf; have HNn := Lib.hid (natAt_mk (c := c5) (HR5.out.below hB57)); have HNd := Lib.hid (natAt_mk (c := c6) (hr6.below ((Below.refl _ w6).alloc (Nat.le_refl _) (.cells #[.slice a6 (szN dv) c6] 57)))); clear hr6 hB6 kR kN kD hB57 hBf))
    obtain ⟨r1, r2, r3⟩ := res_rat HKR.out rfl (Nat.le_refl _) (below_in HBf.out) (RatAt.zero _ 0 0)
    exact bodyPost_ret (r_ct rfl rfl (aggRat.load rfl r1)) rfl ⟨_, rfl, r2, r3⟩
set_option maxRecDepth 20000 in
set_option maxHeartbeats 8000000 in
theorem rp_limB (s : ByteArray) (hs : s.size ≤ 100000) (w : World) {z1 z2 : Int} {nv dv : Nat} (ez1 : z1 = 0) (ez2 : z2 = 2)  (h1 : ((parseC (numL s.data.toList) : Nat) : Int) = z1) (h2 : ((parseC (denL s.data.toList) : Nat) : Int) = z2) (g1 : parseV (numL s.data.toList) = nv) (g2 : parseV (denL s.data.toList) = dv) :
    Calls Tryz.prog 19 #[.string s] w fun e w' => ∃ v, e = .returned (.tuple #[v, .int .i64 2]) ∧ RatAt w' v 0 ∧ Below w.heap.size w w' := by
  obtain rfl : z1 = 0 := ez1
  obtain rfl : z2 = 2 := ez2
  have HSz := Lib.hid hs
  have HC1 := Lib.hid (show ((parseC (cutL (bodyL s.data.toList)).1 : Nat) : Int) = _ from h1)
  have HV1 := Lib.hid (show parseV (cutL (bodyL s.data.toList)).1 = nv from g1)
  have HB0 := Lib.hid (show Below (w.heap.size + 1) (w.alloc rat0) (w.alloc rat0) from Below.refl _ _)
  obtain ⟨ng, hng⟩ : ∃ ng, negL s.data.toList = ng := ⟨_, rfl⟩
  have HNeg := Lib.hid hng
  unfold denL at h2 g2
  obtain ⟨tw, htw⟩ : ∃ tw, (cutL (bodyL s.data.toList)).2.2 = tw := ⟨_, rfl⟩
  have HTwo := Lib.hid htw
  rw [htw] at h2 g2
  clear hng htw h1 g1
  cases tw
  · rw [if_neg (by decide)] at h2 g2
    have HC2 := Lib.hid h2
    have HV2 := Lib.hid g2
    clear h2 g2
    go_enter Tryz.func19, Tryz.ntmps19
    go_wp2_with (first
      | (go_at_call 56; refine (cutPrefix_at s _).mono ?_; rintro e w3 ⟨b3, rfl, hb3, hw⟩; subst hw; have HCt := Lib.hid (cut_any b3 (by rw [size_list, hb3]; have := bodyL_len s.data.toList; have := HSz.out; rw [size_list] at this; omega)); rw [hb3, HTwo.out] at HCt; rw [HNeg.out]; clear hb3)
      | (go_at_call 57; refine (HCt.out _).mono ?_; clear HCt; rintro e w4 ⟨a4, b4, rfl, ha4, hb4, hB4⟩; have HP1 := Lib.hid (natParse_at (s := a4) (by rw [size_list, ha4]; have := numL_len s.data.toList; have := HSz.out; rw [size_list] at this; unfold numL at *; omega) ha4 HC1.out HV1.out); have HP2 := Lib.hid (natParse_at (s := ⟨#[49]⟩) (by decide) rfl HC2.out HV2.out); have HB4 := Lib.hid (HB0.out.trans (hB4.mono (by simp))); clear ha4 hb4 hB4)
      | (go_at_call 58; refine (HP1.out _).mono ?_; clear HP1; rintro e w5 ⟨v5, rfl, hN5, hB5⟩; obtain ⟨a5, c5, rfl, hr5⟩ := hN5; have HR5 := Lib.hid hr5; have HB5 := Lib.hid (HB4.out.trans (hB5.mono (by have := HB4.out.size; simpa using this))); clear hr5 hB5)
      | (go_at_call 58; refine (HP2.out _).mono ?_; clear HP2; rintro e w6 ⟨v6, rfl, hN6, hB6⟩; obtain ⟨a6, c6, rfl, hr6⟩ := hN6; obtain ⟨kR, kN, kD, hB57, hBf, hz6, hz5⟩ := parse_boxes (v6 := .slice a6 (szN dv) c6) HB5.out hB6; have e0 := kR.cell 0; have e1 := kR.cell 1; have e2 := kR.cell 2; have f0 := kR.frozen 0; have f1 := kR.frozen 1; have f2 := kR.frozen 2; have en := kN.cell 0; have ed := kD.cell 0; have HKR := Lib.hid kR; have HBf := Lib.hid hBf; have HNn := Lib.hid (natAt_mk (c := c5) (HR5.out.below hB57)); have HNd := Lib.hid (natAt_mk (c := c6) (hr6.below ((Below.refl _ w6).alloc (Nat.le_refl _) (.cells #[.slice a6 (szN dv) c6] 57)))); clear hr6 hB6 kR kN kD hB57 hBf))
    obtain ⟨r1, r2, r3⟩ := res_rat HKR.out rfl (Nat.le_refl _) (below_in HBf.out) (RatAt.zero _ 0 0)
    exact bodyPost_ret (r_ct rfl rfl (aggRat.load rfl r1)) rfl ⟨_, rfl, r2, r3⟩
  · rw [if_pos rfl] at h2 g2
    have HC2 := Lib.hid h2
    have HV2 := Lib.hid g2
    clear h2 g2
    go_enter Tryz.func19, Tryz.ntmps19
    go_wp2_with (first
      | (go_at_call 56; refine (cutPrefix_at s _).mono ?_; rintro e w3 ⟨b3, rfl, hb3, hw⟩; subst hw; have HCt := Lib.hid (cut_any b3 (by rw [size_list, hb3]; have := bodyL_len s.data.toList; have := HSz.out; rw [size_list] at this; omega)); rw [hb3, HTwo.out] at HCt; rw [HNeg.out]; clear hb3)
      | (go_at_call 57; refine (HCt.out _).mono ?_; clear HCt; rintro e w4 ⟨a4, b4, rfl, ha4, hb4, hB4⟩; have HP1 := Lib.hid (natParse_at (s := a4) (by rw [size_list, ha4]; have := numL_len s.data.toList; have := HSz.out; rw [size_list] at this; unfold numL at *; omega) ha4 HC1.out HV1.out); have HP2 := Lib.hid (natParse_at (s := b4) (by rw [size_list, hb4]; have := (cutL_len (bodyL s.data.toList)).2; have := bodyL_len s.data.toList; have := HSz.out; rw [size_list] at this; omega) hb4 HC2.out HV2.out); have HB4 := Lib.hid (HB0.out.trans (hB4.mono (by simp))); clear ha4 hb4 hB4)
      | (go_at_call 58; refine (HP1.out _).mono ?_; clear HP1; rintro e w5 ⟨v5, rfl, hN5, hB5⟩; obtain ⟨a5, c5, rfl, hr5⟩ := hN5; have HR5 := Lib.hid hr5; have HB5 := Lib.hid (HB4.out.trans (hB5.mono (by have := HB4.out.size; simpa using this))); clear hr5 hB5)
      | (go_at_call 58; refine (HP2.out _).mono ?_; clear HP2; rintro e w6 ⟨v6, rfl, hN6, hB6⟩; obtain ⟨a6, c6, rfl, hr6⟩ := hN6; obtain ⟨kR, kN, kD, hB57, hBf, hz6, hz5⟩ := parse_boxes (v6 := .slice a6 (szN dv) c6) HB5.out hB6; have e0 := kR.cell 0; have e1 := kR.cell 1; have e2 := kR.cell 2; have f0 := kR.frozen 0; have f1 := kR.frozen 1; have f2 := kR.frozen 2; have en := kN.cell 0; have ed := kD.cell 0; have HKR := Lib.hid kR; have HBf := Lib.hid hBf; have HNn := Lib.hid (natAt_mk (c := c5) (HR5.out.below hB57)); have HNd := Lib.hid (natAt_mk (c := c6) (hr6.below ((Below.refl _ w6).alloc (Nat.le_refl _) (.cells #[.slice a6 (szN dv) c6] 57)))); clear hr6 hB6 kR kN kD hB57 hBf))
    obtain ⟨r1, r2, r3⟩ := res_rat HKR.out rfl (Nat.le_refl _) (below_in HBf.out) (RatAt.zero _ 0 0)
    exact bodyPost_ret (r_ct rfl rfl (aggRat.load rfl r1)) rfl ⟨_, rfl, r2, r3⟩
end Go.Proofs.YtjcpfmndkeiegaaGreatDoor
