/- The walk of nat.Sub. -/
import Derived.Test.YtjcpfmndkeiegaaGreatDoorNtE
namespace Go.Proofs.YtjcpfmndkeiegaaGreatDoor
open Go.RowKit
set_option linter.unusedVariables false

/-- 'x & 1'. -/
theorem and1 (x : Int) (h0 : 0 ≤ x) (h : x < 18446744073709551616) : bits .and .u64 x 1 = x % 2 := by
  obtain ⟨r, rfl⟩ : ∃ r : Nat, x = r := ⟨x.toNat, by omega⟩
  show IntKind.u64.wrap ((BitVec.ofInt 64 (r : Int) &&& BitVec.ofInt 64 1).toNat : Int) = _
  rw [BitVec.toNat_and, BitVec.toNat_ofInt]
  have e1 : ((r : Int) % ((2 ^ 64 : Nat) : Int)).toNat = r := by omega
  have e2 : (BitVec.ofInt 64 1).toNat = 2 ^ 1 - 1 := by decide
  rw [e1, e2, Nat.and_two_pow_sub_one_eq_mod]
  simp [IntKind.wrap, IntKind.bits, IntKind.signed]
  omega
/-- One limb's difference. -/
theorem sub_dig (x b : Nat) (hx : x < 4294967296) (hb : b ≤ 4294967296) : ∃ (d w' : Nat) (dI : Int), d < 4294967296 ∧ w' ≤ 1 ∧ x + 4294967296 * w' = d + b ∧ 0 ≤ dI ∧ dI ≤ 18446744073709551615 ∧
    (¬ b ≤ x → IntKind.u64.wrap ((x : Int) - (b : Int)) = dI) ∧ (b ≤ x → (x : Int) - (b : Int) = dI) ∧ bits .and .u64 dI 4294967295 = (d : Int) ∧ bits .and .u64 (dI / 4294967296) 1 = (w' : Int) := by
  by_cases h : b ≤ x
  · refine ⟨x - b, 0, (x : Int) - (b : Int), by omega, by omega, by omega, by omega, by omega, fun hn => absurd h hn, fun _ => rfl, ?_, ?_⟩
    · rw [and32 _ (by omega) (by omega)]; omega
    · rw [and1 _ (by omega) (by omega)]; omega
  · refine ⟨x + 4294967296 - b, 1, (x : Int) - (b : Int) + 18446744073709551616, by omega, by omega, by omega, by omega, by omega, fun _ => ?_, fun hn => absurd hn h, ?_, ?_⟩
    · simp [IntKind.wrap, IntKind.bits, IntKind.signed]; omega
    · rw [and32 _ (by omega) (by omega)]; omega
    · rw [and1 _ (by omega) (by omega)]; omega
/-- The loop of Sub. -/
def SubL (y T : Nat) (w : World) (base : Nat) (L : List Nat) (v c p : Value) (W : World) : Prop :=
  ∃ k D cy, p = .int .i64 (k : Nat) ∧ c = .int .u64 (cy : Nat) ∧ k ≤ L.length ∧ D.length = k ∧ Lim D ∧ cy ≤ 1 ∧ valL D + 4294967296 ^ k * valL (L.drop k) = T + 4294967296 ^ k * (cy + valL ((limbs y).drop k)) ∧ OwnL W base v (D ++ L.drop k) ∧ Below base w W
set_option maxRecDepth 20000 in
set_option maxHeartbeats 8000000 in
/-- Sub, the greater number first. -/
theorem sub_ge {va vb : Value} {x y : Nat} {w : World} (hx : NatAt w va x) (hy : NatAt w vb y) (hxs : szN x ≤ 1000000) (hge : y ≤ x) :
    Calls Tryz.prog 118 #[va, vb] w fun e w' => ∃ v, e = .returned (.tuple #[v, .bool true]) ∧ NatAt w' v (x - y) ∧ Below w.heap.size w w' := by
  have hle : szN y ≤ szN x := szN_mono hge
  have HCm := Lib.hid (fun (W : World) (hW : Below w.heap.size w W) => cmp_any (hx.below hW) (hy.below hW) hxs (by omega))
  have hcm : cmpN x y = 0 ∨ cmpN x y = 1 := by unfold cmpN; rw [if_neg (by omega)]; split <;> simp
  obtain ⟨a, c, rfl, ha⟩ := hx
  obtain ⟨b, d, rfl, hb⟩ := hy
  obtain ⟨n, hn⟩ : ∃ n, szN x = n := ⟨_, rfl⟩
  obtain ⟨m, hm⟩ : ∃ m, szN y = m := ⟨_, rfl⟩
  rw [hn] at hxs hle ⊢
  rw [hm] at hle ⊢
  obtain ⟨W2, hW2⟩ : ∃ W2, ((w.alloc (.cells #[.slice a n c] 57)).alloc (.cells #[.slice b m d] 57)).alloc (.cells #[.slice none 0 0] 57) = W2 := ⟨_, rfl⟩
  obtain ⟨hbx, hB2, hz2⟩ := boxes_new w (.slice a n c) (.slice b m d)
  rw [show box3 w (.slice a n c) (.slice b m d) = W2 from hW2] at hbx hB2 hz2
  have HC := Lib.hid (fun (W : World) (hW : Below W2.heap.size W2 W) => (show Calls Tryz.prog 106 #[.slice a n c] W fun e w' => ∃ v, e = .returned v ∧ OwnL w' W.heap.size v (limbs x) ∧ Below W.heap.size W w' from by have := clone_any (c := c) ((ha.below hB2).below hW) (by rw [limbs_len]; omega); rw [limbs_len, hn] at this; exact this))
  have HBx := Lib.hid hbx
  have HB2 := Lib.hid hB2
  have HBR := Lib.hid (hb.below hB2)
  rw [hn, hm] at HCm
  have HN := Lib.hid hn
  have HM := Lib.hid hm
  have d0 := hbx.1.cell 0
  have d1 := hbx.2.1.cell 0
  have HZ2 := Lib.hid hz2
  clear ha hb hbx hB2 hz2 hn hm
  go_enter Tryz.func118, Tryz.ntmps118
  go_wp2
  go_step3
  obtain ⟨cm, hcmv⟩ : ∃ cm, cmpN x y = cm := ⟨_, rfl⟩
  rw [hcmv] at HCm hcm
  have hcm0 : 0 ≤ cm := by omega
  clear hcmv hcm
  go_wp2_with fail
  refine (HCm.out _ HB2.out).mono ?_
  rintro e w2 ⟨rfl, hB22⟩
  have HB22 := Lib.hid hB22
  have hbx2 := HBx.out.below hB22
  have d0' := hbx2.1.cell 0
  have d1' := hbx2.2.1.cell 0
  have HBx2 := Lib.hid hbx2
  have HBR2 := Lib.hid (HBR.out.below hB22)
  have HB0 := Lib.hid (HB2.out.trans (hB22.mono HB2.out.size))
  have hw2 : w.heap.size + 3 ≤ w2.heap.size := by have := hB22.size; have := HZ2.out; omega
  clear hbx2 hB22 d0 d1
  go_wp2_with fail
  refine (HC.out _ HB22.out).mono ?_
  rintro e w3 ⟨v, rfl, ho3, hB3⟩
  have hl5 : (limbs x).length = n := by rw [limbs_len, HN.out]
  obtain ⟨va4, vc4, rfl, hc4, _⟩ := ho3.rd
  have H0 := Lib.hid (show SubL y (x - y) w2 w2.heap.size (limbs x) (.slice va4 (limbs x).length vc4) (.int .u64 0) (.int .i64 0) w3 from ⟨0, [], 0, rfl, rfl, Nat.zero_le _, rfl, Lim.nil, by omega, by simp only [valL, List.drop_zero, limbs_val, Nat.pow_zero, Nat.one_mul]; omega, by simpa using ho3, hB3⟩)
  rw [hl5] at H0 hc4 ⊢
  have HLl := Lib.hid hl5
  clear ho3 hl5 hB3
  go_wp2
  go_step3
  go_wp2
  go_loopw [7, 20] (fun c' p W => SubL y (x - y) w2 w2.heap.size (limbs x) (.slice va4 n vc4) c' p W) (fun c' p W => n - (intOf p).toNat)
  case atStart => exact H0.out
  case round =>
    obtain ⟨k, D, cy, rfl, rfl, hk, hDl, hD, hcy, hv, ho, hB⟩ := hrel
    rw [HLl.out] at hk
    have HBW := Lib.hid hB
    have hbx := HBx2.out.below hB
    have c1 := hbx.2.1.cell 0
    have HRb := HBR2.out.below hB
    have hml : (D ++ (limbs x).drop k).length = n := by have := HLl.out; simp; omega
    by_cases hlt : k < n
    · have hkL : k < (limbs x).length := by rw [HLl.out]; exact hlt
      obtain ⟨g, c', he, hbg, hg, hc', hcell, hfr, hset⟩ := ho.form (by omega)
      simp only [Value.slice.injEq] at he
      obtain ⟨rfl, -, rfl⟩ := he
      have hgk : (D ++ (limbs x).drop k)[k]'(by omega) = (limbs x)[k] := by
        rw [List.getElem_append_right (by omega)]; simp [hDl]
      have hc1 := hcell k (by omega)
      rw [hgk] at hc1
      have hst := fun y => hset k y (by omega)
      have hset2 : ∀ y : Nat, (D ++ (limbs x).drop k).set k y = (D ++ [y]) ++ (limbs x).drop (k + 1) := fun y => set_at hDl hkL y
      have hxb := (limbs_lim x).get hkL
      have hfk := hfr k
      have hvx : valL ((limbs x).drop k) = (limbs x)[k] + 4294967296 * valL ((limbs x).drop (k + 1)) := by rw [List.drop_eq_getElem_cons hkL]; rfl
      obtain ⟨p, hp⟩ : ∃ p, (limbs x)[k] = p := ⟨_, rfl⟩
      obtain ⟨q, hq⟩ : ∃ q, (limbs y).getD k 0 = q := ⟨_, rfl⟩
      have hqb : q < 4294967296 := by rw [← hq]; exact limbs_getD_lt y k
      have hvs := hv
      rw [valL_step (limbs y) k, hvx, hp, hq] at hv
      rw [hp] at hc1 hxb
      obtain ⟨dd, w', dI, hd1, hd2, hd3, hd4, hd5, hd6, hd7, hand, hand1⟩ := sub_dig p (cy + q) hxb (by omega)
      have hst2 := sub_step (w' := w') hDl hv (by rw [hd3]; try omega)
      have HST := Lib.hid hst2
      have HSet := Lib.hid hst
      have HS2 := Lib.hid hset2
      have HD := Lib.hid hD
      have HDl := Lib.hid hDl
      have hpI : (p : Int) ≤ 4294967295 := by omega
      have hqI : (q : Int) ≤ 4294967295 := by omega
      have HC2 := Lib.hid hd2
      have HD1 := Lib.hid hd1
      obtain ⟨cI, hcI⟩ : ∃ cI : Int, (cy : Int) = cI := ⟨_, rfl⟩
      have hc0 : 0 ≤ cI := by omega
      have hc1' : cI ≤ 1 := by omega
      obtain ⟨eI, heI⟩ : ∃ eI : Int, (dd : Int) = eI := ⟨_, rfl⟩
      obtain ⟨wI, hwI⟩ : ∃ wI : Int, (w' : Int) = wI := ⟨_, rfl⟩
      have he0 : 0 ≤ eI := by omega
      have he1 : eI ≤ 4294967295 := by omega
      rw [heI] at hand
      rw [hwI] at hand1
      have HeI := Lib.hid heI
      have HwI := Lib.hid hwI
      rw [show (((cy + q : Nat)) : Int) = cI + (q : Int) by omega] at hd6 hd7
      by_cases hkm : k < m
      · obtain ⟨gb, rfl, hgb, hcb⟩ := HRb.at k (by rw [limbs_len, HM.out]; exact hkm)
        rw [hq] at hcb
        rw [hcI]
        have HcI := Lib.hid hcI
        obtain ⟨pI, hpI'⟩ : ∃ pI : Int, (p : Int) = pI := ⟨_, rfl⟩
        obtain ⟨qI, hqI'⟩ : ∃ qI : Int, (q : Int) = qI := ⟨_, rfl⟩
        have hp0 : 0 ≤ pI := by omega
        have hq0 : 0 ≤ qI := by omega
        rw [hpI'] at hc1 hpI hd6 hd7
        rw [hqI'] at hcb hqI hd6 hd7
        by_cases hge2 : cy + q ≤ p
        · have hdd := hd7 hge2
          clear hB hbx HRb hml hcell hfr hset hst hset2 hxb hvx hv hvs hp hq hqb hst2 hD hDl hcy hcI hpI' hqI' ho hgk hc' hd1 hd2 hd3 hd6 hd7 heI hwI hge2
          go_wp2
          go_roundw
          case rel =>
            refine ⟨k + 1, D ++ [dd], w', by go_num, by rw [← HwI.out], by have := HLl.out; omega, by simp [HDl.out], HD.out.append (Lim.cons HD1.out Lim.nil), HC2.out, HST.out, ?_, ?_⟩
            · rw [← HS2.out]
              have h := HSet.out dd
              rw [HeI.out] at h
              exact h
            · exact HBW.out.setCell (p := ⟨g, k, none⟩) hbg _
          case measure => simp [intOf]; omega
        · have hdd := hd6 hge2
          clear hB hbx HRb hml hcell hfr hset hst hset2 hxb hvx hv hvs hp hq hqb hst2 hD hDl hcy hcI hpI' hqI' ho hgk hc' hd1 hd2 hd3 hd6 hd7 heI hwI hge2
          go_wp2
          go_roundw
          case rel =>
            refine ⟨k + 1, D ++ [dd], w', by go_num, by rw [← HwI.out], by have := HLl.out; omega, by simp [HDl.out], HD.out.append (Lim.cons HD1.out Lim.nil), HC2.out, HST.out, ?_, ?_⟩
            · rw [← HS2.out]
              have h := HSet.out dd
              rw [HeI.out] at h
              exact h
            · exact HBW.out.setCell (p := ⟨g, k, none⟩) hbg _
          case measure => simp [intOf]; omega
      · have hq0 : q = 0 := by
          rw [← hq, List.getD, List.getElem?_eq_none (by rw [limbs_len, HM.out]; omega)]; rfl
        have hYz : valL ((limbs y).drop k) = 0 := by rw [List.drop_of_length_le (by rw [limbs_len, HM.out]; omega)]; rfl
        subst hq0
        by_cases hz : cy = 0
        · subst hz
          have hval : valL (D ++ (limbs x).drop k) = x - y := by
            rw [valL_append, hDl, hvs, hYz]; simp
          have hlim : Lim (D ++ (limbs x).drop k) := hD.append ((limbs_lim x).drop k)
          obtain ⟨a6, c6, he6, hc6, hr6⟩ := ho.rd
          have HT := Lib.hid (trim_any hlim hr6 hc6 (by rw [hml]; omega))
          rw [hval] at HT
          rw [hml] at HT he6
          simp only [Value.slice.injEq] at he6
          obtain ⟨rfl, -, rfl⟩ := he6
          have HBx6 := Lib.hid hbx
          have hkm2 : m ≤ k := by omega
          clear hB hbx HRb hml hcell hfr hset hst hset2 hxb hvx hv hvs hp hq hqb hst2 hD hDl hcy hcI ho hgk hc' hd1 hd2 hd3 hd4 hd5 hd6 hd7 heI hwI hand hand1 he0 he1 hqI hkm hc0 hc1' hYz hval hlim hc6 hr6
          go_wp2_with (go_at_call 94; refine HT.out.mono ?_; rintro e w6 ⟨rfl, hN6, hB6⟩; have HN6 := Lib.hid hN6; have hbx6 := HBx6.out.below hB6; have HB6 := Lib.hid (HBW.out.trans (hB6.mono HBW.out.size)); clear hN6 hB6; have r0 := hbx6.2.2.cell 0; have r1 := hbx6.2.2.frozen 0; have HX6 := Lib.hid hbx6.2.2; clear hbx6)
          obtain ⟨e1, e2, e3⟩ := res_at HX6.out (by omega) (HB0.out.trans (HB6.out.mono HB0.out.size)) HN6.out
          rw [Exit.noGoto_ret]
          exact bodyPost_ret (r_ct rfl rfl e1) rfl ⟨_, rfl, e2, e3⟩
        · rw [hcI]
          have hc2' : 0 < cI := by omega
          have HcI := Lib.hid hcI
          obtain ⟨pI, hpI'⟩ : ∃ pI : Int, (p : Int) = pI := ⟨_, rfl⟩
          have hp0 : 0 ≤ pI := by omega
          rw [show cI + ((0 : Nat) : Int) = cI by omega] at hd6 hd7
          rw [hpI'] at hc1 hpI hd6 hd7
          have hkm2 : m ≤ k := by omega
          by_cases hge2 : cy + 0 ≤ p
          · have hdd := hd7 hge2
            clear hB hbx HRb hml hcell hfr hset hst hset2 hxb hvx hv hvs hp hq hqb hst2 hD hDl hcy hcI hpI' ho hgk hc' hd1 hd2 hd3 hd6 hd7 heI hwI hge2 hz hqI hkm hYz
            go_wp2
            go_roundw
            case rel =>
              refine ⟨k + 1, D ++ [dd], w', by go_num, by rw [← HwI.out], by have := HLl.out; omega, by simp [HDl.out], HD.out.append (Lim.cons HD1.out Lim.nil), HC2.out, HST.out, ?_, ?_⟩
              · rw [← HS2.out]
                have h := HSet.out dd
                rw [HeI.out] at h
                exact h
              · exact HBW.out.setCell (p := ⟨g, k, none⟩) hbg _
            case measure => simp [intOf]; omega
          · have hdd := hd6 hge2
            clear hB hbx HRb hml hcell hfr hset hst hset2 hxb hvx hv hvs hp hq hqb hst2 hD hDl hcy hcI hpI' ho hgk hc' hd1 hd2 hd3 hd6 hd7 heI hwI hge2 hz hqI hkm hYz
            go_wp2
            go_roundw
            case rel =>
              refine ⟨k + 1, D ++ [dd], w', by go_num, by rw [← HwI.out], by have := HLl.out; omega, by simp [HDl.out], HD.out.append (Lim.cons HD1.out Lim.nil), HC2.out, HST.out, ?_, ?_⟩
              · rw [← HS2.out]
                have h := HSet.out dd
                rw [HeI.out] at h
                exact h
              · exact HBW.out.setCell (p := ⟨g, k, none⟩) hbg _
            case measure => simp [intOf]; omega
    · obtain rfl : k = n := by omega
      have hYz : valL ((limbs y).drop k) = 0 := by rw [List.drop_of_length_le (by rw [limbs_len, HM.out]; omega)]; rfl
      have hXz : (limbs x).drop k = [] := List.drop_of_length_le (by rw [HLl.out]; omega)
      rw [hYz, hXz, Nat.add_zero, show valL ([] : List Nat) = 0 from rfl, Nat.mul_zero, Nat.add_zero] at hv
      have hlt2 : valL D < 4294967296 ^ k := by rw [← hDl]; exact valL_lt hD
      have hcz : cy = 0 := no_carry hv.symm hlt2
      have hval : valL (D ++ (limbs x).drop k) = x - y := by
        rw [hXz, List.append_nil, hv, hcz, Nat.mul_zero, Nat.add_zero]
      subst hcz
      have hlim : Lim (D ++ (limbs x).drop k) := hD.append ((limbs_lim x).drop _)
      obtain ⟨a6, c6, he6, hc6, hr6⟩ := ho.rd
      have HT := Lib.hid (trim_any hlim hr6 hc6 (by rw [hml]; omega))
      rw [hval] at HT
      rw [hml] at HT he6
      simp only [Value.slice.injEq] at he6
      obtain ⟨rfl, -, rfl⟩ := he6
      have HBx6 := Lib.hid hbx
      clear hB hbx HRb hml hv hD hDl hcy ho hYz hXz hlt2 hval hlim hc6 hr6
      go_wp2_with (go_at_call 94; refine HT.out.mono ?_; rintro e w6 ⟨rfl, hN6, hB6⟩; have HN6 := Lib.hid hN6; have hbx6 := HBx6.out.below hB6; have HB6 := Lib.hid (HBW.out.trans (hB6.mono HBW.out.size)); clear hN6 hB6; have r0 := hbx6.2.2.cell 0; have r1 := hbx6.2.2.frozen 0; have HX6 := Lib.hid hbx6.2.2; clear hbx6)
      obtain ⟨e1, e2, e3⟩ := res_at HX6.out (by omega) (HB0.out.trans (HB6.out.mono HB0.out.size)) HN6.out
      rw [Exit.noGoto_ret]
      exact bodyPost_ret (r_ct rfl rfl e1) rfl ⟨_, rfl, e2, e3⟩

set_option maxRecDepth 20000 in
set_option maxHeartbeats 8000000 in
/-- Sub, the lesser number first. -/
theorem sub_lt {va vb : Value} {x y : Nat} {w : World} (hx : NatAt w va x) (hy : NatAt w vb y) (hxs : szN x ≤ 1000000) (hys : szN y ≤ 1000000) (hlt : x < y) :
    Calls Tryz.prog 118 #[va, vb] w fun e w' => ∃ v, e = .returned (.tuple #[v, .bool false]) ∧ NatAt w' v 0 ∧ Below w.heap.size w w' := by
  have HCm := Lib.hid (fun (W : World) (hW : Below w.heap.size w W) => cmp_any (hx.below hW) (hy.below hW) hxs hys)
  have hcm : cmpN x y = -1 := by unfold cmpN; rw [if_pos hlt]
  rw [hcm] at HCm
  obtain ⟨a, c, rfl, ha⟩ := hx
  obtain ⟨b, d, rfl, hb⟩ := hy
  obtain ⟨n, hn⟩ : ∃ n, szN x = n := ⟨_, rfl⟩
  obtain ⟨m, hm⟩ : ∃ m, szN y = m := ⟨_, rfl⟩
  rw [hn] at hxs HCm ⊢
  rw [hm] at hys HCm ⊢
  obtain ⟨W2, hW2⟩ : ∃ W2, ((w.alloc (.cells #[.slice a n c] 57)).alloc (.cells #[.slice b m d] 57)).alloc (.cells #[.slice none 0 0] 57) = W2 := ⟨_, rfl⟩
  obtain ⟨hbx, hB2, hz2⟩ := boxes_new w (.slice a n c) (.slice b m d)
  rw [show box3 w (.slice a n c) (.slice b m d) = W2 from hW2] at hbx hB2 hz2
  have HBx := Lib.hid hbx
  have HB2 := Lib.hid hB2
  have d0 := hbx.1.cell 0
  have d1 := hbx.2.1.cell 0
  clear ha hb hbx hB2 hz2 hn hm hcm
  go_enter Tryz.func118, Tryz.ntmps118
  go_wp2
  go_step3
  go_wp2_with (go_at_call 110; refine (HCm.out _ HB2.out).mono ?_; rintro e w2 ⟨rfl, hB22⟩; have hbx2 := HBx.out.below hB22; have r0 := hbx2.2.2.cell 0; have r1 := hbx2.2.2.frozen 0; have HX6 := Lib.hid hbx2.2.2; have HB0 := Lib.hid (HB2.out.trans (hB22.mono HB2.out.size)); clear hbx2 hB22)
  obtain ⟨e1, e2, e3⟩ := res_at HX6.out (by omega) HB0.out (NatAt.zero w2 0)
  rw [Exit.noGoto_ret]
  exact bodyPost_ret (r_ct rfl rfl e1) rfl ⟨_, rfl, e2, e3⟩
end Go.Proofs.YtjcpfmndkeiegaaGreatDoor
