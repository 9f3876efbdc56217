/- The walk of nat.step. -/
import Derived.Test.YtjcpfmndkeiegaaGreatDoorNtJ
import Derived.Test.YtjcpfmndkeiegaaGreatDoorNaZ
namespace Go.Proofs.YtjcpfmndkeiegaaGreatDoor
open Go.RowKit
set_option linter.unusedVariables false

/-- A limb less another one, less what was borrowed. -/
theorem step_dig (u l b : Nat) (hu : u < 4294967296) (hl : l < 4294967296) (hb : b ≤ 1) : ∃ (d b' : Nat) (aI dI : Int), d < 4294967296 ∧ b' ≤ 1 ∧ u + 4294967296 * b' = d + l + b ∧ 0 ≤ dI ∧ dI ≤ 18446744073709551615 ∧
    IntKind.u64.wrap ((u : Int) - (l : Int)) = aI ∧ IntKind.u64.wrap (aI - (b : Int)) = dI ∧ bits .and .u64 dI 4294967295 = (d : Int) ∧ bits .and .u64 (dI / 4294967296) 1 = (b' : Int) := by
  have hw : ∀ x : Int, IntKind.u64.wrap x = x % 18446744073709551616 := fun x => by simp [IntKind.wrap, IntKind.bits, IntKind.signed]
  by_cases h : l + b ≤ u
  · refine ⟨u - l - b, 0, (u : Int) - (l : Int), (u : Int) - (l : Int) - (b : Int), by omega, by omega, by omega, by omega, by omega, ?_, ?_, ?_, ?_⟩
    · rw [hw]; omega
    · rw [hw]; omega
    · rw [and32 _ (by omega) (by omega)]; omega
    · rw [and1 _ (by omega) (by omega)]; omega
  · refine ⟨u + 4294967296 - l - b, 1, IntKind.u64.wrap ((u : Int) - (l : Int)), (u : Int) - (l : Int) - (b : Int) + 18446744073709551616, by omega, by omega, by omega, by omega, by omega, rfl, ?_, ?_, ?_⟩
    · rw [hw, hw]; omega
    · rw [and32 _ (by omega) (by omega)]; omega
    · rw [and1 _ (by omega) (by omega)]; omega
/-- All ahead of base stays, and all but block g. -/
def Fr (base : Nat) (W0 w : World) (g : Nat) (W : World) : Prop := Below base W0 W ∧ w.grownBy W (some g)
theorem Fr.set {base : Nat} {W0 w : World} {g : Nat} {W : World} (h : Fr base W0 w g W) (hg : base ≤ g) (i : Nat) (u : Value) : Fr base W0 w g (W.setCell ⟨g, i, none⟩ u) :=
  ⟨h.1.setCell (p := ⟨g, i, none⟩) hg u, h.2.os, h.2.tape, h.2.output, by rw [World.size_setCell]; exact h.2.size, fun k hk hne => (Below.heap_setCell W ⟨g, i, none⟩ u k (fun e => hne (by rw [e]))).trans (h.2.block k hk hne)⟩
/-- The first loop of step. -/
def StepA (n q : Nat) (A S R B : List Nat) (w : World) (base : Nat) (wS : World) (g : Nat) (v c b p : Value) (W : World) : Prop :=
  ∃ k D cy bo, p = .int .i64 (k : Nat) ∧ c = .int .u64 (cy : Nat) ∧ b = .int .u64 (bo : Nat) ∧ k ≤ n + 1 ∧ D.length = k ∧ Lim D ∧ cy < 4294967296 ∧ (k = n + 1 → cy = 0) ∧ bo ≤ 1 ∧
    valL (S.take k) + 4294967296 ^ k * (cy + bo) = valL D + q * valL (B.take k) ∧ OwnL W base v (A ++ (D ++ (S.drop k ++ R))) ∧ Fr base w wS g W
/-- The second one. -/
def StepB (n T : Nat) (A D R B : List Nat) (w : World) (base : Nat) (wS : World) (g : Nat) (v c p : Value) (W : World) : Prop :=
  ∃ k E cy, p = .int .i64 (k : Nat) ∧ c = .int .u64 (cy : Nat) ∧ k ≤ n + 1 ∧ E.length = k ∧ Lim E ∧ cy ≤ 1 ∧
    valL E + 4294967296 ^ k * (cy + valL (D.drop k) + valL (B.drop k)) = T ∧ OwnL W base v (A ++ (E ++ (D.drop k ++ R))) ∧ Fr base w wS g W

set_option maxRecDepth 20000 in
set_option maxHeartbeats 32000000 in
theorem step_any {W0 w : World} {base g gv off n c cu cv V : Nat} {A S R : List Nat} (hbase : W0.heap.size = base) (hW : Below base W0 w) (hbw : base ≤ w.heap.size)
    (hu : OwnL w base (.slice (some ⟨g, 0, none⟩) (off + (n + 1) + R.length) c) (A ++ (S ++ R))) (hv : RdL W0 (some ⟨gv, 0, none⟩) (limbs V)) (hA : A.length = off) (hSl : S.length = n + 1) (hS : Lim S) (hVn : szN V = n) (hn : 2 ≤ n) (hn2 : n ≤ 1000000) (hoff : off ≤ 2000000)
    (htop : 2147483648 ≤ (limbs V).getD (n - 1) 0) (hlt : valL S < 4294967296 * V) :
    Calls Tryz.prog 142 #[.slice (some ⟨g, off, none⟩) (n + 1) cu, .slice (some ⟨gv, 0, none⟩) n cv] w fun e w' => ∃ S', e = .returned (.int .u32 ((valL S / V : Nat) : Int)) ∧ S'.length = n + 1 ∧ Lim S' ∧ valL S' = valL S % V ∧
      OwnL w' base (.slice (some ⟨g, 0, none⟩) (off + (n + 1) + R.length) c) (A ++ (S' ++ R)) ∧ Fr base W0 w g w' := by
  obtain ⟨m, rfl⟩ : ∃ m, n = m + 2 := ⟨n - 2, by omega⟩
  have hVl : (limbs V).length = m + 2 := by rw [limbs_len, hVn]
  have hul : (A ++ (S ++ R)).length = off + (m + 2 + 1) + R.length := by simp; omega
  obtain ⟨g', c', he, hbg, hg, hc', hcell, hfr, hset⟩ := hu.form (by omega)
  simp only [Value.slice.injEq, Option.some.injEq, Addr.mk.injEq] at he
  obtain ⟨⟨rfl, -, -⟩, -, rfl⟩ := he
  have hcu : ∀ i, i < m + 3 → w.cell? ⟨g, off + i, none⟩ = some (.int .u32 ((S.getD i 0 : Nat) : Int)) := fun i hi => by
    rw [hcell (off + i) (by omega)]
    congr 2
    have h1 : (A ++ (S ++ R))[off + i]'(by omega) = S[i]'(by omega) := by
      rw [List.getElem_append_right (by omega), List.getElem_append_left (by omega)]
      congr 1; omega
    rw [h1, List.getD, List.getElem?_eq_getElem (by omega)]; rfl
  have hrv := hv.below (w' := w) (by rw [hbase]; exact hW)
  have hcv : ∀ i, i < m + 2 → w.cell? ⟨gv, i, none⟩ = some (.int .u32 (((limbs V).getD i 0 : Nat) : Int)) := fun i hi => by
    obtain ⟨gg, h1, _, h3⟩ := hrv.at i (by omega)
    cases h1
    exact h3
  have hB := limbs_lim V
  have hlt' : valL S < 4294967296 * valL (limbs V) := by rw [limbs_val]; exact hlt
  have hG := Lib.hid (guess_any (w := w) (g := g) (off := off) (gv := gv) (n := m + 2) (cu := cu) (cv := cv) (by omega) (by omega) (by omega)
    (hcu (m + 2) (by omega)) (hcu (m + 2 - 1) (by omega)) (hcu (m + 2 - 2) (by omega)) (hcv (m + 2 - 1) (by omega)) (hcv (m + 2 - 2) (by omega))
    (top_le hB hSl hVl hlt') (hB.getD _) htop (hS.getD _) (hS.getD _) (hB.getD _))
  obtain ⟨B, hBe⟩ : ∃ B, limbs V = B := ⟨_, rfl⟩
  have HBe := Lib.hid hBe
  rw [hBe] at hVl hrv hB hlt' hG htop
  have hVB : valL B = V := by rw [← hBe, limbs_val]
  have HDig := Lib.hid (fun (q : Nat) (h1 : q ≤ 4294967296) (h2 : q * (B.getD (m + 2 - 1) 0 * 4294967296 + B.getD (m + 2 - 2) 0) ≤ (S.getD (m + 2) 0 * 4294967296 + S.getD (m + 2 - 1) 0) * 4294967296 + S.getD (m + 2 - 2) 0)
    (h3 : ∀ Q, Q ≤ 4294967295 → Q * (B.getD (m + 2 - 1) 0 * 4294967296 + B.getD (m + 2 - 2) 0) ≤ (S.getD (m + 2) 0 * 4294967296 + S.getD (m + 2 - 1) 0) * 4294967296 + S.getD (m + 2 - 2) 0 → Q ≤ q) => digit_bounds (n := m) hS hB hSl hVl hlt' htop h1 h2 h3)
  have HBW := Lib.hid hW
  have HLT := Lib.hid hlt
  have HU := Lib.hid hu
  have HRV := Lib.hid hrv
  have HSl := Lib.hid hSl
  have HAl := Lib.hid hA
  have HBl := Lib.hid hVl
  have HS := Lib.hid hS
  have HB := Lib.hid hB
  have HVB := Lib.hid hVB
  have HBase := Lib.hid hbase
  have HHv := Lib.hid hv
  have hVP : V ≤ 4294967296 ^ (m + 2 + 1) := by
    have h1 := szN_lt V
    rw [hVn] at h1
    rw [Nat.pow_succ]
    omega
  have hV0 : 0 < V := by
    apply Decidable.byContradiction
    intro h
    obtain rfl : V = 0 := by omega
    rw [szN_zero] at hVn
    omega
  have HVP := Lib.hid hVP
  have HV0 := Lib.hid hV0
  obtain ⟨N, hN⟩ : ∃ N, off + (m + 2 + 1) + R.length = N := ⟨_, rfl⟩
  rw [hN] at HU hul ⊢
  have HUl := Lib.hid hul
  have hNoff : off + (m + 2 + 1) ≤ N := by omega
  clear hW hu hrv hSl hA hVl hS hB hVB hv hlt' hlt htop hBe hVn hcell hfr hset hcu hcv hc' hVP hV0 hN hul hbase
  go_enter Tryz.func142, Tryz.ntmps142
  go_wp2_with (go_at_call 156; refine hG.out.mono ?_; rintro e w1 ⟨q, rfl, hq1, hq2, hq3, hB1⟩; have HD := Lib.hid (HDig.out q hq1 hq2 hq3); have HQ := Lib.hid hq1; have HB1 := Lib.hid hB1; clear hq2 hq3 hB1)
  have H0 := Lib.hid (show StepA (m + 2) q A S R B W0 base w g (.slice (some ⟨g, 0, none⟩) N c) (.int .u64 0) (.int .u64 0) (.int .i64 0) w1 from ⟨0, [], 0, 0, rfl, rfl, rfl, Nat.zero_le _, rfl, Lim.nil, by omega, fun _ => rfl, by omega, by simp [valL], by simpa using HU.out.keep (KeepT.of_below HB1.out), HBW.out.trans (HB1.out.mono hbw), HB1.out.os, HB1.out.tape, HB1.out.output, HB1.out.size, fun k hk _ => HB1.out.block k hk⟩)
  clear hq1
  go_loopw [6, 7, 16] (fun b' c' p W => StepA (m + 2) q A S R B W0 base w g (.slice (some ⟨g, 0, none⟩) N c) c' b' p W) (fun b' c' p W => (m + 3) - (intOf p).toNat)
  case atStart => exact H0.out
  case round =>
    obtain ⟨k, D, cy, bo, rfl, rfl, rfl, hk, hDl, hD, hcy, hcz, hbo, hv, ho, hB⟩ := hrel
    have HBr := Lib.hid hB
    by_cases hlt : k < m + 3
    · have hkS : k < S.length := by rw [HSl.out]; omega
      have hml : (A ++ (D ++ (S.drop k ++ R))).length = N := by
        have h1 := HUl.out
        simp only [List.length_append, List.length_drop, hDl] at h1 ⊢
        omega
      have hbg0 : off + k < (A ++ (D ++ (S.drop k ++ R))).length := by rw [hml]; omega
      obtain ⟨g', c', he, hbg', hg', hc', hcell, hfr, hset⟩ := ho.form (by omega)
      simp only [Value.slice.injEq, Option.some.injEq, Addr.mk.injEq] at he
      obtain ⟨⟨rfl, -, -⟩, -, rfl⟩ := he
      have hc1 := hcell (off + k) hbg0
      rw [get_deep HAl.out hDl hkS hbg0] at hc1
      have hfk := hfr (off + k)
      have hst := fun y => hset (off + k) y hbg0
      have hset2 := fun y => set_deep (S := S) (R := R) HAl.out hDl hkS y
      have hub := HS.out.get hkS
      obtain ⟨u, huu⟩ : ∃ u, S[k] = u := ⟨_, rfl⟩
      obtain ⟨x, hxx⟩ : ∃ x, B.getD k 0 = x := ⟨_, rfl⟩
      have hxb : x < 4294967296 := by rw [← hxx]; exact HB.out.getD k
      have hts : valL (S.take (k + 1)) = valL (S.take k) + 4294967296 ^ k * u := by rw [valL_take_succ S k hkS, huu]
      have htb : valL (B.take (k + 1)) = valL (B.take k) + 4294967296 ^ k * x := by rw [take_getD, hxx]
      rw [huu] at hc1 hub
      have hqx : q * x ≤ 4294967296 * 4294967295 := Nat.mul_le_mul HQ.out (by omega)
      have hc2 : (cy + q * x) / 4294967296 < 4294967296 := by omega
      obtain ⟨dd, b', aI, dI, hd1, hd2, hd3, hd4, hd5, e1, e2, hand, hand1⟩ := step_dig u ((cy + q * x) % 4294967296) bo hub (Nat.mod_lt _ (by omega)) hbo
      have hst2 := step_step (w' := b') hDl hv hd3
      have hcz2 : k + 1 = m + 2 + 1 → (cy + q * x) / 4294967296 = 0 := fun hk1 => by
        have : x = 0 := by rw [← hxx, List.getD, List.getElem?_eq_none (by rw [HBl.out]; omega)]; rfl
        rw [this, Nat.mul_zero]
        omega
      have HST := Lib.hid hst2
      have HSet := Lib.hid hst
      have HS2 := Lib.hid hset2
      have HTS := Lib.hid hts
      have HTB := Lib.hid htb
      have HC2 := Lib.hid hc2
      have HCZ := Lib.hid hcz2
      have HD1 := Lib.hid hd1
      have HB2 := Lib.hid hd2
      have HD2 := Lib.hid hD
      have HDl := Lib.hid hDl
      obtain ⟨uI, huI⟩ : ∃ z : Int, (u : Int) = z := ⟨_, rfl⟩
      obtain ⟨cI, hcI⟩ : ∃ z : Int, (cy : Int) = z := ⟨_, rfl⟩
      obtain ⟨bI, hbI⟩ : ∃ z : Int, (bo : Int) = z := ⟨_, rfl⟩
      obtain ⟨eI, heI⟩ : ∃ z : Int, (dd : Int) = z := ⟨_, rfl⟩
      obtain ⟨wI, hwI⟩ : ∃ z : Int, (b' : Int) = z := ⟨_, rfl⟩
      obtain ⟨lI, hlI⟩ : ∃ z : Int, (((cy + q * x) % 4294967296 : Nat) : Int) = z := ⟨_, rfl⟩
      have u0 : 0 ≤ uI := by omega
      have u1 : uI ≤ 4294967295 := by omega
      have c0 : 0 ≤ cI := by omega
      have c1 : cI ≤ 4294967295 := by omega
      have b0 : 0 ≤ bI := by omega
      have b1 : bI ≤ 1 := by omega
      have z0 : 0 ≤ eI := by omega
      have z1 : eI ≤ 4294967295 := by omega
      have l0 : 0 ≤ lI := by omega
      have l1 : lI ≤ 4294967295 := by omega
      rw [huI] at hc1 e1
      rw [hlI] at e1
      rw [hbI] at e2
      rw [heI] at hand
      rw [hwI] at hand1
      rw [hcI, hbI]
      have HeI := Lib.hid heI
      have HwI := Lib.hid hwI
      have HcI := Lib.hid hcI
      have hqI : (q : Int) ≤ 4294967296 := by have := HQ.out; omega
      by_cases hkm : k < m + 2
      · have hrw := HHv.out.below (w' := wr) (by rw [HBase.out]; exact hB.1)
        obtain ⟨gg, hg1, _, hcx⟩ := hrw.at k (by rw [HBe.out, HBl.out]; exact hkm)
        cases hg1
        rw [HBe.out, hxx] at hcx
        obtain ⟨mm, hmm⟩ : ∃ mm, q * x = mm := ⟨_, rfl⟩
        have hmmI : (q : Int) * (x : Int) = (mm : Int) := by rw [← hmm]; simp
        rw [hmm] at hlI hqx
        obtain ⟨mI, hmI⟩ : ∃ z : Int, (mm : Int) = z := ⟨_, rfl⟩
        have m0 : 0 ≤ mI := by omega
        have m1 : mI ≤ 18446744069414584320 := by omega
        rw [hmI] at hmmI
        have hand0 : bits .and .u64 (cI + mI) 4294967295 = lI := by rw [and32 _ (by omega) (by omega)]; omega
        have HmI := Lib.hid hmI
        have Hmm := Lib.hid hmm
        have hxI : (x : Int) ≤ 4294967295 := by omega
        clear hB ho hv hcell hfr hset hst hset2 huu hxx hxb hts htb hqx hc2 hst2 hcz2 hd1 hd2 hd3 hD hDl huI hcI hbI heI hwI hlI hrw hmm hmI hbo hcy hcz hub hml hbg0 hkS hc'
        go_wp2
        go_roundw
        case rel =>
          refine ⟨k + 1, D ++ [dd], (cy + q * x) / 4294967296, b', by go_num, (by have e : (((cy + q * x) / 4294967296 : Nat) : Int) = (cI + mI) / 4294967296 := (by have h1 := HcI.out; have h2 := HmI.out; have h3 := Hmm.out; rw [h3]; omega); rw [e]), by rw [← HwI.out], by omega, by simp [HDl.out], HD2.out.append (Lim.cons HD1.out Lim.nil), HC2.out, HCZ.out, HB2.out, ?_, ?_, HBr.out.set hbg _ _⟩
          · rw [HTS.out, HTB.out]; exact HST.out
          · rw [← HS2.out]
            have h := HSet.out dd
            rw [HeI.out] at h
            exact h
        case measure => simp [intOf]; omega
      · have hx0 : x = 0 := by rw [← hxx, List.getD, List.getElem?_eq_none (by rw [HBl.out]; omega)]; rfl
        have hand0 : bits .and .u64 cI 4294967295 = lI := by
          rw [and32 _ (by omega) (by omega), ← hlI, hx0, Nat.mul_zero]
          omega
        have hkm2 : k = m + 2 := by omega
        have HX0 := Lib.hid hx0
        have hkmI : (k : Int) = (m : Int) + 2 := by omega
        have HK := Lib.hid hkm2
        clear hB ho hv hcell hfr hset hst hset2 huu hxx hxb hts htb hqx hc2 hst2 hcz2 hd1 hd2 hd3 hD hDl huI hcI hbI heI hwI hlI hbo hcy hcz hub hml hbg0 hkS hc' hx0 hkm2 hkmI
        go_wp2
        go_roundw
        case rel =>
          refine ⟨k + 1, D ++ [dd], (cy + q * x) / 4294967296, b', by go_num, (by have e : (((cy + q * x) / 4294967296 : Nat) : Int) = cI / 4294967296 := (by have h1 := HcI.out; rw [HX0.out, Nat.mul_zero]; omega); rw [e]), by rw [← HwI.out], by omega, by simp [HDl.out], HD2.out.append (Lim.cons HD1.out Lim.nil), HC2.out, HCZ.out, HB2.out, ?_, ?_, HBr.out.set hbg _ _⟩
          · rw [HTS.out, HTB.out]; exact HST.out
          · rw [← HS2.out]
            have h := HSet.out dd
            rw [HeI.out] at h
            exact h
        case measure => simp [intOf]; omega
    · obtain rfl : k = m + 3 := by omega
      obtain rfl : cy = 0 := hcz rfl
      have e1 : S.drop (m + 3) = [] := List.drop_of_length_le (by rw [HSl.out]; omega)
      have e2 : S.take (m + 3) = S := List.take_of_length_le (by rw [HSl.out]; omega)
      have e3 : B.take (m + 3) = B := List.take_of_length_le (by rw [HBl.out]; omega)
      rw [e2, e3, Nat.zero_add, HVB.out] at hv
      rw [e1, List.nil_append] at ho
      have hdig := HD.out
      rw [HVB.out] at hdig
      have hqlt : valL S / V < 4294967296 := Nat.div_lt_of_lt_mul (by rw [Nat.mul_comm]; exact HLT.out)
      by_cases hb0 : bo = 0
      · subst hb0
        rw [Nat.mul_zero, Nat.add_zero] at hv
        obtain ⟨r1, r2⟩ := left_zero hv hdig HV0.out
        have hqI : (q : Int) ≤ 4294967295 := by omega
        have HR1 := Lib.hid r1
        have HR2 := Lib.hid r2
        have HO := Lib.hid ho
        have HDD := Lib.hid hD
        have HDl := Lib.hid hDl
        clear hB ho hv hD hDl hcz e1 e2 e3 hdig hqlt r1 r2 hcy hbo
        go_wp2
        go_ret
        exact ⟨D, by rw [← HR1.out]; rfl, HDl.out, HDD.out, HR2.out, HO.out, HBr.out⟩
      · obtain rfl : bo = 1 := by omega
        rw [Nat.mul_one] at hv
        have hDP : valL D < 4294967296 ^ (m + 3) := by have := valL_lt hD; rwa [hDl] at this
        have HB0 := Lib.hid (show StepB (m + 2) (valL D + V) A D R B W0 base w g (.slice (some ⟨g, 0, none⟩) N c) (.int .u64 0) (.int .i64 0) wr from ⟨0, [], 0, rfl, rfl, Nat.zero_le _, rfl, Lim.nil, by omega, by simp only [valL, List.drop_zero, Nat.pow_zero, Nat.one_mul, Nat.zero_add, HVB.out], by simpa using ho, hB⟩)
        have HLO := Lib.hid (fun (E c : Nat) (h1 : E + 4294967296 ^ (m + 3) * c = valL D + V) (h2 : E < 4294967296 ^ (m + 3)) => left_one hv hDP hdig HV0.out HVP.out h1 h2)
        have HDD := Lib.hid hD
        have HDl := Lib.hid hDl
        have HQL := Lib.hid hqlt
        clear hB ho hv hD hDl hcz e1 e2 e3 hdig hqlt hcy hbo hb0 hDP
        go_wp2
        go_loopw [7, 60] (fun c' p W => StepB (m + 2) (valL D + V) A D R B W0 base w g (.slice (some ⟨g, 0, none⟩) N c) c' p W) (fun c' p W => (m + 3) - (intOf p).toNat)
        case atStart => exact HB0.out
        case round =>
          obtain ⟨k, E, cy, rfl, rfl, hk, hEl, hE, hcy, hv, ho, hB⟩ := hrel
          have HBr := Lib.hid hB
          by_cases hlt : k < m + 3
          · have hkS : k < D.length := by rw [HDl.out]; omega
            have hml : (A ++ (E ++ (D.drop k ++ R))).length = N := by
              have h1 := HUl.out
              have h2 := HDl.out
              have h3 := HSl.out
              simp only [List.length_append, List.length_drop, hEl] at h1 ⊢
              omega
            have hbg0 : off + k < (A ++ (E ++ (D.drop k ++ R))).length := by rw [hml]; omega
            obtain ⟨g', c', he, hbg', hg', hc', hcell, hfr, hset⟩ := ho.form (by omega)
            simp only [Value.slice.injEq, Option.some.injEq, Addr.mk.injEq] at he
            obtain ⟨⟨rfl, -, -⟩, -, rfl⟩ := he
            have hc1 := hcell (off + k) hbg0
            rw [get_deep HAl.out hEl hkS hbg0] at hc1
            have hfk := hfr (off + k)
            have hst := fun y => hset (off + k) y hbg0
            have hset2 := fun y => set_deep (S := D) (R := R) HAl.out hEl hkS y
            have hub := HDD.out.get hkS
            have hvx : valL (D.drop k) = D[k] + 4294967296 * valL (D.drop (k + 1)) := by rw [List.drop_eq_getElem_cons hkS]; rfl
            obtain ⟨p, hp⟩ : ∃ p, D[k] = p := ⟨_, rfl⟩
            obtain ⟨q', hq⟩ : ∃ q', B.getD k 0 = q' := ⟨_, rfl⟩
            have hqb : q' < 4294967296 := by rw [← hq]; exact HB.out.getD k
            rw [valL_step B k, hvx, hp, hq] at hv
            rw [hp] at hc1 hub
            have hst2 := add_step hEl hv
            have HST := Lib.hid hst2
            have HSet := Lib.hid hst
            have HS2 := Lib.hid hset2
            have HE := Lib.hid hE
            have HEl := Lib.hid hEl
            have hcy2 : (cy + p + q') / 4294967296 ≤ 1 := by omega
            have HC2 := Lib.hid hcy2
            obtain ⟨cI, hcI⟩ : ∃ z : Int, (cy : Int) = z := ⟨_, rfl⟩
            obtain ⟨pI, hpI⟩ : ∃ z : Int, (p : Int) = z := ⟨_, rfl⟩
            have c0 : 0 ≤ cI := by omega
            have c1 : cI ≤ 1 := by omega
            have p0 : 0 ≤ pI := by omega
            have p1 : pI ≤ 4294967295 := by omega
            rw [hpI] at hc1
            rw [hcI]
            have HcI := Lib.hid hcI
            have HpI := Lib.hid hpI
            by_cases hkm : k < m + 2
            · have hrw := HHv.out.below (w' := wr) (by rw [HBase.out]; exact hB.1)
              obtain ⟨gg, hg1, _, hcx⟩ := hrw.at k (by rw [HBe.out, HBl.out]; exact hkm)
              cases hg1
              rw [HBe.out, hq] at hcx
              obtain ⟨qI, hqI⟩ : ∃ z : Int, (q' : Int) = z := ⟨_, rfl⟩
              have q0 : 0 ≤ qI := by omega
              have q1 : qI ≤ 4294967295 := by omega
              rw [hqI] at hcx
              have HqI := Lib.hid hqI
              have hand : bits .and .u64 (cI + qI + pI) 4294967295 = (cI + qI + pI) % 4294967296 := and32 _ (by omega) (by omega)
              clear hB ho hv hcell hfr hset hst hset2 hp hq hqb hub hvx hst2 hcy2 hE hEl hcI hpI hqI hrw hcy hml hbg0 hkS hc'
              go_wp2
              go_roundw
              case rel =>
                refine ⟨k + 1, E ++ [(cy + p + q') % 4294967296], (cy + p + q') / 4294967296, by go_num, ?_, by omega, by simp [HEl.out], HE.out.append (Lim.cons (Nat.mod_lt _ (by omega)) Lim.nil), HC2.out, HST.out, ?_, HBr.out.set hbg _ _⟩
                · have e : (((cy + p + q') / 4294967296 : Nat) : Int) = (cI + qI + pI) / 4294967296 := by have h1 := HcI.out; have h2 := HpI.out; have h3 := HqI.out; omega
                  rw [e]
                · rw [← HS2.out]
                  have h := HSet.out ((cy + p + q') % 4294967296)
                  have e : (((cy + p + q') % 4294967296 : Nat) : Int) = (cI + qI + pI) % 4294967296 := by have h1 := HcI.out; have h2 := HpI.out; have h3 := HqI.out; omega
                  rw [e] at h
                  exact h
              case measure => simp [intOf]; omega
            · have hx0 : q' = 0 := by rw [← hq, List.getD, List.getElem?_eq_none (by rw [HBl.out]; omega)]; rfl
              subst hx0
              have hand : bits .and .u64 (cI + pI) 4294967295 = (cI + pI) % 4294967296 := and32 _ (by omega) (by omega)
              clear hB ho hv hcell hfr hset hst hset2 hp hq hqb hub hvx hst2 hcy2 hE hEl hcI hpI hcy hml hbg0 hkS hc'
              go_wp2
              go_roundw
              case rel =>
                refine ⟨k + 1, E ++ [(cy + p + 0) % 4294967296], (cy + p + 0) / 4294967296, by go_num, ?_, by omega, by simp [HEl.out], HE.out.append (Lim.cons (Nat.mod_lt _ (by omega)) Lim.nil), HC2.out, HST.out, ?_, HBr.out.set hbg _ _⟩
                · have e : (((cy + p + 0) / 4294967296 : Nat) : Int) = (cI + pI) / 4294967296 := by have h1 := HcI.out; have h2 := HpI.out;  omega
                  rw [e]
                · rw [← HS2.out]
                  have h := HSet.out ((cy + p + 0) % 4294967296)
                  have e : (((cy + p + 0) % 4294967296 : Nat) : Int) = (cI + pI) % 4294967296 := by have h1 := HcI.out; have h2 := HpI.out;  omega
                  rw [e] at h
                  exact h
              case measure => simp [intOf]; omega
          · obtain rfl : k = m + 3 := by omega
            have e4 : D.drop (m + 3) = [] := List.drop_of_length_le (by rw [HDl.out]; omega)
            have e5 : B.drop (m + 3) = [] := List.drop_of_length_le (by rw [HBl.out]; omega)
            rw [e4, e5, show valL ([] : List Nat) = 0 from rfl, Nat.add_zero, Nat.add_zero] at hv
            rw [e4, List.nil_append] at ho
            have hEP : valL E < 4294967296 ^ (m + 3) := by have := valL_lt hE; rwa [hEl] at this
            obtain ⟨r1, r2⟩ := HLO.out _ _ hv hEP
            have hq1N : 1 ≤ q := by rw [r1]; exact Nat.le_add_left 1 _
            have hqN : q ≤ 4294967296 := HQ.out
            have hq1I : 1 ≤ (q : Int) := by omega
            have hqI : (q : Int) - 1 ≤ 4294967295 := by omega
            clear hq1N hqN
            have HR1 := Lib.hid r1
            have HR2 := Lib.hid r2
            have HO := Lib.hid ho
            have HE := Lib.hid hE
            have HEl := Lib.hid hEl
            clear hB ho hv hE hEl e4 e5 r1 r2 hcy hEP
            go_wp2
            go_ret
            exact ⟨E, by rw [show ((valL S / V : Nat) : Int) = (q : Int) - 1 by have := HR1.out; omega]; rfl, HEl.out, HE.out, HR2.out, HO.out, HBr.out⟩
end Go.Proofs.YtjcpfmndkeiegaaGreatDoor
