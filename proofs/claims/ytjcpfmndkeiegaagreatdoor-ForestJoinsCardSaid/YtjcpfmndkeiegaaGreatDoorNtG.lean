/- The walk of nat.Mul. -/
import Derived.Test.YtjcpfmndkeiegaaGreatDoorNtF
import Derived.Laws.OwnMore
namespace Go.Proofs.YtjcpfmndkeiegaaGreatDoor
open Go.RowKit
set_option linter.unusedVariables false

theorem made_cells (n : Nat) : (madeCells #[.int .u32 0] (n * 1)).toList = (List.replicate n 0).map uv := by
  apply List.ext_getElem?
  intro j
  by_cases hj : j < n
  · simp [madeCells, uv, hj, Nat.mod_one]
  · simp [madeCells, hj]
/-- 'make([]uint32, N)'. -/
theorem make_any (w : World) (N : Nat) (hN : N ≤ 4000000) : ∃ w', (Instr.makeSlice 55 (.int .i64 (N : Int)) (.int .i64 (N : Int))).run Tryz.prog w = .ok (.slice (some ⟨w.heap.size, 0, none⟩) N N) w' ∧
    OwnL w' w.heap.size (.slice (some ⟨w.heap.size, 0, none⟩) N N) (List.replicate N 0) ∧ Below w.heap.size w w' := by
  obtain ⟨i0, hi, hz0, hz1, hz2⟩ := info_parts infoU
  obtain ⟨w', h1, h2, h3⟩ := run_make_full (P := Tryz.prog) w w.heap.size 55 133 i0 _ 1 Tryz.underlying55 hi hz0 hz1 .i64 .i64 N (by rw [hz2]; omega) (by unfold maxLen; omega) (Nat.le_refl _)
  refine ⟨w', h1, ?_, ⟨h3.os, h3.tape, h3.output, h3.size, fun k hk => h3.block k hk (by simp)⟩⟩
  unfold OwnL
  rw [List.length_replicate, ← made_cells]
  exact h2
/-- The inner loop of Mul. -/
def MulI (xk k m N T0 y : Nat) (w : World) (base : Nat) (v c p : Value) (W : World) : Prop :=
  ∃ j O cy, p = .int .i64 (j : Nat) ∧ c = .int .u64 (cy : Nat) ∧ j ≤ m ∧ O.length = N ∧ Lim O ∧ cy < 4294967296 ∧ valL O + 4294967296 ^ (k + j) * cy = T0 + 4294967296 ^ k * (xk * valL ((limbs y).take j)) ∧ (∀ i, k + m ≤ i → O.getD i 0 = 0) ∧ OwnL W base v O ∧ Below base w W
/-- The outer loop of Mul. -/
def MulO (x y m N : Nat) (w : World) (base : Nat) (v p : Value) (W : World) : Prop :=
  ∃ k O, p = .int .i64 (k : Nat) ∧ k ≤ szN x ∧ O.length = N ∧ Lim O ∧ valL O = valL ((limbs x).take k) * y ∧ (∀ i, k + m ≤ i → O.getD i 0 = 0) ∧ OwnL W base v O ∧ Below base w W
theorem mul_in {O : List Nat} {k j cy xk yj T0 V : Nat} (h : k + j < O.length) (hv : valL O + 4294967296 ^ (k + j) * cy = T0 + 4294967296 ^ k * (xk * V)) :
    valL (O.set (k + j) ((cy + (xk * yj + O[k + j])) % 4294967296)) + 4294967296 ^ (k + (j + 1)) * ((cy + (xk * yj + O[k + j])) / 4294967296) = T0 + 4294967296 ^ k * (xk * (V + 4294967296 ^ j * yj)) := by
  rw [show k + (j + 1) = k + j + 1 by omega, mul_step h hv, Nat.pow_add]
  generalize 4294967296 ^ k = P
  generalize 4294967296 ^ j = Q
  grind
theorem mul_out {O : List Nat} {k m cy xk y T X : Nat} (h : k + m < O.length) (h0 : O.getD (k + m) 0 = 0) (hT : T = X * y) (hv : valL O + 4294967296 ^ (k + m) * cy = T + 4294967296 ^ k * (xk * y)) :
    valL (O.set (k + m) cy) = (X + 4294967296 ^ k * xk) * y := by
  have h1 := valL_set O (k + m) cy h
  have h2 : O[k + m] = 0 := by rw [List.getD, List.getElem?_eq_getElem h] at h0; exact h0
  rw [h2, Nat.mul_zero, Nat.add_zero] at h1
  rw [h1, hv, hT]
  generalize 4294967296 ^ k = P
  grind
theorem getD_set_ne (O : List Nat) {i j x : Nat} (h : i ≠ j) : (O.set i x).getD j 0 = O.getD j 0 := by
  rw [List.getD, List.getD, List.getElem?_set_ne h]

set_option maxRecDepth 20000 in
set_option maxHeartbeats 16000000 in
theorem mul_any {va vb : Value} {x y : Nat} {w : World} (hx : NatAt w va x) (hy : NatAt w vb y) (hxs : szN x ≤ 1000000) (hys : szN y ≤ 1000000) :
    Calls Tryz.prog 99 #[va, vb] w fun e w' => ∃ v, e = .returned v ∧ NatAt w' v (x * y) ∧ Below w.heap.size w w' := by
  obtain ⟨a, c, rfl, ha⟩ := hx
  obtain ⟨b, d, rfl, hb⟩ := hy
  obtain ⟨n, hn⟩ : ∃ n, szN x = n := ⟨_, rfl⟩
  obtain ⟨m, hm⟩ : ∃ m, szN y = m := ⟨_, rfl⟩
  rw [hn] at hxs ⊢
  rw [hm] at hys ⊢
  obtain ⟨W2, hW2⟩ : ∃ W2, ((w.alloc (.cells #[.slice a n c] 57)).alloc (.cells #[.slice b m d] 57)).alloc (.cells #[.slice none 0 0] 57) = W2 := ⟨_, rfl⟩
  obtain ⟨hbx, hB2, hz2⟩ := boxes_new w (.slice a n c) (.slice b m d)
  rw [show box3 w (.slice a n c) (.slice b m d) = W2 from hW2] at hbx hB2 hz2
  have HBx := Lib.hid hbx
  have HB2 := Lib.hid hB2
  have HAR := Lib.hid (ha.below hB2)
  have HBR := Lib.hid (hb.below hB2)
  have HN := Lib.hid hn
  have HM := Lib.hid hm
  have d0 := hbx.1.cell 0
  have d1 := hbx.2.1.cell 0
  obtain ⟨w3, hmk, ho3, hB3⟩ := make_any W2 (n + m) (by omega)
  obtain ⟨g, hg⟩ : ∃ g, W2.heap.size = g := ⟨_, rfl⟩
  rw [hg] at hmk ho3
  rw [Int.natCast_add] at hmk
  have HB3 := Lib.hid hB3
  have hbx3 := hbx.below hB3
  have e0 := hbx3.1.cell 0
  have e1 := hbx3.2.1.cell 0
  have H0 := Lib.hid (show MulO x y m (n + m) W2 g (.slice (some ⟨g, 0, none⟩) (n + m) (n + m)) (.int .i64 0) w3 from ⟨0, _, rfl, Nat.zero_le _, List.length_replicate, Lim.replicate _, by rw [valL_zero]; simp [valL], fun i _ => by rw [List.getD, List.getElem?_replicate]; split <;> rfl, ho3, by rw [← hg]; exact hB3⟩)
  have HG := Lib.hid hg
  have hgz : w.heap.size + 3 = g := by omega
  clear ha hb hbx hB2 hz2 hn hm hbx3 ho3 hB3 hg
  go_enter Tryz.func99, Tryz.ntmps99
  go_wp2
  clear hW2 d0 d1 e0 e1 hmk
  go_loopw [22] (fun p W => MulO x y m (n + m) W2 g (.slice (some ⟨g, 0, none⟩) (n + m) (n + m)) p W) (fun p W => n - (intOf p).toNat)
  case atStart => exact H0.out
  case round =>
    obtain ⟨k, O, rfl, hk, hOl, hO, hv, h0, ho, hB⟩ := hrel
    rw [HN.out] at hk
    have HBW := Lib.hid hB
    have hBw : Below W2.heap.size W2 wr := by rw [HG.out]; exact hB
    by_cases hlt : k < n
    · obtain ⟨ga, rfl, hga, hca⟩ := (HAR.out.below hBw).at k (by rw [limbs_len, HN.out]; exact hlt)
      obtain ⟨xk, hxk⟩ : ∃ xk, (limbs x).getD k 0 = xk := ⟨_, rfl⟩
      have hxb : xk < 4294967296 := by rw [← hxk]; exact limbs_getD_lt x k
      rw [hxk] at hca
      have hkL : k < (limbs x).length := by rw [limbs_len, HN.out]; exact hlt
      have htk : valL ((limbs x).take (k + 1)) = valL ((limbs x).take k) + 4294967296 ^ k * xk := by
        rw [valL_take_succ _ _ hkL]
        have : (limbs x)[k] = xk := by rw [← hxk, List.getD, List.getElem?_eq_getElem hkL]; rfl
        rw [this]
      have hbx := HBx.out.below hBw
      have c1 := hbx.2.1.cell 0
      have HTK := Lib.hid htk
      have HV := Lib.hid hv
      have H00 := Lib.hid h0
      have HXb := Lib.hid hxb
      obtain ⟨T0, hT0⟩ : ∃ T0, valL O = T0 := ⟨_, rfl⟩
      have HI := Lib.hid (show MulI xk k m (n + m) T0 y W2 g (.slice (some ⟨g, 0, none⟩) (n + m) (n + m)) (.int .u64 0) (.int .i64 0) wr from ⟨0, O, 0, rfl, rfl, Nat.zero_le _, hOl, hO, by omega, by rw [hT0]; simp [valL], h0, ho, hB⟩)
      have HT0 := Lib.hid (show T0 = valL ((limbs x).take k) * y by rw [← hT0]; exact hv)
      have hxI : (xk : Int) ≤ 4294967295 := by omega
      clear hB hBw hbx hv h0 ho hxb hxk htk hkL hO hOl hT0
      go_wp2
      clear c1 hca
      go_loopw [8, 30] (fun c' p W => MulI xk k m (n + m) T0 y W2 g (.slice (some ⟨g, 0, none⟩) (n + m) (n + m)) c' p W) (fun c' p W => m - (intOf p).toNat)
      case atStart => exact HI.out
      case round =>
        obtain ⟨j, O, cy, rfl, rfl, hj, hOl, hO, hcy, hv, h0, ho, hB⟩ := hrel
        have HBW := Lib.hid hB
        have HH0 := Lib.hid h0
        have HO := Lib.hid hO
        have HOl := Lib.hid hOl
        have hBw : Below W2.heap.size W2 wr := by rw [HG.out]; exact hB
        have hbx := HBx.out.below hBw
        have c1 := hbx.2.1.cell 0
        by_cases hjm : j < m
        · obtain ⟨gb, rfl, hgb, hcb⟩ := (HBR.out.below hBw).at j (by rw [limbs_len, HM.out]; exact hjm)
          obtain ⟨yj, hyj⟩ : ∃ yj, (limbs y).getD j 0 = yj := ⟨_, rfl⟩
          have hyb : yj < 4294967296 := by rw [← hyj]; exact limbs_getD_lt y j
          have hjL : j < (limbs y).length := by rw [limbs_len, HM.out]; exact hjm
          have htj : valL ((limbs y).take (j + 1)) = valL ((limbs y).take j) + 4294967296 ^ j * yj := by
            rw [valL_take_succ _ _ hjL]
            have : (limbs y)[j] = yj := by rw [← hyj, List.getD, List.getElem?_eq_getElem hjL]; rfl
            rw [this]
          rw [hyj] at hcb
          obtain ⟨g', c', he, hbg, hg', hc', hcell, hfr, hset⟩ := ho.form (by omega)
          simp only [Value.slice.injEq] at he
          obtain ⟨hgg, -, -⟩ := he
          obtain rfl : g = g' := by simpa using hgg
          have hc1 := hcell (k + j) (by omega)
          have hst := fun y => hset (k + j) y (by omega)
          have hfk := hfr (k + j)
          have hmi2 := mul_in (yj := yj) (show k + j < O.length by omega) hv
          rw [← htj] at hmi2
          have hob := hO.get (show k + j < O.length by omega)
          obtain ⟨o, ho'⟩ : ∃ o, O[k + j]'(by omega) = o := ⟨_, rfl⟩
          rw [ho'] at hc1 hmi2 hob
          have hmu : xk * yj ≤ 4294967295 * 4294967295 := Nat.mul_le_mul (by have := HXb.out; omega) (by omega)
          obtain ⟨mm, hmm⟩ : ∃ mm, xk * yj = mm := ⟨_, rfl⟩
          have hmmI : (xk : Int) * (yj : Int) = (mm : Int) := by rw [← hmm]; simp
          rw [hmm] at hmi2 hmu
          have hcy2 : (cy + (mm + o)) / 4294967296 < 4294967296 := by omega
          have HST := Lib.hid hmi2
          have HSet := Lib.hid hst
          have HC2 := Lib.hid hcy2
          have hz' : ∀ i, k + m ≤ i → (O.set (k + j) ((cy + (mm + o)) % 4294967296)).getD i 0 = 0 := fun i hi => by
            rw [getD_set_ne O (by omega)]; exact HH0.out i hi
          have HZ := Lib.hid hz'
          obtain ⟨cI, hcI⟩ : ∃ cI : Int, (cy : Int) = cI := ⟨_, rfl⟩
          obtain ⟨mI, hmI⟩ : ∃ mI : Int, (mm : Int) = mI := ⟨_, rfl⟩
          obtain ⟨oI, hoI⟩ : ∃ oI : Int, (o : Int) = oI := ⟨_, rfl⟩
          have hc0 : 0 ≤ cI := by omega
          have hc1' : cI ≤ 4294967295 := by omega
          have hm0 : 0 ≤ mI := by omega
          have hm1 : mI ≤ 18446744065119617025 := by omega
          have ho0 : 0 ≤ oI := by omega
          have ho1 : oI ≤ 4294967295 := by omega
          have hyI : (yj : Int) ≤ 4294967295 := by omega
          rw [hcI]
          rw [hmI] at hmmI
          rw [hoI] at hc1
          have HcI := Lib.hid hcI
          have HmI := Lib.hid hmI
          have HoI := Lib.hid hoI
          have hand : bits .and .u64 (cI + (mI + oI)) 4294967295 = (cI + (mI + oI)) % 4294967296 := and32 _ (by omega) (by omega)
          clear hB hBw h0 hO hOl hbx hyj hyb hjL htj hcell hfr hset hst hv hmi2 hob ho' hmu hmm hcy2 hz' hcI hmI hoI hcy ho hgg hc'
          go_wp2
          go_roundw
          case rel =>
            refine ⟨j + 1, O.set (k + j) ((cy + (mm + o)) % 4294967296), (cy + (mm + o)) / 4294967296, by go_num, ?_, by omega, by rw [List.length_set]; exact HOl.out, HO.out.set _ (Nat.mod_lt _ (by omega)), HC2.out, HST.out, HZ.out, ?_, ?_⟩
            · have e : (((cy + (mm + o)) / 4294967296 : Nat) : Int) = (cI + (mI + oI)) / 4294967296 := by have h1 := HcI.out; have h2 := HmI.out; have h3 := HoI.out; omega
              rw [e]
            · have h := HSet.out ((cy + (mm + o)) % 4294967296)
              have e : (((cy + (mm + o)) % 4294967296 : Nat) : Int) = (cI + (mI + oI)) % 4294967296 := by have h1 := HcI.out; have h2 := HmI.out; have h3 := HoI.out; omega
              rw [e] at h
              exact h
            · exact HBW.out.setCell (p := ⟨g, k + j, none⟩) (Nat.le_refl _) _
          case measure => simp [intOf]; omega
        · obtain rfl : j = m := by omega
          obtain ⟨g', c', he, hbg, hg', hc', hcell, hfr, hset⟩ := ho.form (by omega)
          simp only [Value.slice.injEq] at he
          obtain ⟨hgg, -, -⟩ := he
          obtain rfl : g = g' := by simpa using hgg
          have hyt : valL ((limbs y).take j) = y := by
            rw [List.take_of_length_le (by rw [limbs_len, HM.out]; omega), limbs_val]
          rw [hyt] at hv
          have hfin := mul_out (show k + j < O.length by omega) (h0 _ (Nat.le_refl _)) HT0.out hv
          rw [← HTK.out] at hfin
          have hc1 := hcell (k + j) (by omega)
          have hfk := hfr (k + j)
          have hst := fun y => hset (k + j) y (by omega)
          have HF := Lib.hid hfin
          have HSet := Lib.hid (hst cy)
          have HCy := Lib.hid hcy
          obtain ⟨o, ho'⟩ : ∃ o, O[k + j]'(by omega) = o := ⟨_, rfl⟩
          rw [ho'] at hc1
          obtain ⟨cI, hcI⟩ : ∃ cI : Int, (cy : Int) = cI := ⟨_, rfl⟩
          have hc0 : 0 ≤ cI := by omega
          have hc1' : cI ≤ 4294967295 := by omega
          rw [hcI]
          have HcI := Lib.hid hcI
          clear hB hBw h0 hO hOl hbx hcell hfr hset hst hv hfin hyt ho' hcI hcy ho hgg hc'
          go_wp2
          go_roundw
          case rel =>
            refine ⟨k + 1, O.set (k + j) cy, by go_num, by rw [HN.out]; omega, by rw [List.length_set]; exact HOl.out, HO.out.set _ HCy.out, HF.out, fun i hi => ?_, ?_, ?_⟩
            · rw [getD_set_ne O (by omega)]; exact HH0.out i (by omega)
            · have h := HSet.out
              rw [HcI.out] at h
              exact h
            · exact HBW.out.setCell (p := ⟨g, k + j, none⟩) (Nat.le_refl _) _
          case measure => simp [intOf]; omega
    · obtain rfl : k = n := by omega
      have hval : valL O = x * y := by
        rw [hv, List.take_of_length_le (by rw [limbs_len, HN.out]; omega), limbs_val]
      obtain ⟨a6, c6, he6, hc6, hr6⟩ := ho.rd
      have HT := Lib.hid (trim_any hO hr6 hc6 (by rw [hOl]; omega))
      rw [hval] at HT
      rw [hOl] at HT he6
      simp only [Value.slice.injEq] at he6
      obtain ⟨rfl, -, rfl⟩ := he6
      have HBx6 := Lib.hid (HBx.out.below hBw)
      have HBw := Lib.hid hBw
      clear hB hBw hv h0 hO hOl ho hval hc6 hr6
      go_wp2_with (go_at_call 94; refine HT.out.mono ?_; rintro e w6 ⟨rfl, hN6, hB6⟩; have HN6 := Lib.hid hN6; have hbx6 := HBx6.out.below hB6; have HB6 := Lib.hid (HBw.out.trans (hB6.mono HBw.out.size)); clear hN6 hB6; have r0 := hbx6.2.2.cell 0; have r1 := hbx6.2.2.frozen 0; have HX6 := Lib.hid hbx6.2.2; clear hbx6)
      obtain ⟨e1, e2, e3⟩ := res_at HX6.out (by omega) (HB2.out.trans (HB6.out.mono HB2.out.size)) HN6.out
      exact bodyPost_ret (r_c rfl rfl e1) rfl ⟨_, rfl, e2, e3⟩
end Go.Proofs.YtjcpfmndkeiegaaGreatDoor
