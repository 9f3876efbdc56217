/- The walks of nat.Shift, nat.down, at less than a limb. The walk of nat.down, at less than a limb. -/
import Derived.Test.YtjcpfmndkeiegaaGreatDoorNtG
namespace Go.Proofs.YtjcpfmndkeiegaaGreatDoor
open Go.RowKit
set_option linter.unusedVariables false

/-- 'make([]uint32, 0, N)'. -/
theorem make_none (w : World) (N : Nat) (hN : N ≤ 4000000) : ∃ w', (Instr.makeSlice 55 (.int .i64 0) (.int .i64 (N : Int))).run Tryz.prog w = .ok (.slice (some ⟨w.heap.size, 0, none⟩) 0 N) w' ∧
    OwnL w' w.heap.size (.slice (some ⟨w.heap.size, 0, none⟩) 0 N) [] ∧ Below w.heap.size w w' := by
  obtain ⟨i0, hi, hz0, hz1, hz2⟩ := info_parts infoU
  obtain ⟨w', h1, h2, h3⟩ := run_make_own (P := Tryz.prog) w w.heap.size 55 133 i0 _ 1 Tryz.underlying55 hi hz0 hz1 .i64 .i64 N (by rw [hz2]; omega) (by unfold maxLen; omega) (Nat.le_refl _)
  exact ⟨w', h1, h2, ⟨h3.os, h3.tape, h3.output, h3.size, fun k hk => h3.block k hk (by simp)⟩⟩
/-- One step of a shift. -/
theorem shift_step {D : List Nat} {c x X k p : Nat} (hk : D.length = k) (h : valL D + 4294967296 ^ k * c = X * p) :
    valL (D ++ [(c + x * p) % 4294967296]) + 4294967296 ^ (k + 1) * ((c + x * p) / 4294967296) = (X + 4294967296 ^ k * x) * p := by
  have e := dm (c + x * p) 4294967296
  rw [valL_snoc, hk, Nat.pow_succ]
  generalize 4294967296 ^ k = P at *
  generalize (c + x * p) / 4294967296 = q at *
  generalize (c + x * p) % 4294967296 = r at *
  grind
theorem or_shift (c x s : Nat) (hc : c < 2 ^ s) (h : c + x * 2 ^ s < 18446744073709551616) : bits .or .u64 (c : Int) ((x * 2 ^ s : Nat) : Int) = ((c + x * 2 ^ s : Nat) : Int) := by
  show IntKind.u64.wrap ((BitVec.ofInt 64 (c : Int) ||| BitVec.ofInt 64 ((x * 2 ^ s : Nat) : Int)).toNat : Int) = _
  rw [BitVec.toNat_or, BitVec.toNat_ofInt, BitVec.toNat_ofInt]
  generalize hm : x * 2 ^ s = m at *
  have e1 : ((c : Int) % ((2 ^ 64 : Nat) : Int)).toNat = c := by omega
  have e2 : ((m : Int) % ((2 ^ 64 : Nat) : Int)).toNat = m := by omega
  have e3 : c ||| m = c + m := by
    rw [Nat.or_comm, ← hm, Nat.mul_comm x, ← Nat.two_pow_add_eq_or_of_lt hc, Nat.add_comm]
  rw [e1, e2, e3]
  simp [IntKind.wrap, IntKind.bits, IntKind.signed]
  omega
/-- The loop of Shift. -/
def ShiftL (x p2 : Nat) (w : World) (base : Nat) (v c p : Value) (W : World) : Prop :=
  ∃ k D cy, p = .int .i64 (k : Nat) ∧ c = .int .u64 (cy : Nat) ∧ k ≤ szN x ∧ D.length = k ∧ Lim D ∧ cy < p2 ∧ valL D + 4294967296 ^ k * cy = valL ((limbs x).take k) * p2 ∧ OwnL W base v D ∧ Below base w W
set_option maxRecDepth 20000 in
set_option maxHeartbeats 16000000 in
theorem shift_any {va : Value} {x s : Nat} {w : World} (hx : NatAt w va x) (hxs : szN x ≤ 1000000) (hs : s ≤ 31) :
    Calls Tryz.prog 141 #[va, .int .i64 s] w fun e w' => ∃ v, e = .returned v ∧ NatAt w' v (x * 2 ^ s) ∧ Below w.heap.size w w' := by
  obtain ⟨a, c, rfl, ha⟩ := hx
  obtain ⟨n, hn⟩ : ∃ n, szN x = n := ⟨_, rfl⟩
  rw [hn] at hxs ⊢
  obtain ⟨W2, hW2⟩ : ∃ W2, (w.alloc (.cells #[.slice a n c] 57)).alloc (.cells #[.slice none 0 0] 57) = W2 := ⟨_, rfl⟩
  have hB2 : Below w.heap.size w W2 := by rw [← hW2]; exact ((Below.refl _ w).alloc (Nat.le_refl _) _).alloc (by simp) _
  have k0 : BlkAt W2 w.heap.size 57 #[.slice a n c] := by rw [← hW2]; exact (BlkAt.new w _ _).alloc _
  have k1 : BlkAt W2 (w.heap.size + 1) 57 #[.slice none 0 0] := by rw [← hW2]; have := BlkAt.new (w.alloc (.cells #[.slice a n c] 57)) 57 #[.slice none 0 0]; simpa using this
  have hz2 : W2.heap.size = w.heap.size + 2 := by rw [← hW2]; simp
  have d0 := k0.cell 0
  have HK1 := Lib.hid k1
  have HZ2 := Lib.hid hz2
  have HB2 := Lib.hid hB2
  have HAR := Lib.hid (ha.below hB2)
  have HN := Lib.hid hn
  obtain ⟨w3, hmk, ho3, hB3⟩ := make_none W2 (n + 1) (by omega)
  obtain ⟨g, hg⟩ : ∃ g, W2.heap.size = g := ⟨_, rfl⟩
  rw [hg] at hmk ho3
  rw [show ((n + 1 : Nat) : Int) = (n : Int) + 1 by omega] at hmk
  have e0 := (k0.below hB3 k0.lt).cell 0
  obtain ⟨p2, hp2⟩ : ∃ p2, 2 ^ s = p2 := ⟨_, rfl⟩
  have hpp : 0 < p2 := by rw [← hp2]; exact Nat.pow_pos (by omega)
  have hpb : p2 ≤ 2147483648 := by rw [← hp2]; exact Nat.le_trans (Nat.pow_le_pow_right (by omega) hs) (by decide)
  have H0 := Lib.hid (show ShiftL x p2 W2 g (.slice (some ⟨g, 0, none⟩) 0 (n + 1)) (.int .u64 0) (.int .i64 0) w3 from ⟨0, [], 0, rfl, rfl, Nat.zero_le _, rfl, Lim.nil, hpp, by simp [valL], ho3, by rw [← hg]; exact hB3⟩)
  have HG := Lib.hid hg
  have HP2 := Lib.hid hp2
  have HPP := Lib.hid hpb
  have hmin : min (s : Int) 20000 = s := by omega
  have hq : (s : Int) / 32 = 0 := by omega
  have hr : (s : Int) % 32 = s := by omega
  clear ha k0 k1 hB2 hz2 hn ho3 hB3 hg hp2 hpp hpb
  go_enter Tryz.func141, Tryz.ntmps141
  go_wp2
  clear hW2 d0 hmk e0
  go_loopw [5, 6, 29] (fun v c' p W => ShiftL x p2 W2 g v c' p W) (fun v c' p W => n - (intOf p).toNat)
  case atStart => exact H0.out
  case round =>
    obtain ⟨k, D, cy, rfl, rfl, hk, hDl, hD, hcy, hv, ho, hB⟩ := hrel
    rw [HN.out] at hk
    have HBW := Lib.hid hB
    have hBw : Below W2.heap.size W2 wr := by rw [HG.out]; exact hB
    by_cases hlt : k < n
    · obtain ⟨ga, rfl, hga, hca⟩ := (HAR.out.below hBw).at k (by rw [limbs_len, HN.out]; exact hlt)
      obtain ⟨xk, hxk⟩ : ∃ xk, (limbs x).getD k 0 = xk := ⟨_, rfl⟩
      have hxb : xk < 4294967296 := by rw [← hxk]; exact limbs_getD_lt x k
      rw [hxk] at hca
      have hkL : k < (limbs x).length := by rw [limbs_len, HN.out]; exact hlt
      have htk : valL ((limbs x).take (k + 1)) = valL ((limbs x).take k) + 4294967296 ^ k * xk := by
        rw [valL_take_succ _ _ hkL]
        have : (limbs x)[k] = xk := by rw [← hxk, List.getD, List.getElem?_eq_getElem hkL]; rfl
        rw [this]
      have hxI : (xk : Int) ≤ 4294967295 := by omega
      have hcI : (cy : Int) ≤ 4294967295 := by have := HPP.out; omega
      have hmb : xk * p2 ≤ 4294967295 * p2 := Nat.mul_le_mul_right p2 (by omega)
      have hpb := HPP.out
      have hst2 := shift_step (x := xk) hDl hv
      rw [← htk] at hst2
      have hor := or_shift cy xk s (by rw [HP2.out]; exact hcy) (by rw [HP2.out]; omega)
      rw [HP2.out] at hor
      have hcy2 : (cy + xk * p2) / 4294967296 < p2 := by
        apply Nat.div_lt_of_lt_mul
        omega
      obtain ⟨mm, hmm⟩ : ∃ mm, xk * p2 = mm := ⟨_, rfl⟩
      rw [hmm] at hst2 hor hcy2 hmb
      have HST := Lib.hid hst2
      have HC2 := Lib.hid hcy2
      have HD := Lib.hid hD
      have HDl := Lib.hid hDl
      have HOs := Lib.hid ho
      unfold OwnL at HOs
      obtain ⟨cI, hcI'⟩ : ∃ cI : Int, (cy : Int) = cI := ⟨_, rfl⟩
      obtain ⟨pI, hpI'⟩ : ∃ pI : Int, (2 : Int) ^ s = pI := ⟨_, rfl⟩
      obtain ⟨mI, hmI'⟩ : ∃ mI : Int, (mm : Int) = mI := ⟨_, rfl⟩
      have hpp2 : (p2 : Int) = pI := by rw [← hpI', ← HP2.out]; simp
      have hmul : (xk : Int) * pI = mI := by rw [← hmI', ← hmm, ← hpp2]; simp
      have hc0 : 0 ≤ cI := by omega
      have hm0 : 0 ≤ mI := by omega
      have hm1 : mI ≤ 9223372034707292160 := by omega
      rw [show ((cy + mm : Nat) : Int) = (cy : Int) + (mm : Int) by omega, hcI', hmI'] at hor
      rw [hcI'] at hcI ⊢
      have HcI := Lib.hid hcI'
      have HmI := Lib.hid hmI'
      have hand : bits .and .u64 (cI + mI) 4294967295 = (cI + mI) % 4294967296 := and32 _ (by omega) (by omega)
      have hwz : g ≤ wr.heap.size := by have := HBW.out.size; have := HG.out; omega
      have hkb : (k + 1) * 4 ≤ 140737488355328 := by omega
      clear hB hBw ho hD hv hcy hxk hxb hkL htk hmb hpb hst2 hcy2 hmm hcI' hmI' hpp2
      go_wp2_with (at_builtin; refine wpList_app _ rfl _ _ _ _ _ _ slU rfl g W2 (HBW.out.alloc hwz _) (by simp; omega) _ _ _ rfl (HOs.out.alloc _) ⟨wr.heap.size, 0, none⟩ [.int .u32 ((cI + mI) % 4294967296)] rfl rfl (cell_one_new _ _ _) (by simp [Value.oneCell']) (by rw [HDl.out]; exact hkb) ?_; intro v' w4 ho4 hB4 hb4 hg4)
      go_roundw
      case rel =>
        refine ⟨k + 1, D ++ [(cy + mm) % 4294967296], (cy + mm) / 4294967296, by go_num, ?_, by rw [HN.out]; omega, by simp [HDl.out], HD.out.append (Lim.cons (Nat.mod_lt _ (by omega)) Lim.nil), HC2.out, HST.out, ?_, ?_⟩
        · have e : (((cy + mm) / 4294967296 : Nat) : Int) = (cI + mI) / 4294967296 := by have h1 := HcI.out; have h2 := HmI.out; omega
          rw [e]
        · have e : (((cy + mm) % 4294967296 : Nat) : Int) = (cI + mI) % 4294967296 := by have h1 := HcI.out; have h2 := HmI.out; omega
          rw [← e] at ho4
          unfold OwnL
          simpa [uv] using ho4
        · exact hB4
      case measure => simp [intOf]; omega
    · obtain rfl : k = n := by omega
      have hxt : valL ((limbs x).take k) = x := by rw [List.take_of_length_le (by rw [limbs_len, HN.out]; omega), limbs_val]
      rw [hxt] at hv
      have hval : valL (D ++ [cy]) = x * 2 ^ s := by rw [valL_snoc, hDl, HP2.out]; exact hv
      have HVal := Lib.hid hval
      have hpb := HPP.out
      have hlim : Lim (D ++ [cy]) := hD.append (Lim.cons (by omega) Lim.nil)
      have HLim := Lib.hid hlim
      have HDl := Lib.hid hDl
      have HOs := Lib.hid ho
      unfold OwnL at HOs
      obtain ⟨cI, hcI'⟩ : ∃ cI : Int, (cy : Int) = cI := ⟨_, rfl⟩
      have hc0 : 0 ≤ cI := by omega
      have hc1 : cI ≤ 4294967295 := by omega
      rw [hcI']
      have HcI := Lib.hid hcI'
      have hwz : g ≤ wr.heap.size := by have := HBW.out.size; have := HG.out; omega
      have hgz : w.heap.size + 2 = g := by have := HG.out; have := HZ2.out; omega
      have hkb : (k + 1) * 4 ≤ 140737488355328 := by omega
      clear hB hBw ho hD hv hcy hxt hval hpb hlim hDl hcI'
      go_wp2_with (first
        | (at_builtin; refine wpList_app _ rfl _ _ _ _ _ _ slU rfl g W2 (HBW.out.alloc hwz _) (by simp; omega) _ _ _ rfl (HOs.out.alloc _) ⟨wr.heap.size, 0, none⟩ [.int .u32 cI] rfl rfl (cell_one_new _ _ _) (by simp [Value.oneCell']) (by rw [HDl.out]; exact hkb) ?_; intro v' w4 ho4 hB4 hb4 hg4; have ho5 : OwnL w4 g v' (D ++ [cy]) := (by rw [← HcI.out] at ho4; unfold OwnL; simpa [uv] using ho4); obtain ⟨a5, c5, hv5, hc5, hr5⟩ := ho5.rd; have HT := Lib.hid (trim_any HLim.out hr5 hc5 (by rw [List.length_append, HDl.out]; simp; omega)); rw [HVal.out] at HT; have hlen : (D ++ [cy]).length = k + 1 := (by rw [List.length_append, HDl.out]; rfl); rw [hlen] at hv5 hc5 HT; clear hlen; subst hv5; have HBw4 := Lib.hid (show Below W2.heap.size W2 w4 by rw [HG.out]; exact hB4); clear ho4 ho5 hB4 hb4 hg4 hr5)
        | (go_at_call 94; refine HT.out.mono ?_; rintro e w6 ⟨rfl, hN6, hB6⟩; have HN6 := Lib.hid hN6; have HB6 := Lib.hid (HBw4.out.trans (hB6.mono HBw4.out.size)); clear hN6 hB6; have hk6 := HK1.out.below HB6.out HK1.out.lt; have r0 := hk6.cell 0; have r1 := hk6.frozen 0; have HX6 := Lib.hid hk6; clear hk6))
      obtain ⟨e1, e2, e3⟩ := res_at HX6.out (by omega) (HB2.out.trans (HB6.out.mono HB2.out.size)) HN6.out
      exact bodyPost_ret (r_c rfl rfl e1) rfl ⟨_, rfl, e2, e3⟩
end Go.Proofs.YtjcpfmndkeiegaaGreatDoor
namespace Go.Proofs.YtjcpfmndkeiegaaGreatDoor
open Go.RowKit
set_option linter.unusedVariables false

theorem div_drop (x k : Nat) : x / 4294967296 ^ k = valL ((limbs x).drop k) := by
  have h := valL_drop (limbs x) k
  rw [limbs_val] at h
  by_cases hk : k ≤ (limbs x).length
  · rw [Nat.min_eq_left hk] at h
    have h2 := valL_lt ((limbs_lim x).take k)
    rw [List.length_take, Nat.min_eq_left hk] at h2
    have e : (valL ((limbs x).take k) + 4294967296 ^ k * valL ((limbs x).drop k)) / 4294967296 ^ k = valL ((limbs x).drop k) := by
      rw [Nat.add_comm, Nat.mul_add_div (Nat.pow_pos (by omega)), Nat.div_eq_of_lt h2, Nat.add_zero]
    rwa [← h] at e
  · rw [List.drop_of_length_le (by omega)]
    have h3 := szN_lt x
    have h4 : 4294967296 ^ szN x ≤ 4294967296 ^ k := Nat.pow_le_pow_right (by omega) (by rw [limbs_len] at hk; omega)
    exact Nat.div_eq_of_lt (by omega)
theorem two_mod (a b z s : Nat) (hs : s ≤ 31) : (a + 4294967296 * (b + 4294967296 * z)) / 2 ^ s % 4294967296 = (b * 4294967296 + a) / 2 ^ s % 4294967296 := by
  have e1 : a + 4294967296 * (b + 4294967296 * z) = (b * 4294967296 + a) + 2 ^ s * (2 ^ (32 - s) * (4294967296 * z)) := by
    have : 2 ^ s * 2 ^ (32 - s) = 4294967296 := by
      rw [← Nat.pow_add, show s + (32 - s) = 32 by omega]
    rw [← Nat.mul_assoc (2 ^ s), this]
    omega
  rw [e1, Nat.add_mul_div_left _ _ (Nat.pow_pos (by omega))]
  rw [show 2 ^ (32 - s) * (4294967296 * z) = 4294967296 * (2 ^ (32 - s) * z) by grind, Nat.add_mul_mod_self_left]
/-- One step of a shift down. -/
theorem down_step {D : List Nat} {x s k : Nat} (hs : s ≤ 31) (hk : D.length = k) (h : valL D = x / 2 ^ s % 4294967296 ^ k) :
    valL (D ++ [((limbs x).getD (k + 1) 0 * 4294967296 + (limbs x).getD k 0) / 2 ^ s % 4294967296]) = x / 2 ^ s % 4294967296 ^ (k + 1) := by
  rw [valL_snoc, hk, h, Nat.mod_pow_succ]
  congr 2
  rw [Nat.div_div_eq_div_mul, Nat.mul_comm (2 ^ s), ← Nat.div_div_eq_div_mul, div_drop, valL_step (limbs x) k, valL_step (limbs x) (k + 1), two_mod _ _ _ _ hs]
theorem down_cast (y x s : Nat) : ((y : Int) * 4294967296 + (x : Int)) / 2 ^ ((s : Int).toNat) = (((y * 4294967296 + x) / 2 ^ s : Nat) : Int) := by
  rw [Int.toNat_natCast, Int.natCast_ediv, Int.natCast_pow]
  congr 1
/-- The loop of down. -/
def DownL (x s : Nat) (w : World) (base : Nat) (v p : Value) (W : World) : Prop :=
  ∃ k D, p = .int .i64 (k : Nat) ∧ k ≤ szN x ∧ D.length = k ∧ Lim D ∧ valL D = x / 2 ^ s % 4294967296 ^ k ∧ OwnL W base v D ∧ Below base w W
set_option maxRecDepth 20000 in
set_option maxHeartbeats 16000000 in
theorem down_any {va : Value} {x s : Nat} {w : World} (hx : NatAt w va x) (hxs : szN x ≤ 1000000) (hs : s ≤ 31) (hs1 : 1 ≤ s) :
    Calls Tryz.prog 155 #[va, .int .i64 (-(s : Int))] w fun e w' => ∃ v, e = .returned v ∧ NatAt w' v (x / 2 ^ s) ∧ Below w.heap.size w w' := by
  have hx' := hx
  obtain ⟨a, c, rfl, ha⟩ := hx
  obtain ⟨n, hn⟩ : ∃ n, szN x = n := ⟨_, rfl⟩
  rw [hn] at hxs hx' ⊢
  obtain ⟨W2, hW2⟩ : ∃ W2, (w.alloc (.cells #[.slice a n c] 57)).alloc (.cells #[.slice none 0 0] 57) = W2 := ⟨_, rfl⟩
  have hB2 : Below w.heap.size w W2 := by rw [← hW2]; exact ((Below.refl _ w).alloc (Nat.le_refl _) _).alloc (by simp) _
  have k0 : BlkAt W2 w.heap.size 57 #[.slice a n c] := by rw [← hW2]; exact (BlkAt.new w _ _).alloc _
  have k1 : BlkAt W2 (w.heap.size + 1) 57 #[.slice none 0 0] := by rw [← hW2]; have := BlkAt.new (w.alloc (.cells #[.slice a n c] 57)) 57 #[.slice none 0 0]; simpa using this
  have hz2 : W2.heap.size = w.heap.size + 2 := by rw [← hW2]; simp
  have d0 := k0.cell 0
  have d1 := k1.cell 0
  have d2 := k1.frozen 0
  have HK0 := Lib.hid k0
  have HK1 := Lib.hid k1
  have HZ2 := Lib.hid hz2
  have HB2 := Lib.hid hB2
  have HAR := Lib.hid (ha.below hB2)
  have HN := Lib.hid hn
  have HAt := Lib.hid (fun (k : Nat) (hk : k ≤ 1000000) (W : World) (hW : Below W2.heap.size W2 W) => at_any (i := k) ((hx'.below hB2).below hW) (by rw [hn]; omega) (by omega))
  obtain ⟨sI, hsI⟩ : ∃ sI : Int, (s : Int) = sI := ⟨_, rfl⟩
  have hs0 : 1 ≤ sI := by omega
  have hs2 : sI ≤ 31 := by omega
  rw [hsI]
  by_cases hn0 : n = 0
  · subst hn0
    have hx0 : x / 2 ^ s = 0 := by
      have : x = 0 := by apply Decidable.byContradiction; intro h; have := szN_pos h; omega
      rw [this]; exact Nat.zero_div _
    have HX0 := Lib.hid hx0
    clear ha k0 k1 hB2 hz2 hn hx' hsI hx0
    go_enter Tryz.func155, Tryz.ntmps155
    go_wp2
    obtain ⟨e1, e2, e3⟩ := res_at HK1.out (by omega) HB2.out (NatAt.zero W2 0)
    exact bodyPost_ret (r_c rfl rfl e1) rfl ⟨_, rfl, by rw [HX0.out]; exact e2, e3⟩
  · have H0 := Lib.hid (show DownL x s W2 W2.heap.size (.slice none 0 0) (.int .i64 0) W2 from ⟨0, [], rfl, Nat.zero_le _, rfl, Lim.nil, by simp [valL, Nat.mod_one], OwnL.nil _ _, Below.refl _ _⟩)
    have hn1 : 1 ≤ n := by omega
    have hq : sI / 32 = 0 := by omega
    have hr : sI % 32 = sI := by omega
    have HsI := Lib.hid hsI
    clear ha k0 k1 hB2 hz2 hn hx' hsI hn0
    go_enter Tryz.func155, Tryz.ntmps155
    go_wp2
    rw [hq]
    clear hW2 d0 d1 d2 hq
    go_loopw [6, 7] (fun v p W => DownL x s W2 W2.heap.size v p W) (fun v p W => n - (intOf p).toNat)
    case atStart => exact H0.out
    case round =>
      obtain ⟨k, D, rfl, hk, hDl, hD, hv, ho, hB⟩ := hrel
      rw [HN.out] at hk
      have HBW := Lib.hid hB
      have c0 := (HK0.out.below hB HK0.out.lt).cell 0
      have L0 := load_box c0
      by_cases hlt : k < n
      · obtain ⟨ga, rfl, hga, hca⟩ := (HAR.out.below hB).at k (by rw [limbs_len, HN.out]; exact hlt)
        obtain ⟨xk, hxk⟩ : ∃ xk, (limbs x).getD k 0 = xk := ⟨_, rfl⟩
        obtain ⟨yk, hyk⟩ : ∃ yk, (limbs x).getD (k + 1) 0 = yk := ⟨_, rfl⟩
        have hxb : xk < 4294967296 := by rw [← hxk]; exact limbs_getD_lt x k
        have hyb : yk < 4294967296 := by rw [← hyk]; exact limbs_getD_lt x (k + 1)
        rw [hxk] at hca
        have hst2 := down_step hs hDl hv
        rw [hxk, hyk] at hst2
        have HA1 := Lib.hid (HAt.out (k + 1) (by omega))
        rw [hyk] at HA1
        rw [show ((k + 1 : Nat) : Int) = (k : Int) + 1 by omega] at HA1
        have HST := Lib.hid hst2
        have HD := Lib.hid hD
        have HDl := Lib.hid hDl
        have HOs := Lib.hid ho
        unfold OwnL at HOs
        have hwl0 : w.heap.size < wr.heap.size := Nat.lt_of_lt_of_le HK0.out.lt HBW.out.size
        have p0 := lift_cell (a := ⟨w.heap.size, 0, none⟩) hwl0 c0
        have pca := lift_cell (a := ⟨ga, k, none⟩) (Nat.lt_of_lt_of_le hga (Nat.le_refl _)) hca
        have PL := fun q => load_box (p0 q)
        have HQ1 := Lib.hid (fun q => HA1.out (lift wr q) (HBW.out.trans ((below_lift wr q).mono HBW.out.size)))
        obtain ⟨yI, hyI'⟩ : ∃ yI : Int, (yk : Int) = yI := ⟨_, rfl⟩
        obtain ⟨xI, hxI'⟩ : ∃ xI : Int, (xk : Int) = xI := ⟨_, rfl⟩
        have hy0 : 0 ≤ yI := by omega
        have hy1 : yI ≤ 4294967295 := by omega
        have hx0 : 0 ≤ xI := by omega
        have hx1 : xI ≤ 4294967295 := by omega
        rw [hyI'] at HQ1
        rw [hxI'] at pca
        have hor := or32 yI xI hy0 hy1 hx0 hx1
        have hwy1 : IntKind.u64.wrap yI = yI := by simp [IntKind.wrap, IntKind.bits, IntKind.signed]; omega
        have hwx1 : IntKind.u64.wrap xI = xI := by simp [IntKind.wrap, IntKind.bits, IntKind.signed]; omega
        have hwk : IntKind.i64.wrap ((k : Int) + 1) = (k : Int) + 1 := by rw [IntKind.wrap_i64]; omega
        have hwy : IntKind.u64.wrap (yI * 4294967296) = yI * 4294967296 := by simp [IntKind.wrap, IntKind.bits, IntKind.signed]; omega
        have HyI := Lib.hid hyI'
        have HxI := Lib.hid hxI'
        clear hB ho hD hv hxk hyk hst2 hDl hwl0 L0 hca HA1 hyI' hxI' hxb hyb
        go_wp2_with fail
        refine wp_region_quiet_below mixedO (by kernel_rfl) ?_
        iterate 3 quiet_step (fail)
        quiet_step (first | (go_at_call 126; exact calls_lift (HQ1.out _)))
        iterate 10 quiet_step (fail)
        refine wpQuiet_nil ?_
        intro _ hw'
        obtain ⟨lp, hw''⟩ := hw'
        subst hw''
        have HB4 := Lib.hid (HBW.out.trans ((below_lift wr lp).mono HBW.out.size))
        have HOs4 := Lib.hid ((KeepT.of_below (below_lift wr lp)).owns HOs.out)
        obtain ⟨tI, htI⟩ : ∃ tI : Int, yI * 4294967296 + xI = tI := ⟨_, rfl⟩
        have ht0 : 0 ≤ tI := by omega
        have ht1 : tI ≤ 18446744073709551615 := by omega
        have HtI := Lib.hid htI
        clear p0 pca PL c0 hwk hwy hwy1 hwx1
        generalize lift wr lp = w4 at *
        rw [htI]
        clear htI hor
        obtain ⟨q, hq⟩ : ∃ q, (yk * 4294967296 + xk) / 2 ^ s = q := ⟨_, rfl⟩
        have hqI : tI / 2 ^ sI.toNat = (q : Int) := by rw [← HtI.out, ← HyI.out, ← HxI.out, ← HsI.out, down_cast, hq]
        have hqb : q ≤ 18446744073709551615 := by
          rw [← hq]
          have h1 : yk * 4294967296 + xk ≤ 18446744073709551615 := by have := HyI.out; have := HxI.out; have := HtI.out; omega
          exact Nat.le_trans (Nat.div_le_self _ _) h1
        rw [hq] at HST
        obtain ⟨qI, hqI'⟩ : ∃ qI : Int, (q : Int) = qI := ⟨_, rfl⟩
        have hq0 : 0 ≤ qI := by omega
        have hq1 : qI ≤ 18446744073709551615 := by omega
        rw [hqI'] at hqI
        have HqI := Lib.hid hqI'
        have hand : bits .and .u64 qI 4294967295 = qI % 4294967296 := and32 _ (by omega) (by omega)
        have hwz : W2.heap.size ≤ w4.heap.size := HB4.out.size
        have hkb : (k + 1) * 4 ≤ 140737488355328 := by omega
        clear hq hqb hqI'
        go_wp2_with (at_builtin; refine wpList_app _ rfl _ _ _ _ _ _ slU rfl W2.heap.size W2 (HB4.out.alloc hwz _) (by simp; omega) _ _ _ rfl (HOs4.out.alloc _) ⟨w4.heap.size, 0, none⟩ [.int .u32 (qI % 4294967296)] rfl rfl (cell_one_new _ _ _) (by simp [Value.oneCell']) (by rw [HDl.out]; exact hkb) ?_; intro v' w5 ho5 hB5 hb5 hg5)
        go_roundw
        case rel =>
          refine ⟨k + 1, D ++ [q % 4294967296], by go_num, by rw [HN.out]; omega, by simp [HDl.out], HD.out.append (Lim.cons (Nat.mod_lt _ (by omega)) Lim.nil), HST.out, ?_, hB5⟩
          have e : ((q % 4294967296 : Nat) : Int) = qI % 4294967296 := by have h1 := HqI.out; omega
          rw [← e] at ho5
          unfold OwnL
          simpa [uv] using ho5
        case measure => simp [intOf]; omega
      · obtain rfl : k = n := by omega
        have hval : valL D = x / 2 ^ s := by
          rw [hv, Nat.mod_eq_of_lt]
          have h1 := szN_lt x
          rw [HN.out] at h1
          exact Nat.lt_of_le_of_lt (Nat.div_le_self _ _) h1
        obtain ⟨a5, c5, hv5, hc5, hr5⟩ := ho.rd
        have HT := Lib.hid (trim_any hD hr5 hc5 (by rw [hDl]; omega))
        rw [hval, hDl] at HT
        rw [hDl] at hv5 hc5
        subst hv5
        have hgz : w.heap.size + 2 = W2.heap.size := HZ2.out.symm
        clear hB ho hD hv hDl hval hr5 L0
        go_wp2_with (go_at_call 94; refine HT.out.mono ?_; rintro e w6 ⟨rfl, hN6, hB6⟩; have HN6 := Lib.hid hN6; have HB6 := Lib.hid (HBW.out.trans (hB6.mono HBW.out.size)); clear hN6 hB6; have hk6 := HK1.out.below HB6.out HK1.out.lt; have r0 := hk6.cell 0; have r1 := hk6.frozen 0; have HX6 := Lib.hid hk6; clear hk6)
        obtain ⟨e1, e2, e3⟩ := res_at HX6.out (by omega) (HB2.out.trans (HB6.out.mono HB2.out.size)) HN6.out
        exact bodyPost_ret (r_c rfl rfl e1) rfl ⟨_, rfl, e2, e3⟩
set_option maxRecDepth 20000 in
set_option maxHeartbeats 8000000 in
theorem shift_down {va : Value} {x s : Nat} {w : World} (hx : NatAt w va x) (hxs : szN x ≤ 1000000) (hs : s ≤ 31) (hs1 : 1 ≤ s) :
    Calls Tryz.prog 141 #[va, .int .i64 (-(s : Int))] w fun e w' => ∃ v, e = .returned v ∧ NatAt w' v (x / 2 ^ s) ∧ Below w.heap.size w w' := by
  have hx' := hx
  obtain ⟨a, c, rfl, ha⟩ := hx
  obtain ⟨n, hn⟩ : ∃ n, szN x = n := ⟨_, rfl⟩
  rw [hn] at hx' ⊢
  obtain ⟨W2, hW2⟩ : ∃ W2, (w.alloc (.cells #[.slice a n c] 57)).alloc (.cells #[.slice none 0 0] 57) = W2 := ⟨_, rfl⟩
  have hB2 : Below w.heap.size w W2 := by rw [← hW2]; exact ((Below.refl _ w).alloc (Nat.le_refl _) _).alloc (by simp) _
  have k0 : BlkAt W2 w.heap.size 57 #[.slice a n c] := by rw [← hW2]; exact (BlkAt.new w _ _).alloc _
  have k1 : BlkAt W2 (w.heap.size + 1) 57 #[.slice none 0 0] := by rw [← hW2]; have := BlkAt.new (w.alloc (.cells #[.slice a n c] 57)) 57 #[.slice none 0 0]; simpa using this
  have d0 := k0.cell 0
  have L0 := load_box d0
  have HK1 := Lib.hid k1
  have HB2 := Lib.hid hB2
  have HD := Lib.hid (down_any (hx'.below hB2) hxs hs hs1)
  obtain ⟨sI, hsI⟩ : ∃ sI : Int, (s : Int) = sI := ⟨_, rfl⟩
  have hs0 : 1 ≤ sI := by omega
  have hs2 : sI ≤ 31 := by omega
  rw [hsI] at HD ⊢
  clear ha k0 k1 hB2 hn hx' hsI
  go_enter Tryz.func141, Tryz.ntmps141
  go_wp2_with (go_at_call 155; refine HD.out.mono ?_; rintro e w6 ⟨v, rfl, hN6, hB6⟩; have HN6 := Lib.hid hN6; have HB6 := Lib.hid hB6; obtain ⟨a6, c6, rfl, _⟩ := hN6; clear hB6; have hk6 := HK1.out.below HB6.out HK1.out.lt; have r0 := hk6.cell 0; have r1 := hk6.frozen 0; have HX6 := Lib.hid hk6; clear hk6)
  obtain ⟨e1, e2, e3⟩ := res_at HX6.out (by omega) (HB2.out.trans (HB6.out.mono HB2.out.size)) HN6.out
  exact bodyPost_ret (r_c rfl rfl e1) rfl ⟨_, rfl, e2, e3⟩
end Go.Proofs.YtjcpfmndkeiegaaGreatDoor
