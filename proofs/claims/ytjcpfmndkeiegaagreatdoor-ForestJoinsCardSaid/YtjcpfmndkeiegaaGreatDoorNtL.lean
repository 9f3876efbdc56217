/- The walk of nat.long. -/
import Derived.Test.YtjcpfmndkeiegaaGreatDoorNtK
import Derived.Test.YtjcpfmndkeiegaaGreatDoorNaZ
namespace Go.Proofs.YtjcpfmndkeiegaaGreatDoor
open Go.RowKit
set_option linter.unusedVariables false

/-- Two boxes of numbers, and two results' cells. -/
abbrev box4 (w : World) (va vb : Value) : World := (box3 w va vb).alloc nat0
theorem boxes4_new (w : World) (va vb : Value) : Boxes w (box4 w va vb) va vb ∧ BlkAt (box4 w va vb) (w.heap.size + 1 + 1 + 1) 57 #[.slice none 0 0] ∧ Below w.heap.size w (box4 w va vb) ∧ (box4 w va vb).heap.size = w.heap.size + 4 := by
  obtain ⟨h1, h2, h3⟩ := boxes_new w va vb
  refine ⟨⟨h1.1.alloc _, h1.2.1.alloc _, h1.2.2.alloc _⟩, ?_, h2.alloc (by omega) _, by simp [box4, box3]⟩
  have := BlkAt.new (box3 w va vb) 57 #[.slice none 0 0]
  rwa [h3] at this
/-- How long a list is, as a value tells. -/
def lenV : Value → Nat
  | .slice _ n _ => n
  | _ => 0
/-- The first loop of long: the number, filled up with zeros. -/
def PadL (X n : Nat) (W2 : World) (base : Nat) (v : Value) (W : World) : Prop :=
  ∃ L a c, v = .slice a L.length c ∧ L.length ≤ c ∧ Lim L ∧ valL L = X ∧ n ≤ L.length ∧ L.length ≤ n + 1 ∧ OwnL W base v L ∧ Below base W2 W
/-- The second loop of long. -/
def LongL (T V m N : Nat) (w4 : World) (base : Nat) (u q : Value) (p : Value) (W : World) : Prop :=
  ∃ (k : Nat) (U Q : List Nat), p = .int .i64 ((k : Int) - 1) ∧ k ≤ N ∧ U.length = m + N + 1 ∧ Q.length = N ∧ Lim U ∧ Lim Q ∧ valL U + V * 4294967296 ^ k * valL (Q.drop k) = T ∧ valL (U.drop k) < V ∧ OwnL W base u U ∧ OwnL W base q Q ∧ Below base w4 W
/-- The field of a number. -/
theorem fld_nat (a : Option Addr) (n c : Nat) (w : World) : (Instr.field 57 (.agg #[.slice a n c]) 0).run Tryz.prog w = .ok (.slice a n c) w := by kernel_rfl
/-- Shifted back. -/
theorem shift_back {va : Value} {z r s : Nat} {w : World} (hx : NatAt w va z) (hz : z = r * 2 ^ s) (hxs : szN z ≤ 1000000) (hs : s ≤ 31) :
    Calls Tryz.prog 141 #[va, .int .i64 (-(s : Int))] w fun e w' => ∃ v, e = .returned v ∧ NatAt w' v r ∧ Below w.heap.size w w' := by
  cases s with
  | zero =>
    have h1 := shift_any (s := 0) hx hxs (by omega)
    rw [show z * 2 ^ 0 = r by rw [hz, Nat.pow_zero, Nat.mul_one, Nat.mul_one]] at h1
    exact h1
  | succ t =>
    have h1 := shift_down (s := t + 1) hx hxs hs (by omega)
    rw [show z / 2 ^ (t + 1) = r by rw [hz]; exact Nat.mul_div_cancel _ (Nat.pow_pos (by omega))] at h1
    exact h1
set_option maxRecDepth 20000 in
set_option maxHeartbeats 32000000 in
theorem long_any {va vb : Value} {x y : Nat} {w : World} (hx : NatAt w va x) (hy : NatAt w vb y) (hxs : szN x ≤ 1000000) (hle : y ≤ x) (hy2 : 2 ≤ szN y) :
    Calls Tryz.prog 131 #[va, vb] w fun e w' => ∃ v1 v2, e = .returned (.tuple #[v1, v2]) ∧ NatAt w' v1 (x / y) ∧ NatAt w' v2 (x % y) ∧ Below w.heap.size w w' := by
  have hsz : szN y ≤ szN x := szN_mono hle
  have hx' := hx
  have hy' := hy
  obtain ⟨a, c, rfl, ha⟩ := hx
  obtain ⟨b, d, rfl, hb⟩ := hy
  obtain ⟨n, hn⟩ : ∃ n, szN x = n := ⟨_, rfl⟩
  obtain ⟨m, hm⟩ : ∃ m, szN y = m + 1 := ⟨szN y - 1, by omega⟩
  rw [hn] at hxs hx' hsz ⊢
  rw [hm] at hy2 hsz hy' ⊢
  obtain ⟨tb1, tb2, tb3⟩ := top_bounds hm
  have htl : (limbs y).getD m 0 < 4294967296 := (limbs_lim y).getD m
  obtain ⟨t, ht⟩ : ∃ t, (limbs y).getD m 0 = t := ⟨_, rfl⟩
  have hbl := bitLen_is t (by omega) (by omega)
  have hb32 := bitLen_32 (x := t) (by omega) (by omega)
  obtain ⟨l1, l2, l3⟩ := lead_zeros hb32 hbl.1 hbl.2 (by omega)
  obtain ⟨s, hs⟩ : ∃ s, 32 - Lib.bitLen t = s := ⟨_, rfl⟩
  rw [hs] at l1 l2 l3
  rw [← ht] at l2 l3
  obtain ⟨nd1, nd2⟩ := norm_div hm l1 l2 l3
  obtain ⟨W2, hW2⟩ : ∃ W2, (((w.alloc (.cells #[.slice a n c] 57)).alloc (.cells #[.slice b (m + 1) d] 57)).alloc (.cells #[.slice none 0 0] 57)).alloc (.cells #[.slice none 0 0] 57) = W2 := ⟨_, rfl⟩
  obtain ⟨hbx, hbr, hB2, hz2⟩ := boxes4_new w (.slice a n c) (.slice b (m + 1) d)
  rw [show box4 w (.slice a n c) (.slice b (m + 1) d) = W2 from hW2] at hbx hbr hB2 hz2
  have d0 := hbx.1.cell 0
  have d1 := hbx.2.1.cell 0
  have d2 := load_box d0
  have d3 := load_box d1
  have htc := (hb.below hB2).at m (by rw [limbs_len, hm]; omega)
  obtain ⟨gb, rfl, _, htc⟩ := htc
  rw [ht] at htc
  have hxW := hx'.below hB2
  have hyW := hy'.below hB2
  have HZ := Lib.hid (Tryz.bits_LeadingZeros32 (t : Int) W2 (by omega) (by omega))
  rw [show (32 - (Lib.bitLen (t : Int).toNat : Int)) = ((s : Nat) : Int) by rw [Int.toNat_natCast]; omega] at HZ
  have HV := Lib.hid (shift_any (s := s) hyW (by rw [hm]; omega) l1)
  have HBx := Lib.hid hbx
  have HBr := Lib.hid hbr
  have HB2 := Lib.hid hB2
  have hSZ : szN (x * 2 ^ s) ≤ n + 1 := by
    refine szN_le ?_
    have h1 := szN_lt x
    rw [hn] at h1
    have h2 : 2 ^ s ≤ 4294967296 := Nat.le_trans (Nat.pow_le_pow_right (by omega) l1) (by decide)
    rw [Nat.pow_succ]
    exact Nat.lt_of_lt_of_le (Nat.mul_lt_mul_of_pos_right h1 (Nat.pow_pos (by omega))) (Nat.mul_le_mul_left _ h2)
  have hSZl : n ≤ szN (x * 2 ^ s) := by rw [← hn]; exact szN_mono (Nat.le_mul_of_pos_right _ (Nat.pow_pos (by omega)))
  have SZ1 := Lib.hid hSZ
  have SZ2 := Lib.hid hSZl
  have SZX := Lib.hid (show szN (x * 2 ^ s) ≤ 1000000000 by omega)
  have HN := Lib.hid hn
  have HM := Lib.hid hm
  have HZ2 := Lib.hid hz2
  have HXW := Lib.hid hxW
  have ND1 := Lib.hid nd1
  have ND2 := Lib.hid nd2
  have L1 := Lib.hid l1
  clear tb1 tb2 tb3 hbl hb32 l2 l3 nd1 nd2 ha hb hx' hy' hxW hyW hbx hbr hB2 hz2 hn hm
  go_enter Tryz.func131, Tryz.ntmps131
  go_wp2_with (first
    | (go_at_call 140; refine HZ.out.mono ?_; rintro e w0 ⟨rfl, hw0⟩; subst w0)
    | (go_at_call 141; refine HV.out.mono ?_; rintro e w3 ⟨vv, rfl, hN3, hB3⟩; obtain ⟨av, cv, rfl, hr3⟩ := hN3; rw [ND1.out]; have hfd := fld_nat av (m + 1) cv; have HR3 := Lib.hid hr3; have HB3 := Lib.hid hB3; have hz3 := hB3.size; have hbx3 := HBx.out.below hB3; have c0 := hbx3.1.cell 0; have c2 := load_box c0; have HBx3 := Lib.hid hbx3; have HU := Lib.hid (shift_any (s := s) (HXW.out.below hB3) (by rw [HN.out]; exact hxs) L1.out); clear hr3 hB3 hbx3 HV HZ)
    | (go_at_call 141; refine HU.out.mono ?_; rintro e w4 ⟨vu, rfl, hN4, hB4⟩; obtain ⟨au, cu, rfl, hr4⟩ := hN4; have hfe := fld_nat au (szN (x * 2 ^ s)) cu; have HC := Lib.hid (clone_any (c := cu) hr4 (by rw [limbs_len]; exact SZX.out)); rw [limbs_len] at HC; have HB4 := Lib.hid (HB3.out.trans (hB4.mono hz3)); have hbx4 := HBx.out.below HB4.out; have e0 := hbx4.1.cell 0; have e2 := load_box e0; have HR4 := Lib.hid (HR3.out.below hB4); clear hr4 hB4 hbx4 HU)
    | (go_at_call 106; refine HC.out.mono ?_; rintro e w5 ⟨v5, rfl, ho5, hB5⟩; have HO5 := Lib.hid ho5; have HB5 := Lib.hid hB5; clear ho5 hB5))
  have h5 : OwnL w5 w4.heap.size v5 (limbs (x * 2 ^ s)) := HO5.out
  obtain ⟨a5, c5, rfl, hc5, _⟩ := h5.rd
  have H0 := Lib.hid (show PadL (x * 2 ^ s) n w4 w4.heap.size (.slice a5 (limbs (x * 2 ^ s)).length c5) w5 from ⟨_, a5, c5, rfl, hc5, limbs_lim _, limbs_val _, by rw [limbs_len]; exact SZ2.out, by rw [limbs_len]; exact SZ1.out, h5, HB5.out⟩)
  rw [limbs_len] at H0
  have hz4 := HB4.out.size
  obtain ⟨gv, rfl, -, -⟩ := HR4.out.at m (by rw [limbs_len, ND1.out]; omega)
  have HBx4 := Lib.hid (show Boxes w w4 (.slice a n c) _ from HBx.out.below HB4.out)
  clear HO5 h5 hW2 d0 d1 d2 d3 c0 c2 e0 e2 htc hfd hfe hSZ hSZl hc5
  go_loopw [8] (fun v' W => PadL (x * 2 ^ s) n w4 w4.heap.size v' W) (fun v' W => (n + 1) - lenV v')
  case atStart => exact H0.out
  case round =>
    obtain ⟨L, aL, cL, rfl, hcL, hL, hv, hl1, hl2, ho, hB⟩ := hrel
    have hbx := HBx4.out.below (hB)
    have c0 := hbx.1.cell 0
    have HBW := Lib.hid hB
    have hzr := hB.size
    have HL := Lib.hid hL
    have HV5 := Lib.hid hv
    have HRW := Lib.hid (HR4.out.below hB)
    rcases (show L.length = n ∨ L.length = n + 1 by omega) with hl | hl
    · rw [hl] at hcL ⊢
      have ho2 : wr.ownsRow w4.heap.size 133 1 (.slice aL n cL) n (L.map uv) := by unfold OwnL at ho; rw [hl] at ho; exact ho
      have HO := Lib.hid ho2
      have Hl := Lib.hid hl
      clear ho ho2 hl hl1 hl2 hL hv hB hbx
      go_wp2_with (at_builtin; refine wpList_app _ rfl _ _ _ _ _ _ slU rfl w4.heap.size w4 (HBW.out.alloc HBW.out.size _) (by simp; omega) _ _ _ rfl (HO.out.alloc _) ⟨wr.heap.size, 0, none⟩ [.int .u32 0] rfl rfl (cell_one_new _ _ _) (by simp [Value.oneCell']) (by omega) ?_; intro v' w6 ho6 hB6 hb6 _)
      have ho6' : OwnL w6 w4.heap.size v' (L ++ [0]) := by unfold OwnL; simpa [uv, Hl.out] using ho6
      obtain ⟨a6, c6, rfl, hc6, _⟩ := ho6'.rd
      have hl6 : (L ++ [0]).length = n + 1 := by rw [List.length_append, Hl.out]; rfl
      refine ⟨⟨L ++ [0], a6, c6, rfl, hc6, HL.out.append (Lim.cons (by omega) Lim.nil), by rw [valL_append, HV5.out]; simp [valL], by omega, by omega, ho6', hB6⟩, ?_⟩
      simp only [lenV, hl6]
      omega
    · rw [hl] at hcL ⊢
      have ho2 : wr.ownsRow w4.heap.size 133 1 (.slice aL (n + 1) cL) (n + 1) (L.map uv) := by unfold OwnL at ho; rw [hl] at ho; exact ho
      have HO := Lib.hid ho2
      have Hl := Lib.hid hl
      obtain ⟨N, rfl⟩ : ∃ N, n = m + N := ⟨n - m, by omega⟩
      obtain ⟨wq, hmk, hoq, hBq⟩ := make_any wr N (by omega)
      rw [show (N : Int) = (m : Int) + (N : Int) + 1 - ((m : Int) + 1) by omega] at hmk
      obtain ⟨gu, cL', he, hbu, hgu, -⟩ := ho.form (by omega)
      simp only [Value.slice.injEq] at he
      obtain ⟨rfl, -, rfl⟩ := he
      have HT := Lib.hid (long_start HN.out L1.out ND1.out ND2.out hv hl)
      have HGu := Lib.hid hgu
      have HBu := Lib.hid hbu
      obtain ⟨gq, hgq⟩ : ∃ gq, wr.heap.size = gq := ⟨_, rfl⟩
      rw [hgq] at hmk hoq
      have HGq := Lib.hid hgq
      have hne : gu ≠ gq := by omega
      have H1 := Lib.hid (show LongL (x * 2 ^ s) (y * 2 ^ s) m N w4 w4.heap.size (.slice (some ⟨gu, 0, none⟩) (m + N + 1) cL) (.slice (some ⟨gq, 0, none⟩) N N) (.int .i64 ((N : Int) - 1)) wq from
        ⟨N, L, List.replicate N 0, rfl, Nat.le_refl _, hl, List.length_replicate, hL, Lim.replicate _, by rw [List.drop_of_length_le (by simp)]; simpa [valL] using hv, HT.out,
          by have := ho.keep (KeepT.of_below hBq); rwa [hl] at this, hoq.mono (by omega), HBW.out.trans (hBq.mono hzr)⟩)
      clear ho ho2 hl hl1 hl2 hL hv hB hbx hoq hBq hgu hbu hgq HRW
      go_wp2
      clear c0 hmk
      go_loopw [10] (fun p W => LongL (x * 2 ^ s) (y * 2 ^ s) m N w4 w4.heap.size (.slice (some ⟨gu, 0, none⟩) (m + N + 1) cL) (.slice (some ⟨gq, 0, none⟩) N N) p W) (fun p W => (intOf p + 1).toNat)
      case atStart => exact H1.out
      case round =>
        obtain ⟨k, U, Q, rfl, hk, hUl, hQl, hU, hQ, hv, hlt, hou, hoq, hB⟩ := hrel
        cases k with
        | succ j =>
          obtain ⟨A, S, R, rfl, hAl, hSl, hA, hS, hR, hRz, hSlt, hUv⟩ := long_seg hU (m := m) (j := j) (V := y * 2 ^ s) (by omega) hlt ND1.out
          have hlen : j + (m + 1 + 1) + R.length = m + N + 1 := by simp only [List.length_append] at hUl; omega
          have HST := Lib.hid (fun cu => step_any (W0 := w4) (base := w4.heap.size) (g := gu) (gv := gv) (off := j) (n := m + 1) (c := cL) (cu := cu) (cv := cv) (V := y * 2 ^ s) (A := A) (S := S) (R := R) rfl hB hB.size (by rw [hlen]; exact hou) HR4.out hAl hSl hS ND1.out (by omega) (by omega) (by omega) (by simpa using ND2.out) hSlt)
          rw [hlen] at HST
          rw [show (((j + 1 : Nat) : Int) - 1) = (j : Int) by omega]
          have HLen := Lib.hid hlen
          have HAl := Lib.hid hAl
          have HSl := Lib.hid hSl
          have HA := Lib.hid hA
          have HR := Lib.hid hR
          have HRz := Lib.hid hRz
          have HSlt := Lib.hid hSlt
          have HUv := Lib.hid hUv
          have HV := Lib.hid hv
          have HQ := Lib.hid hQ
          have HQl := Lib.hid hQl
          have HOq := Lib.hid hoq
          have HBr := Lib.hid hB
          clear hAl hSl hA hR hRz hSlt hUv hv hQ hQl hoq hB hou hU hUl hlt hS hlen
          clear H0 H1 HT HBr HB2 SZX SZ1 SZ2 HXW htl ht hs hle
          have hle : j + (m + 1) + 1 - j = m + 1 + 1 := by omega
          have HLe := Lib.hid hle
          clear hle
          go_wp2_with (go_at_call 142; rw [HLe.out]; refine (HST.out _).mono ?_; rintro e w8 ⟨S', rfl, hSl8, hS8, hv8, ho8, hF8⟩; have hoq8 : OwnL w8 w4.heap.size (.slice (some ⟨gq, 0, none⟩) N N) Q := World.ownsRow.kept HOq.out hF8.2 (.inr (by simp [Value.ownBlock]; omega)); obtain ⟨gq', cq', heq, hbq, hgq, -, hcell, hfr, hset⟩ := hoq8.form (by rw [HQl.out]; omega); simp only [Value.slice.injEq, Option.some.injEq, Addr.mk.injEq] at heq; obtain ⟨⟨rfl, -, -⟩, -, rfl⟩ := heq; have c8 := hcell j (by rw [HQl.out]; omega); have f8 := hfr j; have hst := Lib.hid (fun y => hset j y (by rw [HQl.out]; omega)); have HS1 := Lib.hid hSl8; have HS2 := Lib.hid hS8; have HS3 := Lib.hid hv8; have HS4 := Lib.hid ho8; have HS5 := Lib.hid hF8; have HBq := Lib.hid hbq; have HNe := Lib.hid hne; clear hSl8 hS8 hv8 ho8 hF8 hoq8 hcell hfr hset hbq hgq hne)
          obtain ⟨p1, p2⟩ := long_put (A := A) (S' := S') (R := R) (j := j) (m := m) (V := y * 2 ^ s) HAl.out HS1.out HRz.out
          have hV0 : 0 < y * 2 ^ s := by
            have h1 := HSlt.out
            apply Decidable.byContradiction
            intro h0
            rw [show y * 2 ^ s = 0 by omega] at h1
            omega
          have hd := Nat.div_lt_of_lt_mul (Nat.mul_comm 4294967296 (y * 2 ^ s) ▸ HSlt.out)
          refine ⟨⟨j, A ++ (S' ++ R), Q.set j (valL S / (y * 2 ^ s)), rfl, by omega, ?_, by rw [List.length_set]; exact HQl.out, HA.out.append (HS2.out.append HR.out), HQ.out.set _ hd, ?_, ?_, ?_, ?_, HS5.out.1.setCell (p := ⟨gq, j, none⟩) HBq.out _⟩, ?_⟩
          · have h1 := HLen.out; have h2 := HAl.out; have h3 := HS1.out; simp only [List.length_append]; omega
          · rw [long_dig (by rw [HQl.out]; omega)]
            exact long_step (j := 0) HUv.out (by rw [p2, HS3.out]) rfl (by rw [← Nat.pow_succ]; exact HV.out)
          · rw [p1, HS3.out]; exact Nat.mod_lt _ hV0
          · exact World.ownsRow.kept HS4.out (grow_set w8 gq j _) (.inr (by simp [Value.ownBlock]; exact HNe.out))
          · have h1 := hst.out (valL S / (y * 2 ^ s))
            have e : ((valL S / (y * 2 ^ s) : Nat) : Int) = (valL S : Int) / ((y : Int) * 2 ^ s) := by simp
            rw [e] at h1
            exact h1
          · simp only [intOf]; omega
        | zero =>
          have hy0 : 0 < y := by
            apply Decidable.byContradiction
            intro h0
            have h1 := HM.out
            rw [show y = 0 by omega, szN_zero] at h1
            omega
          obtain ⟨hE1, hE2⟩ := long_end (U := valL U) (V := y * 2 ^ s) (Q := valL Q) (x := x) (p := 2 ^ s) (y := y) (Nat.pow_pos (by omega)) hy0 rfl (by simpa using hv) (by simpa using hlt)
          obtain ⟨aq, cq, heq, hcq, hrq⟩ := hoq.rd
          simp only [Value.slice.injEq] at heq
          obtain ⟨rfl, -, rfl⟩ := heq
          obtain ⟨au2, cu2, heu, hcu, hru⟩ := hou.rd
          simp only [Value.slice.injEq] at heu
          obtain ⟨rfl, -, rfl⟩ := heu
          have HQ1 := Lib.hid (trim_any hQ hrq hcq (by omega))
          rw [hE1, hQl] at HQ1
          have HE2 := Lib.hid hE2
          have HSzU := Lib.hid (show szN (valL U) ≤ m + 1 by rw [← ND1.out]; exact szN_mono (by simpa using Nat.le_of_lt hlt))
          have HRu := Lib.hid hru
          have HUl := Lib.hid hUl
          have HU := Lib.hid hU
          have HBr2 := Lib.hid hB
          have HCu := Lib.hid hcu
          clear H0 H1 HT SZX SZ1 SZ2 HXW htl ht hs hle hv hQ hrq hcq hE1 hE2 hru hUl hU hB hcu hou hoq hQl hlt hk hy0
          rw [show (((0 : Nat) : Int) - 1) = -1 by omega]
          go_wp2_with (first
            | (go_at_call 94; refine HQ1.out.mono ?_; clear HQ1; rintro e w8 ⟨rfl, hN8, hB8⟩; have HN8 := Lib.hid hN8; have HU1 := Lib.hid (trim_any HU.out (HRu.out.below hB8) HCu.out (by rw [HUl.out]; omega)); rw [HUl.out] at HU1; have HB8 := Lib.hid hB8; clear hN8 hB8)
            | (go_at_call 94; refine HU1.out.mono ?_; clear HU1; rintro e w9 ⟨rfl, hN9, hB9⟩; have HSh := Lib.hid (shift_back hN9 HE2.out (by have := HSzU.out; omega) L1.out); have HB9 := Lib.hid hB9; clear hN9 hB9)
            | (go_at_call 141; refine HSh.out.mono ?_; clear HSh; rintro e w10 ⟨v10, rfl, hN10, hB10⟩; obtain ⟨a10, c10, rfl, hr10⟩ := hN10; have h4 := HBr2.out; have h8 := h4.trans (HB8.out.mono h4.size); have h9 := h8.trans (HB9.out.mono h8.size); have h10 := h9.trans (hB10.mono h9.size); have hq10 := (HN8.out.below HB9.out).below (hB10.mono (Nat.le_refl _)); have HQ10 := Lib.hid hq10; have HR10 := Lib.hid hr10; have hk := HBx4.out.2.2.below h10 HBx4.out.2.2.lt; have hk2 := (HBr.out.below HB4.out HBr.out.lt).below h10 (HBr.out.below HB4.out HBr.out.lt).lt; have r0 := hk.cell 0; have r1 := hk.frozen 0; have r2 := hk2.cell 0; have r3 := hk2.frozen 0; have HK := Lib.hid hk; have HK2 := Lib.hid hk2; have H10 := Lib.hid h10; clear hr10 h4 h8 h9 h10 hq10 hk hk2 hB10))
          have hbw : Below w.heap.size w w10 := HB2.out.trans ((HB4.out.trans (H10.out.mono hz4)).mono HB2.out.size)
          obtain ⟨vq, hvq⟩ : ∃ vq : Value, .slice (some ⟨gq, 0, none⟩) (szN (x / y)) (szN (x / y)) = vq := ⟨_, rfl⟩
          have hq10 := HQ10.out
          rw [hvq] at hq10 ⊢
          have b1 := (HK.out.set 0 vq).far (p := ⟨w.heap.size + 1 + 1 + 1, 0, none⟩) (by simp) (.slice a10 (szN (x % y)) c10)
          have b0 := HK2.out.far (p := ⟨w.heap.size + 1 + 1, 0, none⟩) (by simp) vq
          have b2 := b0.set 0 (.slice a10 (szN (x % y)) c10)
          have hr10 : NatAt w10 (.agg #[.slice a10 (szN (x % y)) c10]) (x % y) := ⟨a10, c10, rfl, HR10.out⟩
          have k1 := KeepT.blk HK.out (show 133 ≠ 57 by decide) (grow_set w10 (w.heap.size + 1 + 1) 0 vq)
          have k2 := KeepT.blk b0 (show 133 ≠ 57 by decide) (grow_set _ (w.heap.size + 1 + 1 + 1) 0 (.slice a10 (szN (x % y)) c10))
          exact bodyPost_ret (r_cc rfl rfl rfl (aggNat.load rfl b1) (aggNat.load rfl b2)) rfl ⟨_, _, rfl, (hq10.keep k1).keep k2, (hr10.keep k1).keep k2, (hbw.setCell (p := ⟨w.heap.size + 1 + 1, 0, none⟩) (show w.heap.size ≤ w.heap.size + 1 + 1 by omega) _).setCell (p := ⟨w.heap.size + 1 + 1 + 1, 0, none⟩) (show w.heap.size ≤ w.heap.size + 1 + 1 + 1 by omega) _⟩
end Go.Proofs.YtjcpfmndkeiegaaGreatDoor
