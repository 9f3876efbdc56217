/- The walks of nat.at, nat.Cmp. -/
import Derived.Test.YtjcpfmndkeiegaaGreatDoorNtAC
import Derived.Test.YtjcpfmndkeiegaaGreatDoorQb
import Derived.Shelf.SlicesQ.Load
import Derived.Deep.QuietTactic
import Derived.BigQuiet
namespace Go.Proofs.YtjcpfmndkeiegaaGreatDoor
open Go.RowKit
set_option linter.unusedVariables false

set_option maxRecDepth 20000 in
set_option maxHeartbeats 4000000 in
theorem at_any {v : Value} {n i : Nat} {w : World} (h : NatAt w v n) (hn : szN n ≤ 1000000000) (hi : i ≤ 1000000000) :
    Calls Tryz.prog 126 #[v, .int .i64 i] w fun e w' => e = .returned (.int .u32 (((limbs n).getD i 0 : Nat) : Int)) ∧ Below w.heap.size w w' := by
  obtain ⟨a, c, rfl, h⟩ := h
  obtain ⟨s, hs⟩ : ∃ s, szN n = s := ⟨_, rfl⟩
  have HB := Lib.hid ((Below.refl w.heap.size w).alloc (Nat.le_refl _) (.cells #[.slice a s c] 57))
  by_cases hlt : i < s
  · obtain ⟨g, rfl, hg, hcell⟩ := (h.below (by rw [← hs] at HB; exact HB.out)).at i (by rw [limbs_len, hs]; exact hlt)
    obtain ⟨x, hx⟩ : ∃ x, (limbs n).getD i 0 = x := ⟨_, rfl⟩
    rw [hx] at hcell ⊢
    rw [hs] at hn hcell ⊢
    clear h hs hx
    go_enter Tryz.func126, Tryz.ntmps126
    go_wp2
    go_ret
    exact ⟨rfl, HB.out⟩
  · have hx : (limbs n).getD i 0 = 0 := by rw [List.getD, List.getElem?_eq_none (by rw [limbs_len, hs]; omega)]; rfl
    rw [hx]
    rw [hs] at hn ⊢
    clear h hs hx
    go_enter Tryz.func126, Tryz.ntmps126
    go_wp2
    go_ret
    exact ⟨rfl, HB.out⟩
theorem mixedO : Tryz.prog.follows .mixedOrders = true := by kernel_rfl
/-- The load of a number out of its box. -/
theorem load_box {W : World} {g : Nat} {v : Value} (h : W.cell? ⟨g, 0, none⟩ = some v) : Sem.run Tryz.prog (loadCellsFrom ⟨g, 0, none⟩ 0 1 #[]) W = .ok #[v] W := by
  refine run_loadCellsFrom_list Tryz.prog W ⟨g, 0, none⟩ [v] 1 rfl ?_
  intro j u hj
  match j, hj with
  | 0, hj => simp at hj; subst hj; exact h
/-- How two numbers compare. -/
def cmpN (a b : Nat) : Int := if a < b then -1 else if b < a then 1 else 0
theorem cmp_less {a b j : Nat} (h : valL ((limbs a).drop (j + 1)) = valL ((limbs b).drop (j + 1))) (hx : (limbs a).getD j 0 < (limbs b).getD j 0) : a < b := by
  have h1 : valL ((limbs a).drop j) < valL ((limbs b).drop j) := by
    rw [valL_step (limbs a) j, valL_step (limbs b) j, h]; omega
  have := valL_drop_lt (limbs_lim a) (limbs_lim b) h1
  rwa [limbs_val, limbs_val] at this
set_option maxRecDepth 20000 in
set_option maxHeartbeats 8000000 in
theorem cmp_any {va vb : Value} {x y : Nat} {w : World} (hx : NatAt w va x) (hy : NatAt w vb y) (hxs : szN x ≤ 1000000) (hys : szN y ≤ 1000000) :
    Calls Tryz.prog 110 #[va, vb] w fun e w' => e = .returned (.int .i64 (cmpN x y)) ∧ Below w.heap.size w w' := by
  obtain ⟨a, c, rfl, ha⟩ := hx
  obtain ⟨b, d, rfl, hb⟩ := hy
  obtain ⟨W2, hW2⟩ : ∃ W2, (w.alloc (.cells #[.slice a (szN x) c] 57)).alloc (.cells #[.slice b (szN y) d] 57) = W2 := ⟨_, rfl⟩
  have hB2 : Below w.heap.size w W2 := by rw [← hW2]; exact ((Below.refl _ w).alloc (Nat.le_refl _) _).alloc (by simp) _
  have k0 : BlkAt W2 w.heap.size 57 #[.slice a (szN x) c] := by rw [← hW2]; exact (BlkAt.new w _ _).alloc _
  have k1 : BlkAt W2 (w.heap.size + 1) 57 #[.slice b (szN y) d] := by rw [← hW2]; have := BlkAt.new (w.alloc (.cells #[.slice a (szN x) c] 57)) 57 #[.slice b (szN y) d]; simpa using this
  have HA := Lib.hid (show NatAt W2 (.agg #[.slice a (szN x) c]) x from ⟨a, c, rfl, ha.below hB2⟩)
  have HB := Lib.hid (show NatAt W2 (.agg #[.slice b (szN y) d]) y from ⟨b, d, rfl, hb.below hB2⟩)
  have HK0 := Lib.hid k0
  have HK1 := Lib.hid k1
  have HB2 := Lib.hid hB2
  obtain ⟨m, hm⟩ : ∃ m, max (szN x) (szN y) = m := ⟨_, rfl⟩
  have hs0 : valL ((limbs x).drop m) = valL ((limbs y).drop m) := by
    rw [List.drop_of_length_le (by rw [limbs_len]; omega), List.drop_of_length_le (by rw [limbs_len]; omega)]
  have HS0 := Lib.hid hs0
  have hm1 : m ≤ 1000000 := by omega
  have HM := Lib.hid hm
  have HXs := Lib.hid hxs
  have HYs := Lib.hid hys
  obtain ⟨n1, hn1⟩ : ∃ n1, szN x = n1 := ⟨_, rfl⟩
  obtain ⟨n2, hn2⟩ : ∃ n2, szN y = n2 := ⟨_, rfl⟩
  rw [hn1] at hW2 hxs HA HK0 HM HXs ⊢
  rw [hn2] at hW2 hys HB HK1 HM HYs ⊢
  have HN1 := Lib.hid hn1
  have HN2 := Lib.hid hn2
  have d0 := HK0.out.cell 0
  have d1 := HK1.out.cell 0
  clear ha hb k0 k1 hB2 hs0 hm hn1 hn2
  go_enter Tryz.func110, Tryz.ntmps110
  go_wp2
  all_goals
    clear hW2 d0 d1
    go_loopw [5] (fun p W => ∃ k : Nat, p = .int .i64 ((k : Int) - 1) ∧ k ≤ m ∧ valL ((limbs x).drop k) = valL ((limbs y).drop k) ∧ Below W2.heap.size W2 W) (fun p W => (intOf p + 1).toNat)
    case atStart => exact ⟨m, by have := HM.out; simp; omega, Nat.le_refl _, HS0.out, Below.refl _ _⟩
    case round =>
      obtain ⟨k, rfl, hk, hv, hB⟩ := hrel
      have HBW := Lib.hid hB
      have HV := Lib.hid hv
      have c0 := (HK0.out.below hB HK0.out.lt).cell 0
      have c1 := (HK1.out.below hB HK1.out.lt).cell 0
      clear hB hv
      by_cases hlt : 0 < k
      · obtain ⟨j, rfl⟩ : ∃ j, k = j + 1 := ⟨k - 1, by omega⟩
        have HA1 := Lib.hid (fun (W : World) (hW : Below W2.heap.size W2 W) => at_any (i := j) (HA.out.below hW) (by rw [HN1.out]; omega) (by omega))
        have HA2 := Lib.hid (fun (W : World) (hW : Below W2.heap.size W2 W) => at_any (i := j) (HB.out.below hW) (by rw [HN2.out]; omega) (by omega))
        obtain ⟨p, hp⟩ : ∃ p, (limbs x).getD j 0 = p := ⟨_, rfl⟩
        obtain ⟨q, hq⟩ : ∃ q, (limbs y).getD j 0 = q := ⟨_, rfl⟩
        rw [hp] at HA1
        rw [hq] at HA2
        have HP := Lib.hid hp
        have HQ := Lib.hid hq
        clear hp hq
        have hpb : p < 4294967296 := by rw [← HP.out]; exact limbs_getD_lt x j
        have hqb : q < 4294967296 := by rw [← HQ.out]; exact limbs_getD_lt y j
        have hpI : (p : Int) ≤ 4294967295 := by omega
        have hqI : (q : Int) ≤ 4294967295 := by omega
        clear hpb hqb
        have hwl0 : w.heap.size < wr.heap.size := Nat.lt_of_lt_of_le HK0.out.lt HBW.out.size
        have hwl1 : w.heap.size + 1 < wr.heap.size := Nat.lt_of_lt_of_le HK1.out.lt HBW.out.size
        have p0 := lift_cell (a := ⟨w.heap.size, 0, none⟩) hwl0 c0
        have p1 := lift_cell (a := ⟨w.heap.size + 1, 0, none⟩) hwl1 c1
        have HQ1 := Lib.hid (fun q => HA1.out (lift wr q) (HBW.out.trans ((below_lift wr q).mono HBW.out.size)))
        have HQ2 := Lib.hid (fun q => HA2.out (lift wr q) (HBW.out.trans ((below_lift wr q).mono HBW.out.size)))
        have L0 := fun q => load_box (p0 q)
        have L1 := fun q => load_box (p1 q)
        clear hwl0 hwl1
        go_wp2_with fail
        refine wp_region_quiet_below mixedO (by kernel_rfl) ?_
        iterate 2 quiet_step (fail)
        quiet_step (first | (go_at_call 126; exact calls_lift (HQ1.out _)))
        iterate 2 quiet_step (fail)
        quiet_step (first | (go_at_call 126; exact calls_lift (HQ2.out _)))
        iterate 2 quiet_step (fail)
        refine wpQuiet_nil ?_
        intro _ hw'
        obtain ⟨lp, hw''⟩ := hw'
        subst hw''
        have HB4 := Lib.hid (HBW.out.trans ((below_lift wr lp).mono HBW.out.size))
        have HW4 := Lib.hid (HB2.out.trans (HB4.out.mono HB2.out.size))
        clear p0 p1 c0 c1 L0 L1
        generalize lift wr lp = w4 at *
        by_cases h1 : p < q
        · have hc : cmpN x y = -1 := by
            unfold cmpN
            rw [if_pos (cmp_less HV.out (by rw [HP.out, HQ.out]; exact h1))]
          have HC := Lib.hid hc
          have h1I : (p : Int) < (q : Int) := by omega
          clear hc h1
          go_wp2
          go_ret
          exact ⟨by rw [HC.out]; rfl, HW4.out⟩
        · by_cases h2 : q < p
          · have hc : cmpN x y = 1 := by
              have := cmp_less HV.out.symm (show (limbs y).getD j 0 < (limbs x).getD j 0 by rw [HP.out, HQ.out]; exact h2)
              unfold cmpN
              rw [if_neg (by omega), if_pos this]
            have HC := Lib.hid hc
            have h1I : (q : Int) ≤ (p : Int) := by omega
            have h2I : (q : Int) < (p : Int) := by omega
            clear hc h1 h2
            go_wp2
            go_ret
            exact ⟨by rw [HC.out]; rfl, HW4.out⟩
          · have hv2 : valL ((limbs x).drop j) = valL ((limbs y).drop j) := by
              rw [valL_step (limbs x) j, valL_step (limbs y) j, HV.out, HP.out, HQ.out]; omega
            have HV2 := Lib.hid hv2
            obtain rfl : p = q := by omega
            clear hv2 h1 h2
            go_wp2
            go_roundw
            case rel => exact ⟨j, by go_num, by omega, HV2.out, HB4.out⟩
            case measure => simp [intOf]
      · obtain rfl : k = 0 := by omega
        have hxy : x = y := by
          have := HV.out
          rwa [List.drop_zero, List.drop_zero, limbs_val, limbs_val] at this
        have hc : cmpN x y = 0 := by unfold cmpN; rw [if_neg (by omega), if_neg (by omega)]
        have HC := Lib.hid hc
        have HW4 := Lib.hid (HB2.out.trans (HBW.out.mono HB2.out.size))
        clear hc hxy
        go_wp2
        go_ret
        exact ⟨by rw [HC.out]; rfl, HW4.out⟩
end Go.Proofs.YtjcpfmndkeiegaaGreatDoor
