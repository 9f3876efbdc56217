/- The walk of the law PbufFields. -/
import Derived.Test.YtgdnibdahldekabPbU
import Derived.Test.YtgdnibdahldekabPbX
import Derived.Test.YtgdnibdahldekabPbV
import Derived.BigRegion
import Derived.Deep.QuietTactic
import Derived.BigQuiet
import Derived.WalkSmall
import Derived.WalkKit
import Derived.ProofKit
import Derived.LoopTactic
import Derived.WalkSpells
import Derived.WalkLawsBesides
import Derived.Lib.Hide
import Derived.Outline
import Derived.Handy
namespace Go.Proofs.Ytgdnibdahldekab
open Go.RowKit
set_option linter.unusedVariables false

set_option maxRecDepth 200000 in
set_option maxHeartbeats 6400000 in
theorem pbufFields_walk (num kind at_ : Int) (val : Nat) (data b : ByteArray) (stop : Int) (hv : val < 18446744073709551616) (hd : data.size ≤ 9223372036854775807) (hb : b.size ≤ 9223372036854775807) (hs1 : -9223372036854775808 ≤ stop) (hs2 : stop ≤ 9223372036854775807) (w : World) :
    Calls Try.prog 4 #[.agg #[.int .i64 num, .int .i64 kind, .int .i64 at_, .int .u64 val, .string data], .string b, .int .i64 stop] w fun e w' => e = .returned (.bool true) ∧ Below w.heap.size w w' := by
  have b0 := BlkAt.new w 39 #[.int .i64 num, .int .i64 kind, .int .i64 at_, .int .u64 val, .string data]
  have B0 : Below w.heap.size w (w.alloc (.cells #[.int .i64 num, .int .i64 kind, .int .i64 at_, .int .u64 val, .string data] 39)) := (Below.refl _ w).alloc (Nat.le_refl _) _
  by_cases hl : 500 < data.size ∨ 3000 < b.size
  · by_cases hl1 : 500 < data.size
    all_goals
      go_enter Try.func4, Try.ntmps4
      go_wp2_with (go_at_call 25; refine (alive10_any _).mono ?_; rintro e w1 ⟨rfl, hB⟩)
      go_ret
      exact ⟨rfl, B0.trans (hB.mono (by simp))⟩
  · have hl1 : data.size ≤ 500 := by omega
    have hl2 : b.size ≤ 3000 := by omega
    have hll : b.data.toList.length = b.size := by simp
    obtain ⟨tb, ec, hec, KP, KQ⟩ := puts_alike num kind at_ val data hv hl1
    have KF := fun W => fields_any b (by omega) W
    have KG := fun W => refFields_any b (by omega) W
    obtain ⟨sh1, sh2, sh3, sh4⟩ := each_shape b.data.toList (by omega)
    have hfl := fieldsGo_len _ 0 b.data.toList (Nat.le_refl _)
    have hrl : (rfF b.data.toList).length ≤ 3000 := by unfold rfF; rw [if_neg (by omega)]; omega
    have HP := Lib.hid KP
    have HQ := Lib.hid KQ
    have HF := Lib.hid KF
    have HG := Lib.hid KG
    have HS1 := Lib.hid sh1
    have HS2 := Lib.hid sh2
    have HS3 := Lib.hid sh3
    clear KP KQ KF KG hll hfl hl hv hd hb sh1 sh2 sh3
    obtain ⟨D, hD⟩ : ∃ D, fieldsD b.data.toList = D := ⟨_, rfl⟩
    obtain ⟨fs, hfs⟩ : ∃ fs, rfF b.data.toList = fs := ⟨_, rfl⟩
    obtain ⟨gs, hgs⟩ : ∃ gs, fieldsF b.data.toList = gs := ⟨_, rfl⟩
    unfold RfPost at HG
    rw [hD] at HF HG HS1 HS2 HS3 sh4
    rw [hfs] at HG HS1 HS2 hrl
    rw [hgs] at HF HS2 HS3
    clear hD hfs hgs
    obtain ⟨C, P, dw⟩ := D
    simp only at HF HG HS1 HS2 HS3 sh4
    go_enter Try.func4, Try.ntmps4
    go_wp2_with fail
    refine (alive10_any _).mono ?_
    rintro e w1 ⟨rfl, hB1⟩
    have b1 := b0.below hB1 b0.lt
    have B1 := B0.trans (hB1.mono (by simp))
    have c0 := b1.cell 0
    have c1 := b1.cell 1
    have c2 := b1.cell 2
    have c3 := b1.cell 3
    have c4 := b1.cell 4
    go_wp2_with fail
    refine (HP.out _).mono ?_
    rintro e w2 ⟨rfl, hB2⟩
    clear c0 c1 c2 c3 c4
    have b2 := b1.below hB2 b1.lt
    have B2 := B1.trans (hB2.mono B1.size)
    have c0 := b2.cell 0
    have c1 := b2.cell 1
    have c3 := b2.cell 3
    have c4 := b2.cell 4
    go_wp2_with fail
    refine (HQ.out _).mono ?_
    rintro e w3 ⟨rfl, hB3⟩
    clear c0 c1 c3 c4
    have B3 := B2.trans (hB3.mono B2.size)
    go_wp2_with fail
    refine (HF.out _).mono ?_
    rintro e w4 ⟨v4, rfl, hr4, hB4⟩
    have B4 := B3.trans (hB4.mono B3.size)
    obtain ⟨a4, k4, rfl, hR4⟩ := rdF_of hr4 rfl
    clear hr4
    have d0 := BlkAt.new w4 47 #[.int .i64 C, .int .i64 P, .string ⟨dw.toArray⟩]
    have B5 := B4.alloc B4.size (.cells #[.int .i64 C, .int .i64 P, .string ⟨dw.toArray⟩] 47)
    go_wp2_with fail
    refine (HG.out _).mono ?_
    rintro e w6 ⟨v6, rfl, hr6, hB6⟩
    obtain ⟨a6, k6, rfl, hR6⟩ := rdF_of hr6 rfl
    have B6 := B5.trans (hB6.mono B5.size)
    have d1 := d0.below hB6 d0.lt
    clear hr6 d0
    have KR := real_any a6 k6 fs.length fs rfl (by omega) w6 hR6
    have HR := Lib.hid KR
    clear KR
    go_wp2_with fail
    refine HR.out.mono ?_
    rintro e w7 ⟨v7, rfl, hr7, hB7⟩
    obtain ⟨a7, k7, rfl, hR7⟩ := rdF_of hr7 rfl
    have B7 := B6.trans (hB7.mono B6.size)
    have d2 := d1.below hB7 d1.lt
    have hA4 : Below w4.heap.size w4 w7 := (((Below.refl _ w4).alloc (Nat.le_refl _) (.cells #[.int .i64 C, .int .i64 P, .string ⟨dw.toArray⟩] 47)).trans (hB6.mono (by simp))).trans (hB7.mono (by have := hB6.size; simp at this; omega))
    have hR4b := hR4.below hA4
    have e0 := d2.cell 0
    have e1 := d2.cell 1
    obtain ⟨TL, hTL⟩ : ∃ TL, toldL stop b.data.toList = TL := ⟨_, rfl⟩
    have hEl : (eachL b.data.toList).length = fs.length + (if C = 0 then 0 else 1) := by rw [HS1.out]; split <;> simp
    have hTm : TL.length = if 1 ≤ stop then min stop.toNat (eachL b.data.toList).length else (eachL b.data.toList).length := by
      rw [← hTL]; unfold toldL cutL; split <;> simp [List.length_take]
    have hTg : ∀ i, i < TL.length → TL[i]? = (eachL b.data.toList)[i]? := by
      intro i hi
      rw [← hTL] at hi ⊢
      unfold toldL cutL at hi ⊢
      split
      · rename_i h; rw [if_pos h, List.length_take] at hi; rw [List.getElem?_take_of_lt (by omega)]
      · rfl
    have KT := fun B W hb => told10_any B b (by omega) stop W hb
    rw [hTL] at KT
    have HT := Lib.hid KT
    have HTM := Lib.hid hTm
    have HTG := Lib.hid hTg
    have HEL := Lib.hid hEl
    clear KT hTm hTg hEl hTL hR4 hR6 hr7
    have hrest : ∀ (X : World), Below w7.heap.size w7 X → True := fun _ _ => trivial
    by_cases hC : C = 0
    · subst hC
      have hg := HS2.out rfl
      subst hg
      have hel := HEL.out
      rw [if_pos rfl] at hel
      have HE := Lib.hid hel
      clear hel HEL
      have KS := same10_yes a4 a7 k4 k7 gs gs.length rfl (by omega) w7 hR4b hR7
      have HKS := Lib.hid KS
      clear KS hec hrest
      go_wp2_with fail
      refine HKS.out.mono ?_
      rintro e w8 ⟨rfl, hB8⟩
      have B8 := B7.trans (hB8.mono B7.size)
      have hR7c := hR7.below hB8
      clear hR4b hR7 e0 e1
      go_wp2_with fail
      refine (each_any b _).mono ?_
      rintro e w' ⟨rfl, rfl⟩
      have hnf : ∀ w : World, (binOp .eql 55 (.func (.func 59) #[] #[.pointer (some ⟨w8.heap.size, 0, none⟩)]) .nilFunc).run Try.prog w = .ok (.bool false) w := fun _ => by kernel_rfl
      have hbox := Boxed.new w8 9 (.string b)
      have B9 := B8.alloc B8.size (.cells #[.string b] 9)
      have hal := (Below.refl _ w8).alloc (Nat.le_refl _) (.cells #[.string b] 9)
      have hR7d := hR7c.below hal
      obtain ⟨W0, hW0⟩ : ∃ W0, w8.alloc (.cells #[.string b] 9) = W0 := ⟨_, rfl⟩
      rw [hW0] at hbox B9 hR7d ⊢
      clear hW0 hal hR7c
      obtain ⟨m, hm⟩ : ∃ m, TL.length = m := ⟨_, rfl⟩
      obtain ⟨N, hN⟩ : ∃ N, gs.length = N := ⟨_, rfl⟩
      have hme := HTM.out
      rw [HE.out, hm, hN] at hme
      have hms : (stop ≤ 0 ∧ m = N + 0) ∨ (0 < stop ∧ stop ≤ N + 0 ∧ (m : Int) = stop) ∨ (0 < stop ∧ (N : Int) + 0 ≤ stop ∧ m = N + 0) := by
        by_cases h : 1 ≤ stop
        · rw [if_pos h] at hme; omega
        · rw [if_neg h] at hme; omega
      have HMM := Lib.hid hm
      have HNN := Lib.hid hN
      rw [hN] at hrl ⊢
      clear hme hm hN
      have hmin : 0 < stop → min (N : Int) stop = (m : Int) := fun h => by omega
      have hmN : m ≤ N := by omega
      have hszA : stop ≤ 0 → N ≤ m := fun h => by omega
      clear hms HTM
      have hcs : (stop ≤ 0 ∧ N ≤ m) ∨ (0 < stop ∧ min (N : Int) stop = (m : Int)) := by
        by_cases h : stop ≤ 0
        · exact .inl ⟨h, hszA h⟩
        · exact .inr ⟨by omega, hmin (by omega)⟩
      clear hmin hszA
      rcases hcs with ⟨hs0, hNm⟩ | ⟨hs0, hmn⟩
      all_goals
        go_wp2
        go_loopw [19] (fun p wr => ∃ k : Nat, p = .int .i64 k ∧ k ≤ 2 ∧ Below W0.heap.size W0 wr) (fun p _ => 2 - (intOf p).toNat)
        case atStart => exact ⟨0, rfl, by omega, Below.refl _ _⟩
        case round =>
          obtain ⟨k, rfl, hk, hB⟩ := hrel
          by_cases hlt : k < 2
          · have hbr : Boxed wr w8.heap.size 9 (.string b) := (hB.block _ hbox.lt).trans hbox
            go_wp2_with fail
            refine (HT.out _ _ hbr).mono ?_
            rintro e wa ⟨vx, vy, rfl, hrx, hry, hBa⟩
            obtain ⟨ax, kx, rfl, hRx⟩ := rdF_of hrx (by rw [List.length_map])
            obtain ⟨ay, ky, rfl, hRy⟩ := rdG_of hry (by rw [List.length_map])
            rw [List.length_map, List.length_map, HMM.out]
            have q1 := hB.trans (hBa.mono hB.size)
            have hR7e := hR7d.below q1
            clear hrx hry
            go_wp2
            go_loopw [22] (fun p wi => ∃ i : Nat, p = .int .i64 i ∧ i ≤ m ∧ Below wa.heap.size wa wi) (fun p _ => m - (intOf p).toNat)
            case atStart => exact ⟨0, rfl, Nat.zero_le _, Below.refl _ _⟩
            case round =>
              obtain ⟨i, rfl, hi, hBi⟩ := hrel
              by_cases hit : i < m
              · have hiT : i < TL.length := by rw [HMM.out]; exact hit
                have hiN : i < gs.length := by rw [HNN.out]; omega
                have hti : TL[i]? = some (gs[i], zeroD) := by
                  rw [HTG.out i hiT, HS1.out, List.getElem?_append_left (by rw [List.length_map]; exact hiN), List.getElem?_map, List.getElem?_eq_getElem hiN]; rfl
                obtain ⟨gx, rfl, hx1, hx2⟩ := (hRx.below hBi) i (by rw [List.length_map]; exact hiT)
                obtain ⟨gy, rfl, hy1, hy2⟩ := (hRy.below hBi) i (by rw [List.length_map]; exact hiT)
                obtain ⟨gw, rfl, hw1, hw2⟩ := (hR7e.below hBi) i hiN
                have ex : (TL.map (·.1)).getD i zeroF = gs[i] := by rw [List.getD, List.getElem?_map, hti]; rfl
                have ey : (TL.map (·.2)).getD i zeroD = zeroD := by rw [List.getD, List.getElem?_map, hti]; rfl
                have ew : gs.getD i zeroF = gs[i] := by rw [List.getD, List.getElem?_eq_getElem hiN]; rfl
                rw [ex] at hx2
                rw [ey] at hy2
                rw [ew] at hw2
                obtain ⟨f, hf⟩ : ∃ f, gs[i] = f := ⟨_, rfl⟩
                rw [hf] at hx2 hw2
                have hn := run_neq_no f
                have p0 := hx2 0 (by omega)
                have p1 := hx2 1 (by omega)
                have p2 := hx2 2 (by omega)
                have p3 := hx2 3 (by omega)
                have p4 := hx2 4 (by omega)
                have r0 := hw2 0 (by omega)
                have r1 := hw2 1 (by omega)
                have r2 := hw2 2 (by omega)
                have r3 := hw2 3 (by omega)
                have r4 := hw2 4 (by omega)
                have y0 := hy2 0 (by omega)
                clear hti ex ey ew hx2 hy2 hw2 hf hiT hiN
                obtain ⟨x0, x1, x2, x3, x4⟩ := f
                simp only [fldCells, dgCells, List.getElem?_cons_succ, List.getElem?_cons_zero, Nat.add_zero] at p0 p1 p2 p3 p4 r0 r1 r2 r3 r4 y0
                simp only [fldV] at hn
                have zc : (zeroD.code : Int) = 0 := rfl
                rw [zc] at y0
                have hi1 : (i : Int) < (N : Int) := by omega
                have hi2 : ((i : Int) == (N : Int)) = false := beq_eq_false_iff_ne.2 (by omega)
                have hi3 : ¬ (i : Int) = (N : Int) := by omega
                go_wp2_with fail
                go_quiet (fail)
                go_wp2
                go_roundw
                case rel => exact ⟨i + 1, by go_num, by omega, below_drewN hBi _⟩
                case measure => simp [intOf]; omega
              · obtain rfl : i = m := by omega
                go_wp2
                go_roundw
                case rel => exact ⟨k + 1, by go_num, by omega, q1.trans (hBi.mono q1.size)⟩
                case measure => simp [intOf]; omega
          · obtain rfl : k = 2 := by omega
            go_wp2_with fail
            go_ret
            exact ⟨rfl, B9.trans (hB.mono B9.size)⟩
    · have hg := HS3.out hC
      subst hg
      have hel := HEL.out
      rw [if_neg hC] at hel
      have HE := Lib.hid hel
      clear hel HEL
      have hc1 : ¬ (C : Int) = 0 := by omega
      have hc2 : ((C : Int) == 0) = false := beq_eq_false_iff_ne.2 hc1
      have hc3 : ((C : Int) != 0) = true := bne_iff_ne.2 hc1
      clear hec hrest
      go_wp2_with fail
      refine (each_any b _).mono ?_
      rintro e w' ⟨rfl, rfl⟩
      have hnf : ∀ w : World, (binOp .eql 55 (.func (.func 59) #[] #[.pointer (some ⟨w7.heap.size, 0, none⟩)]) .nilFunc).run Try.prog w = .ok (.bool false) w := fun _ => by kernel_rfl
      have hbox := Boxed.new w7 9 (.string b)
      have B9 := B7.alloc B7.size (.cells #[.string b] 9)
      have hal := (Below.refl _ w7).alloc (Nat.le_refl _) (.cells #[.string b] 9)
      have hR7d := hR7.below hal
      obtain ⟨W0, hW0⟩ : ∃ W0, w7.alloc (.cells #[.string b] 9) = W0 := ⟨_, rfl⟩
      rw [hW0] at hbox B9 hR7d ⊢
      clear hW0 hal hR7
      obtain ⟨m, hm⟩ : ∃ m, TL.length = m := ⟨_, rfl⟩
      obtain ⟨N, hN⟩ : ∃ N, fs.length = N := ⟨_, rfl⟩
      have hme := HTM.out
      rw [HE.out, hm, hN] at hme
      have hms : (stop ≤ 0 ∧ m = N + 1) ∨ (0 < stop ∧ stop ≤ N + 1 ∧ (m : Int) = stop) ∨ (0 < stop ∧ (N : Int) + 1 ≤ stop ∧ m = N + 1) := by
        by_cases h : 1 ≤ stop
        · rw [if_pos h] at hme; omega
        · rw [if_neg h] at hme; omega
      have HMM := Lib.hid hm
      have HNN := Lib.hid hN
      rw [hN] at hrl ⊢
      clear hme hm hN
      have hmin : 0 < stop → min ((N : Int) + 1) stop = (m : Int) := fun h => by omega
      have hmN : m ≤ N + 1 := by omega
      have hszA : stop ≤ 0 → N + 1 ≤ m := fun h => by omega
      clear hms HTM
      have hcs : (stop ≤ 0 ∧ N + 1 ≤ m) ∨ (0 < stop ∧ min ((N : Int) + 1) stop = (m : Int)) := by
        by_cases h : stop ≤ 0
        · exact .inl ⟨h, hszA h⟩
        · exact .inr ⟨by omega, hmin (by omega)⟩
      clear hmin hszA
      rcases hcs with ⟨hs0, hNm⟩ | ⟨hs0, hmn⟩
      all_goals
        go_wp2
        go_loopw [19] (fun p wr => ∃ k : Nat, p = .int .i64 k ∧ k ≤ 2 ∧ Below W0.heap.size W0 wr) (fun p _ => 2 - (intOf p).toNat)
        case atStart => exact ⟨0, rfl, by omega, Below.refl _ _⟩
        case round =>
          obtain ⟨k, rfl, hk, hB⟩ := hrel
          by_cases hlt : k < 2
          · have hbr : Boxed wr w7.heap.size 9 (.string b) := (hB.block _ hbox.lt).trans hbox
            go_wp2_with fail
            refine (HT.out _ _ hbr).mono ?_
            rintro e wa ⟨vx, vy, rfl, hrx, hry, hBa⟩
            obtain ⟨ax, kx, rfl, hRx⟩ := rdF_of hrx (by rw [List.length_map])
            obtain ⟨ay, ky, rfl, hRy⟩ := rdG_of hry (by rw [List.length_map])
            rw [List.length_map, List.length_map, HMM.out]
            have q1 := hB.trans (hBa.mono hB.size)
            have hR7e := hR7d.below q1
            clear hrx hry
            go_wp2
            go_loopw [22] (fun p wi => ∃ i : Nat, p = .int .i64 i ∧ i ≤ m ∧ Below wa.heap.size wa wi) (fun p _ => m - (intOf p).toNat)
            case atStart => exact ⟨0, rfl, Nat.zero_le _, Below.refl _ _⟩
            case round =>
              obtain ⟨i, rfl, hi, hBi⟩ := hrel
              by_cases hit : i < m
              · have hiT : i < TL.length := by rw [HMM.out]; exact hit
                by_cases hiN0 : i < N
                · have hiN : i < fs.length := by rw [HNN.out]; omega
                  have hti : TL[i]? = some (fs[i], zeroD) := by
                    rw [HTG.out i hiT, HS1.out, List.getElem?_append_left (by rw [List.length_map]; exact hiN), List.getElem?_map, List.getElem?_eq_getElem hiN]; rfl
                  obtain ⟨gx, rfl, hx1, hx2⟩ := (hRx.below hBi) i (by rw [List.length_map]; exact hiT)
                  obtain ⟨gy, rfl, hy1, hy2⟩ := (hRy.below hBi) i (by rw [List.length_map]; exact hiT)
                  obtain ⟨gw, rfl, hw1, hw2⟩ := (hR7e.below hBi) i hiN
                  have ex : (TL.map (·.1)).getD i zeroF = fs[i] := by rw [List.getD, List.getElem?_map, hti]; rfl
                  have ey : (TL.map (·.2)).getD i zeroD = zeroD := by rw [List.getD, List.getElem?_map, hti]; rfl
                  have ew : fs.getD i zeroF = fs[i] := by rw [List.getD, List.getElem?_eq_getElem hiN]; rfl
                  rw [ex] at hx2
                  rw [ey] at hy2
                  rw [ew] at hw2
                  obtain ⟨f, hf⟩ : ∃ f, fs[i] = f := ⟨_, rfl⟩
                  rw [hf] at hx2 hw2
                  have hn := run_neq_no f
                  have p0 := hx2 0 (by omega)
                  have p1 := hx2 1 (by omega)
                  have p2 := hx2 2 (by omega)
                  have p3 := hx2 3 (by omega)
                  have p4 := hx2 4 (by omega)
                  have r0 := hw2 0 (by omega)
                  have r1 := hw2 1 (by omega)
                  have r2 := hw2 2 (by omega)
                  have r3 := hw2 3 (by omega)
                  have r4 := hw2 4 (by omega)
                  have y0 := hy2 0 (by omega)
                  clear hti ex ey ew hx2 hy2 hw2 hf hiT hiN
                  obtain ⟨x0, x1, x2, x3, x4⟩ := f
                  simp only [fldCells, dgCells, List.getElem?_cons_succ, List.getElem?_cons_zero, Nat.add_zero] at p0 p1 p2 p3 p4 r0 r1 r2 r3 r4 y0
                  simp only [fldV] at hn
                  have zc : (zeroD.code : Int) = 0 := rfl
                  rw [zc] at y0
                  have hi1 : (i : Int) < (N : Int) := by omega
                  have hi2 : ((i : Int) == (N : Int)) = false := beq_eq_false_iff_ne.2 (by omega)
                  have hi3 : ¬ (i : Int) = (N : Int) := by omega
                  go_wp2_with fail
                  go_quiet (fail)
                  go_wp2
                  go_roundw
                  case rel => exact ⟨i + 1, by go_num, by omega, below_drewN hBi _⟩
                  case measure => simp [intOf]; omega
                · have hiN : i = N := by omega
                  have hti : TL[i]? = some (zeroF, ⟨C, P, dw⟩) := by
                    rw [HTG.out i hiT, HS1.out, List.getElem?_append_right (by rw [List.length_map, HNN.out]; omega), if_neg hC, List.length_map, HNN.out, hiN, Nat.sub_self]; rfl
                  obtain ⟨gx, rfl, hx1, hx2⟩ := (hRx.below hBi) i (by rw [List.length_map]; exact hiT)
                  obtain ⟨gy, rfl, hy1, hy2⟩ := (hRy.below hBi) i (by rw [List.length_map]; exact hiT)
                  have ex : (TL.map (·.1)).getD i zeroF = zeroF := by rw [List.getD, List.getElem?_map, hti]; rfl
                  have ey : (TL.map (·.2)).getD i zeroD = ⟨C, P, dw⟩ := by rw [List.getD, List.getElem?_map, hti]; rfl
                  rw [ex] at hx2
                  rw [ey] at hy2
                  have hn : ∀ w, (binOp .neq 39 (.agg #[.int .i64 0, .int .i64 0, .int .i64 0, .int .u64 0, .string ⟨#[]⟩]) (.agg #[.int .i64 0, .int .i64 0, .int .i64 0, .int .u64 0, .string ⟨#[]⟩])).run Try.prog w = .ok (.bool false) w := run_neq_no zeroF
                  have p0 := hx2 0 (by omega)
                  have p1 := hx2 1 (by omega)
                  have p2 := hx2 2 (by omega)
                  have p3 := hx2 3 (by omega)
                  have p4 := hx2 4 (by omega)
                  have y0 := hy2 0 (by omega)
                  have y1 := hy2 1 (by omega)
                  simp only [fldCells, dgCells, zeroF, List.getElem?_cons_succ, List.getElem?_cons_zero, Nat.add_zero] at p0 p1 p2 p3 p4 y0 y1
                  have zz : ((0 : Nat) : Int) = 0 := rfl
                  rw [zz] at p0 p1 p2 p3
                  have hi1 : ¬ (i : Int) < (N : Int) := by omega
                  have hi2 : ((i : Int) == (N : Int)) = true := beq_iff_eq.2 (by omega)
                  have hi1' : decide ((i : Int) < (N : Int)) = false := decide_eq_false hi1
                  have hi3 : (i : Int) = (N : Int) := by omega
                  clear hti ex ey hx2 hy2 hiT zz hiN
                  have HI3 := Lib.hid hi3
                  clear hi3 hi1
                  go_wp2_with fail
                  go_quiet (fail)
                  go_wp2
                  go_roundw
                  case rel => exact ⟨i + 1, by go_num, by omega, below_drewN hBi _⟩
                  case measure => simp [intOf]; omega
              · obtain rfl : i = m := by omega
                go_wp2
                go_roundw
                case rel => exact ⟨k + 1, by go_num, by omega, q1.trans (hBi.mono q1.size)⟩
                case measure => simp [intOf]; omega
          · obtain rfl : k = 2 := by omega
            go_wp2_with fail
            go_ret
            exact ⟨rfl, B9.trans (hB.mono B9.size)⟩
end Go.Proofs.Ytgdnibdahldekab
