/- The walk of the law DiagTells. -/
import Derived.Test.YtgdnibdahldekabDoorLtD
namespace Go.Proofs.YtgdnibdahldekabDoor
open Go.RowKit
set_option linter.unusedVariables false

theorem isDIs_below {w W : World} {a : Option Addr} {zs : List DI} (h : IsDIs w a zs) (hB : Below w.heap.size w W) : IsDIs W a zs := fun i hi => by
  obtain ⟨h1, x, e, h2⟩ := h i hi
  refine ⟨h1, x, e, fun j hj => ?_⟩
  have h3 := h2 j hj
  have hc : ∃ u, (dIcells zs[i])[j]? = some u := ⟨_, List.getElem?_eq_getElem (by simpa using hj)⟩
  obtain ⟨u, hu⟩ := hc
  rw [hu] at h3 ⊢
  exact (hB.cell (p := x.add (i * 3 + j)) (block_lt h3)).trans h3
theorem own_some {W : World} {base size n : Nat} {e : TypeId} {v : Value} {xs : List Value} (h : W.ownsRow base e size v (n + 1) xs) : ∃ g cap, v = .slice (some ⟨g, 0, none⟩) (n + 1) cap ∧ n + 1 ≤ cap := by
  rcases h.2 with ⟨_, h0⟩ | ⟨g, cap, cur, hv, hb, hg, hn, _⟩
  · omega
  · exact ⟨g, cap, hv, hn⟩
set_option maxRecDepth 200000 in
set_option maxHeartbeats 40000000 in
theorem diagTells_walk (a : Option Addr) (c n : Nat) (zs : List DI) (hn : zs.length = n) (hm : n ≤ 9223372036854775807) (w : World) (ht : Tab w) (h : IsDIs w a zs) :
    Calls Tryd.prog 4 #[.slice a n c] w fun e W' => e = .returned (.bool true) ∧ Below w.heap.size w W' := by
  have mixed : Tryd.prog.follows .mixedOrders = true := by kernel_rfl
  have H := Lib.hid h
  have HN := Lib.hid hn
  have HTab := Lib.hid ht
  have KL := Lib.hid (light_tells a c n zs hn hm w h)
  clear h hn ht
  go_enter Tryd.func4, Tryd.ntmps4
  go_wp2_with fail
  refine KL.out.mono ?_
  rintro e w1 ⟨⟨b, rfl, hb⟩, B1⟩
  clear KL
  cases b with
  | false =>
    go_wp2_with fail
    refine (alive5_any w1).mono ?_
    rintro e w2 ⟨rfl, B2⟩
    go_wp2_with fail
    go_ret
    exact ⟨rfl, B1.trans (B2.mono B1.size)⟩
  | true =>
    obtain ⟨h130, h6000⟩ := hb rfl
    have HW6 := Lib.hid h6000
    clear hb h6000
    go_wp2_with fail
    refine (alive5_any w1).mono ?_
    rintro e w2 ⟨rfl, B2⟩
    have B3 := B1.trans (B2.mono B1.size)
    have B4 := B3.alloc B3.size (.cells #[.slice none 0 0] 27)
    have hs4 : w.heap.size ≤ (w2.alloc (.cells #[.slice none 0 0] 27)).heap.size := Nat.le_trans B3.size (by simp)
    have k0 : BlkAt (w2.alloc (.cells #[.slice none 0 0] 27)) w2.heap.size 27 #[.slice none 0 0] := BlkAt.new _ _ _
    have B5 := B4.alloc hs4 (.cells (bookCells nilV nilV) 51)
    have hs5 : w.heap.size ≤ ((w2.alloc (.cells #[.slice none 0 0] 27)).alloc (.cells (bookCells nilV nilV) 51)).heap.size := Nat.le_trans hs4 (by simp)
    have k1 : BlkAt ((w2.alloc (.cells #[.slice none 0 0] 27)).alloc (.cells (bookCells nilV nilV) 51)) (w2.heap.size + 1) 51 (bookCells nilV nilV) := by
      have := BlkAt.new (w2.alloc (.cells #[.slice none 0 0] 27)) 51 (bookCells nilV nilV)
      simp only [World.size_alloc] at this
      exact this
    have k2 := k0.alloc (.cells (bookCells nilV nilV) 51)
    have HBx := Lib.hid (show w.heap.size ≤ w2.heap.size from B3.size)
    have HBb := Lib.hid (show w.heap.size ≤ w2.heap.size + 1 from Nat.le_succ_of_le B3.size)
    obtain ⟨w5, hw5⟩ : ∃ w5, (w2.alloc (.cells #[.slice none 0 0] 27)).alloc (.cells (bookCells nilV nilV) 51) = w5 := ⟨_, rfl⟩
    rw [hw5] at B5 hs5 k1 k2
    have HK1 := Lib.hid k1
    have HK2 := Lib.hid k2
    have HW5 := Lib.hid hw5
    have HB5 := Lib.hid B5
    have HS5 := Lib.hid hs5
    clear k0 k1 k2 hw5 B3 B4 hs4 B5 hs5 B1 B2
    generalize hBx : w2.heap.size = Bx at *
    go_wp2_with fail
    rw [HW5.out]
    go_loopw [4, 6] (fun p q wr => TlA w w.heap.size Bx (Bx + 1) n zs p q wr) (fun _ q _ => n - (intOf q).toNat)
    case atStart =>
      have hl0 : IsLv w.heap.size w5 Bx (addAll (zs.take 0)) nilV := ⟨HBx.out, by simp [addAll], HK2.out, World.ownsRow_nil _ _ _ _, by simp [Value.ownBlock], fun _ => rfl⟩
      have hs0 : ∀ g, nilV.ownBlock = some g → nilV.ownBlock ≠ some g := fun g h => by simp [Value.ownBlock] at h
      exact ⟨0, nilV, rfl, Nat.zero_le _, hl0, World.ownsRow_nil _ _ _ _, hs0, HK1.out, HB5.out, HS5.out⟩
    case round =>
      obtain ⟨k, vx, rfl, hk, hL, hwt, hsep, hBk, hB, hsz⟩ := hrel
      rename_i pw
      by_cases hlt : k < n
      · as_aux_lemma =>
        have hkz : k < zs.length := by have := HN.out; omega
        have hz : (k : Int) < (n : Int) := by omega
        obtain ⟨x, z0, z1, z2, rfl, hzk, hok, hc⟩ := isDI_at H.out hkz
        obtain ⟨p0, p1, p2⟩ := hc wr hB
        have hst := addAll_step hkz
        rw [hzk] at hst
        simp only at hst
        obtain ⟨wa, wc, rfl⟩ := ownsRow_slice' hwt
        have hw6 := HW6.out k hkz
        rw [hzk] at hw6
        simp only at hw6
        have hw := hok.2.2
        simp only at hw
        have KA := Lib.hid (add_more w.heap.size Bx (addAll (zs.take k)) vx z0 z1 z2 hw wr.drew hL)
        have HST := Lib.hid hst
        have HOk := Lib.hid hok
        have HWt := Lib.hid hwt
        have HSep := Lib.hid hsep
        have HL := Lib.hid hL
        have HBk := Lib.hid hBk
        have HC := Lib.hid hc
        have hlen := hL.2.1
        obtain ⟨L, hLn⟩ : ∃ L, (addAll (zs.take k)).length = L := ⟨_, rfl⟩
        have HLn := Lib.hid hLn
        rw [hLn] at hlen ⊢
        clear hst hc hok hzk hw hwt hsep hL hBk hLn
        go_wp2_with fail
        go_region_held3 (fun w' => w'.cell? (x.add (k * 3)) = some (.int .i64 z0) ∧ w'.cell? ⟨(x.add (k * 3)).block, (x.add (k * 3)).off + 1, none⟩ = some (.int .i64 z1) ∧ w'.cell? ⟨(x.add (k * 3)).block, (x.add (k * 3)).off + 2, none⟩ = some (.string z2)) (go_keep)
          (first | (go_at_call 7; refine KA.out.mono ?_; rintro e w3 ⟨⟨v3, rfl⟩, vx3, hL3, hB3, hat3, hfr3⟩; obtain ⟨q0, q1, q2⟩ := HC.out w3 (hB.drew.trans hB3)))
        have hxl : (x.add (k * 3)).block < w.heap.size := by rw [add_block]; have := block_lt ((HC.out w (Below.refl _ _)).1); rw [add_block] at this; exact this
        have HXl := Lib.hid hxl
        have HA := Lib.hid (tl_add (Bb := Bx + 1) hlt (ds3 := addL (addAll (zs.take k)) z0 z1 z2.data.toList) HST.out HL.out HWt.out HSep.out HBk.out hB hsz hL3 hB3 hat3 hfr3)
        have HB3 := Lib.hid (hB.drew.trans hB3)
        have hs3 := Nat.le_trans hsz (show wr.heap.size ≤ w3.heap.size from hB3.size)
        clear hxl
        obtain ⟨nm, _, hNm, hRNm⟩ := name_same z0 HOk.out.1.1 HOk.out.1.2
        obtain ⟨tx, hTx, hRTx⟩ := text_same ⟨z0, z1, z2.data.toList⟩ HOk.out.1.1 HOk.out.1.2 HOk.out.2.1.1 HOk.out.2.1.2 (by simp; omega)
        have ez : diV ⟨z0, z1, z2.data.toList⟩ = .agg #[.int .i64 z0, .int .i64 z1, .string z2] := by simp [diV]
        rw [ez] at hTx hRTx
        have HNm := Lib.hid hNm
        have HRNm := Lib.hid hRNm
        have HTx := Lib.hid hTx
        have HRTx := Lib.hid hRTx
        clear hNm hRNm hTx hRTx ez
        by_cases hno : z0 = 0 ∨ 100 ≤ L
        · have hT : TlA w w.heap.size Bx (Bx + 1) n zs (.slice wa L wc) (.int .i64 ((k : Int) + 1)) w3 := by
            have := HA.out.2.2 (by unfold addL; rw [if_pos (by rw [HLn.out]; exact hno)])
            rw [HLn.out] at this
            exact this
          have HT := Lib.hid hT
          clear hT hL3 hB3 hat3 hfr3
          by_cases hc0 : z0 = 0
          · subst hc0
            have hBW : Below w.heap.size w w3 := HB3.out
            have HBW := Lib.hid hBW
            have HCl := Lib.hid (fun p => HC.out (lift w3 p) (hBW.trans ((below_lift w3 p).mono hBW.size)))
            have HTb := Lib.hid (fun p => tab_below HTab.out (hBW.trans ((below_lift w3 p).mono hBW.size)))
            obtain ⟨l0, l1, l2⟩ : (∀ p, (lift w3 p).cell? (x.add (k * 3)) = some (.int .i64 0)) ∧ (∀ p, (lift w3 p).cell? ⟨(x.add (k * 3)).block, (x.add (k * 3)).off + 1, none⟩ = some (.int .i64 z1)) ∧ (∀ p, (lift w3 p).cell? ⟨(x.add (k * 3)).block, (x.add (k * 3)).off + 2, none⟩ = some (.string z2)) := ⟨fun p => (HCl.out p).1, fun p => (HCl.out p).2.1, fun p => (HCl.out p).2.2⟩
            clear hBW
            go_wp2_with fail
            refine wp_region_quiet_below mixed (by kernel_rfl) ?_
            repeat (quiet_step (first
              | (go_at_call 14; exact calls_lift (HNm.out _ (HTb.out _)))
              | (go_at_call 15; exact calls_lift (HRNm.out _))
              | (go_at_call 16; exact calls_lift (HTx.out _ (HTb.out _)))
              | (go_at_call 17; exact calls_lift (HRTx.out _))))
            refine wpQuiet_nil ?_
            intro _ hw'
            obtain ⟨p, hw''⟩ := hw'
            subst hw''
            have HT' := Lib.hid (HT.out.below (below_lift w3 p))
            clear l0 l1 l2
            generalize lift w3 p = w6 at *
            go_wp2
            go_roundw
            case rel => exact HT'.out
            case measure => simp [intOf]; omega
          · have hcb : (z0 == 0) = false := beq_eq_false_iff_ne.2 hc0
            have hl100 : ¬ (L : Int) < 100 := by omega
            have hBW : Below w.heap.size w w3 := HB3.out
            have HBW := Lib.hid hBW
            have HCl := Lib.hid (fun p => HC.out (lift w3 p) (hBW.trans ((below_lift w3 p).mono hBW.size)))
            have HTb := Lib.hid (fun p => tab_below HTab.out (hBW.trans ((below_lift w3 p).mono hBW.size)))
            obtain ⟨l0, l1, l2⟩ : (∀ p, (lift w3 p).cell? (x.add (k * 3)) = some (.int .i64 z0)) ∧ (∀ p, (lift w3 p).cell? ⟨(x.add (k * 3)).block, (x.add (k * 3)).off + 1, none⟩ = some (.int .i64 z1)) ∧ (∀ p, (lift w3 p).cell? ⟨(x.add (k * 3)).block, (x.add (k * 3)).off + 2, none⟩ = some (.string z2)) := ⟨fun p => (HCl.out p).1, fun p => (HCl.out p).2.1, fun p => (HCl.out p).2.2⟩
            clear hBW
            go_wp2_with fail
            refine wp_region_quiet_below mixed (by kernel_rfl) ?_
            repeat (quiet_step (first
              | (go_at_call 14; exact calls_lift (HNm.out _ (HTb.out _)))
              | (go_at_call 15; exact calls_lift (HRNm.out _))
              | (go_at_call 16; exact calls_lift (HTx.out _ (HTb.out _)))
              | (go_at_call 17; exact calls_lift (HRTx.out _))))
            refine wpQuiet_nil ?_
            intro _ hw'
            obtain ⟨p, hw''⟩ := hw'
            subst hw''
            have HT' := Lib.hid (HT.out.below (below_lift w3 p))
            clear l0 l1 l2
            generalize lift w3 p = w6 at *
            go_wp2
            go_roundw
            case rel => exact HT'.out
            case measure => simp [intOf]; omega
        · have hc0 : ¬ z0 = 0 := fun e => hno (.inl e)
          have hl100 : (L : Int) < 100 := by omega
          have hcb : (z0 == 0) = false := beq_eq_false_iff_ne.2 hc0
          obtain ⟨m, hm, hm60⟩ : ∃ m : Nat, m ≤ z2.size ∧ m = min z2.size 60 := ⟨_, Nat.min_le_left _ _, rfl⟩
          have htk : (z2.extract 0 m) = ⟨(z2.data.toList.take 60).toArray⟩ := by
            have : (z2.extract 0 m).data.toList = z2.data.toList.take 60 := by
              rw [extract_list]
              simp only [List.drop_zero, Nat.sub_zero]
              have hls : z2.data.toList.length = z2.size := by simp
              rw [hm60]
              by_cases h60 : z2.size ≤ 60
              · rw [Nat.min_eq_left h60, List.take_of_length_le (by omega), List.take_of_length_le (by omega)]
              · rw [Nat.min_eq_right (by omega)]
            rw [← this]
          have hmm : min (z2.size : Int) 60 = (m : Int) := by omega
          obtain ⟨M, hM⟩ : ∃ M : Int, max z1 0 = M := ⟨_, rfl⟩
          have hadd : addL (addAll (zs.take k)) z0 z1 z2.data.toList = addAll (zs.take k) ++ [⟨z0, M, z2.data.toList.take 60⟩] := by
            unfold addL
            rw [if_neg (by rw [HLn.out]; exact hno), hM]
          have hcs : (addL (addAll (zs.take k)) z0 z1 z2.data.toList).flatMap diCells = (addAll (zs.take k)).flatMap diCells ++ [.int .i64 z0, .int .i64 M, .string (z2.extract 0 m)] := by
            rw [hadd, htk]
            simp
          have hln : (addL (addAll (zs.take k)) z0 z1 z2.data.toList).length = (addAll (zs.take k)).length + 1 := by rw [hadd]; simp
          have hwo := HA.out.1
          rw [HLn.out] at hwo
          have HWo := Lib.hid hwo
          have HY := Lib.hid (fun (gg cap : Nat) (w4 : World) (h1 : w4.ownsRow w.heap.size 31 3 (.slice (some ⟨gg, 0, none⟩) (L + 1) cap) (L + 1) ((addAll (zs.take k)).flatMap diCells ++ [.int .i64 z0, .int .i64 M, .string (z2.extract 0 m)])) (h2 : (w3.drew.alloc (.cells #[.int .i64 z0, .int .i64 M, .string (z2.extract 0 m)] 31)).grownBy w4 (Value.slice wa L wc).ownBlock) (h3 : (Value.slice wa L wc).ownBlock = some gg ∨ gg = w3.heap.size + 1) =>
            show TlA w w.heap.size Bx (Bx + 1) n zs (.slice (some ⟨gg, 0, none⟩) (L + 1) cap) (.int .i64 ((k : Int) + 1)) w4 from by
              have := tl_yes (Bb := Bx + 1) (u := nilV) hlt (ds3 := addL (addAll (zs.take k)) z0 z1 z2.data.toList) HST.out HL.out HWt.out HSep.out HBk.out hB hsz hL3 hB3 hat3 hfr3 hln hcs (gg := gg) (cap := cap) (w4 := w4) (by rw [HLn.out]; exact h1) (by rw [HLn.out]; exact h2) (by rw [HLn.out]; exact h3)
              rw [HLn.out] at this
              exact this)
          have HB4 := Lib.hid (fun (w4 : World) (h2 : (w3.drew.alloc (.cells #[.int .i64 z0, .int .i64 M, .string (z2.extract 0 m)] 31)).grownBy w4 (Value.slice wa L wc).ownBlock) => show Below w.heap.size w w4 from
            (HB3.out.drew.alloc hs3 _).grown h2 (Nat.le_trans hs3 (by simp)) (fun j e => (own_at hwo e).choose_spec.2))
          have n0 := World.new_ne w3 _ q0
          have n1 := World.new_ne w3 _ q1
          have n2 := World.new_ne w3 _ q2
          obtain ⟨i0, hi0, hz0, hz1, hz2⟩ := info_parts infoD
          clear hm60 htk hadd hcs hln hwo hL3 hB3 hat3 hfr3 hno HA
          go_wp2_with fail
          go_region_held3 (fun w' => w'.cell? (x.add (k * 3)) = some (.int .i64 z0) ∧ w'.cell? ⟨(x.add (k * 3)).block, (x.add (k * 3)).off + 1, none⟩ = some (.int .i64 z1) ∧ w'.cell? ⟨(x.add (k * 3)).block, (x.add (k * 3)).off + 2, none⟩ = some (.string z2)) (go_keep)
            ((refine step_append_lies _ (by rfl) _ _ _ (by rfl) w.heap.size 31 i0 _ 3 32 Tryd.underlying22 hi0 hz0 hz1 hz2 rfl (by omega) (.slice wa L wc) L _ (by rfl) (HWo.out.drew.alloc _) ⟨w3.heap.size, 0, none⟩ 1 1 [.int .i64 z0, .int .i64 M, .string (z2.extract 0 m)] (by rfl) (by rfl) (World.news_of_block (cs := #[.int .i64 z0, .int .i64 M, .string (z2.extract 0 m)]) (t := 31) (fr := (0, 0)) (heap_alloc_new w3.drew _)) (by simp [Value.oneCell']) (by omega) (by unfold maxLen; omega) (by omega) (by have e0 : w3.drew.heap.size = w3.heap.size := rfl; simp; omega) (w3.heap.size + 1) (by simp) ?_; intro gg cap w4 hown4 hgrow hat4 hlt4; obtain ⟨r0, r1, r2⟩ := HC.out w4 (HB4.out w4 hgrow)))
          all_goals
            have HT := Lib.hid (HY.out gg cap w4 hown4 hgrow hat4)
            have hBW : Below w.heap.size w w4 := HB4.out w4 hgrow
            have HBW := Lib.hid hBW
            have HCl := Lib.hid (fun p => HC.out (lift w4 p) (hBW.trans ((below_lift w4 p).mono hBW.size)))
            have HTb := Lib.hid (fun p => tab_below HTab.out (hBW.trans ((below_lift w4 p).mono hBW.size)))
            obtain ⟨l0, l1, l2⟩ : (∀ p, (lift w4 p).cell? (x.add (k * 3)) = some (.int .i64 z0)) ∧ (∀ p, (lift w4 p).cell? ⟨(x.add (k * 3)).block, (x.add (k * 3)).off + 1, none⟩ = some (.int .i64 z1)) ∧ (∀ p, (lift w4 p).cell? ⟨(x.add (k * 3)).block, (x.add (k * 3)).off + 2, none⟩ = some (.string z2)) := ⟨fun p => (HCl.out p).1, fun p => (HCl.out p).2.1, fun p => (HCl.out p).2.2⟩
            clear hBW hown4 hgrow hat4 hlt4 q0 q1 q2 r0 r1 r2 n0 n1 n2
            go_wp2_with fail
            refine wp_region_quiet_below mixed (by kernel_rfl) ?_
            repeat (quiet_step (first
              | (go_at_call 14; exact calls_lift (HNm.out _ (HTb.out _)))
              | (go_at_call 15; exact calls_lift (HRNm.out _))
              | (go_at_call 16; exact calls_lift (HTx.out _ (HTb.out _)))
              | (go_at_call 17; exact calls_lift (HRTx.out _))))
            refine wpQuiet_nil ?_
            intro _ hw'
            obtain ⟨p, hw''⟩ := hw'
            subst hw''
            have HT' := Lib.hid (HT.out.below (below_lift w4 p))
            clear l0 l1 l2
            generalize lift w4 p = w6 at *
            go_wp2
            go_roundw
            case rel => exact HT'.out
            case measure => simp [intOf]; omega
      · obtain rfl : k = n := by omega
        have hkz : ¬ (k : Int) < (k : Int) := by omega
        obtain ⟨ds, hds⟩ : ∃ ds, addAll (zs.take k) = ds := ⟨_, rfl⟩
        rw [hds] at hL hwt
        clear hds
        have hd100 := hL.2.1
        obtain ⟨wa, wc, ewv, hwc, hwaa, hRw⟩ := rdD_of hwt rfl
        subst ewv
        have KA := Lib.hid (all_any w.heap.size (some ⟨Bx, 0, none⟩) ds wr (.inr ⟨_, rfl, hL.toL⟩))
        have HL := Lib.hid hL
        have HWt := Lib.hid hwt
        have HBk := Lib.hid hBk
        have HRw := Lib.hid hRw
        have HBe := Lib.hid hB
        obtain ⟨N, hN⟩ : ∃ N, ds.length = N := ⟨_, rfl⟩
        rw [hN] at hwc hd100 ⊢
        have HNN := Lib.hid hN
        clear hL hwt hBk hRw hB hN hsep
        go_wp2_with fail
        refine KA.out.mono ?_
        rintro e w4 ⟨v4, rfl, hr4, B4⟩
        -- the book's first list
        have hbk4 := HBk.out.below B4 HBk.out.lt
        have hsz4 := Nat.le_trans hsz B4.size
        have hbook : BookIs w4 w.heap.size (Bx + 1) 0 (fun _ => nilV) (fun _ => nilV) (fun _ => []) nilV nilV :=
          ⟨HBb.out, hbk4, World.ownsRow_nil _ _ _ _, World.ownsRow_nil _ _ _ _, fun i hi => absurd hi (Nat.not_lt_zero _), fun i hi => absurd hi (Nat.not_lt_zero _), fun i hi => absurd hi (Nat.not_lt_zero _), fun g h => (by cases h), fun i j hi => absurd hi (Nat.not_lt_zero _)⟩
        have hr4' := ownsRow_mono hr4 hsz
        have KD := Lib.hid (diags_any w.heap.size (Bx + 1) 0 ds.length (fun _ => nilV) (fun _ => nilV) (fun _ => []) nilV nilV v4 ds rfl (by rw [HNN.out]; omega) (by omega) w4 hbook hsz4 hr4' (fun i hi => absurd hi (Nat.not_lt_zero _)))
        have hBe4 := HBe.out.trans (B4.mono hsz)
        have HL4 := Lib.hid (HL.out.below B4)
        have HWt4 := Lib.hid (rowKept HWt.out B4)
        have HR4 := Lib.hid hr4'
        clear hbook hbk4 hr4 hr4' B4 KA
        go_wp2_with fail
        refine KD.out.mono ?_
        rintro e w5 ⟨⟨v5, rfl⟩, u5, V5, U5, hbk5, hkt5, hbe5⟩
        clear KD
        -- the first one
        have hL5 : IsLv w.heap.size w5 Bx ds vx := ⟨HL4.out.1, HL4.out.2.1, hkt5.blk HL4.out.2.2.1 (by decide) (by decide), hkt5.owns HL4.out.2.2.2.1, HL4.out.2.2.2.2⟩
        have HBk5 := Lib.hid hbk5
        have HL5 := Lib.hid hL5
        have HWt5 := Lib.hid (hkt5.owns HWt4.out)
        have HR5 := Lib.hid (hkt5.owns HR4.out)
        have HBe5 := Lib.hid (hBe4.trans hbe5)
        have hsz5 := Nat.le_trans hsz4 hbe5.size
        clear hbk5 hL5 hkt5 hbe5 hBe4 HL4 HWt4 HR4
        obtain ⟨aa, ca, ea, _, haa, hRa⟩ := rdD_of HR5.out rfl
        subst ea
        rw [HNN.out]
        have HRa := Lib.hid hRa
        clear hRa
        -- the first one, its own copy
        obtain ⟨d0, okb, hFst, hok⟩ : ∃ (d0 : Di) (okb : Bool), (Calls Tryd.prog 12 #[.pointer (some ⟨Bx, 0, none⟩)] w5 fun e w' => e = .returned (.tuple #[diV d0, .bool okb]) ∧ Below w5.heap.size w5 w') ∧ ((okb = false ∧ N = 0) ∨ (okb = true ∧ 0 < N ∧ ds.getD 0 zeroDi = d0)) := by
          cases hd : ds with
          | nil =>
            have h1 := HL5.out.toL
            rw [hd] at h1
            have h2 := HNN.out
            rw [hd] at h2
            exact ⟨zeroDi, false, first_none w.heap.size Bx w5 h1, .inl ⟨rfl, h2.symm⟩⟩
          | cons d dt =>
            have h1 := HL5.out.toL
            rw [hd] at h1
            have h2 := HNN.out
            rw [hd] at h2
            exact ⟨d, true, first_any w.heap.size Bx d dt w5 h1, .inr ⟨rfl, by rw [← h2]; simp, rfl⟩⟩
        have HFst := Lib.hid hFst
        have HOkb := Lib.hid hok
        clear hFst hok
        go_wp2_with fail
        refine HFst.out.mono ?_
        rintro e w6 ⟨rfl, B6⟩
        have HB6 := Lib.hid B6
        clear B6 HFst
        obtain ⟨d1, d2, d3⟩ := d0
        go_wp2_with fail
        have hB7 : Below w5.heap.size w5 (w6.alloc (.cells #[.int .i64 d1, .int .i64 d2, .string ⟨d3.toArray⟩] 31)) := HB6.out.alloc HB6.out.size _
        have hK7 : BlkAt (w6.alloc (.cells #[.int .i64 d1, .int .i64 d2, .string ⟨d3.toArray⟩] 31)) w6.heap.size 31 #[.int .i64 d1, .int .i64 d2, .string ⟨d3.toArray⟩] := BlkAt.new _ _ _
        have hlt7 := hK7.lt
        generalize w6.alloc (.cells #[.int .i64 d1, .int .i64 d2, .string ⟨d3.toArray⟩] 31) = w7 at *
        have HB7 := Lib.hid hB7
        have c0 : ∀ p, (lift w7 p).cell? ⟨w6.heap.size, 0, none⟩ = some (.int .i64 d1) := lift_cell (a := ⟨w6.heap.size, 0, none⟩) hlt7 ((hK7.cell 0).trans rfl)
        have c1 : ∀ p, (lift w7 p).cell? ⟨w6.heap.size, 1, none⟩ = some (.int .i64 d2) := lift_cell (a := ⟨w6.heap.size, 1, none⟩) hlt7 ((hK7.cell 1).trans rfl)
        have c2 : ∀ p, (lift w7 p).cell? ⟨w6.heap.size, 2, none⟩ = some (.string ⟨d3.toArray⟩) := lift_cell (a := ⟨w6.heap.size, 2, none⟩) hlt7 ((hK7.cell 2).trans rfl)
        generalize w6.heap.size = G8 at *
        obtain ⟨wa', wc', ew5, _, _, hRw5⟩ := rdD_of HWt5.out rfl
        rw [HNN.out] at ew5
        cases ew5
        have hRw7 := hRw5.below hB7
        have HSm := Lib.hid (fun p => sameD_yes aa wa ca wc ds N HNN.out (by omega) (lift w7 p) ((HRa.out.below hB7).below (below_lift w7 p)) (hRw7.below (below_lift w7 p)))
        have HLn := Lib.hid (fun p => show Calls Tryd.prog 13 #[.pointer (some ⟨Bx, 0, none⟩)] (lift w7 p) fun e w' => e = .returned (.int .i64 N) ∧ Below (lift w7 p).heap.size (lift w7 p) w' from by
          have := len_any w.heap.size Bx ds (lift w7 p) ((HL5.out.toL.below hB7).below (below_lift w7 p))
          rw [HNN.out] at this
          exact this.mono fun e w' ⟨h1, h2⟩ => ⟨h1, by rw [← h2]; exact Below.refl _ _⟩)
        have hneq : ∀ W : World, (binOp .neq 31 (.agg #[.int .i64 d1, .int .i64 d2, .string ⟨d3.toArray⟩]) (.agg #[.int .i64 d1, .int .i64 d2, .string ⟨d3.toArray⟩])).run Tryd.prog W = .ok (.bool false) W := fun W => run_neq_yes _ _ _ W
        have HRw7 := Lib.hid hRw7
        clear hRw5 hRw7 hB7 hK7
        have hdone : ∃ W, True := ⟨w7, trivial⟩
        clear hdone
        rcases HOkb.out with ⟨rfl, hN0⟩ | ⟨rfl, hN0, hd0⟩
        · subst hN0
          go_wp2_with fail
          refine wp_region_quiet_below mixed (by kernel_rfl) ?_
          repeat (quiet_step (first
            | (go_at_call 11; exact calls_lift (HSm.out _))
            | (go_at_call 13; exact calls_lift (HLn.out _))))
          refine wpQuiet_nil ?_
          intro _ hw'
          obtain ⟨p, hw''⟩ := hw'
          subst hw''
          have hB8 := HB7.out.trans ((below_lift w7 p).mono HB7.out.size)
          have HBk8 := Lib.hid (bookIs_below HBk5.out hB8)
          have HBe8 := Lib.hid (HBe5.out.trans (hB8.mono hsz5))
          have hsz8 := Nat.le_trans hsz5 hB8.size
          clear c0 c1 c2 HSm HLn hneq hB8 HB7 HRa HB6 HL5
          generalize lift w7 p = w8 at *
          go_wp2_with fail
          have HIn := Lib.hid H.out
          obtain ⟨o, ho⟩ : ∃ o : Nat → Di, o = fun i => (zs.map toDi).getD i zeroDi := ⟨_, rfl⟩
          have hot : ∀ i (hi : i < zs.length), o i = toDi zs[i] := fun i hi => by rw [ho]; simp [List.getD, List.getElem?_eq_getElem hi]
          have HO := Lib.hid ho
          have HOt := Lib.hid hot
          have HBe8 := HBe8
          have HS8 := Lib.hid hsz8
          clear ho hot
          go_loopw [10, 11] (fun p q wr => TlB w8 o k p q wr) (fun _ q _ => k - (intOf q).toNat)
          case atStart => exact ⟨0, id, rfl, Nat.zero_le _, fun i j h1 h2 h3 => by omega, Moves.refl _ _ _, World.ownsRow_nil _ _ _ _, fun _ => rfl, Below.refl _ _, Nat.le_refl _⟩
          case round =>
            rename World => wo
            obtain ⟨i, f, rfl, hi, hS, hMv, hOr, hnil, hBr, hszr⟩ := hrel
            rename_i po
            obtain ⟨oa, oc, rfl⟩ := ownsRow_slice' hOr
            by_cases hik : i < k
            · have hikz : (i : Int) < (k : Int) := by omega
              have hil : i < zs.length := by have := HN.out; omega
              obtain ⟨x, z0, z1, z2, rfl, hzk, hok2, hc⟩ := isDI_at HIn.out hil
              have hoi := HOt.out i hil
              rw [hzk] at hoi
              have hKi : keyO o i = z1 := by show (o i).at_ = z1; rw [hoi]; rfl
              have HKi := Lib.hid hKi
              have HOi := Lib.hid hoi
              have HC := Lib.hid hc
              have HS := Lib.hid hS
              have HMv := Lib.hid hMv
              have HOr := Lib.hid hOr
              have HNil := Lib.hid hnil
              have HBr := Lib.hid (HBe8.out.trans (hBr.mono HS8.out))
              have HBr8 := Lib.hid hBr
              clear hzk hok2 hoi hKi hc hS hMv hOr hnil hBr
              go_wp2_with fail
              go_loopw [12] (fun p wr2 => TlC wo o f i p wr2) (fun p _ => (intOf p).toNat)
              case atStart => exact ⟨i, rfl, Nat.le_refl _, fun j h1 h2 => by omega, Below.refl _ _⟩
              case round =>
                obtain ⟨cc, rfl, hcc, hhi, hBc⟩ := hrel
                have HHi := Lib.hid hhi
                have HBc := Lib.hid hBc
                clear hhi hBc
                have HZ9 := Lib.hid (show w.heap.size ≤ wo.heap.size from Nat.le_trans HS8.out hszr)
                by_cases hc0 : cc = 0
                · subst hc0
                  have hdg : decide (((0 : Nat) : Int) > 0) = false := by decide
                  have HBc2 := Lib.hid (show Below wo.heap.size wo wr.drew from HBc.out.drew)
                  go_wp2_with fail
                  go_big_region
                  generalize wr.drew = w9 at *
                  have HB9 := Lib.hid (HBr.out.trans (HBc2.out.mono HZ9.out))
                  have HBr9 := Lib.hid (HBr8.out.trans (HBc2.out.mono hszr))
                  have HSz9 := Lib.hid (Nat.le_trans hszr HBc2.out.size)
                  by_cases hi0 : i = 0
                  · as_aux_lemma =>
                    subst hi0
                    have hnl := HNil.out rfl
                    cases hnl
                    have hfr : ∀ W : World, (Instr.slice 22 nilV none (some (.int .i64 0)) none).run Tryd.prog W = .ok nilV W := fun W => by kernel_rfl
                    have hbk : ∀ W : World, (Instr.slice 22 nilV (some (.int .i64 0)) none none).run Tryd.prog W = .ok nilV W := fun W => by kernel_rfl
                    have hst := ordL_step o f 0 0 (Nat.le_refl _) (HMv.out.out 0 (by omega))
                    have hpl := ord_place HS.out HMv.out (Nat.le_refl 0) (fun c h => absurd h (Nat.not_lt_zero _)) HHi.out
                    have hfl : [] ++ [.int .i64 z0, .int .i64 z1, .string z2] = (ordL o (mvR f 0 0) 1).flatMap diCells := by
                      rw [show (0 : Nat) + 1 = 1 from rfl] at hst
                      rw [← hst]
                      simp [ordL, HOi.out, toDi]
                    have HFin := Lib.hid (And.intro hpl hfl)
                    clear hst hpl hfl
                    have ex : x.add (0 * 3) = x := by unfold Addr.add; simp
                    have hcx : ∀ W, Below w.heap.size w W → W.cell? x = some (.int .i64 z0) ∧ W.cell? ⟨x.block, x.off + 1, none⟩ = some (.int .i64 z1) ∧ W.cell? ⟨x.block, x.off + 2, none⟩ = some (.string z2) := fun W hW => by
                      have := HC.out W hW
                      rw [ex] at this
                      exact this
                    have HCx := Lib.hid hcx
                    clear hcx ex
                    obtain ⟨q0, q1, q2⟩ := HCx.out w9 HB9.out
                    have n0 := World.new_ne w9 _ q0
                    have n1 := World.new_ne w9 _ q1
                    have n2 := World.new_ne w9 _ q2
                    have HZ10 := Lib.hid (show w.heap.size ≤ w9.heap.size from Nat.le_trans HZ9.out HBc2.out.size)
                    go_wp2_with fail
                    go_region_held3 (fun w' => w'.cell? x = some (.int .i64 z0) ∧ w'.cell? ⟨x.block, x.off + 1, none⟩ = some (.int .i64 z1) ∧ w'.cell? ⟨x.block, x.off + 2, none⟩ = some (.string z2)) (go_keep)
                      (first
                        | (refine step_app_run rfl _ _ _ rfl nilV nilV nilV _ rfl rfl (app_none none 0 _) ?_)
                        | (refine step_app_kept rfl _ _ _ _ _ _ slD rfl w9.heap.size (by simp <;> omega) nilV 0 [] rfl (World.ownsRow_nil _ _ _ _) ⟨w9.heap.size, 0, none⟩ 1 1 [.int .i64 z0, .int .i64 z1, .string z2] rfl rfl (World.news_of_block (cs := #[.int .i64 z0, .int .i64 z1, .string z2]) (t := 31) (fr := (0, 0)) (heap_alloc_new w9.drew _)) (by simp [Value.oneCell']) (by omega) 1 rfl ?_; intro b2 c2 wB t1 t2 t3; have bB : Below w9.heap.size w9 wB := (((Below.refl _ w9).drew.alloc (Nat.le_refl _) _).grown t2 (by simp) (fun j e => by cases e)); obtain ⟨a3, a4, a5⟩ := HCx.out wB (HB9.out.trans (bB.mono HZ10.out)))
                        | (refine step_app_run rfl _ _ _ rfl (.slice b2 1 c2) nilV (.slice b2 1 c2) _ rfl rfl (app_row t1) ?_))
                    all_goals
                      have hs1 := t1
                      rw [HFin.out.2] at hs1
                      have HOwn := Lib.hid (ownsRow_mono hs1 HSz9.out)
                      have HBC := Lib.hid (And.intro (HBr9.out.trans (bB.mono HSz9.out)) (Nat.le_trans HSz9.out bB.size))
                      clear hs1 t1 t2 t3 bB a3 a4 a5 q0 q1 q2 n0 n1 n2
                      go_wp2
                      go_roundw
                      case rel => exact ⟨1, mvR f 0 0, by go_num, by omega, HFin.out.1.1, HFin.out.1.2, HOwn.out, fun h => by omega, HBC.out.1, HBC.out.2⟩
                      case measure => simp [intOf]; omega
                  · as_aux_lemma =>
                    obtain ⟨a', c', eo, hoc, _, hRd⟩ := rdD_of HOr.out (ordL_len o f i).symm
                    rw [ordL_len] at eo hoc
                    cases eo
                    obtain ⟨go, eg, hgo0, _⟩ := hRd 0 (by rw [ordL_len]; omega)
                    subst eg
                    clear hRd
                    obtain ⟨cv, hcv⟩ : ∃ cv, 0 = cv := ⟨_, rfl⟩
                    have hcvi : cv ≤ i := by omega
                    have HCv := Lib.hid (show (cv : Int) = 0 by omega)
                    have HLo := Lib.hid (show ∀ j, j < cv → keyO o (f j) ≤ keyO o i from fun j hj => by omega)
                    have hhi2 : ∀ j, cv ≤ j → j < i → keyO o i < keyO o (f j) := fun j _ h2 => HHi.out j (Nat.zero_le _) h2
                    have HHi := Lib.hid hhi2
                    clear hhi2 hcv
                    have hgo : go < w9.heap.size := Nat.lt_of_lt_of_le hgo0 HBc2.out.size
                    have HOr9 := rowKept HOr.out HBc2.out
                    have HOc9 := Lib.hid (HOr9.cells (g := go) rfl)
                    have HZ9 := Lib.hid (show w.heap.size ≤ w9.heap.size from Nat.le_trans HZ9.out HBc2.out.size)
                    clear HOr9
                    have hfr : ∀ W : World, (Instr.slice 22 (.slice (some ⟨go, 0, none⟩) i oc) none (some (.int .i64 0)) none).run Tryd.prog W = .ok (.slice (some ⟨go, 0, none⟩) cv oc) W := fun W => by
                      have := run_front (P := Tryd.prog) (z := 3) Tryd.underlying22 (fun w => by kernel_rfl) (.inr ⟨go, rfl⟩) (n := i) (c := oc) (m := cv) (by omega) W
                      rw [HCv.out] at this
                      exact this
                    obtain ⟨y, hyb, hya, hbk⟩ := run_back (g := go) (i := i) (oc := oc) (cc := cv) hcvi hoc
                    rw [HCv.out] at hbk
                    obtain ⟨D, hD⟩ : ∃ D, i - cv = D := ⟨_, rfl⟩
                    obtain ⟨E, hE⟩ : ∃ E, oc - cv = E := ⟨_, rfl⟩
                    obtain ⟨L2, hL2⟩ : ∃ L2, cv + 1 = L2 := ⟨_, rfl⟩
                    obtain ⟨i1, hi1⟩ : ∃ i1, i + 1 = i1 := ⟨_, rfl⟩
                    rw [hD, hE] at hbk
                    have hL3 : L2 + D = i1 := by omega
                    have hDb : D ≤ 1000 := by omega
                    have hL2b : L2 ≤ 1000 := by omega
                    have hcvb : cv ≤ 1000 := by omega
                    have hxs := List.take_append_drop cv (ordL o f i)
                    have hcel : ∀ U, Below w9.heap.size w9 U → (∀ j u, (((ordL o f i).take cv).flatMap diCells)[j]? = some u → U.cell? ((⟨go, 0, none⟩ : Addr).add j) = some u) ∧ (∀ j u, (((ordL o f i).drop cv).flatMap diCells)[j]? = some u → U.cell? (y.add j) = some u) := fun U hU => by
                      have hall : ∀ j u, ((ordL o f i).flatMap diCells)[j]? = some u → U.cell? ((⟨go, 0, none⟩ : Addr).add j) = some u := fun j u h => (hU.cell (p := (⟨go, 0, none⟩ : Addr).add j) (by rw [add_block]; exact hgo)).trans (HOc9.out j u h)
                      have el : (((ordL o f i).take cv).flatMap diCells).length = cv * 3 := by rw [diCells_len, List.length_take, ordL_len, Nat.min_eq_left hcvi]
                      refine ⟨fun j u h => hall j u ?_, fun j u h => ?_⟩
                      · rw [← hxs, List.flatMap_append, List.getElem?_append_left (List.getElem?_eq_some_iff.1 h).1]
                        exact h
                      · have hj : j < (i - cv) * 3 := by
                          have := (List.getElem?_eq_some_iff.1 h).1
                          rw [diCells_len, List.length_drop, ordL_len] at this
                          exact this
                        rw [hya j hj]
                        have := hall (cv * 3 + j) u (by
                          rw [← hxs, List.flatMap_append, List.getElem?_append_right (by rw [el]; omega), el, Nat.add_sub_cancel_left]
                          exact h)
                        have ea : (⟨go, 0, none⟩ : Addr).add (cv * 3 + j) = ⟨go, cv * 3 + j, none⟩ := by unfold Addr.add; split <;> simp_all
                        rw [← ea]
                        exact this
                    have HCel := Lib.hid hcel
                    have hl1 : (((ordL o f i).take cv).flatMap diCells).length = cv * 3 := by rw [diCells_len, List.length_take, ordL_len, Nat.min_eq_left hcvi]
                    have hl3 : (((ordL o f i).drop cv).flatMap diCells).length = D * 3 := by rw [diCells_len, List.length_drop, ordL_len, hD]
                    have HLl := Lib.hid (And.intro hl1 hl3)
                    have hst := ordL_step o f i cv hcvi (HMv.out.out i (by omega))
                    have hpl := ord_place HS.out HMv.out hcvi HLo.out HHi.out
                    have hfl : [] ++ ((ordL o f i).take cv).flatMap diCells ++ [.int .i64 z0, .int .i64 z1, .string z2] ++ ((ordL o f i).drop cv).flatMap diCells = (ordL o (mvR f cv i) i1).flatMap diCells := by
                      rw [← hi1, ← hst, List.flatMap_append, List.flatMap_append]
                      have e1 : [o i].flatMap diCells = [.int .i64 z0, .int .i64 z1, .string z2] := by rw [HOi.out]; simp [toDi]
                      rw [e1, List.nil_append]
                    rw [hi1] at hpl
                    have HFin := Lib.hid (And.intro hpl hfl)
                    have HIs := Lib.hid (And.intro hL2 (And.intro hL3 hi1))
                    clear hxs hcel hl1 hl3 hst hpl hfl hya hyb hD hE hL2 hL3 hi1
                    have HOne := Lib.hid (And.intro (one_cells ((ordL o f i).take cv)) (one_cells ((ordL o f i).drop cv)))
                    generalize ((ordL o f i).take cv).flatMap diCells = xs1 at *
                    generalize ((ordL o f i).drop cv).flatMap diCells = xs3 at *
                    obtain ⟨q0, q1, q2⟩ := HC.out w9 HB9.out
                    have n0 := World.new_ne w9 _ q0
                    have n1 := World.new_ne w9 _ q1
                    have n2 := World.new_ne w9 _ q2
                    have hz9 : w9.drew.heap.size = w9.heap.size := rfl
                    go_wp2_with fail
                    go_region_held3 (fun w' => w'.cell? (x.add (i * 3)) = some (.int .i64 z0) ∧ w'.cell? ⟨(x.add (i * 3)).block, (x.add (i * 3)).off + 1, none⟩ = some (.int .i64 z1) ∧ w'.cell? ⟨(x.add (i * 3)).block, (x.add (i * 3)).off + 2, none⟩ = some (.string z2)) (go_keep)
                      (first
                        | (refine step_app_kept rfl _ _ _ _ _ _ slD rfl w9.heap.size (by simp <;> omega) nilV 0 [] rfl (World.ownsRow_nil _ _ _ _) ⟨go, 0, none⟩ cv oc xs1 rfl HLl.out.1 (by first | exact (HCel.out _ ((Below.refl _ w9).drew)).1 | exact (HCel.out _ ((Below.refl _ w9).drew.alloc (Nat.le_refl _) _)).1) HOne.out.1 (by omega) cv (Nat.zero_add _) ?_; intro b1 c1 wA r1 r2 r3; have bA : Below w9.heap.size w9 wA := (by first | exact ((Below.refl _ w9).drew.grown r2 (by simp) (fun j e => by cases e)) | exact (((Below.refl _ w9).drew.alloc (Nat.le_refl _) _).grown r2 (by simp) (fun j e => by cases e))); obtain ⟨a0, a1, a2⟩ := HC.out wA (HB9.out.trans (bA.mono HZ9.out)); have m0 := World.new_ne wA _ a0; have m1 := World.new_ne wA _ a1; have m2 := World.new_ne wA _ a2)
                        | (refine step_app_kept rfl _ _ _ _ _ _ slD rfl w9.heap.size (by have := bA.size; omega) (.slice b1 cv c1) cv _ rfl r1 ⟨w9.heap.size, 0, none⟩ 1 1 [.int .i64 z0, .int .i64 z1, .string z2] rfl rfl (World.news_of_block (cs := #[.int .i64 z0, .int .i64 z1, .string z2]) (t := 31) (fr := (0, 0)) ((r2.block w9.heap.size (by simp) (by simp [Value.ownBlock])).trans (heap_alloc_new w9.drew _))) (by simp [Value.oneCell']) (by omega) L2 HIs.out.1 ?_; intro b2 c2 wB t1 t2 t3; have bB : Below w9.heap.size w9 wB := (bA.grown t2 (by have := bA.size; omega) (fun j e => (own_at r1 e).choose_spec.2)); obtain ⟨a3, a4, a5⟩ := HC.out wB (HB9.out.trans (bB.mono HZ9.out)))
                        | (refine step_app_kept rfl _ _ _ _ _ _ slD rfl w9.heap.size (by have := bA.size; simp; omega) (.slice b1 cv c1) cv _ rfl (r1.alloc _) ⟨wA.heap.size, 0, none⟩ 1 1 [.int .i64 z0, .int .i64 z1, .string z2] rfl rfl (World.news_of_block (cs := #[.int .i64 z0, .int .i64 z1, .string z2]) (t := 31) (fr := (0, 0)) (heap_alloc_new wA _)) (by simp [Value.oneCell']) (by omega) L2 HIs.out.1 ?_; intro b2 c2 wB t1 t2 t3; have bB : Below w9.heap.size w9 wB := ((bA.alloc bA.size _).grown t2 (by have := bA.size; simp; omega) (fun j e => (own_at r1 e).choose_spec.2)); obtain ⟨a3, a4, a5⟩ := HC.out wB (HB9.out.trans (bB.mono HZ9.out)))
                        | (refine step_app_kept rfl _ _ _ _ _ _ slD rfl w9.heap.size bB.size (.slice b2 L2 c2) L2 _ rfl t1 y D E xs3 rfl HLl.out.2 (HCel.out _ bB).2 HOne.out.2 (by omega) i1 HIs.out.2.1 ?_; intro b3 c3 wC s1 s2 s3; have bC : Below w9.heap.size w9 wC := (bB.grown s2 bB.size (fun j e => (own_at t1 e).choose_spec.2)); obtain ⟨a6, a7, a8⟩ := HC.out wC (HB9.out.trans (bC.mono HZ9.out))))
                    all_goals
                      have hs1 := s1
                      rw [HFin.out.2] at hs1
                      have HOwn := Lib.hid (ownsRow_mono hs1 HSz9.out)
                      have HBC := Lib.hid (And.intro (HBr9.out.trans (bC.mono HSz9.out)) (Nat.le_trans HSz9.out bC.size))
                      clear hs1 s1 s2 s3 bC a0 a1 a2 a3 a4 a5 a6 a7 a8 q0 q1 q2 n0 n1 n2 m0 m1 m2 r1 r2 r3 t1 t2 t3 bA bB
                      go_wp2
                      go_roundw
                      case rel =>
                        have hi1 := HIs.out.2.2
                        exact ⟨i1, mvR f cv i, by rw [← hi1]; go_num, by omega, HFin.out.1.1, HFin.out.1.2, HOwn.out, fun h => by omega, HBC.out.1, HBC.out.2⟩
                      case measure => simp [intOf]; omega
                · obtain ⟨c1', rfl⟩ : ∃ d, cc = d + 1 := ⟨cc - 1, by omega⟩
                  have hci : c1' < i := by omega
                  have hciz : (c1' : Int) < (i : Int) := by omega
                  have hcz : (c1' : Int) + 1 > 0 := by omega
                  have hwj : IntKind.i64.wrap (c1' : Int) = (c1' : Int) := IntWalk.i64_in _ (by omega)
                  obtain ⟨a', c', eo, hoc, _, hRd⟩ := rdD_of HOr.out (ordL_len o f i).symm
                  rw [ordL_len] at eo hoc
                  cases eo
                  obtain ⟨go, eg, hgo0, hgc⟩ := hRd c1' (by rw [ordL_len]; exact hci)
                  subst eg
                  have hA := hgc 1 (by omega)
                  have hget : (ordL o f i).getD c1' zeroDi = o (f c1') := by rw [List.getD, ordL_get o f hci]; rfl
                  rw [hget] at hA
                  obtain ⟨A, hAe⟩ : ∃ A, (o (f c1')).at_ = A := ⟨_, rfl⟩
                  have hA2 : wo.cell? ⟨go, c1' * 3 + 1, none⟩ = some (.int .i64 A) := by rw [← hAe]; exact hA
                  have HAe := Lib.hid hAe
                  have hg1 : go < wr.heap.size := Nat.lt_of_lt_of_le hgo0 HBc.out.size
                  have HBw := Lib.hid (HBr.out.trans (HBc.out.mono HZ9.out))
                  have HCl := Lib.hid (fun p => HC.out (lift wr p) (HBw.out.trans ((below_lift wr p).mono HBw.out.size)))
                  have e1 : ∀ p, (lift wr p).cell? ⟨go, c1' * 3 + 1, none⟩ = some (.int .i64 A) := lift_cell (a := ⟨go, c1' * 3 + 1, none⟩) hg1 ((HBc.out.cell (p := ⟨go, c1' * 3 + 1, none⟩) hgo0).trans hA2)
                  have l1 : ∀ p, (lift wr p).cell? ⟨(x.add (i * 3)).block, (x.add (i * 3)).off + 1, none⟩ = some (.int .i64 z1) := fun p => (HCl.out p).2.1
                  clear hA hA2 hget hAe hgc hRd
                  by_cases hg : z1 < A
                  · as_aux_lemma =>
                    have hgz : A > z1 := hg
                    go_wp2_with fail
                    refine wp_region_quiet_below mixed (by kernel_rfl) ?_
                    repeat (quiet_step (fail))
                    refine wpQuiet_nil ?_
                    intro _ hw'
                    obtain ⟨p, hw''⟩ := hw'
                    subst hw''
                    have HBc2 := Lib.hid (HBc.out.trans ((below_lift wr p).mono HBc.out.size))
                    clear e1 l1 hwj
                    generalize lift wr p = w9 at *
                    go_wp2
                    go_roundw
                    case rel => exact ⟨c1', by go_num, by omega, (fun j h1 h2 => by
                      by_cases e : j = c1'
                      · rw [e, HKi.out]; show z1 < (o (f c1')).at_; rw [HAe.out]; exact hg
                      · exact HHi.out j (by omega) h2), HBc2.out⟩
                    case measure => simp [intOf]
                  · as_aux_lemma =>
                    have hgz : ¬ A > z1 := hg
                    go_wp2_with fail
                    refine wp_region_quiet_below mixed (by kernel_rfl) ?_
                    repeat (quiet_step (fail))
                    refine wpQuiet_nil ?_
                    intro _ hw'
                    obtain ⟨p, hw''⟩ := hw'
                    subst hw''
                    have HBc2 := Lib.hid (HBc.out.trans ((below_lift wr p).mono HBc.out.size))
                    clear e1 l1 hwj
                    have hlo : ∀ j, j < c1' + 1 → keyO o (f j) ≤ keyO o i := fun j hj => by
                      have hA' : (o (f c1')).at_ ≤ z1 := by rw [HAe.out]; omega
                      rw [HKi.out]
                      by_cases e : j = c1'
                      · rw [e]; exact hA'
                      · have := (HS.out j c1' (Nat.zero_le _) (by omega) hci).le
                        exact Int.le_trans this hA'
                    have HLo := Lib.hid hlo
                    clear hlo
                    generalize lift wr p = w9 at *
                    have HB9 := Lib.hid (HBr.out.trans (HBc2.out.mono HZ9.out))
                    have HBr9 := Lib.hid (HBr8.out.trans (HBc2.out.mono hszr))
                    have HSz9 := Lib.hid (Nat.le_trans hszr HBc2.out.size)
                    have hgo : go < w9.heap.size := Nat.lt_of_lt_of_le hgo0 HBc2.out.size
                    have HOr9 := rowKept HOr.out HBc2.out
                    have HOc9 := Lib.hid (HOr9.cells (g := go) rfl)
                    have HZ9 := Lib.hid (show w.heap.size ≤ w9.heap.size from Nat.le_trans HZ9.out HBc2.out.size)
                    clear HOr9
                    obtain ⟨cv, hcv⟩ : ∃ cv, c1' + 1 = cv := ⟨_, rfl⟩
                    have hcvi : cv ≤ i := by omega
                    have HCv := Lib.hid (show (cv : Int) = (c1' : Int) + 1 by omega)
                    have hlo2 := HLo.out
                    have hhi2 := HHi.out
                    rw [hcv] at hlo2 hhi2
                    have HLo := Lib.hid hlo2
                    have HHi := Lib.hid hhi2
                    clear hlo2 hhi2 hcv
                    have hfr : ∀ W : World, (Instr.slice 22 (.slice (some ⟨go, 0, none⟩) i oc) none (some (.int .i64 ((c1' : Int) + 1))) none).run Tryd.prog W = .ok (.slice (some ⟨go, 0, none⟩) cv oc) W := fun W => by
                      have := run_front (P := Tryd.prog) (z := 3) Tryd.underlying22 (fun w => by kernel_rfl) (.inr ⟨go, rfl⟩) (n := i) (c := oc) (m := cv) (by omega) W
                      rw [HCv.out] at this
                      exact this
                    obtain ⟨y, hyb, hya, hbk⟩ := run_back (g := go) (i := i) (oc := oc) (cc := cv) hcvi hoc
                    rw [HCv.out] at hbk
                    obtain ⟨D, hD⟩ : ∃ D, i - cv = D := ⟨_, rfl⟩
                    obtain ⟨E, hE⟩ : ∃ E, oc - cv = E := ⟨_, rfl⟩
                    obtain ⟨L2, hL2⟩ : ∃ L2, cv + 1 = L2 := ⟨_, rfl⟩
                    obtain ⟨i1, hi1⟩ : ∃ i1, i + 1 = i1 := ⟨_, rfl⟩
                    rw [hD, hE] at hbk
                    have hL3 : L2 + D = i1 := by omega
                    have hDb : D ≤ 1000 := by omega
                    have hL2b : L2 ≤ 1000 := by omega
                    have hcvb : cv ≤ 1000 := by omega
                    have hxs := List.take_append_drop cv (ordL o f i)
                    have hcel : ∀ U, Below w9.heap.size w9 U → (∀ j u, (((ordL o f i).take cv).flatMap diCells)[j]? = some u → U.cell? ((⟨go, 0, none⟩ : Addr).add j) = some u) ∧ (∀ j u, (((ordL o f i).drop cv).flatMap diCells)[j]? = some u → U.cell? (y.add j) = some u) := fun U hU => by
                      have hall : ∀ j u, ((ordL o f i).flatMap diCells)[j]? = some u → U.cell? ((⟨go, 0, none⟩ : Addr).add j) = some u := fun j u h => (hU.cell (p := (⟨go, 0, none⟩ : Addr).add j) (by rw [add_block]; exact hgo)).trans (HOc9.out j u h)
                      have el : (((ordL o f i).take cv).flatMap diCells).length = cv * 3 := by rw [diCells_len, List.length_take, ordL_len, Nat.min_eq_left hcvi]
                      refine ⟨fun j u h => hall j u ?_, fun j u h => ?_⟩
                      · rw [← hxs, List.flatMap_append, List.getElem?_append_left (List.getElem?_eq_some_iff.1 h).1]
                        exact h
                      · have hj : j < (i - cv) * 3 := by
                          have := (List.getElem?_eq_some_iff.1 h).1
                          rw [diCells_len, List.length_drop, ordL_len] at this
                          exact this
                        rw [hya j hj]
                        have := hall (cv * 3 + j) u (by
                          rw [← hxs, List.flatMap_append, List.getElem?_append_right (by rw [el]; omega), el, Nat.add_sub_cancel_left]
                          exact h)
                        have ea : (⟨go, 0, none⟩ : Addr).add (cv * 3 + j) = ⟨go, cv * 3 + j, none⟩ := by unfold Addr.add; split <;> simp_all
                        rw [← ea]
                        exact this
                    have HCel := Lib.hid hcel
                    have hl1 : (((ordL o f i).take cv).flatMap diCells).length = cv * 3 := by rw [diCells_len, List.length_take, ordL_len, Nat.min_eq_left hcvi]
                    have hl3 : (((ordL o f i).drop cv).flatMap diCells).length = D * 3 := by rw [diCells_len, List.length_drop, ordL_len, hD]
                    have HLl := Lib.hid (And.intro hl1 hl3)
                    have hst := ordL_step o f i cv hcvi (HMv.out.out i (by omega))
                    have hpl := ord_place HS.out HMv.out hcvi HLo.out HHi.out
                    have hfl : [] ++ ((ordL o f i).take cv).flatMap diCells ++ [.int .i64 z0, .int .i64 z1, .string z2] ++ ((ordL o f i).drop cv).flatMap diCells = (ordL o (mvR f cv i) i1).flatMap diCells := by
                      rw [← hi1, ← hst, List.flatMap_append, List.flatMap_append]
                      have e1 : [o i].flatMap diCells = [.int .i64 z0, .int .i64 z1, .string z2] := by rw [HOi.out]; simp [toDi]
                      rw [e1, List.nil_append]
                    rw [hi1] at hpl
                    have HFin := Lib.hid (And.intro hpl hfl)
                    have HIs := Lib.hid (And.intro hL2 (And.intro hL3 hi1))
                    clear hxs hcel hl1 hl3 hst hpl hfl hya hyb hD hE hL2 hL3 hi1
                    have HOne := Lib.hid (And.intro (one_cells ((ordL o f i).take cv)) (one_cells ((ordL o f i).drop cv)))
                    generalize ((ordL o f i).take cv).flatMap diCells = xs1 at *
                    generalize ((ordL o f i).drop cv).flatMap diCells = xs3 at *
                    obtain ⟨q0, q1, q2⟩ := HC.out w9 HB9.out
                    have n0 := World.new_ne w9 _ q0
                    have n1 := World.new_ne w9 _ q1
                    have n2 := World.new_ne w9 _ q2
                    have hz9 : w9.drew.heap.size = w9.heap.size := rfl
                    go_wp2_with fail
                    go_region_held3 (fun w' => w'.cell? (x.add (i * 3)) = some (.int .i64 z0) ∧ w'.cell? ⟨(x.add (i * 3)).block, (x.add (i * 3)).off + 1, none⟩ = some (.int .i64 z1) ∧ w'.cell? ⟨(x.add (i * 3)).block, (x.add (i * 3)).off + 2, none⟩ = some (.string z2)) (go_keep)
                      (first
                        | (refine step_app_kept rfl _ _ _ _ _ _ slD rfl w9.heap.size (by simp <;> omega) nilV 0 [] rfl (World.ownsRow_nil _ _ _ _) ⟨go, 0, none⟩ cv oc xs1 rfl HLl.out.1 (by first | exact (HCel.out _ ((Below.refl _ w9).drew)).1 | exact (HCel.out _ ((Below.refl _ w9).drew.alloc (Nat.le_refl _) _)).1) HOne.out.1 (by omega) cv (Nat.zero_add _) ?_; intro b1 c1 wA r1 r2 r3; have bA : Below w9.heap.size w9 wA := (by first | exact ((Below.refl _ w9).drew.grown r2 (by simp) (fun j e => by cases e)) | exact (((Below.refl _ w9).drew.alloc (Nat.le_refl _) _).grown r2 (by simp) (fun j e => by cases e))); obtain ⟨a0, a1, a2⟩ := HC.out wA (HB9.out.trans (bA.mono HZ9.out)); have m0 := World.new_ne wA _ a0; have m1 := World.new_ne wA _ a1; have m2 := World.new_ne wA _ a2)
                        | (refine step_app_kept rfl _ _ _ _ _ _ slD rfl w9.heap.size (by have := bA.size; omega) (.slice b1 cv c1) cv _ rfl r1 ⟨w9.heap.size, 0, none⟩ 1 1 [.int .i64 z0, .int .i64 z1, .string z2] rfl rfl (World.news_of_block (cs := #[.int .i64 z0, .int .i64 z1, .string z2]) (t := 31) (fr := (0, 0)) ((r2.block w9.heap.size (by simp) (by simp [Value.ownBlock])).trans (heap_alloc_new w9.drew _))) (by simp [Value.oneCell']) (by omega) L2 HIs.out.1 ?_; intro b2 c2 wB t1 t2 t3; have bB : Below w9.heap.size w9 wB := (bA.grown t2 (by have := bA.size; omega) (fun j e => (own_at r1 e).choose_spec.2)); obtain ⟨a3, a4, a5⟩ := HC.out wB (HB9.out.trans (bB.mono HZ9.out)))
                        | (refine step_app_kept rfl _ _ _ _ _ _ slD rfl w9.heap.size (by have := bA.size; simp; omega) (.slice b1 cv c1) cv _ rfl (r1.alloc _) ⟨wA.heap.size, 0, none⟩ 1 1 [.int .i64 z0, .int .i64 z1, .string z2] rfl rfl (World.news_of_block (cs := #[.int .i64 z0, .int .i64 z1, .string z2]) (t := 31) (fr := (0, 0)) (heap_alloc_new wA _)) (by simp [Value.oneCell']) (by omega) L2 HIs.out.1 ?_; intro b2 c2 wB t1 t2 t3; have bB : Below w9.heap.size w9 wB := ((bA.alloc bA.size _).grown t2 (by have := bA.size; simp; omega) (fun j e => (own_at r1 e).choose_spec.2)); obtain ⟨a3, a4, a5⟩ := HC.out wB (HB9.out.trans (bB.mono HZ9.out)))
                        | (refine step_app_kept rfl _ _ _ _ _ _ slD rfl w9.heap.size bB.size (.slice b2 L2 c2) L2 _ rfl t1 y D E xs3 rfl HLl.out.2 (HCel.out _ bB).2 HOne.out.2 (by omega) i1 HIs.out.2.1 ?_; intro b3 c3 wC s1 s2 s3; have bC : Below w9.heap.size w9 wC := (bB.grown s2 bB.size (fun j e => (own_at t1 e).choose_spec.2)); obtain ⟨a6, a7, a8⟩ := HC.out wC (HB9.out.trans (bC.mono HZ9.out))))
                    all_goals
                      have hs1 := s1
                      rw [HFin.out.2] at hs1
                      have HOwn := Lib.hid (ownsRow_mono hs1 HSz9.out)
                      have HBC := Lib.hid (And.intro (HBr9.out.trans (bC.mono HSz9.out)) (Nat.le_trans HSz9.out bC.size))
                      clear hs1 s1 s2 s3 bC a0 a1 a2 a3 a4 a5 a6 a7 a8 q0 q1 q2 n0 n1 n2 m0 m1 m2 r1 r2 r3 t1 t2 t3 bA bB
                      go_wp2
                      go_roundw
                      case rel =>
                        have hi1 := HIs.out.2.2
                        exact ⟨i1, mvR f cv i, by rw [← hi1]; go_num, by omega, HFin.out.1.1, HFin.out.1.2, HOwn.out, fun h => by omega, HBC.out.1, HBC.out.2⟩
                      case measure => simp [intOf]; omega
            · as_aux_lemma =>
              obtain rfl : k = i := by omega
              have hikz : ¬ (k : Int) < (k : Int) := by omega
              have hBo := HBe8.out.trans (hBr.mono HS8.out)
              have hszo : w.heap.size ≤ wo.heap.size := Nat.le_trans HS8.out hszr
              have hbk9 := bookIs_below HBk8.out hBr
              have hlz : (zs.map toDi).length = k := by rw [List.length_map]; exact HN.out
              have hin : ∀ x, a = some x → ∀ j u, ((zs.map toDi).flatMap diCells)[j]? = some u → wo.cell? (x.add j) = some u := fun x e => in_cells (by rw [← e]; exact H.out) wo hBo
              obtain ⟨v1, w10, hr1, ho1, hb1⟩ : ∃ v1 w10, (Builtin.append_ #[22, 22] 22 #[nilV, .slice a k c]).run Tryd.prog wo = .ok v1 w10 ∧ w10.ownsRow wo.heap.size 31 3 v1 k ((zs.map toDi).flatMap diCells) ∧ Below wo.heap.size wo w10 := by
                cases ha : a with
                | none =>
                  have hk0 : k = 0 := by
                    apply Decidable.byContradiction
                    intro hne
                    obtain ⟨_, x, e, _⟩ := H.out 0 (by rw [HN.out]; omega)
                    rw [ha] at e
                    cases e
                  have hzn : zs.map toDi = [] := List.eq_nil_of_length_eq_zero (by rw [hlz, hk0])
                  exact ⟨nilV, wo, by rw [hk0]; exact app_none none c wo, by rw [hk0, hzn]; exact World.ownsRow_nil _ _ _ _, Below.refl _ _⟩
                | some x =>
                  obtain ⟨v', w', hr, h2, h3, _, _⟩ := run_app_kept (P := Tryd.prog) wo wo.heap.size 22 22 31 3 32 slD nilV 0 [] (World.ownsRow_nil _ _ _ _) x k c ((zs.map toDi).flatMap diCells) (by rw [diCells_len, hlz]) (hin x ha) (one_cells _) (by omega) (Nat.le_refl _)
                  exact ⟨v', w', hr, by simpa using h2, (Below.refl _ wo).grown h3 (Nat.le_refl _) (fun j e => by cases e)⟩
              obtain ⟨f1, c1, rfl⟩ := ownsRow_slice' ho1
              have HOrd := Lib.hid hOr
              have HSrt := Lib.hid hS
              have HMov := Lib.hid hMv
              have HBk9 := Lib.hid hbk9
              have HBo := Lib.hid hBo
              have HLz := Lib.hid hlz
              have HSo := Lib.hid hszo
              have HO1 := Lib.hid ho1
              have HB1 := Lib.hid hb1
              clear hS hMv hOr hnil hBr hszr hbk9 hBo hin hszo ho1 hb1 hlz
              go_wp2_with (at_builtin; first
                | (refine wpList_app_run rfl _ _ _ rfl nilV (.slice a k c) (.slice f1 k c1) w10 rfl rfl hr1 ?_)
                | (refine wpList_app_kept _ rfl _ _ _ _ _ _ slD rfl wo.heap.size (by have := HB1.out.size; simp; omega) (.slice f1 k c1) k _ rfl (HO1.out.alloc _) ⟨w10.heap.size, 0, none⟩ 1 1 [.int .i64 0, .int .i64 (-77), .string ⟨#[]⟩] rfl rfl (World.news_of_block (cs := #[.int .i64 0, .int .i64 (-77), .string ⟨#[]⟩]) (t := 31) (fr := (0, 0)) (heap_alloc_new w10 _)) (by simp [Value.oneCell']) (by omega) ?_; intro vm w11 r1 r2 r3 r4; obtain ⟨gm, cm, em, hcm⟩ := own_some r1; subst em; have hfr : ∀ W : World, (Instr.slice 22 (.slice (some ⟨gm, 0, none⟩) (k + 1) cm) none (some (.int .i64 k)) none).run Tryd.prog W = .ok (.slice (some ⟨gm, 0, none⟩) k cm) W := fun W => run_front Tryd.underlying22 (z := 3) (fun w => by kernel_rfl) (.inr ⟨gm, rfl⟩) (by omega) W))
              have hm1 : w11.ownsRow wo.heap.size 31 3 (.slice (some ⟨gm, 0, none⟩) (k + 1) cm) (k + 1) ((zs.map toDi ++ [(⟨0, -77, []⟩ : Di)]).flatMap diCells) := by
                rw [List.flatMap_append]
                exact r1
              have hb11 : Below wo.heap.size wo w11 := (HB1.out.alloc HB1.out.size _).grown r2 (by have := HB1.out.size; simp; omega) (fun j e => (own_at HO1.out e).choose_spec.2)
              have hlz1 : (zs.map toDi ++ [(⟨0, -77, []⟩ : Di)]).length = k + 1 := by rw [List.length_append, HLz.out]; rfl
              obtain ⟨hgl, hmc⟩ : gm < w11.heap.size ∧ RdD w11 (some ⟨gm, 0, none⟩) (zs.map toDi ++ [(⟨0, -77, []⟩ : Di)]) := by
                obtain ⟨am, cm', e, h1, _, h3⟩ := rdD_of hm1 hlz1.symm
                rw [hlz1] at e
                cases e
                obtain ⟨g', eg, h4, _⟩ := h3 0 (by rw [hlz1]; omega)
                cases eg
                exact ⟨h4, h3⟩
              have HGm11 := Lib.hid (show ∃ cs, BlkAt w11 gm 31 cs from by obtain ⟨cs, hcs, _⟩ := own_at hm1 (g := gm) rfl; exact ⟨cs, hcs⟩)
              have HMc := Lib.hid hmc
              have HB11 := Lib.hid hb11
              have hcl : ∀ j u, ((zs.map toDi).flatMap diCells)[j]? = some u → w11.cell? ((⟨gm, 0, none⟩ : Addr).add j) = some u := fun j u h => by
                have hx := hm1.cells (g := gm) rfl j u
                rw [List.flatMap_append, List.getElem?_append_left (List.getElem?_eq_some_iff.1 h).1] at hx
                exact hx h
              have HOC := Lib.hid (order_any gm k cm (zs.map toDi) HLz.out (by omega) w11 hgl hcl)
              clear r1 r2 r3 r4 hm1 hb11 hmc hcl
              refine HOC.out.mono ?_
              rintro e w12 ⟨vo, fo, rfl, hso, hfo, hoo, hbo⟩
              have hsame : ((List.range (zs.map toDi).length).map fun i => (zs.map toDi).getD (fo i) zeroDi) = ordL o f k := by
                rw [HLz.out] at hso hfo ⊢
                rw [show (keyO fun i => (zs.map toDi).getD i zeroDi) = keyO o by rw [HO.out]] at hso
                rw [ord_same (moves_lt HMov.out) hfo HSrt.out hso]
                unfold ordL
                rw [HO.out]
              rw [hsame, HLz.out] at hoo
              clear hso hfo hsame HOC
              have hbb : Below wo.heap.size wo w12 := HB11.out.trans (hbo.mono HB11.out.size)
              have hbk12 := bookIs_below HBk9.out hbb
              have hsz12 : w.heap.size ≤ w12.heap.size := Nat.le_trans HSo.out hbb.size
              have hoo2 := ownsRow_mono hoo (Nat.le_trans HSo.out HB11.out.size)
              have KD := Lib.hid (diags_any w.heap.size (Bx + 1) 1 k _ _ _ V5 U5 vo (ordL o f k) (ordL_len o f k) (by omega) (by omega) w12 hbk12 hsz12 hoo2 (fun i hi g h1 h2 => by
                obtain ⟨c1, k1, _⟩ := own_at (HBk9.out.rows i hi) h1
                obtain ⟨_, _, k2⟩ := own_at hoo h2
                have := (Array.getElem?_eq_some_iff.1 k1).1
                have := HB11.out.size
                omega))
              have HB12 := Lib.hid hbb
              have HOo := Lib.hid hoo2
              have HMc12 := Lib.hid (HMc.out.below hbo)
              have HGm := Lib.hid (show ∃ cs, BlkAt w12 gm 31 cs from by obtain ⟨cs, hcs⟩ := HGm11.out; exact ⟨cs, hcs.below hbo hgl⟩)
              have HOr12 := Lib.hid (ownsRow_mono (rowKept HOrd.out hbb) (show w.heap.size ≤ w8.heap.size from HS8.out))
              clear hbk12 hoo hoo2 hbo hbb
              obtain ⟨ao, co, rfl⟩ := ownsRow_slice' HOo.out
              go_wp2_with fail
              refine KD.out.mono ?_
              rintro e w13 ⟨⟨v13, rfl⟩, u13, V13, U13, hbk13, hkt13, hbe13⟩
              clear KD
              obtain ⟨ao2, co2, eo2, _, _, hRo⟩ := rdD_of (hkt13.owns HOo.out) (ordL_len o f k).symm
              obtain ⟨aq, cq, eq2, _, _, hRq⟩ := rdD_of (hkt13.owns HOr12.out) (ordL_len o f k).symm
              rw [ordL_len] at eo2 eq2
              cases eo2
              cases eq2
              have hsz13 := Nat.le_trans hsz12 hbe13.size
              have HBw := Lib.hid (((HBo.out.trans (HB12.out.mono HSo.out))).trans hbe13)
              have HBk13 := Lib.hid hbk13
              have hMc13 : RdD w13 (some ⟨gm, 0, none⟩) (zs.map toDi ++ [(⟨0, -77, []⟩ : Di)]) := by
                intro i hi
                obtain ⟨g, h1, h2, h3⟩ := HMc12.out i hi
                cases h1
                obtain ⟨cs, hcs⟩ : ∃ cs, BlkAt w12 gm 31 cs := HGm.out
                have := hkt13.blk hcs (by decide) (by decide)
                exact ⟨gm, rfl, this.lt, fun j hj => by rw [this.cell, ← hcs.cell]; exact h3 j hj⟩
              have hMk13 : RdD w13 (some ⟨gm, 0, none⟩) (zs.map toDi) := by
                have := hMc13.take k
                rw [List.take_left' HLz.out] at this
                exact this
              have hx77 : w13.cell? ⟨gm, k * 3 + 1, none⟩ = some (.int .i64 (-77)) := by
                obtain ⟨g', e, _, h3⟩ := hMc13 k (by rw [List.length_append, HLz.out]; simp)
                cases e
                have h4 := h3 1 (by omega)
                have e5 : (zs.map toDi ++ [(⟨0, -77, []⟩ : Di)]).getD k zeroDi = ⟨0, -77, []⟩ := by
                  rw [List.getD, List.getElem?_append_right (by rw [HLz.out]; exact Nat.le_refl _), HLz.out, Nat.sub_self]
                  rfl
                rw [e5] at h4
                exact h4
              have hgl13 : gm < w13.heap.size := by
                obtain ⟨g', e, h2, _⟩ := hMc13 k (by rw [List.length_append, HLz.out]; simp)
                cases e
                exact h2
              have HX7 := Lib.hid (And.intro hgl13 hx77)
              have HMk := Lib.hid hMk13
              clear hMc13 hMk13 hx77 hgl13
              go_wp2_with fail
              refine (sameD_yes _ _ _ _ (ordL o f k) k (ordL_len o f k) (by omega) w13 hRo hRq).mono ?_
              rintro e w14 ⟨rfl, hb14⟩
              have HBw14 := Lib.hid (HBw.out.trans (hb14.mono hsz13))
              have HB14 := Lib.hid hb14
              clear hb14 hRo hRq
              go_wp2_with fail
              refine (sameD_in (some ⟨gm, 0, none⟩) a cm c k zs HN.out (by omega) w14 (HMk.out.below HB14.out) (isDIs_below H.out HBw14.out)).mono ?_
              rintro e w15 ⟨rfl, hb15⟩
              have hb1415 := HB14.out.trans (hb15.mono HB14.out.size)
              have hsz15 : w.heap.size ≤ w15.heap.size := Nat.le_trans hsz13 hb1415.size
              have hx15 : w15.cell? ⟨gm, k * 3 + 1, none⟩ = some (.int .i64 (-77)) := (hb1415.cell (p := ⟨gm, k * 3 + 1, none⟩) HX7.out.1).trans HX7.out.2
              have hfr2 : ∀ W : World, (Instr.slice 22 (.slice (some ⟨gm, 0, none⟩) k cm) none (some (.int .i64 ((k : Int) + 1))) none).run Tryd.prog W = .ok (.slice (some ⟨gm, 0, none⟩) (k + 1) cm) W := fun W => by
                have := run_front Tryd.underlying22 (z := 3) (fun w => by kernel_rfl) (.inr ⟨gm, rfl⟩) (n := k) (c := cm) (m := k + 1) (by omega) W
                rw [show ((k + 1 : Nat) : Int) = (k : Int) + 1 by omega] at this
                exact this
              have hix : (k : Int) < (k : Int) + 1 := by omega
              have KP := Lib.hid (apart_any w.heap.size (Bx + 1) _ _ _ _ V13 U13 (by omega) w15 (bookIs_below HBk13.out hb1415) hsz15)
              have HB15 := Lib.hid (HBw.out.trans (hb1415.mono hsz13))
              clear hb15 hb1415
              go_wp2_with fail
              refine KP.out.mono ?_
              rintro e w16 ⟨rfl, hb16⟩
              go_wp2
              go_ret
              exact ⟨rfl, HB15.out.trans hb16⟩
        · have hz0 : (N : Int) > 0 := by omega
          obtain ⟨gw, egw, hgw, hcw⟩ := HRw7.out 0 (by rw [HNN.out]; exact hN0)
          subst egw
          rw [hd0] at hcw
          have e0 : ∀ p, (lift w7 p).cell? ⟨gw, 0, none⟩ = some (.int .i64 d1) := lift_cell (a := ⟨gw, 0, none⟩) hgw (hcw 0 (by omega))
          have e1 : ∀ p, (lift w7 p).cell? ⟨gw, 1, none⟩ = some (.int .i64 d2) := lift_cell (a := ⟨gw, 1, none⟩) hgw (hcw 1 (by omega))
          have e2 : ∀ p, (lift w7 p).cell? ⟨gw, 2, none⟩ = some (.string ⟨d3.toArray⟩) := lift_cell (a := ⟨gw, 2, none⟩) hgw (hcw 2 (by omega))
          clear hcw
          go_wp2_with fail
          refine wp_region_quiet_below mixed (by kernel_rfl) ?_
          repeat (quiet_step (first
            | (go_at_call 11; exact calls_lift (HSm.out _))
            | (go_at_call 13; exact calls_lift (HLn.out _))))
          refine wpQuiet_nil ?_
          intro _ hw'
          obtain ⟨p, hw''⟩ := hw'
          subst hw''
          have hB8 := HB7.out.trans ((below_lift w7 p).mono HB7.out.size)
          have HBk8 := Lib.hid (bookIs_below HBk5.out hB8)
          have HBe8 := Lib.hid (HBe5.out.trans (hB8.mono hsz5))
          have hsz8 := Nat.le_trans hsz5 hB8.size
          clear c0 c1 c2 HSm HLn hneq hB8 HB7 HRa HB6 HL5 e0 e1 e2 hd0
          generalize lift w7 p = w8 at *
          go_wp2_with fail
          have HIn := Lib.hid H.out
          obtain ⟨o, ho⟩ : ∃ o : Nat → Di, o = fun i => (zs.map toDi).getD i zeroDi := ⟨_, rfl⟩
          have hot : ∀ i (hi : i < zs.length), o i = toDi zs[i] := fun i hi => by rw [ho]; simp [List.getD, List.getElem?_eq_getElem hi]
          have HO := Lib.hid ho
          have HOt := Lib.hid hot
          have HBe8 := HBe8
          have HS8 := Lib.hid hsz8
          clear ho hot
          go_loopw [10, 11] (fun p q wr => TlB w8 o k p q wr) (fun _ q _ => k - (intOf q).toNat)
          case atStart => exact ⟨0, id, rfl, Nat.zero_le _, fun i j h1 h2 h3 => by omega, Moves.refl _ _ _, World.ownsRow_nil _ _ _ _, fun _ => rfl, Below.refl _ _, Nat.le_refl _⟩
          case round =>
            rename World => wo
            obtain ⟨i, f, rfl, hi, hS, hMv, hOr, hnil, hBr, hszr⟩ := hrel
            rename_i po
            obtain ⟨oa, oc, rfl⟩ := ownsRow_slice' hOr
            by_cases hik : i < k
            · have hikz : (i : Int) < (k : Int) := by omega
              have hil : i < zs.length := by have := HN.out; omega
              obtain ⟨x, z0, z1, z2, rfl, hzk, hok2, hc⟩ := isDI_at HIn.out hil
              have hoi := HOt.out i hil
              rw [hzk] at hoi
              have hKi : keyO o i = z1 := by show (o i).at_ = z1; rw [hoi]; rfl
              have HKi := Lib.hid hKi
              have HOi := Lib.hid hoi
              have HC := Lib.hid hc
              have HS := Lib.hid hS
              have HMv := Lib.hid hMv
              have HOr := Lib.hid hOr
              have HNil := Lib.hid hnil
              have HBr := Lib.hid (HBe8.out.trans (hBr.mono HS8.out))
              have HBr8 := Lib.hid hBr
              clear hzk hok2 hoi hKi hc hS hMv hOr hnil hBr
              go_wp2_with fail
              go_loopw [12] (fun p wr2 => TlC wo o f i p wr2) (fun p _ => (intOf p).toNat)
              case atStart => exact ⟨i, rfl, Nat.le_refl _, fun j h1 h2 => by omega, Below.refl _ _⟩
              case round =>
                obtain ⟨cc, rfl, hcc, hhi, hBc⟩ := hrel
                have HHi := Lib.hid hhi
                have HBc := Lib.hid hBc
                clear hhi hBc
                have HZ9 := Lib.hid (show w.heap.size ≤ wo.heap.size from Nat.le_trans HS8.out hszr)
                by_cases hc0 : cc = 0
                · subst hc0
                  have hdg : decide (((0 : Nat) : Int) > 0) = false := by decide
                  have HBc2 := Lib.hid (show Below wo.heap.size wo wr.drew from HBc.out.drew)
                  go_wp2_with fail
                  go_big_region
                  generalize wr.drew = w9 at *
                  have HB9 := Lib.hid (HBr.out.trans (HBc2.out.mono HZ9.out))
                  have HBr9 := Lib.hid (HBr8.out.trans (HBc2.out.mono hszr))
                  have HSz9 := Lib.hid (Nat.le_trans hszr HBc2.out.size)
                  by_cases hi0 : i = 0
                  · as_aux_lemma =>
                    subst hi0
                    have hnl := HNil.out rfl
                    cases hnl
                    have hfr : ∀ W : World, (Instr.slice 22 nilV none (some (.int .i64 0)) none).run Tryd.prog W = .ok nilV W := fun W => by kernel_rfl
                    have hbk : ∀ W : World, (Instr.slice 22 nilV (some (.int .i64 0)) none none).run Tryd.prog W = .ok nilV W := fun W => by kernel_rfl
                    have hst := ordL_step o f 0 0 (Nat.le_refl _) (HMv.out.out 0 (by omega))
                    have hpl := ord_place HS.out HMv.out (Nat.le_refl 0) (fun c h => absurd h (Nat.not_lt_zero _)) HHi.out
                    have hfl : [] ++ [.int .i64 z0, .int .i64 z1, .string z2] = (ordL o (mvR f 0 0) 1).flatMap diCells := by
                      rw [show (0 : Nat) + 1 = 1 from rfl] at hst
                      rw [← hst]
                      simp [ordL, HOi.out, toDi]
                    have HFin := Lib.hid (And.intro hpl hfl)
                    clear hst hpl hfl
                    have ex : x.add (0 * 3) = x := by unfold Addr.add; simp
                    have hcx : ∀ W, Below w.heap.size w W → W.cell? x = some (.int .i64 z0) ∧ W.cell? ⟨x.block, x.off + 1, none⟩ = some (.int .i64 z1) ∧ W.cell? ⟨x.block, x.off + 2, none⟩ = some (.string z2) := fun W hW => by
                      have := HC.out W hW
                      rw [ex] at this
                      exact this
                    have HCx := Lib.hid hcx
                    clear hcx ex
                    obtain ⟨q0, q1, q2⟩ := HCx.out w9 HB9.out
                    have n0 := World.new_ne w9 _ q0
                    have n1 := World.new_ne w9 _ q1
                    have n2 := World.new_ne w9 _ q2
                    have HZ10 := Lib.hid (show w.heap.size ≤ w9.heap.size from Nat.le_trans HZ9.out HBc2.out.size)
                    go_wp2_with fail
                    go_region_held3 (fun w' => w'.cell? x = some (.int .i64 z0) ∧ w'.cell? ⟨x.block, x.off + 1, none⟩ = some (.int .i64 z1) ∧ w'.cell? ⟨x.block, x.off + 2, none⟩ = some (.string z2)) (go_keep)
                      (first
                        | (refine step_app_run rfl _ _ _ rfl nilV nilV nilV _ rfl rfl (app_none none 0 _) ?_)
                        | (refine step_app_kept rfl _ _ _ _ _ _ slD rfl w9.heap.size (by simp <;> omega) nilV 0 [] rfl (World.ownsRow_nil _ _ _ _) ⟨w9.heap.size, 0, none⟩ 1 1 [.int .i64 z0, .int .i64 z1, .string z2] rfl rfl (World.news_of_block (cs := #[.int .i64 z0, .int .i64 z1, .string z2]) (t := 31) (fr := (0, 0)) (heap_alloc_new w9.drew _)) (by simp [Value.oneCell']) (by omega) 1 rfl ?_; intro b2 c2 wB t1 t2 t3; have bB : Below w9.heap.size w9 wB := (((Below.refl _ w9).drew.alloc (Nat.le_refl _) _).grown t2 (by simp) (fun j e => by cases e)); obtain ⟨a3, a4, a5⟩ := HCx.out wB (HB9.out.trans (bB.mono HZ10.out)))
                        | (refine step_app_run rfl _ _ _ rfl (.slice b2 1 c2) nilV (.slice b2 1 c2) _ rfl rfl (app_row t1) ?_))
                    all_goals
                      have hs1 := t1
                      rw [HFin.out.2] at hs1
                      have HOwn := Lib.hid (ownsRow_mono hs1 HSz9.out)
                      have HBC := Lib.hid (And.intro (HBr9.out.trans (bB.mono HSz9.out)) (Nat.le_trans HSz9.out bB.size))
                      clear hs1 t1 t2 t3 bB a3 a4 a5 q0 q1 q2 n0 n1 n2
                      go_wp2
                      go_roundw
                      case rel => exact ⟨1, mvR f 0 0, by go_num, by omega, HFin.out.1.1, HFin.out.1.2, HOwn.out, fun h => by omega, HBC.out.1, HBC.out.2⟩
                      case measure => simp [intOf]; omega
                  · as_aux_lemma =>
                    obtain ⟨a', c', eo, hoc, _, hRd⟩ := rdD_of HOr.out (ordL_len o f i).symm
                    rw [ordL_len] at eo hoc
                    cases eo
                    obtain ⟨go, eg, hgo0, _⟩ := hRd 0 (by rw [ordL_len]; omega)
                    subst eg
                    clear hRd
                    obtain ⟨cv, hcv⟩ : ∃ cv, 0 = cv := ⟨_, rfl⟩
                    have hcvi : cv ≤ i := by omega
                    have HCv := Lib.hid (show (cv : Int) = 0 by omega)
                    have HLo := Lib.hid (show ∀ j, j < cv → keyO o (f j) ≤ keyO o i from fun j hj => by omega)
                    have hhi2 : ∀ j, cv ≤ j → j < i → keyO o i < keyO o (f j) := fun j _ h2 => HHi.out j (Nat.zero_le _) h2
                    have HHi := Lib.hid hhi2
                    clear hhi2 hcv
                    have hgo : go < w9.heap.size := Nat.lt_of_lt_of_le hgo0 HBc2.out.size
                    have HOr9 := rowKept HOr.out HBc2.out
                    have HOc9 := Lib.hid (HOr9.cells (g := go) rfl)
                    have HZ9 := Lib.hid (show w.heap.size ≤ w9.heap.size from Nat.le_trans HZ9.out HBc2.out.size)
                    clear HOr9
                    have hfr : ∀ W : World, (Instr.slice 22 (.slice (some ⟨go, 0, none⟩) i oc) none (some (.int .i64 0)) none).run Tryd.prog W = .ok (.slice (some ⟨go, 0, none⟩) cv oc) W := fun W => by
                      have := run_front (P := Tryd.prog) (z := 3) Tryd.underlying22 (fun w => by kernel_rfl) (.inr ⟨go, rfl⟩) (n := i) (c := oc) (m := cv) (by omega) W
                      rw [HCv.out] at this
                      exact this
                    obtain ⟨y, hyb, hya, hbk⟩ := run_back (g := go) (i := i) (oc := oc) (cc := cv) hcvi hoc
                    rw [HCv.out] at hbk
                    obtain ⟨D, hD⟩ : ∃ D, i - cv = D := ⟨_, rfl⟩
                    obtain ⟨E, hE⟩ : ∃ E, oc - cv = E := ⟨_, rfl⟩
                    obtain ⟨L2, hL2⟩ : ∃ L2, cv + 1 = L2 := ⟨_, rfl⟩
                    obtain ⟨i1, hi1⟩ : ∃ i1, i + 1 = i1 := ⟨_, rfl⟩
                    rw [hD, hE] at hbk
                    have hL3 : L2 + D = i1 := by omega
                    have hDb : D ≤ 1000 := by omega
                    have hL2b : L2 ≤ 1000 := by omega
                    have hcvb : cv ≤ 1000 := by omega
                    have hxs := List.take_append_drop cv (ordL o f i)
                    have hcel : ∀ U, Below w9.heap.size w9 U → (∀ j u, (((ordL o f i).take cv).flatMap diCells)[j]? = some u → U.cell? ((⟨go, 0, none⟩ : Addr).add j) = some u) ∧ (∀ j u, (((ordL o f i).drop cv).flatMap diCells)[j]? = some u → U.cell? (y.add j) = some u) := fun U hU => by
                      have hall : ∀ j u, ((ordL o f i).flatMap diCells)[j]? = some u → U.cell? ((⟨go, 0, none⟩ : Addr).add j) = some u := fun j u h => (hU.cell (p := (⟨go, 0, none⟩ : Addr).add j) (by rw [add_block]; exact hgo)).trans (HOc9.out j u h)
                      have el : (((ordL o f i).take cv).flatMap diCells).length = cv * 3 := by rw [diCells_len, List.length_take, ordL_len, Nat.min_eq_left hcvi]
                      refine ⟨fun j u h => hall j u ?_, fun j u h => ?_⟩
                      · rw [← hxs, List.flatMap_append, List.getElem?_append_left (List.getElem?_eq_some_iff.1 h).1]
                        exact h
                      · have hj : j < (i - cv) * 3 := by
                          have := (List.getElem?_eq_some_iff.1 h).1
                          rw [diCells_len, List.length_drop, ordL_len] at this
                          exact this
                        rw [hya j hj]
                        have := hall (cv * 3 + j) u (by
                          rw [← hxs, List.flatMap_append, List.getElem?_append_right (by rw [el]; omega), el, Nat.add_sub_cancel_left]
                          exact h)
                        have ea : (⟨go, 0, none⟩ : Addr).add (cv * 3 + j) = ⟨go, cv * 3 + j, none⟩ := by unfold Addr.add; split <;> simp_all
                        rw [← ea]
                        exact this
                    have HCel := Lib.hid hcel
                    have hl1 : (((ordL o f i).take cv).flatMap diCells).length = cv * 3 := by rw [diCells_len, List.length_take, ordL_len, Nat.min_eq_left hcvi]
                    have hl3 : (((ordL o f i).drop cv).flatMap diCells).length = D * 3 := by rw [diCells_len, List.length_drop, ordL_len, hD]
                    have HLl := Lib.hid (And.intro hl1 hl3)
                    have hst := ordL_step o f i cv hcvi (HMv.out.out i (by omega))
                    have hpl := ord_place HS.out HMv.out hcvi HLo.out HHi.out
                    have hfl : [] ++ ((ordL o f i).take cv).flatMap diCells ++ [.int .i64 z0, .int .i64 z1, .string z2] ++ ((ordL o f i).drop cv).flatMap diCells = (ordL o (mvR f cv i) i1).flatMap diCells := by
                      rw [← hi1, ← hst, List.flatMap_append, List.flatMap_append]
                      have e1 : [o i].flatMap diCells = [.int .i64 z0, .int .i64 z1, .string z2] := by rw [HOi.out]; simp [toDi]
                      rw [e1, List.nil_append]
                    rw [hi1] at hpl
                    have HFin := Lib.hid (And.intro hpl hfl)
                    have HIs := Lib.hid (And.intro hL2 (And.intro hL3 hi1))
                    clear hxs hcel hl1 hl3 hst hpl hfl hya hyb hD hE hL2 hL3 hi1
                    have HOne := Lib.hid (And.intro (one_cells ((ordL o f i).take cv)) (one_cells ((ordL o f i).drop cv)))
                    generalize ((ordL o f i).take cv).flatMap diCells = xs1 at *
                    generalize ((ordL o f i).drop cv).flatMap diCells = xs3 at *
                    obtain ⟨q0, q1, q2⟩ := HC.out w9 HB9.out
                    have n0 := World.new_ne w9 _ q0
                    have n1 := World.new_ne w9 _ q1
                    have n2 := World.new_ne w9 _ q2
                    have hz9 : w9.drew.heap.size = w9.heap.size := rfl
                    go_wp2_with fail
                    go_region_held3 (fun w' => w'.cell? (x.add (i * 3)) = some (.int .i64 z0) ∧ w'.cell? ⟨(x.add (i * 3)).block, (x.add (i * 3)).off + 1, none⟩ = some (.int .i64 z1) ∧ w'.cell? ⟨(x.add (i * 3)).block, (x.add (i * 3)).off + 2, none⟩ = some (.string z2)) (go_keep)
                      (first
                        | (refine step_app_kept rfl _ _ _ _ _ _ slD rfl w9.heap.size (by simp <;> omega) nilV 0 [] rfl (World.ownsRow_nil _ _ _ _) ⟨go, 0, none⟩ cv oc xs1 rfl HLl.out.1 (by first | exact (HCel.out _ ((Below.refl _ w9).drew)).1 | exact (HCel.out _ ((Below.refl _ w9).drew.alloc (Nat.le_refl _) _)).1) HOne.out.1 (by omega) cv (Nat.zero_add _) ?_; intro b1 c1 wA r1 r2 r3; have bA : Below w9.heap.size w9 wA := (by first | exact ((Below.refl _ w9).drew.grown r2 (by simp) (fun j e => by cases e)) | exact (((Below.refl _ w9).drew.alloc (Nat.le_refl _) _).grown r2 (by simp) (fun j e => by cases e))); obtain ⟨a0, a1, a2⟩ := HC.out wA (HB9.out.trans (bA.mono HZ9.out)); have m0 := World.new_ne wA _ a0; have m1 := World.new_ne wA _ a1; have m2 := World.new_ne wA _ a2)
                        | (refine step_app_kept rfl _ _ _ _ _ _ slD rfl w9.heap.size (by have := bA.size; omega) (.slice b1 cv c1) cv _ rfl r1 ⟨w9.heap.size, 0, none⟩ 1 1 [.int .i64 z0, .int .i64 z1, .string z2] rfl rfl (World.news_of_block (cs := #[.int .i64 z0, .int .i64 z1, .string z2]) (t := 31) (fr := (0, 0)) ((r2.block w9.heap.size (by simp) (by simp [Value.ownBlock])).trans (heap_alloc_new w9.drew _))) (by simp [Value.oneCell']) (by omega) L2 HIs.out.1 ?_; intro b2 c2 wB t1 t2 t3; have bB : Below w9.heap.size w9 wB := (bA.grown t2 (by have := bA.size; omega) (fun j e => (own_at r1 e).choose_spec.2)); obtain ⟨a3, a4, a5⟩ := HC.out wB (HB9.out.trans (bB.mono HZ9.out)))
                        | (refine step_app_kept rfl _ _ _ _ _ _ slD rfl w9.heap.size (by have := bA.size; simp; omega) (.slice b1 cv c1) cv _ rfl (r1.alloc _) ⟨wA.heap.size, 0, none⟩ 1 1 [.int .i64 z0, .int .i64 z1, .string z2] rfl rfl (World.news_of_block (cs := #[.int .i64 z0, .int .i64 z1, .string z2]) (t := 31) (fr := (0, 0)) (heap_alloc_new wA _)) (by simp [Value.oneCell']) (by omega) L2 HIs.out.1 ?_; intro b2 c2 wB t1 t2 t3; have bB : Below w9.heap.size w9 wB := ((bA.alloc bA.size _).grown t2 (by have := bA.size; simp; omega) (fun j e => (own_at r1 e).choose_spec.2)); obtain ⟨a3, a4, a5⟩ := HC.out wB (HB9.out.trans (bB.mono HZ9.out)))
                        | (refine step_app_kept rfl _ _ _ _ _ _ slD rfl w9.heap.size bB.size (.slice b2 L2 c2) L2 _ rfl t1 y D E xs3 rfl HLl.out.2 (HCel.out _ bB).2 HOne.out.2 (by omega) i1 HIs.out.2.1 ?_; intro b3 c3 wC s1 s2 s3; have bC : Below w9.heap.size w9 wC := (bB.grown s2 bB.size (fun j e => (own_at t1 e).choose_spec.2)); obtain ⟨a6, a7, a8⟩ := HC.out wC (HB9.out.trans (bC.mono HZ9.out))))
                    all_goals
                      have hs1 := s1
                      rw [HFin.out.2] at hs1
                      have HOwn := Lib.hid (ownsRow_mono hs1 HSz9.out)
                      have HBC := Lib.hid (And.intro (HBr9.out.trans (bC.mono HSz9.out)) (Nat.le_trans HSz9.out bC.size))
                      clear hs1 s1 s2 s3 bC a0 a1 a2 a3 a4 a5 a6 a7 a8 q0 q1 q2 n0 n1 n2 m0 m1 m2 r1 r2 r3 t1 t2 t3 bA bB
                      go_wp2
                      go_roundw
                      case rel =>
                        have hi1 := HIs.out.2.2
                        exact ⟨i1, mvR f cv i, by rw [← hi1]; go_num, by omega, HFin.out.1.1, HFin.out.1.2, HOwn.out, fun h => by omega, HBC.out.1, HBC.out.2⟩
                      case measure => simp [intOf]; omega
                · obtain ⟨c1', rfl⟩ : ∃ d, cc = d + 1 := ⟨cc - 1, by omega⟩
                  have hci : c1' < i := by omega
                  have hciz : (c1' : Int) < (i : Int) := by omega
                  have hcz : (c1' : Int) + 1 > 0 := by omega
                  have hwj : IntKind.i64.wrap (c1' : Int) = (c1' : Int) := IntWalk.i64_in _ (by omega)
                  obtain ⟨a', c', eo, hoc, _, hRd⟩ := rdD_of HOr.out (ordL_len o f i).symm
                  rw [ordL_len] at eo hoc
                  cases eo
                  obtain ⟨go, eg, hgo0, hgc⟩ := hRd c1' (by rw [ordL_len]; exact hci)
                  subst eg
                  have hA := hgc 1 (by omega)
                  have hget : (ordL o f i).getD c1' zeroDi = o (f c1') := by rw [List.getD, ordL_get o f hci]; rfl
                  rw [hget] at hA
                  obtain ⟨A, hAe⟩ : ∃ A, (o (f c1')).at_ = A := ⟨_, rfl⟩
                  have hA2 : wo.cell? ⟨go, c1' * 3 + 1, none⟩ = some (.int .i64 A) := by rw [← hAe]; exact hA
                  have HAe := Lib.hid hAe
                  have hg1 : go < wr.heap.size := Nat.lt_of_lt_of_le hgo0 HBc.out.size
                  have HBw := Lib.hid (HBr.out.trans (HBc.out.mono HZ9.out))
                  have HCl := Lib.hid (fun p => HC.out (lift wr p) (HBw.out.trans ((below_lift wr p).mono HBw.out.size)))
                  have e1 : ∀ p, (lift wr p).cell? ⟨go, c1' * 3 + 1, none⟩ = some (.int .i64 A) := lift_cell (a := ⟨go, c1' * 3 + 1, none⟩) hg1 ((HBc.out.cell (p := ⟨go, c1' * 3 + 1, none⟩) hgo0).trans hA2)
                  have l1 : ∀ p, (lift wr p).cell? ⟨(x.add (i * 3)).block, (x.add (i * 3)).off + 1, none⟩ = some (.int .i64 z1) := fun p => (HCl.out p).2.1
                  clear hA hA2 hget hAe hgc hRd
                  by_cases hg : z1 < A
                  · as_aux_lemma =>
                    have hgz : A > z1 := hg
                    go_wp2_with fail
                    refine wp_region_quiet_below mixed (by kernel_rfl) ?_
                    repeat (quiet_step (fail))
                    refine wpQuiet_nil ?_
                    intro _ hw'
                    obtain ⟨p, hw''⟩ := hw'
                    subst hw''
                    have HBc2 := Lib.hid (HBc.out.trans ((below_lift wr p).mono HBc.out.size))
                    clear e1 l1 hwj
                    generalize lift wr p = w9 at *
                    go_wp2
                    go_roundw
                    case rel => exact ⟨c1', by go_num, by omega, (fun j h1 h2 => by
                      by_cases e : j = c1'
                      · rw [e, HKi.out]; show z1 < (o (f c1')).at_; rw [HAe.out]; exact hg
                      · exact HHi.out j (by omega) h2), HBc2.out⟩
                    case measure => simp [intOf]
                  · as_aux_lemma =>
                    have hgz : ¬ A > z1 := hg
                    go_wp2_with fail
                    refine wp_region_quiet_below mixed (by kernel_rfl) ?_
                    repeat (quiet_step (fail))
                    refine wpQuiet_nil ?_
                    intro _ hw'
                    obtain ⟨p, hw''⟩ := hw'
                    subst hw''
                    have HBc2 := Lib.hid (HBc.out.trans ((below_lift wr p).mono HBc.out.size))
                    clear e1 l1 hwj
                    have hlo : ∀ j, j < c1' + 1 → keyO o (f j) ≤ keyO o i := fun j hj => by
                      have hA' : (o (f c1')).at_ ≤ z1 := by rw [HAe.out]; omega
                      rw [HKi.out]
                      by_cases e : j = c1'
                      · rw [e]; exact hA'
                      · have := (HS.out j c1' (Nat.zero_le _) (by omega) hci).le
                        exact Int.le_trans this hA'
                    have HLo := Lib.hid hlo
                    clear hlo
                    generalize lift wr p = w9 at *
                    have HB9 := Lib.hid (HBr.out.trans (HBc2.out.mono HZ9.out))
                    have HBr9 := Lib.hid (HBr8.out.trans (HBc2.out.mono hszr))
                    have HSz9 := Lib.hid (Nat.le_trans hszr HBc2.out.size)
                    have hgo : go < w9.heap.size := Nat.lt_of_lt_of_le hgo0 HBc2.out.size
                    have HOr9 := rowKept HOr.out HBc2.out
                    have HOc9 := Lib.hid (HOr9.cells (g := go) rfl)
                    have HZ9 := Lib.hid (show w.heap.size ≤ w9.heap.size from Nat.le_trans HZ9.out HBc2.out.size)
                    clear HOr9
                    obtain ⟨cv, hcv⟩ : ∃ cv, c1' + 1 = cv := ⟨_, rfl⟩
                    have hcvi : cv ≤ i := by omega
                    have HCv := Lib.hid (show (cv : Int) = (c1' : Int) + 1 by omega)
                    have hlo2 := HLo.out
                    have hhi2 := HHi.out
                    rw [hcv] at hlo2 hhi2
                    have HLo := Lib.hid hlo2
                    have HHi := Lib.hid hhi2
                    clear hlo2 hhi2 hcv
                    have hfr : ∀ W : World, (Instr.slice 22 (.slice (some ⟨go, 0, none⟩) i oc) none (some (.int .i64 ((c1' : Int) + 1))) none).run Tryd.prog W = .ok (.slice (some ⟨go, 0, none⟩) cv oc) W := fun W => by
                      have := run_front (P := Tryd.prog) (z := 3) Tryd.underlying22 (fun w => by kernel_rfl) (.inr ⟨go, rfl⟩) (n := i) (c := oc) (m := cv) (by omega) W
                      rw [HCv.out] at this
                      exact this
                    obtain ⟨y, hyb, hya, hbk⟩ := run_back (g := go) (i := i) (oc := oc) (cc := cv) hcvi hoc
                    rw [HCv.out] at hbk
                    obtain ⟨D, hD⟩ : ∃ D, i - cv = D := ⟨_, rfl⟩
                    obtain ⟨E, hE⟩ : ∃ E, oc - cv = E := ⟨_, rfl⟩
                    obtain ⟨L2, hL2⟩ : ∃ L2, cv + 1 = L2 := ⟨_, rfl⟩
                    obtain ⟨i1, hi1⟩ : ∃ i1, i + 1 = i1 := ⟨_, rfl⟩
                    rw [hD, hE] at hbk
                    have hL3 : L2 + D = i1 := by omega
                    have hDb : D ≤ 1000 := by omega
                    have hL2b : L2 ≤ 1000 := by omega
                    have hcvb : cv ≤ 1000 := by omega
                    have hxs := List.take_append_drop cv (ordL o f i)
                    have hcel : ∀ U, Below w9.heap.size w9 U → (∀ j u, (((ordL o f i).take cv).flatMap diCells)[j]? = some u → U.cell? ((⟨go, 0, none⟩ : Addr).add j) = some u) ∧ (∀ j u, (((ordL o f i).drop cv).flatMap diCells)[j]? = some u → U.cell? (y.add j) = some u) := fun U hU => by
                      have hall : ∀ j u, ((ordL o f i).flatMap diCells)[j]? = some u → U.cell? ((⟨go, 0, none⟩ : Addr).add j) = some u := fun j u h => (hU.cell (p := (⟨go, 0, none⟩ : Addr).add j) (by rw [add_block]; exact hgo)).trans (HOc9.out j u h)
                      have el : (((ordL o f i).take cv).flatMap diCells).length = cv * 3 := by rw [diCells_len, List.length_take, ordL_len, Nat.min_eq_left hcvi]
                      refine ⟨fun j u h => hall j u ?_, fun j u h => ?_⟩
                      · rw [← hxs, List.flatMap_append, List.getElem?_append_left (List.getElem?_eq_some_iff.1 h).1]
                        exact h
                      · have hj : j < (i - cv) * 3 := by
                          have := (List.getElem?_eq_some_iff.1 h).1
                          rw [diCells_len, List.length_drop, ordL_len] at this
                          exact this
                        rw [hya j hj]
                        have := hall (cv * 3 + j) u (by
                          rw [← hxs, List.flatMap_append, List.getElem?_append_right (by rw [el]; omega), el, Nat.add_sub_cancel_left]
                          exact h)
                        have ea : (⟨go, 0, none⟩ : Addr).add (cv * 3 + j) = ⟨go, cv * 3 + j, none⟩ := by unfold Addr.add; split <;> simp_all
                        rw [← ea]
                        exact this
                    have HCel := Lib.hid hcel
                    have hl1 : (((ordL o f i).take cv).flatMap diCells).length = cv * 3 := by rw [diCells_len, List.length_take, ordL_len, Nat.min_eq_left hcvi]
                    have hl3 : (((ordL o f i).drop cv).flatMap diCells).length = D * 3 := by rw [diCells_len, List.length_drop, ordL_len, hD]
                    have HLl := Lib.hid (And.intro hl1 hl3)
                    have hst := ordL_step o f i cv hcvi (HMv.out.out i (by omega))
                    have hpl := ord_place HS.out HMv.out hcvi HLo.out HHi.out
                    have hfl : [] ++ ((ordL o f i).take cv).flatMap diCells ++ [.int .i64 z0, .int .i64 z1, .string z2] ++ ((ordL o f i).drop cv).flatMap diCells = (ordL o (mvR f cv i) i1).flatMap diCells := by
                      rw [← hi1, ← hst, List.flatMap_append, List.flatMap_append]
                      have e1 : [o i].flatMap diCells = [.int .i64 z0, .int .i64 z1, .string z2] := by rw [HOi.out]; simp [toDi]
                      rw [e1, List.nil_append]
                    rw [hi1] at hpl
                    have HFin := Lib.hid (And.intro hpl hfl)
                    have HIs := Lib.hid (And.intro hL2 (And.intro hL3 hi1))
                    clear hxs hcel hl1 hl3 hst hpl hfl hya hyb hD hE hL2 hL3 hi1
                    have HOne := Lib.hid (And.intro (one_cells ((ordL o f i).take cv)) (one_cells ((ordL o f i).drop cv)))
                    generalize ((ordL o f i).take cv).flatMap diCells = xs1 at *
                    generalize ((ordL o f i).drop cv).flatMap diCells = xs3 at *
                    obtain ⟨q0, q1, q2⟩ := HC.out w9 HB9.out
                    have n0 := World.new_ne w9 _ q0
                    have n1 := World.new_ne w9 _ q1
                    have n2 := World.new_ne w9 _ q2
                    have hz9 : w9.drew.heap.size = w9.heap.size := rfl
                    go_wp2_with fail
                    go_region_held3 (fun w' => w'.cell? (x.add (i * 3)) = some (.int .i64 z0) ∧ w'.cell? ⟨(x.add (i * 3)).block, (x.add (i * 3)).off + 1, none⟩ = some (.int .i64 z1) ∧ w'.cell? ⟨(x.add (i * 3)).block, (x.add (i * 3)).off + 2, none⟩ = some (.string z2)) (go_keep)
                      (first
                        | (refine step_app_kept rfl _ _ _ _ _ _ slD rfl w9.heap.size (by simp <;> omega) nilV 0 [] rfl (World.ownsRow_nil _ _ _ _) ⟨go, 0, none⟩ cv oc xs1 rfl HLl.out.1 (by first | exact (HCel.out _ ((Below.refl _ w9).drew)).1 | exact (HCel.out _ ((Below.refl _ w9).drew.alloc (Nat.le_refl _) _)).1) HOne.out.1 (by omega) cv (Nat.zero_add _) ?_; intro b1 c1 wA r1 r2 r3; have bA : Below w9.heap.size w9 wA := (by first | exact ((Below.refl _ w9).drew.grown r2 (by simp) (fun j e => by cases e)) | exact (((Below.refl _ w9).drew.alloc (Nat.le_refl _) _).grown r2 (by simp) (fun j e => by cases e))); obtain ⟨a0, a1, a2⟩ := HC.out wA (HB9.out.trans (bA.mono HZ9.out)); have m0 := World.new_ne wA _ a0; have m1 := World.new_ne wA _ a1; have m2 := World.new_ne wA _ a2)
                        | (refine step_app_kept rfl _ _ _ _ _ _ slD rfl w9.heap.size (by have := bA.size; omega) (.slice b1 cv c1) cv _ rfl r1 ⟨w9.heap.size, 0, none⟩ 1 1 [.int .i64 z0, .int .i64 z1, .string z2] rfl rfl (World.news_of_block (cs := #[.int .i64 z0, .int .i64 z1, .string z2]) (t := 31) (fr := (0, 0)) ((r2.block w9.heap.size (by simp) (by simp [Value.ownBlock])).trans (heap_alloc_new w9.drew _))) (by simp [Value.oneCell']) (by omega) L2 HIs.out.1 ?_; intro b2 c2 wB t1 t2 t3; have bB : Below w9.heap.size w9 wB := (bA.grown t2 (by have := bA.size; omega) (fun j e => (own_at r1 e).choose_spec.2)); obtain ⟨a3, a4, a5⟩ := HC.out wB (HB9.out.trans (bB.mono HZ9.out)))
                        | (refine step_app_kept rfl _ _ _ _ _ _ slD rfl w9.heap.size (by have := bA.size; simp; omega) (.slice b1 cv c1) cv _ rfl (r1.alloc _) ⟨wA.heap.size, 0, none⟩ 1 1 [.int .i64 z0, .int .i64 z1, .string z2] rfl rfl (World.news_of_block (cs := #[.int .i64 z0, .int .i64 z1, .string z2]) (t := 31) (fr := (0, 0)) (heap_alloc_new wA _)) (by simp [Value.oneCell']) (by omega) L2 HIs.out.1 ?_; intro b2 c2 wB t1 t2 t3; have bB : Below w9.heap.size w9 wB := ((bA.alloc bA.size _).grown t2 (by have := bA.size; simp; omega) (fun j e => (own_at r1 e).choose_spec.2)); obtain ⟨a3, a4, a5⟩ := HC.out wB (HB9.out.trans (bB.mono HZ9.out)))
                        | (refine step_app_kept rfl _ _ _ _ _ _ slD rfl w9.heap.size bB.size (.slice b2 L2 c2) L2 _ rfl t1 y D E xs3 rfl HLl.out.2 (HCel.out _ bB).2 HOne.out.2 (by omega) i1 HIs.out.2.1 ?_; intro b3 c3 wC s1 s2 s3; have bC : Below w9.heap.size w9 wC := (bB.grown s2 bB.size (fun j e => (own_at t1 e).choose_spec.2)); obtain ⟨a6, a7, a8⟩ := HC.out wC (HB9.out.trans (bC.mono HZ9.out))))
                    all_goals
                      have hs1 := s1
                      rw [HFin.out.2] at hs1
                      have HOwn := Lib.hid (ownsRow_mono hs1 HSz9.out)
                      have HBC := Lib.hid (And.intro (HBr9.out.trans (bC.mono HSz9.out)) (Nat.le_trans HSz9.out bC.size))
                      clear hs1 s1 s2 s3 bC a0 a1 a2 a3 a4 a5 a6 a7 a8 q0 q1 q2 n0 n1 n2 m0 m1 m2 r1 r2 r3 t1 t2 t3 bA bB
                      go_wp2
                      go_roundw
                      case rel =>
                        have hi1 := HIs.out.2.2
                        exact ⟨i1, mvR f cv i, by rw [← hi1]; go_num, by omega, HFin.out.1.1, HFin.out.1.2, HOwn.out, fun h => by omega, HBC.out.1, HBC.out.2⟩
                      case measure => simp [intOf]; omega
            · as_aux_lemma =>
              obtain rfl : k = i := by omega
              have hikz : ¬ (k : Int) < (k : Int) := by omega
              have hBo := HBe8.out.trans (hBr.mono HS8.out)
              have hszo : w.heap.size ≤ wo.heap.size := Nat.le_trans HS8.out hszr
              have hbk9 := bookIs_below HBk8.out hBr
              have hlz : (zs.map toDi).length = k := by rw [List.length_map]; exact HN.out
              have hin : ∀ x, a = some x → ∀ j u, ((zs.map toDi).flatMap diCells)[j]? = some u → wo.cell? (x.add j) = some u := fun x e => in_cells (by rw [← e]; exact H.out) wo hBo
              obtain ⟨v1, w10, hr1, ho1, hb1⟩ : ∃ v1 w10, (Builtin.append_ #[22, 22] 22 #[nilV, .slice a k c]).run Tryd.prog wo = .ok v1 w10 ∧ w10.ownsRow wo.heap.size 31 3 v1 k ((zs.map toDi).flatMap diCells) ∧ Below wo.heap.size wo w10 := by
                cases ha : a with
                | none =>
                  have hk0 : k = 0 := by
                    apply Decidable.byContradiction
                    intro hne
                    obtain ⟨_, x, e, _⟩ := H.out 0 (by rw [HN.out]; omega)
                    rw [ha] at e
                    cases e
                  have hzn : zs.map toDi = [] := List.eq_nil_of_length_eq_zero (by rw [hlz, hk0])
                  exact ⟨nilV, wo, by rw [hk0]; exact app_none none c wo, by rw [hk0, hzn]; exact World.ownsRow_nil _ _ _ _, Below.refl _ _⟩
                | some x =>
                  obtain ⟨v', w', hr, h2, h3, _, _⟩ := run_app_kept (P := Tryd.prog) wo wo.heap.size 22 22 31 3 32 slD nilV 0 [] (World.ownsRow_nil _ _ _ _) x k c ((zs.map toDi).flatMap diCells) (by rw [diCells_len, hlz]) (hin x ha) (one_cells _) (by omega) (Nat.le_refl _)
                  exact ⟨v', w', hr, by simpa using h2, (Below.refl _ wo).grown h3 (Nat.le_refl _) (fun j e => by cases e)⟩
              obtain ⟨f1, c1, rfl⟩ := ownsRow_slice' ho1
              have HOrd := Lib.hid hOr
              have HSrt := Lib.hid hS
              have HMov := Lib.hid hMv
              have HBk9 := Lib.hid hbk9
              have HBo := Lib.hid hBo
              have HLz := Lib.hid hlz
              have HSo := Lib.hid hszo
              have HO1 := Lib.hid ho1
              have HB1 := Lib.hid hb1
              clear hS hMv hOr hnil hBr hszr hbk9 hBo hin hszo ho1 hb1 hlz
              go_wp2_with (at_builtin; first
                | (refine wpList_app_run rfl _ _ _ rfl nilV (.slice a k c) (.slice f1 k c1) w10 rfl rfl hr1 ?_)
                | (refine wpList_app_kept _ rfl _ _ _ _ _ _ slD rfl wo.heap.size (by have := HB1.out.size; simp; omega) (.slice f1 k c1) k _ rfl (HO1.out.alloc _) ⟨w10.heap.size, 0, none⟩ 1 1 [.int .i64 0, .int .i64 (-77), .string ⟨#[]⟩] rfl rfl (World.news_of_block (cs := #[.int .i64 0, .int .i64 (-77), .string ⟨#[]⟩]) (t := 31) (fr := (0, 0)) (heap_alloc_new w10 _)) (by simp [Value.oneCell']) (by omega) ?_; intro vm w11 r1 r2 r3 r4; obtain ⟨gm, cm, em, hcm⟩ := own_some r1; subst em; have hfr : ∀ W : World, (Instr.slice 22 (.slice (some ⟨gm, 0, none⟩) (k + 1) cm) none (some (.int .i64 k)) none).run Tryd.prog W = .ok (.slice (some ⟨gm, 0, none⟩) k cm) W := fun W => run_front Tryd.underlying22 (z := 3) (fun w => by kernel_rfl) (.inr ⟨gm, rfl⟩) (by omega) W))
              have hm1 : w11.ownsRow wo.heap.size 31 3 (.slice (some ⟨gm, 0, none⟩) (k + 1) cm) (k + 1) ((zs.map toDi ++ [(⟨0, -77, []⟩ : Di)]).flatMap diCells) := by
                rw [List.flatMap_append]
                exact r1
              have hb11 : Below wo.heap.size wo w11 := (HB1.out.alloc HB1.out.size _).grown r2 (by have := HB1.out.size; simp; omega) (fun j e => (own_at HO1.out e).choose_spec.2)
              have hlz1 : (zs.map toDi ++ [(⟨0, -77, []⟩ : Di)]).length = k + 1 := by rw [List.length_append, HLz.out]; rfl
              obtain ⟨hgl, hmc⟩ : gm < w11.heap.size ∧ RdD w11 (some ⟨gm, 0, none⟩) (zs.map toDi ++ [(⟨0, -77, []⟩ : Di)]) := by
                obtain ⟨am, cm', e, h1, _, h3⟩ := rdD_of hm1 hlz1.symm
                rw [hlz1] at e
                cases e
                obtain ⟨g', eg, h4, _⟩ := h3 0 (by rw [hlz1]; omega)
                cases eg
                exact ⟨h4, h3⟩
              have HGm11 := Lib.hid (show ∃ cs, BlkAt w11 gm 31 cs from by obtain ⟨cs, hcs, _⟩ := own_at hm1 (g := gm) rfl; exact ⟨cs, hcs⟩)
              have HMc := Lib.hid hmc
              have HB11 := Lib.hid hb11
              have hcl : ∀ j u, ((zs.map toDi).flatMap diCells)[j]? = some u → w11.cell? ((⟨gm, 0, none⟩ : Addr).add j) = some u := fun j u h => by
                have hx := hm1.cells (g := gm) rfl j u
                rw [List.flatMap_append, List.getElem?_append_left (List.getElem?_eq_some_iff.1 h).1] at hx
                exact hx h
              have HOC := Lib.hid (order_any gm k cm (zs.map toDi) HLz.out (by omega) w11 hgl hcl)
              clear r1 r2 r3 r4 hm1 hb11 hmc hcl
              refine HOC.out.mono ?_
              rintro e w12 ⟨vo, fo, rfl, hso, hfo, hoo, hbo⟩
              have hsame : ((List.range (zs.map toDi).length).map fun i => (zs.map toDi).getD (fo i) zeroDi) = ordL o f k := by
                rw [HLz.out] at hso hfo ⊢
                rw [show (keyO fun i => (zs.map toDi).getD i zeroDi) = keyO o by rw [HO.out]] at hso
                rw [ord_same (moves_lt HMov.out) hfo HSrt.out hso]
                unfold ordL
                rw [HO.out]
              rw [hsame, HLz.out] at hoo
              clear hso hfo hsame HOC
              have hbb : Below wo.heap.size wo w12 := HB11.out.trans (hbo.mono HB11.out.size)
              have hbk12 := bookIs_below HBk9.out hbb
              have hsz12 : w.heap.size ≤ w12.heap.size := Nat.le_trans HSo.out hbb.size
              have hoo2 := ownsRow_mono hoo (Nat.le_trans HSo.out HB11.out.size)
              have KD := Lib.hid (diags_any w.heap.size (Bx + 1) 1 k _ _ _ V5 U5 vo (ordL o f k) (ordL_len o f k) (by omega) (by omega) w12 hbk12 hsz12 hoo2 (fun i hi g h1 h2 => by
                obtain ⟨c1, k1, _⟩ := own_at (HBk9.out.rows i hi) h1
                obtain ⟨_, _, k2⟩ := own_at hoo h2
                have := (Array.getElem?_eq_some_iff.1 k1).1
                have := HB11.out.size
                omega))
              have HB12 := Lib.hid hbb
              have HOo := Lib.hid hoo2
              have HMc12 := Lib.hid (HMc.out.below hbo)
              have HGm := Lib.hid (show ∃ cs, BlkAt w12 gm 31 cs from by obtain ⟨cs, hcs⟩ := HGm11.out; exact ⟨cs, hcs.below hbo hgl⟩)
              have HOr12 := Lib.hid (ownsRow_mono (rowKept HOrd.out hbb) (show w.heap.size ≤ w8.heap.size from HS8.out))
              clear hbk12 hoo hoo2 hbo hbb
              obtain ⟨ao, co, rfl⟩ := ownsRow_slice' HOo.out
              go_wp2_with fail
              refine KD.out.mono ?_
              rintro e w13 ⟨⟨v13, rfl⟩, u13, V13, U13, hbk13, hkt13, hbe13⟩
              clear KD
              obtain ⟨ao2, co2, eo2, _, _, hRo⟩ := rdD_of (hkt13.owns HOo.out) (ordL_len o f k).symm
              obtain ⟨aq, cq, eq2, _, _, hRq⟩ := rdD_of (hkt13.owns HOr12.out) (ordL_len o f k).symm
              rw [ordL_len] at eo2 eq2
              cases eo2
              cases eq2
              have hsz13 := Nat.le_trans hsz12 hbe13.size
              have HBw := Lib.hid (((HBo.out.trans (HB12.out.mono HSo.out))).trans hbe13)
              have HBk13 := Lib.hid hbk13
              have hMc13 : RdD w13 (some ⟨gm, 0, none⟩) (zs.map toDi ++ [(⟨0, -77, []⟩ : Di)]) := by
                intro i hi
                obtain ⟨g, h1, h2, h3⟩ := HMc12.out i hi
                cases h1
                obtain ⟨cs, hcs⟩ : ∃ cs, BlkAt w12 gm 31 cs := HGm.out
                have := hkt13.blk hcs (by decide) (by decide)
                exact ⟨gm, rfl, this.lt, fun j hj => by rw [this.cell, ← hcs.cell]; exact h3 j hj⟩
              have hMk13 : RdD w13 (some ⟨gm, 0, none⟩) (zs.map toDi) := by
                have := hMc13.take k
                rw [List.take_left' HLz.out] at this
                exact this
              have hx77 : w13.cell? ⟨gm, k * 3 + 1, none⟩ = some (.int .i64 (-77)) := by
                obtain ⟨g', e, _, h3⟩ := hMc13 k (by rw [List.length_append, HLz.out]; simp)
                cases e
                have h4 := h3 1 (by omega)
                have e5 : (zs.map toDi ++ [(⟨0, -77, []⟩ : Di)]).getD k zeroDi = ⟨0, -77, []⟩ := by
                  rw [List.getD, List.getElem?_append_right (by rw [HLz.out]; exact Nat.le_refl _), HLz.out, Nat.sub_self]
                  rfl
                rw [e5] at h4
                exact h4
              have hgl13 : gm < w13.heap.size := by
                obtain ⟨g', e, h2, _⟩ := hMc13 k (by rw [List.length_append, HLz.out]; simp)
                cases e
                exact h2
              have HX7 := Lib.hid (And.intro hgl13 hx77)
              have HMk := Lib.hid hMk13
              clear hMc13 hMk13 hx77 hgl13
              go_wp2_with fail
              refine (sameD_yes _ _ _ _ (ordL o f k) k (ordL_len o f k) (by omega) w13 hRo hRq).mono ?_
              rintro e w14 ⟨rfl, hb14⟩
              have HBw14 := Lib.hid (HBw.out.trans (hb14.mono hsz13))
              have HB14 := Lib.hid hb14
              clear hb14 hRo hRq
              go_wp2_with fail
              refine (sameD_in (some ⟨gm, 0, none⟩) a cm c k zs HN.out (by omega) w14 (HMk.out.below HB14.out) (isDIs_below H.out HBw14.out)).mono ?_
              rintro e w15 ⟨rfl, hb15⟩
              have hb1415 := HB14.out.trans (hb15.mono HB14.out.size)
              have hsz15 : w.heap.size ≤ w15.heap.size := Nat.le_trans hsz13 hb1415.size
              have hx15 : w15.cell? ⟨gm, k * 3 + 1, none⟩ = some (.int .i64 (-77)) := (hb1415.cell (p := ⟨gm, k * 3 + 1, none⟩) HX7.out.1).trans HX7.out.2
              have hfr2 : ∀ W : World, (Instr.slice 22 (.slice (some ⟨gm, 0, none⟩) k cm) none (some (.int .i64 ((k : Int) + 1))) none).run Tryd.prog W = .ok (.slice (some ⟨gm, 0, none⟩) (k + 1) cm) W := fun W => by
                have := run_front Tryd.underlying22 (z := 3) (fun w => by kernel_rfl) (.inr ⟨gm, rfl⟩) (n := k) (c := cm) (m := k + 1) (by omega) W
                rw [show ((k + 1 : Nat) : Int) = (k : Int) + 1 by omega] at this
                exact this
              have hix : (k : Int) < (k : Int) + 1 := by omega
              have KP := Lib.hid (apart_any w.heap.size (Bx + 1) _ _ _ _ V13 U13 (by omega) w15 (bookIs_below HBk13.out hb1415) hsz15)
              have HB15 := Lib.hid (HBw.out.trans (hb1415.mono hsz13))
              clear hb15 hb1415
              go_wp2_with fail
              refine KP.out.mono ?_
              rintro e w16 ⟨rfl, hb16⟩
              go_wp2
              go_ret
              exact ⟨rfl, HB15.out.trans hb16⟩
end Go.Proofs.YtgdnibdahldekabDoor
