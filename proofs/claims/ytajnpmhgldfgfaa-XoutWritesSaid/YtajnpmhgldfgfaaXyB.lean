/- The walk of the law XoutWrites. -/
import Derived.Test.YtajnpmhgldfgfaaXyPl
import Derived.Deep.DeepCutAuto
import Derived.Deep.CutBlock
import Derived.Deep.RegionHeld3
import Derived.Deep.RegionLaw
import Derived.Deep.AppendLies
import Derived.BigRegion
import Derived.Lib.Builder
namespace Go.Proofs.Ytajnpmhgldfgfaa
open Go.RowKit
set_option linter.unusedVariables false

set_option maxRecDepth 100000 in
set_option maxHeartbeats 16000000 in
theorem writes_off (a : Option Addr) (n c : Nat) (w : World) (ho : 60 < n) :
    Calls Try.prog 3 #[.slice a n c] w fun e w' => e = .returned (.bool true) ∧ Below w.heap.size w w' := by
  have HA := Lib.hid (alive9_any w)
  have q1 : (60 : Int) < (n : Int) := by omega
  go_enter Try.func3, Try.ntmps3
  go_wp2_with (go_at_call 4; refine HA.out.mono ?_; rintro e w1 ⟨rfl, hB⟩; have HB := Lib.hid hB; clear hB)
  go_ret
  exact ⟨rfl, HB.out⟩

set_option maxRecDepth 100000 in
set_option maxHeartbeats 64000000 in
theorem writes_on {w : World} {a : Option Addr} {c : Nat} {os : List OpW} (h : OpsRd w a os) (hn : os.length ≤ 60) (hbig : ∀ o ∈ os, OpBig o) :
    Calls Try.prog 3 #[.slice a os.length c] w fun e w' => e = .returned (.bool true) ∧ Below w.heap.size w w' := by
  have mixed : Try.prog.follows .mixedOrders = true := by kernel_rfl
  obtain ⟨n, hnn⟩ : ∃ n, os.length = n := ⟨_, rfl⟩
  have HN := Lib.hid hnn
  have HO := Lib.hid h
  have HBIG := Lib.hid hbig
  rw [hnn] at hn ⊢
  have HA := Lib.hid (alive9_any w)
  have q0 : ¬ (60 : Int) < (n : Int) := by omega
  clear hnn h hbig
  go_enter Try.func3, Try.ntmps3
  go_upto_block 0 with (go_at_call 4; refine HA.out.mono ?_; rintro e w2 ⟨rfl, hB⟩; have HB2 := Lib.hid hB; clear hB)
  go_cut [3, 4] (fun p q wr => RoomO os p ∧ Below w.heap.size w wr)
  case first => as_aux_lemma =>
    go_wp2
    go_loopw [3, 4] (fun p q wr => ∃ (i : Nat) (r : Int), q = .int .i64 (i : Nat) ∧ p = .int .i64 r ∧ i ≤ n ∧ SizesO os i r ∧ Below w.heap.size w wr) (fun p q wr => n - (intOf q).toNat)
    case atStart => exact ⟨0, 4000, rfl, rfl, Nat.zero_le _, ⟨by omega, by omega, fun j o hj => by omega, fun _ j o hj => by omega⟩, HB2.out⟩
    case round =>
      rename World => wr
      obtain ⟨i, r, rfl, rfl, hi, hr, hB⟩ := hrel
      have HB := Lib.hid hB
      have HR := Lib.hid hr
      have hr1 := hr.1
      have hr2 := hr.2.1
      clear hB hr
      by_cases hgo : i < n ∧ 0 ≤ r
      · obtain ⟨hlt, hr0⟩ := hgo
        obtain ⟨o, ho⟩ : ∃ o, os[i]? = some o := ⟨_, List.getElem?_eq_getElem (by rw [HN.out]; exact hlt)⟩
        have hbg := HBIG.out o (List.mem_of_getElem? ho)
        obtain ⟨b, p, pv, rfl, hb, c0, c1, c2, htx⟩ := HO.out i o ho
        obtain ⟨pa, pc, hpv, -, -⟩ := htx.rdx
        have HTX := Lib.hid htx
        have HOO := Lib.hid ho
        have HPV := Lib.hid hpv
        have z1 := hbg.s
        have z2 := hbg.ps
        have HZ3 := Lib.hid hbg.each
        obtain ⟨m, hm⟩ : ∃ m, o.ps.length = m := ⟨_, rfl⟩
        obtain ⟨sz, hsz⟩ : ∃ sz, o.s.size = sz := ⟨_, rfl⟩
        obtain ⟨nm, hnm⟩ : ∃ nm, o.s = nm := ⟨_, rfl⟩
        have HM := Lib.hid hm
        have HNM := Lib.hid hnm
        rw [hnm] at c1 hsz z1
        rw [hm] at hpv z2
        rw [hpv] at c2
        have HC5 := Lib.hid (fun (X : World) (hX : Below w.heap.size w X) => show X.cell? ⟨b, p + i * 3 + 1, none⟩ = some (.string nm) ∧ X.cell? ⟨b, p + i * 3 + 2, none⟩ = some (.slice pa m pc) from
          ⟨(hX.cell (p := ⟨b, p + i * 3 + 1, none⟩) hb).trans c1, (hX.cell (p := ⟨b, p + i * 3 + 2, none⟩) hb).trans c2⟩)
        obtain ⟨f1, f2⟩ := HC5.out wr HB.out
        have hlt2 : (i : Int) < (n : Int) := by omega
        have hi0 : (0 : Int) ≤ (i : Int) := by omega
        clear ho hbg c0 c1 c2 htx hpv hm hnm hsz
        go_upto_region 7 with (fail)
        go_region_held3 (fun W => W.cell? ⟨b, p + i * 3 + 1, none⟩ = some (.string nm) ∧ W.cell? ⟨b, p + i * 3 + 2, none⟩ = some (.slice pa m pc)) (go_keep)
          (first | (go_at_call 5; refine (room_two ((BlkAt.new wr _ _).drew) ⟨by omega, by omega⟩ ⟨by omega, by omega⟩ r hr1 (by omega)).mono ?_; rintro _ w5 ⟨rfl, hB5⟩; replace hB5 : Below wr.heap.size wr w5 := ((Below.refl _ wr).alloc (Nat.le_refl _) _).drew.trans (hB5.mono (by simp)); have HB5 := Lib.hid (HB.out.trans (hB5.mono HB.out.size)); obtain ⟨f1, f2⟩ := HC5.out w5 HB5.out; clear hB5))
        have HSh := Lib.hid (short_any (W := w5) (pv := .slice pa m pc) (ps := o.ps) (by have := (HTX.out.below HB5.out).str; rw [HPV.out, HM.out] at this; exact this) (by rw [HM.out]; exact z2) HZ3.out)
        have HST := Lib.hid (fun hs => HR.out.step HOO.out hr0 hs)
        rw [HNM.out, HM.out] at HST
        go_upto_if 59 with (go_at_call 6; refine HSh.out.mono ?_; rintro _ w6 ⟨q, rfl, hq, hB6⟩; have HQ := Lib.hid hq; have HB6 := Lib.hid (HB5.out.trans (hB6.mono HB5.out.size)); clear hq hB6)
        cases q with
        | false =>
          go_wp2
          go_ret
          exact ⟨rfl, HB6.out⟩
        | true =>
          have HS2 := Lib.hid (HST.out (by have := HQ.out rfl; rw [HM.out] at this; exact this))
          go_wp2
          go_roundw
          case rel => exact ⟨i + 1, _, by go_num, rfl, by omega, HS2.out, HB6.out⟩
          case measure => simp [intOf]; omega
      · have HX := Lib.hid (HR.out.room (by rw [HN.out]; omega))
        rcases Int.lt_or_le r 0 with hr0 | hr0
        · go_wp2
          all_goals
            go_meet
            exact ⟨HX.out, HB.out⟩
        · have hin : n ≤ i := by omega
          go_wp2
          go_meet
          exact ⟨HX.out, HB.out⟩
  case rest => as_aux_lemma =>
    rename World => wr
    obtain ⟨⟨r, rfl, hr⟩, hB⟩ := hcut
    have HB := Lib.hid hB
    clear hB
    rcases hr with hr | ⟨hr0, hok⟩
    · go_wp2
      go_ret
      exact ⟨rfl, HB.out⟩
    have HG := Lib.hid (good_run hok)
    have HOK := Lib.hid hok
    obtain ⟨wb, hwb⟩ : ∃ wb, wr.heap.size = wb := ⟨_, rfl⟩
    obtain ⟨W2, hW2⟩ : ∃ W2, wr.alloc (.cells #[.slice none 0 0, .slice none 0 0, .bool false, .int .i64 0] 36) = W2 := ⟨_, rfl⟩
    have hb2 : BlkAt W2 wb 36 #[.slice none 0 0, .slice none 0 0, .bool false, .int .i64 0] := by rw [← hW2, ← hwb]; exact BlkAt.new _ _ _
    have hB2 : Below w.heap.size w W2 := by rw [← hW2]; exact HB.out.alloc HB.out.size _
    have hlo : w.heap.size ≤ wb := by rw [← hwb]; exact HB.out.size
    have HL0 := Lib.hid (show LawL w.heap.size wb w os (.int .i64 0) (.slice none 0 0) (.int .i64 (-1)) (.int .i64 0) (.bool false) W2 from
      ⟨0, rfl, Nat.zero_le _, ⟨0, rfl, Nat.le_refl _, RootR.new⟩, rfl, rfl, [], _, _, [], ⟨WrI.new hb2 hlo, ElemsW.nil _ _ _ _, fun g hg => by
        rcases hg with hg | ⟨q, hq, -⟩
        · cases hg
        · cases hq⟩, hB2⟩)
    clear hok hb2 hB2
    go_upto_block 2 with (fail)

    clear hW2 hwb
    go_cut [6, 7, 8, 9] (fun rv ov rt bd V => LawR w.heap.size wb w (runW os) n rv ov rt bd V)
    case first => as_aux_lemma =>
      go_wp2
      go_loopw [6, 7, 8, 9, 10] (fun rv ov rt bd x V => LawL w.heap.size wb w os x rv ov rt bd V) (fun rv ov rt bd x V => n - (intOf x).toNat)
      case atStart => exact HL0.out
      case round =>
        rename World => V
        obtain ⟨k, rfl, hk, hL⟩ := hrel
        rw [HN.out] at hk
        by_cases hlt : k < n
        · obtain ⟨⟨rt, rfl, hrt, hroot⟩, rfl, rfl, es, ev, ovv, rs, hS, hBV⟩ := hL
          obtain ⟨o, ho⟩ : ∃ o, os[k]? = some o := ⟨_, List.getElem?_eq_getElem (by rw [HN.out]; exact hlt)⟩
          have hgood := HG.out k (by rw [HN.out]; omega)
          have HSN := Lib.hid (runW_snoc ho)
          have HOO := Lib.hid (HOK.out o (List.mem_of_getElem? ho))
          obtain ⟨b, p, pv, rfl, hb, c0, c1, c2, htx⟩ := HO.out k o ho
          obtain ⟨s, hs⟩ : ∃ s, runW (os.take k) = s := ⟨_, rfl⟩
          rw [hs] at hS hroot hgood HSN ⊢
          obtain ⟨els, op, more, bad⟩ := s
          obtain ⟨kd, nm, ps⟩ := o
          obtain ⟨pa, pc, rfl, -, -⟩ := id htx.rdx
          simp only at c0 c1 c2 htx
          obtain ⟨M, hM⟩ : ∃ M, ps.length = M := ⟨_, rfl⟩
          have HM := Lib.hid hM
          rw [hM] at c2 htx
          obtain ⟨O, hO⟩ : ∃ O, V.heap.size = O := ⟨_, rfl⟩
          obtain ⟨V1, hV1⟩ : ∃ V1, V.alloc (.cells #[.int .i64 kd, .string nm, .slice pa M pc] 27) = V1 := ⟨_, rfl⟩
          have HBK1 := Lib.hid (show BlkAt V1 O 27 #[.int .i64 kd, .string nm, .slice pa M pc] by rw [← hV1, ← hO]; exact BlkAt.new _ _ _)
          have hB01 : Below V.heap.size V V1 := by rw [← hV1]; exact (Below.refl _ V).alloc (Nat.le_refl _) _
          have HS1 := Lib.hid (hS.below hB01)
          have HB1 := Lib.hid (hBV.trans (hB01.mono hBV.size))
          have HNF := Lib.hid (hS.fresh (Nat.le_of_eq hO))
          have o0 := HBK1.out.cell 0
          have o1 := HBK1.out.cell 1
          have o2 := HBK1.out.cell 2
          have s0 := (hBV.cell (p := ⟨b, p + k * 3, none⟩) hb).trans c0
          have s1 := (hBV.cell (p := ⟨b, p + k * 3 + 1, none⟩) hb).trans c1
          have s2 := (hBV.cell (p := ⟨b, p + k * 3 + 2, none⟩) hb).trans c2
          have HTX := Lib.hid (fun (X : World) (hX : Below w.heap.size w X) => htx.below hX)
          have HSV := Lib.hid hS
          have HBV := Lib.hid hBV
          have HRT := Lib.hid hroot
          have HGD := Lib.hid hgood
          have q1 : (k : Int) < (n : Int) := by omega
          have q2 : (0 : Int) ≤ (k : Int) := by omega
          clear hb c0 c1 c2 htx hS hBV hroot hgood hs ho hM hB01
          obtain ⟨s2, hs2⟩ : ∃ s2, stepW ⟨els, op, more, bad⟩ ⟨kd, nm, ps⟩ = s2 := ⟨_, rfl⟩
          have HS2 := Lib.hid hs2
          rw [hs2] at HSN
          clear hs2
          go_upto_block 4 with (fail)
          clear hO hV1
          go_cut [6, 7, 8, 9, 12] (fun rv ov rt bd yv X => yv = .pointer (some ⟨wb, 0, none⟩) ∧ LawR w.heap.size wb w s2 (k + 1) rv ov rt bd X)
          case first => as_aux_lemma =>
            by_cases hk1 : kd = 1
            · subst hk1
              have hstep : s2 = openW nm ps ⟨els, op, more, bad⟩ := HS2.out.symm
              have hM20 : M ≤ 20 := by have := HOO.out.ps; rw [← HM.out]; exact this
              obtain ⟨hrs1, hrx1, -⟩ := (HTX.out V1 HB1.out).parts
              have HLT := Lib.hid (lent_any hrx1 HM.out (by omega))
              have HOP := Lib.hid (fun (es : List QW) (ev ov pv : Value) (X : World) (h : WrI w.heap.size wb els op more (codeW bad) es ev ov X) (hp : StrRd X pv ps) => open_any (s := ⟨els, op, more, bad⟩) nm h (by have := HGD.out.op; simp only at this ⊢; omega) (by have := HGD.out.els; simp only at this ⊢; omega) HGD.out.lt hp (by rw [HM.out]; omega) (fun x hx => by have := HOO.out.each x hx; omega) (by have := HOO.out.s; simp only at this; omega) (fun q hq => by have := (HGD.out.each q hq).kids; omega))
              have HSA := Lib.hid (fun (g cap : Nat) (X : World) (h : RdS X (some ⟨g, 0, none⟩) (ps ++ [markS])) (hc : M + 1 ≤ cap) (hy : RdS X pa ps) => stays_any (d := pc) h HM.out hc hy (by omega))
              clear hrs1 hrx1
              go_upto_region 30 with (first
                | (go_at_call 7; refine HLT.out.mono ?_; rintro _ w3 ⟨g, cap, rfl, hcap, hg1, hg2, hrow, hB3⟩; have HROW := Lib.hid hrow; have HS3 := Lib.hid (HS1.out.below hB3); have HB3 := Lib.hid (HB1.out.trans (hB3.mono HB1.out.size)); have hb3 := HBK1.out.below hB3 HBK1.out.lt; have HBK3 := Lib.hid hb3; have c31 := hb3.cell 1; have c32 := hb3.cell 2; clear hrow hB3 hb3)
                | (go_at_call 8; refine (HOP.out _ _ _ _ _ HS3.out.wr (strRd_own HROW.out HM.out)).mono ?_; rintro _ w4 ⟨rfl, hw4⟩; obtain ⟨es4, ev4, ov4, hS4, hB4, hK4⟩ := HS3.out.call2 hw4; have hb4 : BlkAt w4 O 27 #[.int .i64 1, .string nm, .slice pa M pc] := (hK4 O HBK3.out.lt HNF.out).trans HBK3.out; have HR4 := Lib.hid (rdS_blk (rdS_own2 HROW.out HM.out) (hK4 g hg2 (HS1.out.fresh hg1)) hB4.size); have HBK4 := Lib.hid hb4; have c41 := hb4.cell 1; have c42 := hb4.cell 2; have HS4 := Lib.hid hS4; have HB4 := Lib.hid (HB3.out.trans hB4); clear hw4 hS4 hB4 hK4 hb4)
                | (go_at_call 9; refine (HSA.out _ _ _ HR4.out hcap (HTX.out _ HB4.out).parts.1).mono ?_; rintro _ w5 ⟨rfl, hB5⟩; have HS5 := Lib.hid (HS4.out.below hB5); have HB5 := Lib.hid (HB4.out.trans (hB5.mono HB4.out.size)); have hb5 := HBK4.out.below hB5 HBK4.out.lt; have HBK5 := Lib.hid hb5; have c51 := hb5.cell 1; have c52 := hb5.cell 2; clear hB5 hb5))
              clear HLT HOP HSA HROW HS3 HB3 HBK3 HR4 HS4 HB4 HBK4 c31 c32 c41 c42 hg1 hg2 hcap
              have q5 : IntKind.i64.wrap ((M : Int) % 2) = (M : Int) % 2 := wrapo (by omega) (by omega)
              have q6 : (M : Int).tmod 2 = (M : Int) % 2 := Int.tmod_eq_emod_of_nonneg (by omega)
              cases bad with
              | true =>
                rw [openW_bad _ _ rfl] at HS5 hstep
                have HST := Lib.hid hstep
                clear hstep
                go_wp2
                go_meet
                exact ⟨rfl, by rw [HST.out]; exact ⟨⟨rt, rfl, by omega, HRT.out⟩, rfl, rfl, es4, ev4, ov4, rs, HS5.out, HB5.out⟩⟩
              | false =>
                by_cases hev : M % 2 = 1
                · rw [openW_odd _ rfl (by rw [HM.out]; exact hev)] at HS5 hstep
                  have HST := Lib.hid hstep
                  have q7 : (M : Int) % 2 = 1 := by omega
                  clear hstep
                  go_wp2
                  go_meet
                  exact ⟨rfl, by rw [HST.out]; exact ⟨⟨rt, rfl, by omega, HRT.out⟩, rfl, rfl, es4, ev4, ov4, rs, HS5.out, HB5.out⟩⟩
                · have q7 : (M : Int) % 2 = 0 := by omega
                  have HEV := Lib.hid hev
                  have hok := openW_ok nm (s := ⟨els, op, more, false⟩) (ps := ps) rfl (by rw [HM.out]; omega)
                  have HRK := Lib.hid (fun (h : op ≠ []) => (show RootR (openW nm ps ⟨els, op, more, false⟩) rt from HRT.out.kid rfl (by rw [HM.out]; omega) h HGD.out.lt))
                  have HRR := Lib.hid (fun (h : op = []) => (show RootR (openW nm ps ⟨els, op, more, false⟩) (rt + 1) from HRT.out.root rfl (by rw [HM.out]; omega) h))
                  obtain ⟨S, hSS⟩ : ∃ S, openW nm ps ⟨els, op, more, false⟩ = S := ⟨_, rfl⟩
                  rw [hSS] at HS5 hstep HRK HRR hok
                  have HST := Lib.hid hstep
                  have HOK2 := Lib.hid hok
                  obtain ⟨U, hU⟩ : ∃ U, upK op = U := ⟨_, rfl⟩
                  have HU := Lib.hid hU
                  obtain ⟨E, hE⟩ : ∃ E, w5.heap.size = E := ⟨_, rfl⟩
                  obtain ⟨w6, hw6⟩ : ∃ w6, w5.alloc (.cells #[.string nm, .int .i64 0, .int .i64 U, .slice none 0 0, .slice none 0 0, .string ⟨#[]⟩] 43) = w6 := ⟨_, rfl⟩
                  have HBE6 := Lib.hid (show BlkAt w6 E 43 #[.string nm, .int .i64 0, .int .i64 U, .slice none 0 0, .slice none 0 0, .string ⟨#[]⟩] by rw [← hw6, ← hE]; exact BlkAt.new _ _ _)
                  have HB56 := Lib.hid (show Below E w5 w6 by rw [← hw6, ← hE]; exact (Below.refl _ w5).alloc (Nat.le_refl _) _)
                  have HEW := Lib.hid hE
                  have HW6 := Lib.hid hw6
                  rw [hU]
                  clear hok hstep hSS hev hU hw6
                  go_upto_region 33 with (fail)
                  rw [HW6.out]
                  obtain ⟨N, hN⟩ : ∃ N, rs.length = N := ⟨_, rfl⟩
                  obtain ⟨ra, rc, hrv⟩ := ownsRow_slice' HS5.out.el.row
                  rw [hN] at hrv
                  subst hrv
                  have HN5 := Lib.hid hN
                  have hzE : w.heap.size ≤ E := by rw [← hE]; exact HB5.out.size
                  have hOE : O < E := by rw [← hE]; exact HBK5.out.lt
                  have HBO := Lib.hid (fun (X : World) (hX : Below E w5 X) => show BlkAt X O 27 #[.int .i64 1, .string nm, .slice pa M pc] from HBK5.out.below hX hOE)
                  have HBX := Lib.hid (fun (X : World) (hX : Below E w5 X) => show Below w.heap.size w X from HB5.out.trans (hX.mono hzE))
                  have HS6 := Lib.hid (fun (X : World) (hX : Below E w5 X) => show LawS w.heap.size wb S els es4 ev4 ov4 rs (.slice ra N rc) X from HS5.out.below (by rw [hE]; exact hX))
                  clear hN hE c51 c52 s0 s1 o0 o1 o2
                  go_upto_block 5 with (fail)
                  go_cut [15] (fun x X => ∃ av, BlkAt X E 43 #[.string nm, .int .i64 0, .int .i64 U, av, .slice none 0 0, .string ⟨#[]⟩] ∧ AttrsW 45 E X (pairA ps) av ∧ Below E w5 X)
                  case first => as_aux_lemma =>
                    go_wp2
                    go_loopw [15] (fun x X => ∃ (j : Nat) (av : Value), x = .int .i64 ((2 * j : Nat) : Int) ∧ 2 * j ≤ M ∧ BlkAt X E 43 #[.string nm, .int .i64 0, .int .i64 U, av, .slice none 0 0, .string ⟨#[]⟩] ∧ AttrsW 45 E X ((pairA ps).take j) av ∧ Below E w5 X) (fun x X => M - (intOf x).toNat)
                    case atStart => exact ⟨0, .slice none 0 0, rfl, Nat.zero_le _, HBE6.out, by rw [List.take_zero]; exact World.ownsRow_nil _ _ _ _, HB56.out⟩
                    case round =>
                      rename World => Z
                      obtain ⟨j, av, rfl, hj, hbk, hat, hbw⟩ := hrel
                      have HBK := Lib.hid hbk
                      have HAT := Lib.hid hat
                      have HBW := Lib.hid hbw
                      have o2 := (HBO.out Z hbw).cell 2
                      obtain ⟨i, hi⟩ : ∃ i, 2 * j = i := ⟨_, rfl⟩
                      rw [hi] at hj ⊢
                      have HI := Lib.hid hi
                      by_cases hlt : i < M
                      · have hi1 : i + 1 < M := by have := HEV.out; omega
                        obtain ⟨x0, hx0⟩ : ∃ x, ps[2 * j]? = some x := ⟨_, List.getElem?_eq_getElem (by rw [HM.out]; omega)⟩
                        obtain ⟨x1, hx1⟩ : ∃ x, ps[2 * j + 1]? = some x := ⟨_, List.getElem?_eq_getElem (by rw [HM.out]; omega)⟩
                        obtain ⟨pb, po, rfl, hpb, hp3⟩ := (HTX.out w (Below.refl _ _)).str.at_ (by rw [HM.out]; omega)
                        have HPP := Lib.hid (fun (X : World) (hX : Below E w5 X) (i : Nat) (x : ByteArray) (h : w.cell? ⟨pb, po + i, none⟩ = some (.string x)) => ((HBX.out X hX).cell (p := ⟨pb, po + i, none⟩) hpb).trans h)
                        have hr0 := hp3 _ _ hx0
                        have hr1 := hp3 _ _ hx1
                        rw [hi] at hr0 hr1
                        have HPT := Lib.hid (pairA_take ps j x0 x1 hx0 hx1)
                        obtain ⟨ka, kc, rfl⟩ := ownsRow_slice' hat
                        obtain ⟨ln, hln⟩ : ∃ ln, ((pairA ps).take j).length = ln := ⟨_, rfl⟩
                        have hln2 : ln ≤ 1000 := by rw [← hln, List.length_take]; omega
                        have HLN := Lib.hid hln
                        have HROW := Lib.hid (show Z.ownsRow E 45 3 (.slice ka ln kc) ln (((pairA ps).take j).flatMap aCells) by have := hat; unfold AttrsW at this; rw [hln] at this; exact this)
                        rw [hln] at HBK
                        have e3 := HBK.out.cell 3
                        have f3 := HBK.out.frozen 3
                        have zE := HBK.out.lt
                        have k3 : (Z.drew.alloc (.cells #[.string x0, .string x1, .int .i64 0] 45)).cell? ⟨E, 3, none⟩ = some (.slice ka ln kc) := (HBK.out.drew.alloc _).cell 3
                        have m1 : IntKind.i64.wrap ((i : Int) + 1) = (i : Int) + 1 := wrapo (by omega) (by omega)
                        have q5a : (0 : Int) ≤ (i : Int) := by omega
                        have q5b : (0 : Int) ≤ (i : Int) + 1 := by omega
                        have q6a : (i : Int) < (M : Int) := by omega
                        have q7a : (i : Int) + 1 < (M : Int) := by omega
                        have t1 : ((i : Int) + 1).toNat = i + 1 := by omega
                        obtain ⟨i0, hi0, hz0, hz1, hz2⟩ := info_parts infoRA
                        have HPR := Lib.hid (show (∀ X, Below E w5 X → X.cell? ⟨pb, po + i, none⟩ = some (.string x0)) ∧ ∀ X, Below E w5 X → X.cell? ⟨pb, po + (i + 1), none⟩ = some (.string x1) from
                          ⟨fun X hX => HPP.out X hX _ _ hr0, fun X hX => HPP.out X hX _ _ hr1⟩)
                        clear hbk hat hbw hi hp3 hx0 hx1 hln hpb HPP hr0 hr1
                        -- REG36
                        obtain ⟨Zd, hZd⟩ : ∃ Zd, Z.drew = Zd := ⟨_, rfl⟩
                        have HBd := Lib.hid (show Below E w5 Zd by rw [← hZd]; exact HBW.out.drew)
                        have HBKd := Lib.hid (show BlkAt Zd E 43 #[.string nm, .int .i64 0, .int .i64 U, .slice ka ln kc, .slice none 0 0, .string ⟨#[]⟩] by rw [← hZd]; exact HBK.out.drew)
                        have HROWd := Lib.hid (show Zd.ownsRow E 45 3 (.slice ka ln kc) ln (((pairA ps).take j).flatMap aCells) by rw [← hZd]; exact HROW.out.drew)
                        have HSP := Lib.hid (fun (X : World) (hX : Below E w5 X) (hb : BlkAt X E 43 #[.string nm, .int .i64 0, .int .i64 U, .slice ka ln kc, .slice none 0 0, .string ⟨#[]⟩]) => show X.cell? ⟨E, 3, none⟩ = some (.slice ka ln kc) ∧ X.cell? ⟨O, 2, none⟩ = some (.slice (some ⟨pb, po, none⟩) M pc) ∧ X.cell? ⟨pb, po + i, none⟩ = some (.string x0) ∧ X.cell? ⟨pb, po + (i + 1), none⟩ = some (.string x1) from
                          ⟨hb.cell 3, (HBO.out X hX).cell 2, HPR.out.1 X hX, HPR.out.2 X hX⟩)
                        have zEd := HBKd.out.lt
                        go_upto_region 36 with (fail)
                        refine wp_region_K 17 (fun w => w.cell? ⟨E, 3, none⟩ = some (.slice ka ln kc) ∧ w.cell? ⟨O, 2, none⟩ = some (.slice (some ⟨pb, po, none⟩) M pc) ∧ w.cell? ⟨pb, po + i, none⟩ = some (.string x0) ∧ w.cell? ⟨pb, po + (i + 1), none⟩ = some (.string x1)) mixed ?_
                        rw [hZd]
                        clear hZd
                        change wpAnyK _ _ _ _ _ _ 18 (Array.replicate 18 false) _ _
                        refine wpAnyK_take2 0 122 (v := (.pointer (some ⟨E, 3, none⟩))) rfl rfl (by kernel_rfl) (by kernel_rfl) (fun _ _ _ h => h) ⟨by rfl, by intro w; first | (go_simp; done) | (go_simp; rfl)⟩ (fun _ => (HSP.out Zd HBd.out HBKd.out)) ?_
                        simp only [List.set_cons_succ, List.set_cons_zero]
                        refine wpAnyK_load2 1 123 (v := (.slice ka ln kc)) rfl rfl (by kernel_rfl) (by kernel_rfl) (fun _ _ _ h => h) (.inl ⟨by rfl, by rintro w ⟨s0, s1, s2, s3⟩; first | (go_simp; done) | (go_simp; rfl)⟩) (HSP.out Zd HBd.out HBKd.out) (fun _ => ?_)
                        simp only [List.set_cons_succ, List.set_cons_zero]
                        refine wpAnyK_take2 2 124 (v := (.pointer (some ⟨O, 2, none⟩))) rfl rfl (by kernel_rfl) (by kernel_rfl) (fun _ _ _ h => h) ⟨by rfl, by intro w; first | (go_simp; done) | (go_simp; rfl)⟩ (fun _ => (HSP.out Zd HBd.out HBKd.out)) ?_
                        simp only [List.set_cons_succ, List.set_cons_zero]
                        refine wpAnyK_load2 3 125 (v := (.slice (some ⟨pb, po, none⟩) M pc)) rfl rfl (by kernel_rfl) (by kernel_rfl) (fun _ _ _ h => h) (.inl ⟨by rfl, by rintro w ⟨s0, s1, s2, s3⟩; first | (go_simp; done) | (go_simp; rfl)⟩) (HSP.out Zd HBd.out HBKd.out) (fun _ => ?_)
                        simp only [List.set_cons_succ, List.set_cons_zero]
                        refine wpAnyK_take2 4 126 (v := (.int .i64 (i : Nat))) rfl rfl (by kernel_rfl) (by kernel_rfl) (fun _ _ _ h => h) ⟨by rfl, by intro w; first | (go_simp; done) | (go_simp; rfl)⟩ (fun _ => (HSP.out Zd HBd.out HBKd.out)) ?_
                        simp only [List.set_cons_succ, List.set_cons_zero]
                        refine wpAnyK_take2 5 127 (v := (.pointer (some ⟨pb, po + i, none⟩))) rfl rfl (by kernel_rfl) (by kernel_rfl) (fun _ _ _ h => h) ⟨by rfl, by intro w; first | (go_simp; done) | (go_simp; rfl)⟩ (fun _ => (HSP.out Zd HBd.out HBKd.out)) ?_
                        simp only [List.set_cons_succ, List.set_cons_zero]
                        refine wpAnyK_load2 6 128 (v := (.string x0)) rfl rfl (by kernel_rfl) (by kernel_rfl) (fun _ _ _ h => h) (.inl ⟨by rfl, by rintro w ⟨s0, s1, s2, s3⟩; first | (go_simp; done) | (go_simp; rfl)⟩) (HSP.out Zd HBd.out HBKd.out) (fun _ => ?_)
                        simp only [List.set_cons_succ, List.set_cons_zero]
                        refine wpAnyK_take2 7 129 (v := (.pointer (some ⟨O, 2, none⟩))) rfl rfl (by kernel_rfl) (by kernel_rfl) (fun _ _ _ h => h) ⟨by rfl, by intro w; first | (go_simp; done) | (go_simp; rfl)⟩ (fun _ => (HSP.out Zd HBd.out HBKd.out)) ?_
                        simp only [List.set_cons_succ, List.set_cons_zero]
                        refine wpAnyK_load2 8 130 (v := (.slice (some ⟨pb, po, none⟩) M pc)) rfl rfl (by kernel_rfl) (by kernel_rfl) (fun _ _ _ h => h) (.inl ⟨by rfl, by rintro w ⟨s0, s1, s2, s3⟩; first | (go_simp; done) | (go_simp; rfl)⟩) (HSP.out Zd HBd.out HBKd.out) (fun _ => ?_)
                        simp only [List.set_cons_succ, List.set_cons_zero]
                        refine wpAnyK_take2 9 131 (v := (.int .i64 (i : Nat))) rfl rfl (by kernel_rfl) (by kernel_rfl) (fun _ _ _ h => h) ⟨by rfl, by intro w; first | (go_simp; done) | (go_simp; rfl)⟩ (fun _ => (HSP.out Zd HBd.out HBKd.out)) ?_
                        simp only [List.set_cons_succ, List.set_cons_zero]
                        refine wpAnyK_take2 10 132 (v := (.int .i64 ((i : Int) + 1))) rfl rfl (by kernel_rfl) (by kernel_rfl) (fun _ _ _ h => h) ⟨by rfl, by intro w; first | (go_simp; done) | (go_simp; rfl)⟩ (fun _ => (HSP.out Zd HBd.out HBKd.out)) ?_
                        simp only [List.set_cons_succ, List.set_cons_zero]
                        refine wpAnyK_take2 11 133 (v := (.pointer (some ⟨pb, po + (i + 1), none⟩))) rfl rfl (by kernel_rfl) (by kernel_rfl) (fun _ _ _ h => h) ⟨by rfl, by intro w; first | (go_simp; done) | (go_simp; rfl)⟩ (fun _ => (HSP.out Zd HBd.out HBKd.out)) ?_
                        simp only [List.set_cons_succ, List.set_cons_zero]
                        refine wpAnyK_load2 12 134 (v := (.string x1)) rfl rfl (by kernel_rfl) (by kernel_rfl) (fun _ _ _ h => h) (.inl ⟨by rfl, by rintro w ⟨s0, s1, s2, s3⟩; first | (go_simp; done) | (go_simp; rfl)⟩) (HSP.out Zd HBd.out HBKd.out) (fun _ => ?_)
                        simp only [List.set_cons_succ, List.set_cons_zero]
                        refine wpAnyK_take2 13 135 (v := (.agg #[.string x0, .string x1, .int .i64 0])) rfl rfl (by kernel_rfl) (by kernel_rfl) (fun _ _ _ h => h) ⟨by rfl, by intro w; first | (go_simp; done) | (go_simp; rfl)⟩ (fun _ => (HSP.out Zd HBd.out HBKd.out)) ?_
                        simp only [List.set_cons_succ, List.set_cons_zero]
                        refine wpAnyK_one 14 rfl (by kernel_rfl) ?_
                        intro K14 hK14
                        go_simp
                        refine hK14.out _ _ (fun _ => HSP.out _ (HBd.out.alloc (Nat.le_of_lt zEd) _) (HBKd.out.alloc _)) ?_
                        clear hK14 K14
                        obtain ⟨Z1, hZ1⟩ : ∃ X', Zd.alloc (.cells #[.string x0, .string x1, .int .i64 0] 45) = X' := ⟨_, rfl⟩
                        have HB1d := Lib.hid (show Below E w5 Z1 by rw [← hZ1]; exact HBd.out.alloc (Nat.le_of_lt zEd) _)
                        have HBK1d := Lib.hid (show BlkAt Z1 E 43 #[.string nm, .int .i64 0, .int .i64 U, .slice ka ln kc, .slice none 0 0, .string ⟨#[]⟩] by rw [← hZ1]; exact HBKd.out.alloc _)
                        have HROW1d := Lib.hid (show Z1.ownsRow E 45 3 (.slice ka ln kc) ln (((pairA ps).take j).flatMap aCells) by rw [← hZ1]; exact HROWd.out.alloc _)
                        have HT1d := Lib.hid (show BlkAt Z1 Zd.heap.size 45 #[.string x0, .string x1, .int .i64 0] by rw [← hZ1]; exact BlkAt.new _ _ _)
                        rw [hZ1]
                        clear hZ1
                        refine wpAnyK_one2 15 137 rfl rfl (by kernel_rfl) ?_
                        intro K15 hK15
                        refine step_append_lies _ (by rfl) _ _ _ (by rfl) E 45 i0 _ 3 40 Try.underlying41 hi0 hz0 hz1 hz2 rfl (by omega) (.slice ka ln kc) ln (((pairA ps).take j).flatMap aCells) (by rfl) HROW1d.out ⟨Zd.heap.size, 0, none⟩ 1 1 [.string x0, .string x1, .int .i64 0] (by rfl) (by rfl) (World.news_of_block (cs := #[.string x0, .string x1, .int .i64 0]) HT1d.out) (by simp [Value.oneCell']) (by omega) (by unfold maxLen; omega) (by omega) (Nat.le_of_lt HBK1d.out.lt) _ rfl ?_
                        intro gg kc2 w7 hown hgrow hat6 hlt6
                        have hE7 := HBK1d.out.grown hgrow (fun e => blk_ne HROW1d.out HBK1d.out (by decide) e.symm)
                        have e6 := hE7.cell 3
                        have f6 := hE7.frozen 3
                        have HE7 := Lib.hid hE7
                        have HO7 := Lib.hid hown
                        have HB7 := Lib.hid (show Below E w5 w7 from HB1d.out.grown hgrow (Nat.le_of_lt HBK1d.out.lt) (fun kk e => (HROW1d.out.lt kk e).1))
                        refine hK15.out _ _ (fun _ => HSP.out _ HB7.out HE7.out) ?_
                        clear hK15 K15 hown hgrow hat6 hlt6 hE7
                        simp only [List.set_cons_succ, List.set_cons_zero]
                        refine wpAnyK_take2 16 138 (v := (.pointer (some ⟨E, 3, none⟩))) rfl rfl (by kernel_rfl) (by kernel_rfl) (fun _ _ _ h => h) ⟨by rfl, by intro w; first | (go_simp; done) | (go_simp; rfl)⟩ (fun _ => HSP.out _ HB7.out HE7.out) ?_
                        simp only [List.set_cons_succ, List.set_cons_zero]
                        refine wpAnyK_one 17 rfl (by kernel_rfl) ?_
                        intro K17 hK17
                        go_simp
                        refine hK17.out _ _ (fun h => nomatch (show true = false from h)) ?_
                        clear hK17 K17
                        refine wpAnyK_done (by kernel_rfl) ?_ _
                        go_wp2
                        go_roundw
                        case rel =>
                          obtain ⟨g1, g2⟩ := HPT.out
                          have hs := HE7.out.set 3 (.slice (some ⟨gg, 0, none⟩) (ln + 1) kc2)
                          refine ⟨j + 1, .slice (some ⟨gg, 0, none⟩) (ln + 1) kc2, by rw [← HI.out]; go_num, by rw [Nat.mul_add, HI.out]; omega, hs, ?_, HB7.out.setCell (p := ⟨E, 3, none⟩) (Nat.le_refl _) _⟩
                          unfold AttrsW
                          rw [g1, List.length_append, List.flatMap_append, HLN.out]
                          exact (show w7.ownsRow E 45 3 (.slice (some ⟨gg, 0, none⟩) (ln + 1) kc2) (ln + 1) (((pairA ps).take j).flatMap aCells ++ [.string x0, .string x1, .int .i64 0]) from HO7.out).kept (grown_set w7 E 3 _) (.inr (blk_ne HO7.out HE7.out (by decide)))
                        case measure => simp [intOf]; omega
                        -- REG36END
                      · have hMi : M = i := by omega
                        have q8 : ¬ (i : Int) < (M : Int) := by omega
                        have hjl : (pairA ps).take j = pairA ps := List.take_of_length_le (by rw [pairA_len, HM.out]; omega)
                        rw [hjl] at HAT
                        clear hbk hat hbw hi hMi hjl
                        go_wp2
                        go_meet
                        exact ⟨av, HBK.out, HAT.out, HBW.out⟩
                  case rest => as_aux_lemma =>
                    rename World => X
                    obtain ⟨av, hbk, hat, hbw⟩ := hcut
                    obtain ⟨va, vn, vc, hav⟩ := own_sl hat
                    subst hav
                    have HBE := Lib.hid hbk
                    have HAT := Lib.hid hat
                    have HSX := Lib.hid (HS6.out X hbw)
                    have HBX1 := Lib.hid (HBX.out X hbw)
                    have zX : E < X.heap.size := hbk.lt
                    have HNE := Lib.hid (show N = els.length by rw [← HN5.out]; exact HSX.out.el.len)
                    have hNle : N ≤ 60 := by have := HGD.out.els; have h3 := HNE.out; simp only at this; omega
                    have q6n : (N : Int) ≤ 60 := by omega
                    clear hbk hat hbw q5 q6 q7
                    go_upto_if 140 with (fail)
                    go_cut [8] (fun x Y => ∃ (r' : Nat) (rs' : List QW), x = .int .i64 (r' : Nat) ∧ r' ≤ k + 1 ∧ RootR S r' ∧ LawS w.heap.size wb S (elsK els op) es4 ev4 ov4 rs' (.slice ra N rc) Y ∧ rs'.length = N ∧ BlkAt Y E 43 #[.string nm, .int .i64 0, .int .i64 U, .slice va vn vc, .slice none 0 0, .string ⟨#[]⟩] ∧ AttrsW 45 E Y (pairA ps) (.slice va vn vc) ∧ Below w.heap.size w Y)
                    case first => as_aux_lemma =>
                      cases op with
                      | nil =>
                        obtain rfl : U = -1 := HU.out.symm
                        have HRN := Lib.hid (HRR.out rfl)
                        go_wp2
                        go_meet
                        exact ⟨rt + 1, rs, by go_num, by omega, HRN.out, HSX.out, HN5.out, HBE.out, HAT.out, HBX1.out⟩
                      | cons u t =>
                        obtain rfl : U = (u : Int) := HU.out.symm
                        have HRN := Lib.hid (HRK.out (List.cons_ne_nil _ _))
                        obtain ⟨q, g9, cap9, hq, hqe, hrv, hg0, -, hul⟩ := HSX.out.at_ (u := u) (HGD.out.lt u List.mem_cons_self)
                        rw [HN5.out] at hrv hul
                        simp only [Value.slice.injEq] at hrv
                        obtain ⟨rfl, -, rfl⟩ := hrv
                        have hgE : g9 < E := by
                          have h1 := HS5.out.el.row
                          have h2 := own_lt h1 (rfl : (Value.slice (some ⟨g9, 0, none⟩) N rc).ownBlock = some g9)
                          rw [HEW.out] at h2
                          exact h2
                        obtain ⟨ka, kn, kc0, hkv⟩ := own_sl (HSX.out.el.kids q (List.mem_of_getElem? hq))
                        have hkn : q.1.kids.length = kn := by
                          obtain ⟨b', c', hb'⟩ := ownsRow_slice' (HSX.out.el.kids q (List.mem_of_getElem? hq))
                          rw [hkv] at hb'
                          simp only [Value.slice.injEq] at hb'
                          exact hb'.2.1.symm
                        have hkb : kn ≤ 60 := by rw [← hkn]; have := (HGD.out.each _ (List.mem_of_getElem? hqe)).kids; omega
                        have HKV := Lib.hid hkv
                        have HKN := Lib.hid hkn
                        have HQ := Lib.hid hq
                        have HKR := Lib.hid (show X.ownsRow w.heap.size 3 1 (.slice ka kn kc0) kn (intCells q.1.kids) from by
                          have := HSX.out.el.kids q (List.mem_of_getElem? HQ.out)
                          unfold IntsAt at this
                          rw [HKV.out, HKN.out] at this
                          exact this)
                        have HF3 := Lib.hid (fun (Z : World) (hZ : Below X.heap.size X Z) => show Z.cell? ⟨g9, u * 6 + 4, none⟩ = some (.slice ka kn kc0) ∧ Z.frozen? ⟨g9, u * 6 + 4, none⟩ = false from by
                          have h1 := (HSX.out.below hZ).el
                          rw [← HN5.out] at h1
                          have h2 := h1.cell (i := 4) HQ.out (by omega)
                          rw [show (wCells q)[4]? = some q.2.2 from rfl, HKV.out] at h2
                          exact h2)
                        obtain ⟨kc3, kf3⟩ := HF3.out X (Below.refl _ _)
                        have HROX := Lib.hid (show X.ownsRow w.heap.size 43 6 (.slice (some ⟨g9, 0, none⟩) N rc) N (rs.flatMap wCells) from by
                          have h1 := HSX.out.el.row
                          rw [HN5.out] at h1
                          exact h1)
                        have p3 : (0 : Int) ≤ (u : Int) := by omega
                        have p3b : ¬ (u : Int) < 0 := by omega
                        have p4 : (u : Int) < (N : Int) := by omega
                        have zgX : g9 < X.heap.size := by omega
                        obtain ⟨j0, hj0, hy0, hy1, hy2⟩ := info_parts infoInt
                        clear hq hqe hkv hkn hul kf3
                        go_wp2_with (at_builtin; refine wpList_append_lies _ rfl _ _ _ rfl w.heap.size 3 j0 _ 1 8 Try.underlying33 hj0 hy0 hy1 hy2 rfl (by omega) (.slice ka kn kc0) kn (intCells q.1.kids) (by rfl) (HKR.out.alloc _) ⟨X.heap.size, 0, none⟩ 1 1 [.int .i64 N] (by rfl) (by rfl) (cell_one_new _ _ _) (by simp [Value.oneCell']) (by omega) (by unfold maxLen; omega) (by omega) (by simp; omega) (X.heap.size + 1) (by simp) ?_; intro kg kc w7 hown hgrow hat hlt6; have HO7 := Lib.hid hown; have HG7 := Lib.hid hgrow; have HA7 := Lib.hid hat; have hW3a := ((Below.refl X.heap.size X).alloc (Nat.le_refl _) (.cells #[.int .i64 N] 3)); have hne6 : some g9 ≠ (Value.slice ka kn kc0).ownBlock := (fun e => own_ne (HROX.out.alloc (.cells #[.int .i64 N] 3)) (HKR.out.alloc (.cells #[.int .i64 N] 3)) (by decide) rfl e.symm); have kc6 := (hgrow.cell_far ⟨g9, u * 6 + 4, none⟩ (by simp; omega) hne6).trans (HF3.out _ hW3a).1; have kf6 := (hgrow.frozen_far ⟨g9, u * 6 + 4, none⟩ (by simp; omega) hne6).trans (HF3.out _ hW3a).2; clear hown hgrow hat hW3a hne6)
                        go_meet
                        have hSa : LawS w.heap.size wb S els es4 ev4 ov4 rs (.slice (some ⟨g9, 0, none⟩) rs.length rc) (X.alloc (.cells #[.int .i64 N] 3)) := by
                          rw [HN5.out]
                          exact HSX.out.below ((Below.refl _ X).alloc (Nat.le_refl _) _)
                        have hk := hSa.rkid (n := N) (gg := kg) (kc := kc) HQ.out (by rw [HKN.out]; exact HO7.out) (by rw [HKV.out]; exact HG7.out) (by rw [HKV.out]; rcases HA7.out with h1 | h1; exact .inl h1; exact .inr (by simpa using h1))
                        rw [HKN.out, HN5.out] at hk
                        have hels : elsK els (u :: t) = els.modify u (addK N) := by rw [HNE.out]; rfl
                        have hbE := ((HBE.out.alloc (.cells #[.int .i64 N] 3)).grown HG7.out (fun e => blk_ne (HKR.out.alloc (.cells #[.int .i64 N] 3)) (HBE.out.alloc (.cells #[.int .i64 N] 3)) (by decide) e.symm)).far (p := ⟨g9, u * 6 + 4, none⟩) (show E ≠ g9 by omega) (.slice (some ⟨kg, 0, none⟩) (kn + 1) kc)
                        have hA7 : AttrsW 45 E (w7.setCell ⟨g9, u * 6 + 4, none⟩ (.slice (some ⟨kg, 0, none⟩) (kn + 1) kc)) (pairA ps) (.slice va vn vc) :=
                          ((KeepT.grown (HKR.out.alloc (.cells #[.int .i64 N] 3)) (by decide) HG7.out).owns (HAT.out.alloc _)).kept (grown_set w7 g9 _ _) (.inr (fun e => by have := (HAT.out.lt g9 e).1; omega))
                        exact ⟨rt, _, rfl, by omega, HRN.out, by rw [hels]; exact hk.1, by rw [List.length_set]; exact HN5.out, hbE, hA7, (HBX1.out.alloc HBX1.out.size _).trans hk.2⟩
                    case rest => as_aux_lemma =>
                      rename World => Y
                      obtain ⟨r', rs', rfl, hr', hroot', hS', hN', hbk, hat, hB⟩ := hcut
                      have HSY := Lib.hid hS'
                      have HNY := Lib.hid hN'
                      have HRY := Lib.hid hroot'
                      have HAY := Lib.hid hat
                      have HBY := Lib.hid hB
                      have HLD := Lib.hid ((show AggT Try.prog 43 6 from ⟨_, Try.underlying43, rfl, by kernel_rfl⟩).load rfl hbk)
                      have HROY := Lib.hid (show Y.ownsRow w.heap.size 43 6 (.slice ra N rc) N (rs'.flatMap wCells) from by
                        have h1 := hS'.el.row
                        rw [hN'] at h1
                        exact h1)
                      have zY := hB.size
                      obtain ⟨i1, hi1, hz0, hz1, hz2⟩ := info_parts infoRE
                      clear hroot' hS' hN' hbk hat hB
                      go_wp2_with (first | (refine wpList_loadS rfl rfl (by rfl) HLD.out ?_) | (refine wpList_valueS rfl (run_buildRE _ _ (.tmp 157) (.string nm) (.int .i64 0) (.int .i64 U) (.slice va vn vc) (.slice none 0 0) (.string ⟨#[]⟩) rfl (by rfl) _) ?_) | (at_builtin; refine wpList_append_lies _ rfl _ _ _ rfl w.heap.size 43 i1 _ 6 96 Try.underlying37 hi1 hz0 hz1 hz2 rfl (by omega) (.slice ra N rc) N (rs'.flatMap wCells) (by rfl) (HROY.out.alloc _) ⟨Y.heap.size, 0, none⟩ 1 1 [.string nm, .int .i64 0, .int .i64 U, .slice va vn vc, .slice none 0 0, .string ⟨#[]⟩] (by rfl) (by rfl) (World.news_of_block (cs := #[.string nm, .int .i64 0, .int .i64 U, .slice va vn vc, .slice none 0 0, .string ⟨#[]⟩]) (t := 43) (fr := (0, 0)) (heap_alloc_new Y _)) (by simp [Value.oneCell']) (by omega) (by unfold maxLen; omega) (by omega) (by simp; omega) (Y.heap.size + 1) (by simp) ?_; intro kg kc w8 hown hgrow hat hlt6; have HO8 := Lib.hid hown; have HG8 := Lib.hid hgrow; have HA8 := Lib.hid hat; clear hown hgrow hat))
                      go_meet
                      have hSa : LawS w.heap.size wb S (elsK els op) es4 ev4 ov4 rs' (.slice ra N rc) (Y.alloc (.cells #[.string nm, .int .i64 0, .int .i64 U, .slice va vn vc, .slice none 0 0, .string ⟨#[]⟩] 43)) := HSY.out.below ((Below.refl _ Y).alloc (Nat.le_refl _) _)
                      have hp := hSa.rpush (gg := kg) (kc := kc) (⟨nm, U, pairA ps, [], ⟨#[]⟩⟩, .slice va vn vc, .slice none 0 0) (ownsRow_mono (HAY.out.alloc _) hzE) (fun kk hk => HS5.out.fresh (by rw [HEW.out]; exact (HAY.out.lt kk hk).1)) rfl rfl (by rw [HNY.out]; exact HO8.out) HG8.out (by rcases HA8.out with h1 | h1; exact .inl h1; exact .inr (by simpa using h1))
                      rw [HNY.out] at hp
                      have he : S.els = elsK els op ++ [⟨nm, U, pairA ps, [], ⟨#[]⟩⟩] := by
                        have := congrArg WS.els HOK2.out
                        simp only [HU.out] at this
                        exact this
                      have ho : S.op = els.length :: op := congrArg WS.op HOK2.out
                      have hb : S.bad = false := congrArg WS.bad HOK2.out
                      refine ⟨rfl, ?_⟩
                      rw [HST.out]
                      refine ⟨⟨r', rfl, hr', HRY.out⟩, ?_, ?_, es4, ev4, ov4, _, by rw [he]; exact hp.1, (HBY.out.alloc HBY.out.size _).trans hp.2⟩
                      · rw [ho, HNE.out]
                        try rfl
                      · rw [hb]
            by_cases hk2 : kd = 2
            · subst hk2
              have hstep : s2 = textW nm ⟨els, op, more, bad⟩ := HS2.out.symm
              have HT := Lib.hid (text_any (s := ⟨els, op, more, bad⟩) nm HS1.out.wr (by have := HGD.out.op; simp only at this ⊢; omega) (by have := HGD.out.els; simp only at this ⊢; omega) HGD.out.lt (fun e he => by have := (HGD.out.each e he).text; omega) (by have := HOO.out.s; simp only at this; omega))
              have HRX := Lib.hid (HRT.out.text nm)
              cases bad with
              | true =>
                rw [textW_bad _ rfl] at HT HRX hstep
                have HST := Lib.hid hstep
                clear hstep
                go_wp2_with (go_at_call 10; refine HT.out.mono ?_; rintro _ w3 ⟨rfl, hw3⟩; obtain ⟨es3, ev3, ov3, hS3, hB3, -⟩ := HS1.out.call2 hw3; have HS3 := Lib.hid hS3; have HB3 := Lib.hid (HB1.out.trans hB3); clear hw3 hS3 hB3)
                go_meet
                exact ⟨rfl, by rw [HST.out]; exact ⟨⟨rt, rfl, by omega, HRX.out⟩, rfl, rfl, es3, ev3, ov3, rs, HS3.out, HB3.out⟩⟩
              | false =>
                cases op with
                | nil =>
                  rw [textW_nil] at HT HRX hstep
                  have HST := Lib.hid hstep
                  clear hstep
                  have hu : upK [] = -1 := rfl
                  go_wp2_with (go_at_call 10; refine HT.out.mono ?_; rintro _ w3 ⟨rfl, hw3⟩; obtain ⟨es3, ev3, ov3, hS3, hB3, -⟩ := HS1.out.call2 hw3; have HS3 := Lib.hid hS3; have HB3 := Lib.hid (HB1.out.trans hB3); clear hw3 hS3 hB3)
                  go_meet
                  exact ⟨rfl, by rw [HST.out]; exact ⟨⟨rt, rfl, by omega, HRX.out⟩, rfl, rfl, es3, ev3, ov3, rs, HS3.out, HB3.out⟩⟩
                | cons u t =>
                  rw [textW_cons] at HT HRX hstep
                  have HST := Lib.hid hstep
                  clear hstep
                  obtain ⟨q, g, cap, hq, hqe, rfl, hg0, hg1, hul⟩ := HS1.out.at_ (u := u) (HGD.out.lt u List.mem_cons_self)
                  obtain ⟨N, hN⟩ : ∃ N, rs.length = N := ⟨_, rfl⟩
                  have hu : upK (u :: t) = (u : Int) := rfl
                  have hts : q.1.text.size ≤ 4000 * k := (HGD.out.each _ (List.mem_of_getElem? hqe)).text
                  have hns : nm.size ≤ 4000 := HOO.out.s
                  obtain ⟨tx, htx⟩ : ∃ tx, q.1.text = tx := ⟨_, rfl⟩
                  obtain ⟨ty, hty⟩ : ∃ ty, tx ++ nm = ty := ⟨_, rfl⟩
                  have m1 : ∀ w, (Op.stringOp .add tx nm).run Try.prog w = .ok (.string ty) w := fun w => by rw [← hty]; exact run_string_add_sum w _ _ (by rw [← htx]; omega)
                  have HC5 := Lib.hid (fun (X : World) (h : ElemsW rE rA w.heap.size els rs (.slice (some ⟨g, 0, none⟩) rs.length cap) X) => show X.cell? ⟨g, u * 6 + 5, none⟩ = some (.string tx) ∧ X.frozen? ⟨g, u * 6 + 5, none⟩ = false from by
                    have h2 := h.cell (i := 5) hq (by omega)
                    rw [← htx]
                    exact h2)
                  have HTX2 := Lib.hid (show q.1.text ++ nm = ty by rw [htx]; exact hty)
                  have HQ := Lib.hid hq
                  have HN2 := Lib.hid hN
                  have q3 : (0 : Int) ≤ (u : Int) := by omega
                  have q3b : ¬ (u : Int) < 0 := by omega
                  have q4 : (u : Int) < (N : Int) := by omega
                  rw [hN]
                  clear hq hqe hts htx hty hul hN
                  go_upto_region 46 with (go_at_call 10; refine HT.out.mono ?_; rintro _ w3 ⟨rfl, hw3⟩; obtain ⟨es3, ev3, ov3, hS3, hB3, hK3⟩ := HS1.out.call2 hw3; have hb3 : BlkAt w3 O 27 #[.int .i64 2, .string nm, .slice pa M pc] := (hK3 O HBK1.out.lt HNF.out).trans HBK1.out; have o0 := hb3.cell 0; have o1 := hb3.cell 1; have o2 := hb3.cell 2; obtain ⟨e5, f5⟩ := HC5.out w3 hS3.el; have HS3 := Lib.hid hS3; have HB3 := Lib.hid (HB1.out.trans hB3); clear hw3 hS3 hB3 hK3 hb3)
                  go_region
                  go_wp2
                  go_meet
                  have hS4 := HS3.out.below ((Below.refl _ w3).drew)
                  have hS5 := hS4.rtext nm HQ.out
                  rw [HTX2.out, HN2.out] at hS5
                  exact ⟨rfl, by rw [HST.out]; exact ⟨⟨rt, rfl, by omega, HRX.out⟩, rfl, rfl, _, _, _, _, hS5.1, (HB3.out.trans ((Below.refl _ w3).drew.mono (by have := HB3.out.size; omega))).trans hS5.2⟩⟩
            · have n1 : (kd == 1) = false := by simp [hk1]
              have n2 : (kd == 2) = false := by simp [hk2]
              have hstep : s2 = closeW ⟨els, op, more, bad⟩ := by rw [← HS2.out]; unfold stepW; rw [if_neg hk1, if_neg hk2]
              have HT := Lib.hid (close_any (s := ⟨els, op, more, bad⟩) HS1.out.wr (by have := HGD.out.op; simp only at this ⊢; omega))
              have HRX := Lib.hid HRT.out.close
              cases bad with
              | true =>
                rw [closeW_bad rfl] at HT HRX hstep
                have HST := Lib.hid hstep
                clear hstep
                go_wp2_with (go_at_call 11; refine HT.out.mono ?_; rintro _ w3 ⟨rfl, hw3⟩; obtain ⟨es3, ev3, ov3, hS3, hB3, -⟩ := HS1.out.call2 hw3; have HS3 := Lib.hid hS3; have HB3 := Lib.hid (HB1.out.trans hB3); clear hw3 hS3 hB3)
                go_meet
                exact ⟨rfl, by rw [HST.out]; exact ⟨⟨rt, rfl, by omega, HRX.out⟩, rfl, rfl, es3, ev3, ov3, rs, HS3.out, HB3.out⟩⟩
              | false =>
                cases op with
                | nil =>
                  rw [closeW_nil] at HT HRX hstep
                  have HST := Lib.hid hstep
                  clear hstep
                  have hu : upK [] = -1 := rfl
                  go_wp2_with (go_at_call 11; refine HT.out.mono ?_; rintro _ w3 ⟨rfl, hw3⟩; obtain ⟨es3, ev3, ov3, hS3, hB3, -⟩ := HS1.out.call2 hw3; have HS3 := Lib.hid hS3; have HB3 := Lib.hid (HB1.out.trans hB3); clear hw3 hS3 hB3)
                  go_meet
                  exact ⟨rfl, by rw [HST.out]; exact ⟨⟨rt, rfl, by omega, HRX.out⟩, rfl, rfl, es3, ev3, ov3, rs, HS3.out, HB3.out⟩⟩
                | cons u t =>
                  rw [closeW_cons] at HT HRX hstep
                  have HST := Lib.hid hstep
                  clear hstep
                  obtain ⟨q, g, cap, hq, hqe, rfl, hg0, hg1, hul⟩ := HS1.out.at_ (u := u) (HGD.out.lt u List.mem_cons_self)
                  have hup : q.1.up = upK t := by
                    obtain ⟨e, he1, he2⟩ := HGD.out.chain.1
                    rw [hqe] at he1
                    cases he1
                    exact he2
                  obtain ⟨N, hN⟩ : ∃ N, rs.length = N := ⟨_, rfl⟩
                  have hu : upK (u :: t) = (u : Int) := rfl
                  have HC5 := Lib.hid (fun (X : World) (h : ElemsW rE rA w.heap.size els rs (.slice (some ⟨g, 0, none⟩) rs.length cap) X) => show X.cell? ⟨g, u * 6 + 2, none⟩ = some (.int .i64 (upK t)) from by
                    rw [← hup]
                    exact (h.cell (i := 2) hq (by omega)).1)
                  have q3 : (0 : Int) ≤ (u : Int) := by omega
                  have q3b : ¬ (u : Int) < 0 := by omega
                  have q4 : (u : Int) < (N : Int) := by omega
                  have HN2 := Lib.hid hN
                  rw [hN]
                  clear hq hqe hup hul hN
                  go_wp2_with (go_at_call 11; refine HT.out.mono ?_; rintro _ w3 ⟨rfl, hw3⟩; obtain ⟨es3, ev3, ov3, hS3, hB3, -⟩ := HS1.out.call2 hw3; have e2 := HC5.out w3 hS3.el; have HS3 := Lib.hid hS3; have HB3 := Lib.hid (HB1.out.trans hB3); clear hw3 hS3 hB3)
                  go_meet
                  exact ⟨rfl, by rw [HST.out]; exact ⟨⟨rt, rfl, by omega, HRX.out⟩, rfl, rfl, es3, ev3, ov3, rs, by rw [← HN2.out]; exact HS3.out, HB3.out⟩⟩
          case rest => as_aux_lemma =>
            rename World => X
            obtain ⟨rfl, hR⟩ := hcut
            have HR := Lib.hid hR
            obtain ⟨jw, hjw⟩ : ∃ j, Try.prog.info? 36 = some j := Option.isSome_iff_exists.1 (by kernel_rfl)
            have hpq : ∀ Z : World, (binOp .neq 29 (.pointer (some ⟨wb, 0, none⟩)) (.pointer (some ⟨wb, 0, none⟩))).run Try.prog Z = .ok (.bool false) Z := fun Z => Lib.run_neq_ptr_same Z _ Try.underlying29 hjw
            clear hR hjw
            go_wp2
            go_roundw
            case rel => exact ⟨k + 1, by go_num, by rw [HN.out]; omega, by rw [HSN.out]; exact HR.out⟩
            case measure => simp [intOf]; omega
        · obtain rfl : k = n := by omega
          have he : os.take k = os := List.take_of_length_le (by rw [HN.out]; exact Nat.le_refl _)
          rw [he] at hL
          have HR := Lib.hid hL
          have q1 : ¬ (k : Int) < (k : Int) := by omega
          clear hL he
          go_wp2
          go_meet
          exact HR.out
    case rest => as_aux_lemma =>
      rename World => V
      obtain ⟨⟨rt, rfl, hrt, hroot⟩, rfl, rfl, es, ev, ovv, rs, hS, hBV⟩ := hcut
      have hgood := HG.out n (by rw [HN.out]; exact Nat.le_refl _)
      rw [List.take_of_length_le (by rw [HN.out]; exact Nat.le_refl _)] at hgood
      obtain ⟨s, hs⟩ : ∃ s, runW os = s := ⟨_, rfl⟩
      rw [hs] at hgood hroot hS ⊢
      have hD := done_any (s := s) hS.wr (by have := hgood.op; omega) (hgood.sm hn)
      have HBV := Lib.hid hBV
      have HEL := Lib.hid (fun (X : World) (hX : Below V.heap.size V X) => hS.el.below hX)
      have HSM := Lib.hid (hgood.sm hn)
      have hgl := hgood.els
      have HGE := Lib.hid (show ∀ e ∈ s.els, e.attrs.length ≤ 1000000 from fun e he => by have := (hgood.each e he).attrs; omega)
      clear HL0 HG HOK
      by_cases hc : s.bad = true ∨ s.op ≠ [] ∨ rt ≠ 1
      · rw [done_bad hroot hc] at hD
        have HD := Lib.hid hD
        obtain ⟨els, op, more, bad⟩ := s
        simp only at hc hgl ⊢
        clear hroot hS hBV hgood hs hD HEL HSM HGE
        cases bad with
        | true =>
          go_wp2_with (go_at_call 12; refine HD.out.mono ?_; rintro _ w3 ⟨rfl, hB3⟩; have HB3 := Lib.hid (HBV.out.trans (hB3.mono HBV.out.size)); clear hB3)
          go_ret
          exact ⟨rfl, HB3.out⟩
        | false =>
          by_cases hop : op = []
          · subst hop
            have hr1 : rt ≠ 1 := by simpa using hc
            have hr2 : ¬ (rt : Int) = 1 := by omega
            have hr3 : ((rt : Int) == 1) = false := by simp; omega
            have hu : upK [] = -1 := rfl
            go_wp2_with (go_at_call 12; refine HD.out.mono ?_; rintro _ w3 ⟨rfl, hB3⟩; have HB3 := Lib.hid (HBV.out.trans (hB3.mono HBV.out.size)); clear hB3)
            go_ret
            exact ⟨rfl, HB3.out⟩
          · have hu : (0 : Int) ≤ upK op := upK_nn hop
            go_wp2_with (go_at_call 12; refine HD.out.mono ?_; rintro _ w3 ⟨rfl, hB3⟩; have HB3 := Lib.hid (HBV.out.trans (hB3.mono HBV.out.size)); clear hB3)
            go_ret
            exact ⟨rfl, HB3.out⟩
      · have hb : s.bad = false := by
          cases h : s.bad with
          | false => rfl
          | true => exact absurd (.inl h) hc
        have ho : s.op = [] := Classical.byContradiction fun h => hc (.inr (.inl h))
        have hr : rt = 1 := Classical.byContradiction fun h => hc (.inr (.inr h))
        rw [done_good hroot hb ho hr] at hD
        obtain ⟨els, op, more, bad⟩ := s
        simp only at hb ho hD HEL HSM HGE hgl ⊢
        subst hb ho hr
        have hu : upK [] = -1 := rfl
        obtain ⟨⟨pt, pe⟩, hpp⟩ : ∃ q, printE els = q := ⟨_, rfl⟩
        have HPR := Lib.hid (fun (X : World) (dv : Value) (ys : List YE) (h : WDoc X dv els ys) => print_any h HSM.out)
        unfold PrintR at HPR
        rw [hpp] at HPR hD
        have HD := Lib.hid hD
        have HRL := Lib.hid (fun (X : World) (hX : Below V.heap.size V X) => real_any (HEL.out X hX) (Nat.le_trans HBV.out.size hX.size) (by omega) HGE.out)
        clear hroot hS hBV hgood hs hD hpp hc
        go_wp2_with (first
          | (go_at_call 12; refine HD.out.mono ?_; rintro _ w3 ⟨rfl, hB3⟩; have HV3 := Lib.hid hB3; have HB3 := Lib.hid (HBV.out.trans (hB3.mono HBV.out.size)); clear hB3)
          | (go_at_call 14; refine (HRL.out _ HV3.out).mono ?_; rintro _ w4 ⟨dv, es4, rfl, hE4, hB4⟩; have HE4 := Lib.hid hE4; have HB4 := Lib.hid (HB3.out.trans (hB4.mono HB3.out.size)); clear hE4 hB4)
          | (go_at_call 13; refine (HPR.out _ _ _ HE4.out.doc).mono ?_; rintro _ w5 ⟨rfl, hB5⟩; have HB5 := Lib.hid (HB4.out.trans (hB5.mono HB4.out.size)); clear hB5))
        go_ret
        exact ⟨rfl, HB5.out⟩
end Go.Proofs.Ytajnpmhgldfgfaa
