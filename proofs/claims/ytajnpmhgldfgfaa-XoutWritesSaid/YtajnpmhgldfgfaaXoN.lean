/- The walk of a writer's Open. -/
import Derived.Test.YtajnpmhgldfgfaaXoM
import Derived.Test.YtajnpmhgldfgfaaXoS
import Derived.Test.YtajnpmhgldfgfaaXoQ
import Derived.Deep.AppendLies
import Derived.Deep.RegionLaw
import Derived.Deep.DeepCutAuto
import Derived.Deep.RegionHeld3
namespace Go.Proofs.Ytajnpmhgldfgfaa
open Go.RowKit
set_option linter.unusedVariables false

theorem infoEl : (Try.prog.info? 57).map (fun i => (i.zero, i.size, i.bytes)) = some (some (.agg #[.string ⟨#[]⟩, .int .i64 0, .int .i64 0, .slice none 0 0, .slice none 0 0, .string ⟨#[]⟩]), 6, 96) := by kernel_rfl
set_option maxRecDepth 100000 in
set_option maxHeartbeats 8000000 in
theorem open_ok {n0 wb : Nat} {els : List XW} {op : List Nat} {more : Bool} {es : List QW} {ev ov pv : Value} {W : World} {ps : List ByteArray} (nm : ByteArray) (h : WrI n0 wb els op more (codeW false) es ev ov W) (hl : op.length ≤ 1000000) (hle : els.length ≤ 1000000) (hop : ∀ k ∈ op, k < els.length)
    (hp : StrRd W pv ps) (hpl : ps.length ≤ 1000000) (hps : ∀ x ∈ ps, x.size ≤ 1000000000) (hn : nm.size ≤ 1000000000) (hev : ps.length % 2 = 0) (hkb : ∀ q ∈ els, q.kids.length ≤ 1000000) :
    Calls Try.prog 8 #[.pointer (some ⟨wb, 0, none⟩), .string nm, pv] W (WrR n0 wb W es ev ov (openW nm ps ⟨els, op, more, false⟩)) := by
  obtain ⟨L, hL⟩ : ∃ L, op.length = L := ⟨_, rfl⟩
  obtain ⟨N, hN⟩ : ∃ N, es.length = N := ⟨_, rfl⟩
  obtain ⟨M, hM⟩ : ∃ M, ps.length = M := ⟨_, rfl⟩
  have H := Lib.hid h
  have HP := Lib.hid hp
  have HPS := Lib.hid hps
  have HOP := Lib.hid hop
  obtain ⟨pa, pc, rfl, -⟩ := hp
  rw [hM] at hpl hev ⊢
  rw [hL] at hl
  obtain ⟨ea, ec, hev1⟩ := ownsRow_slice' h.elems.row
  rw [hN] at hev1
  obtain ⟨oa, oc, hov1⟩ := ownsRow_slice' h.opened
  rw [List.length_reverse, hL] at hov1
  have HEV := Lib.hid hev1
  have HOV := Lib.hid hov1
  have c0 : W.cell? ⟨wb, 0, none⟩ = some (.slice ea N ec) := by rw [← hev1]; exact h.blk.cell 0
  have HF := Lib.hid (fail_no h)
  have HC := Lib.hid (fun X => clone_any nm X (by omega))
  have q1 : IntKind.i64.wrap ((M : Int) % 2) = (M : Int) % 2 := wrapo (by omega) (by omega)
  have q2 : ¬ (M : Int) % 2 = 1 := by omega
  have q3 : ((M : Int) % 2 == 1) = false := by simp; omega
  have q4 : (M : Int).tmod 2 = 0 := by rw [Int.tmod_eq_emod_of_nonneg (by omega)]; omega
  have HL := Lib.hid hL
  have HN := Lib.hid hN
  have HM := Lib.hid hM
  have HLE := Lib.hid hle
  have HKB := Lib.hid (show ∀ q ∈ es, q.1.kids.length ≤ 1000000 from fun q hq => hkb _ (by rw [← h.elems.told]; exact List.mem_map_of_mem hq))
  clear h hps hop hev1 hov1 hL hN hM hle hkb
  go_enter Try.func8, Try.ntmps8
  go_upto_region 5 with (first
    | (go_at_call 15; refine HF.out.mono ?_; rintro _ w2 ⟨rfl, rfl⟩)
    | (go_at_call 16; refine (HC.out _).mono ?_; rintro _ w3 ⟨rfl, hB3⟩; have HB3 := Lib.hid hB3; clear hB3))
  obtain ⟨W3, hW3⟩ : ∃ W3, w3.alloc (.cells #[.string nm, .int .i64 0, .int .i64 (-1), .slice none 0 0, .slice none 0 0, .string ⟨#[]⟩] 57) = W3 := ⟨_, rfl⟩
  obtain ⟨E, hE⟩ : ∃ E, w3.heap.size = E := ⟨_, rfl⟩
  have HBK3 := Lib.hid (show BlkAt W3 E 57 #[.string nm, .int .i64 0, .int .i64 (-1), .slice none 0 0, .slice none 0 0, .string ⟨#[]⟩] by rw [← hW3, ← hE]; exact BlkAt.new _ _ _)
  have HBW3 := Lib.hid (show Below W.heap.size W W3 by rw [← hW3]; exact HB3.out.trans ((Below.refl _ w3).alloc HB3.out.size _))
  have hEW : W.heap.size ≤ E := by rw [← hE]; exact HB3.out.size
  rw [hW3, hE]
  clear hW3 hE
  go_wp2
  go_loopw [9] (fun x V => ∃ (j : Nat) (av : Value), x = .int .i64 ((2 * j : Nat) : Int) ∧ 2 * j ≤ M ∧ BlkAt V E 57 #[.string nm, .int .i64 0, .int .i64 (-1), av, .slice none 0 0, .string ⟨#[]⟩] ∧ AttrsW 58 W.heap.size V ((pairA ps).take j) av ∧ Below W.heap.size W V) (fun x V => M - (intOf x).toNat)
  case atStart => exact ⟨0, .slice none 0 0, rfl, Nat.zero_le _, HBK3.out, by rw [List.take_zero]; exact World.ownsRow_nil _ _ _ _, HBW3.out⟩
  case round =>
    rename World => wr
    obtain ⟨j, av, rfl, hj, hbk, hat, hbw⟩ := hrel
    have HBK := Lib.hid hbk
    have HAT := Lib.hid hat
    have HBW := Lib.hid hbw
    obtain ⟨i, hi⟩ : ∃ i, 2 * j = i := ⟨_, rfl⟩
    rw [hi] at hj ⊢
    have HI := Lib.hid hi
    by_cases hlt : i < M
    · have hi1 : i + 1 < M := by omega
      obtain ⟨x0, hx0⟩ : ∃ x, ps[2 * j]? = some x := ⟨_, List.getElem?_eq_getElem (by rw [HM.out]; omega)⟩
      obtain ⟨x1, hx1⟩ : ∃ x, ps[2 * j + 1]? = some x := ⟨_, List.getElem?_eq_getElem (by rw [HM.out]; omega)⟩
      have zx0 := HPS.out x0 (List.mem_of_getElem? hx0)
      have zx1 := HPS.out x1 (List.mem_of_getElem? hx1)
      obtain ⟨pa', pc', hsl, hp2⟩ := HP.out
      obtain ⟨pb, po, hpe, hpb, hp3⟩ := hp2 (fun h0 => by have h1 := HM.out; rw [h0] at h1; have h3 : (0 : Nat) = M := h1; omega)
      simp only [Value.slice.injEq] at hsl
      obtain ⟨rfl, -, rfl⟩ := hsl
      subst hpe
      have hr0 := hp3 _ _ hx0
      have hr1 := hp3 _ _ hx1
      rw [hi] at hr0 hr1
      have HPT := Lib.hid (pairA_take ps j x0 x1 hx0 hx1)
      have HC0 := Lib.hid (fun X => clone_any x0 X (by omega))
      have HC1 := Lib.hid (fun X => clone_any x1 X (by omega))
      have HCL := Lib.hid (fun (X : World) (hX : Below wr.heap.size wr X) => show (X.cell? ⟨E, 3, none⟩ = some av ∧ X.frozen? ⟨E, 3, none⟩ = false) ∧ X.cell? ⟨pb, po + i, none⟩ = some (.string x0) ∧ X.cell? ⟨pb, po + (i + 1), none⟩ = some (.string x1) from by
        have hb := HBK.out.below hX HBK.out.lt
        have hW := HBW.out.trans (hX.mono HBW.out.size)
        exact ⟨⟨hb.cell 3, hb.frozen 3⟩, (hW.cell (p := ⟨pb, po + i, none⟩) hpb).trans hr0, (hW.cell (p := ⟨pb, po + (i + 1), none⟩) hpb).trans hr1⟩)
      obtain ⟨⟨e3, f3⟩, e0, e1⟩ := HCL.out wr (Below.refl _ _)
      obtain ⟨ka, kc, rfl⟩ := ownsRow_slice' hat
      obtain ⟨ln, hln⟩ : ∃ ln, ((pairA ps).take j).length = ln := ⟨_, rfl⟩
      have hln2 : ln ≤ 1000000 := by rw [← hln, List.length_take]; omega
      have HLN := Lib.hid hln
      have HROW := Lib.hid (show wr.ownsRow W.heap.size 58 3 (.slice ka ln kc) ln (((pairA ps).take j).flatMap aCells) by have := hat; unfold AttrsW at this; rw [hln] at this; exact this)
      rw [hln] at e3 HBK HCL
      have m1 : IntKind.i64.wrap ((i : Int) + 1) = (i : Int) + 1 := wrapo (by omega) (by omega)
      have q5 : (0 : Int) ≤ (i : Int) := by omega
      have q5b : (0 : Int) ≤ (i : Int) + 1 := by omega
      have q6 : (i : Int) < (M : Int) := by omega
      have q7 : (i : Int) + 1 < (M : Int) := by omega
      have t1 : ((i : Int) + 1).toNat = i + 1 := by omega
      obtain ⟨i0, hi0, hz0, hz1, hz2⟩ := info_parts infoAt
      clear hbk hat hbw hi hr0 hr1 hp3 hp2 hx0 hx1 hln
      go_wp2
      go_region_law (first
        | (go_simp; go_at_call 16; refine (HC0.out _).mono ?_; rintro _ wa ⟨rfl, hA⟩; have HA := Lib.hid (show Below wr.heap.size wr wa from (Below.refl _ wr).drew.trans hA); obtain ⟨⟨a3, g3⟩, a0, a1⟩ := HCL.out wa HA.out)
        | (go_simp; go_at_call 16; refine (HC1.out _).mono ?_; rintro _ wk ⟨rfl, hK⟩; have HK := Lib.hid (show Below wr.heap.size wr wk from HA.out.trans (hK.mono HA.out.size)); obtain ⟨⟨b3, l3⟩, b0, b1⟩ := HCL.out wk HK.out; have k3 : (wk.alloc (.cells #[.string x0, .string x1, .int .i64 0] 58)).cell? ⟨E, 3, none⟩ = some (.slice ka ln kc) := (HCL.out _ (HK.out.trans ((Below.refl _ wk).alloc HK.out.size _))).1.1)
        | (refine step_append_lies _ (by rfl) _ _ _ (by rfl) W.heap.size 58 i0 _ 3 40 Try.underlying55 hi0 hz0 hz1 hz2 rfl (by omega) (.slice ka ln kc) ln (((pairA ps).take j).flatMap aCells) (by rfl) (own_below HROW.out (HK.out.trans ((Below.refl _ wk).alloc HK.out.size _))) ⟨wk.heap.size, 0, none⟩ 1 1 [.string x0, .string x1, .int .i64 0] (by rfl) (by rfl) (World.news_of_block (cs := #[.string x0, .string x1, .int .i64 0]) (t := 58) (fr := (0, 0)) (heap_alloc_new wk _)) (by simp [Value.oneCell']) (by omega) (by unfold maxLen; omega) (by omega) (by have e0 := HBW.out.size; have e1 := HK.out.size; simp; omega) (wk.heap.size + 1) (by simp) ?_; intro gg kc2 w6 hown hgrow hat6 hlt6; have hE6 := ((HBK.out.below HK.out HBK.out.lt).alloc (.cells #[.string x0, .string x1, .int .i64 0] 58)).grown hgrow (fun e => blk_ne ((own_below HROW.out (HK.out.trans ((Below.refl _ wk).alloc HK.out.size (.cells #[.string x0, .string x1, .int .i64 0] 58))))) ((HBK.out.below HK.out HBK.out.lt).alloc (.cells #[.string x0, .string x1, .int .i64 0] 58)) (by decide) e.symm); have e6 := hE6.cell 3; have f6 := hE6.frozen 3; have HE6 := Lib.hid hE6; have HO6 := Lib.hid hown; have HG6 := Lib.hid hgrow; clear hE6 hown hgrow hat6))
      all_goals
        go_wp2
        go_roundw
        case rel =>
          obtain ⟨g1, g2⟩ := HPT.out
          have hs := HE6.out.set 3 (.slice (some ⟨gg, 0, none⟩) (ln + 1) kc2)
          have hB6 : Below W.heap.size W w6 := (HBW.out.trans ((HK.out.trans ((Below.refl _ wk).alloc HK.out.size _)).mono HBW.out.size)).grown HG6.out (by have e0 := HBW.out.size; have e1 := HK.out.size; simp; omega) (fun k e => (HROW.out.lt k e).1)
          refine ⟨j + 1, .slice (some ⟨gg, 0, none⟩) (ln + 1) kc2, by rw [← HI.out]; go_num, by rw [Nat.mul_add, HI.out]; omega, hs, ?_, hB6.setCell (p := ⟨E, 3, none⟩) hEW _⟩
          unfold AttrsW
          rw [g1, List.length_append, List.flatMap_append, HLN.out]
          exact (show w6.ownsRow W.heap.size 58 3 (.slice (some ⟨gg, 0, none⟩) (ln + 1) kc2) (ln + 1) (((pairA ps).take j).flatMap aCells ++ [.string x0, .string x1, .int .i64 0]) from HO6.out).kept (grown_set w6 E 3 _) (.inr (blk_ne HO6.out HE6.out (by decide)))
        case measure => simp [intOf]; omega
    · have hMi : M = i := by omega
      have q8 : ¬ (i : Int) < (M : Int) := by omega
      have hjl : (pairA ps).take j = pairA ps := List.take_of_length_le (by rw [pairA_len, HM.out]; omega)
      rw [hjl] at HAT
      have HR := Lib.hid (H.out.below hbw)
      have c1 : wr.cell? ⟨wb, 1, none⟩ = some (.slice oa L oc) := by rw [← HOV.out]; exact HR.out.blk.cell 1
      have HOR := Lib.hid (show wr.ownsRow n0 3 1 (.slice oa L oc) L (intCells op.reverse) by have := HR.out.opened; unfold IntsAt at this; rw [List.length_reverse, HL.out, HOV.out] at this; exact this)
      have hwbE : ¬ wb = E := by have := H.out.blk.lt; omega
      have k0 := HBK.out.cell 0
      have k1 := HBK.out.cell 1
      have k2 := HBK.out.cell 2
      have k3 := HBK.out.cell 3
      have k4 := HBK.out.cell 4
      have k5 := HBK.out.cell 5
      have kf2 := HBK.out.frozen 2
      have HNE := Lib.hid (show N = els.length by rw [← HN.out]; exact H.out.elems.len)
      have HBS := Lib.hid H.out.base
      clear hbk hat hbw hi HC HF hjl hMi
      go_upto_if 59 with (fail)
      go_cut [10] (fun x wy => ∃ es', WrI n0 wb (elsK els op) op more (codeW false) es' ev ov wy ∧ BlkAt wy E 57 #[.string nm, .int .i64 0, .int .i64 (upK op), av, .slice none 0 0, .string ⟨#[]⟩] ∧ AttrsW 58 W.heap.size wy (pairA ps) av ∧ KeepF n0 (FootW wb es ev ov) W wy ∧ (∀ k, FootW wb es' ev ov k → FootW wb es ev ov k ∨ W.heap.size ≤ k) ∧ es'.length = N)
      case first =>
        cases op with
        | nil =>
          obtain rfl : L = 0 := HL.out.symm
          have q9 : ¬ (0 : Int) < ((0 : Nat) : Int) := by omega
          go_wp2
          go_meet
          case rel => exact ⟨es, HR.out, HBK.out, HAT.out, KeepF.of_below HBW.out HBS.out, fun k hk => .inl hk, HN.out⟩
        | cons u t =>
          obtain ⟨L1, hL1⟩ : ∃ L1, t.length = L1 := ⟨_, rfl⟩
          obtain rfl : L = L1 + 1 := by rw [← HL.out, List.length_cons, hL1]
          have hu : u < N := by rw [HNE.out]; exact HOP.out u List.mem_cons_self
          obtain ⟨q, hq⟩ : ∃ q, es[u]? = some q := ⟨_, List.getElem?_eq_getElem (by rw [HN.out]; exact hu)⟩
          obtain ⟨g, cap, hform, -⟩ := HR.out.elems.form hq
          have hf2 := HEV.out
          rw [hform, HN.out] at hf2
          simp only [Value.slice.injEq] at hf2
          obtain ⟨rfl, -, rfl⟩ := hf2
          rw [HN.out] at hform
          obtain ⟨og, oc1, hform2, -, -⟩ := World.ownsRow.form HOR.out (by omega)
          simp only [Value.slice.injEq] at hform2
          obtain ⟨rfl, -, rfl⟩ := hform2
          have hogW : og < W.heap.size := by
            have := H.out.opened
            rw [HOV.out] at this
            exact own_lt this rfl
          have hEo : ¬ og = E := by omega
          have hEo2 : ¬ E = og := by omega
          have hEw2 : ¬ E = wb := fun e => hwbE e.symm
          have kk1 : wr.cell? ⟨og, L1, none⟩ = some (.int .i64 u) := by
            rw [HOR.out.cellAt L1 (by omega)]
            simp [intCells, hL1]
          obtain ⟨ka, kn, kc0, hkv⟩ := own_sl (HR.out.elems.kids q (List.mem_of_getElem? hq))
          have hkn : q.1.kids.length = kn := by
            obtain ⟨b', c', hb'⟩ := ownsRow_slice' (HR.out.elems.kids q (List.mem_of_getElem? hq))
            rw [hkv] at hb'
            simp only [Value.slice.injEq] at hb'
            exact hb'.2.1.symm
          have hkb : kn ≤ 1000000 := by rw [← hkn]; exact HKB.out q (List.mem_of_getElem? hq)
          have HKV := Lib.hid hkv
          have HKN := Lib.hid hkn
          have HQ := Lib.hid hq
          have q1c : IntKind.i64.wrap (L1 : Int) = (L1 : Int) := wrapo (by omega) (by omega)
          have q1 : IntKind.i64.wrap ((L1 : Int) + 1 - 1) = (L1 : Int) := by rw [show (L1 : Int) + 1 - 1 = L1 from by omega]; exact wrapo (by omega) (by omega)
          have p2 : (0 : Int) ≤ (L1 : Int) := by omega
          have p2b : ¬ (L1 : Int) < 0 := by omega
          have p3 : (L1 : Int) < (L1 : Int) + 1 := by omega
          have p3b : (L1 : Int) < ((L1 + 1 : Nat) : Int) := by omega
          have p4 : (0 : Int) ≤ (u : Int) := by omega
          have p4b : ¬ (u : Int) < 0 := by omega
          have p5 : (u : Int) < (N : Int) := by omega
          have p6 : (0 : Int) < (L1 : Int) + 1 := by omega
          have p6b : (0 : Int) < ((L1 + 1 : Nat) : Int) := by omega
          obtain ⟨j0, hj0, hy0, hy1, hy2⟩ := info_parts infoInt
          clear hL1 hq hkv hkn hform k0 k1 k3 k4 k5 c0
          go_upto_region 10 with (fail)
          go_region_held3 (fun w' => w'.cell? ⟨wb, 1, none⟩ = some (.slice (some ⟨og, 0, none⟩) (L1 + 1) oc) ∧ w'.cell? ⟨og, L1, none⟩ = some (.int .i64 u)) (go_keep) (fail)
          go_wp2
          have hW2 : Below W.heap.size W (wr.setCell ⟨E, 2, none⟩ (.int .i64 u)).drew := (HBW.out.setCell (p := ⟨E, 2, none⟩) hEW _).drew
          have HE2 := Lib.hid (show BlkAt (wr.setCell ⟨E, 2, none⟩ (.int .i64 u)).drew E 57 #[.string nm, .int .i64 0, .int .i64 u, av, .slice none 0 0, .string ⟨#[]⟩] from (HBK.out.set 2 (.int .i64 u)).drew)
          have HA2 := Lib.hid (show AttrsW 58 W.heap.size (wr.setCell ⟨E, 2, none⟩ (.int .i64 u)).drew (pairA ps) av from (HAT.out.kept (grown_set wr E 2 _) (.inr (blk_ne HAT.out HBK.out (by decide)))).drew)
          obtain ⟨V2, hV2⟩ : ∃ V2, (wr.setCell ⟨E, 2, none⟩ (.int .i64 u)).drew = V2 := ⟨_, rfl⟩
          rw [hV2] at hW2 HE2 HA2 ⊢
          have HW2 := Lib.hid hW2
          have c02 : V2.cell? ⟨wb, 0, none⟩ = some (.slice (some ⟨g, 0, none⟩) N cap) := by rw [← HEV.out]; exact (H.out.below hW2).blk.cell 0
          have e22 := HE2.out.cell 2
          clear c1 k2 kf2 kk1 hV2 hW2
          go_region_held3 (fun w' => w'.cell? ⟨wb, 0, none⟩ = some (.slice (some ⟨g, 0, none⟩) N cap) ∧ w'.cell? ⟨E, 2, none⟩ = some (.int .i64 u)) (go_keep) (fail)
          have hW3 : Below W.heap.size W V2.drew := HW2.out.drew
          have HE3 := Lib.hid HE2.out.drew
          have HA3 := Lib.hid HA2.out.drew
          obtain ⟨V3, hV3⟩ : ∃ V3, V2.drew = V3 := ⟨_, rfl⟩
          rw [hV3] at hW3 HE3 HA3 ⊢
          have HW3 := Lib.hid hW3
          have hz3 := hW3.size
          have HH3 := Lib.hid (H.out.below hW3)
          have HF3 := Lib.hid (fun (X : World) (hX : Below W.heap.size W X) => show X.cell? ⟨g, u * 6 + 4, none⟩ = some (.slice ka kn kc0) ∧ X.frozen? ⟨g, u * 6 + 4, none⟩ = false from by
            have h1 := (H.out.below hX).elems
            rw [HEV.out, ← HN.out] at h1
            have h2 := h1.cell (i := 4) HQ.out (by omega)
            rw [show (wCells q)[4]? = some q.2.2 from rfl, HKV.out] at h2
            exact h2)
          obtain ⟨kc3, kf3⟩ := HF3.out V3 hW3
          have hgW : g < W.heap.size := by
            have := H.out.elems.row
            rw [HEV.out] at this
            exact own_lt this rfl
          have HKR := Lib.hid (show V3.ownsRow n0 3 1 (.slice ka kn kc0) kn (intCells q.1.kids) from by
            have := HH3.out.elems.kids q (List.mem_of_getElem? HQ.out)
            unfold IntsAt at this
            rw [HKV.out, HKN.out] at this
            exact this)
          have hn0 := HBS.out
          clear c02 e22 hV3 hW3 HW2 HE2 HA2
          go_wp2_with (at_builtin; refine wpList_append_lies _ rfl _ _ _ rfl n0 3 j0 _ 1 8 Try.underlying33 hj0 hy0 hy1 hy2 rfl (by omega) (.slice ka kn kc0) kn (intCells q.1.kids) (by rfl) (HKR.out.alloc _) ⟨V3.heap.size, 0, none⟩ 1 1 [.int .i64 N] (by rfl) (by rfl) (cell_one_new _ _ _) (by simp [Value.oneCell']) (by omega) (by unfold maxLen; omega) (by omega) (by simp; omega) (V3.heap.size + 1) (by simp) ?_; intro kg kc w6 hown hgrow hat hlt6; have HO6 := Lib.hid hown; have HG6 := Lib.hid hgrow; have HA6 := Lib.hid hat; have hW3a := HW3.out.alloc (show W.heap.size ≤ V3.heap.size by omega) (.cells #[.int .i64 N] 3); have hne6 : some g ≠ (Value.slice ka kn kc0).ownBlock := (fun e => own_ne (H.out.below hW3a).elems.row (HKR.out.alloc (.cells #[.int .i64 N] 3)) (by decide) (by rw [HEV.out]; rfl) e.symm); have kc6 := (hgrow.cell_far ⟨g, u * 6 + 4, none⟩ (by simp; omega) hne6).trans (HF3.out _ hW3a).1; have kf6 := (hgrow.frozen_far ⟨g, u * 6 + 4, none⟩ (by simp; omega) hne6).trans (HF3.out _ hW3a).2; clear hown hgrow hat)
          go_meet
          case rel =>
            have hHa : WrI n0 wb els (u :: t) more (codeW false) es (.slice (some ⟨g, 0, none⟩) es.length cap) ov (V3.alloc (.cells #[.int .i64 N] 3)) := by
              have := HH3.out.below ((Below.refl _ V3).alloc (Nat.le_refl _) (.cells #[.int .i64 N] 3))
              have hev' : ev = .slice (some ⟨g, 0, none⟩) es.length cap := by rw [HN.out]; exact HEV.out
              rw [hev'] at this
              exact this
            have hk := hHa.kid (n := N) (gg := kg) (kc := kc) HQ.out (by rw [HKN.out]; exact HO6.out) (by rw [HKV.out]; exact HG6.out) (by rw [HKV.out]; rcases HA6.out with h1 | h1; exact .inl h1; exact .inr (by simpa using h1))
            rw [HKN.out, HN.out, ← HEV.out] at hk
            have hfar : ∀ {B : Nat} {ty : TypeId} {cs : Array Value}, BlkAt V3 B ty cs → ty ≠ 3 → g ≠ B → BlkAt (w6.setCell ⟨g, u * 6 + 4, none⟩ (.slice (some ⟨kg, 0, none⟩) (kn + 1) kc)) B ty cs := fun {B} {ty} {cs} hb hne hgB =>
              ((hb.alloc (.cells #[.int .i64 N] 3)).grown HG6.out (fun e => blk_ne (HKR.out.alloc _) (hb.alloc (.cells #[.int .i64 N] 3)) (Ne.symm hne) e.symm)).far (p := ⟨g, u * 6 + 4, none⟩) (fun e => hgB e.symm) _
            have hsz := HG6.out.size
            have hA6 : AttrsW 58 W.heap.size (w6.setCell ⟨g, u * 6 + 4, none⟩ (.slice (some ⟨kg, 0, none⟩) (kn + 1) kc)) (pairA ps) av :=
              ((KeepT.grown (HKR.out.alloc (.cells #[.int .i64 N] 3)) (by decide) HG6.out).owns (HA3.out.alloc _)).kept (grown_set w6 g _ _) (.inr (fun e => by have := (HA3.out.lt g e).1; omega))
            have hels : elsK els (u :: t) = els.modify u (addK N) := by rw [HNE.out]; rfl
            refine ⟨_, by rw [hels]; exact hk.1, hfar HE3.out (by decide) (by omega), hA6, ?_, fun k hkk => ?_, by rw [List.length_set]; exact HN.out⟩
            · exact (KeepF.of_below (HW3.out.alloc (show W.heap.size ≤ V3.heap.size by omega) (.cells #[.int .i64 N] 3)) hn0).trans hk.2.1 fun i hi => .inl hi
            · rcases hk.2.2 k hkk with h1 | h1
              · exact .inl h1
              · exact .inr (by simp at h1; omega)
      case rest =>
        obtain ⟨es1, hR1, hE1, hA1, hK1, hF1, hN1⟩ := hcut
        have HR1 := Lib.hid hR1
        have HE1 := Lib.hid hE1
        have HA1 := Lib.hid hA1
        have HK1 := Lib.hid hK1
        have HF1 := Lib.hid hF1
        have HN1 := Lib.hid hN1
        obtain ⟨U, hU⟩ : ∃ U, upK op = U := ⟨_, rfl⟩
        rw [hU] at HE1
        have HU := Lib.hid hU
        clear hR1 hE1 hA1 hK1 hF1 hN1 hU k0 k1 k2 k3 k4 k5 kf2 c1 c0 HOR HR HBK HAT
        go_upto_region 13 with (fail)
        go_cut [10] (fun x wy => ∃ B : Bool, B = (more || (decide (U < 0) && decide (0 < N))) ∧ wy = wc.setCell ⟨wb, 2, none⟩ (.bool B))
        case first =>
          have e2 := HE1.out.cell 2
          have c2 : wc.cell? ⟨wb, 2, none⟩ = some (.bool more) := HR1.out.blk.cell 2
          have f2 := HR1.out.blk.frozen 2
          cases more with
          | true =>
            go_wp2
            go_meet
            case rel => exact ⟨true, rfl, rfl⟩
          | false =>
            by_cases hU0 : U < 0
            · go_wp2
              go_meet
              case rel => exact ⟨decide (0 < N), by rw [decide_eq_true hU0]; rfl, rfl⟩
            · have hU1 : 0 ≤ U := by omega
              go_wp2
              go_meet
              case rel => exact ⟨false, by rw [decide_eq_false (show ¬ U < 0 by omega)]; rfl, rfl⟩
        case rest =>
          obtain ⟨B, hB, rfl⟩ := hcut
          have hEE : (Value.slice ea N ec).ownBlock ≠ some E := fun e => by
            have h1 := H.out.elems.row
            rw [HEV.out] at h1
            have := own_lt h1 e
            omega
          obtain ⟨hW2, hK2⟩ := HR1.out.set (i := 2) (more' := B) (code' := codeW false) (.bool B) rfl
          have hE2 : BlkAt (wc.setCell ⟨wb, 2, none⟩ (.bool B)) E 57 #[.string nm, .int .i64 0, .int .i64 U, av, .slice none 0 0, .string ⟨#[]⟩] := HE1.out.far (p := ⟨wb, 2, none⟩) (fun e => hwbE e.symm) _
          have hA2 : AttrsW 58 n0 (wc.setCell ⟨wb, 2, none⟩ (.bool B)) (pairA ps) av := by
            have h1 := HA1.out
            unfold AttrsW at h1 ⊢
            exact ownsRow_mono (h1.kept (grown_set wc wb 2 _) (.inr (blk_ne h1 HR1.out.blk (by decide)))) HBS.out
          obtain ⟨va, vn, vc, hav⟩ := own_sl hA2
          subst hav
          have HP0 := Lib.hid (WrI.push0 (F := FootW wb es ev ov) (T := W) (q := (⟨nm, U, pairA ps, [], ⟨#[]⟩⟩, .slice va vn vc, .slice none 0 0)) hW2 hA2 (HK1.out.trans hK2 HF1.out) HF1.out (.inl rfl))
          obtain ⟨ea1, ec1, N1, hx1, hx2⟩ : ∃ (a : Option Addr) (c : Nat) (m : Nat), a = ea ∧ c = ec := ⟨ea, ec, 0, rfl, rfl⟩
          subst hx1 hx2
          obtain ⟨Vd, hVd⟩ : ∃ Vd, (wc.setCell ⟨wb, 2, none⟩ (.bool B)).drew = Vd := ⟨_, rfl⟩
          have HPd := Lib.hid (show PushW n0 wb (FootW wb es ev ov) W B (codeW false) es1 (⟨nm, U, pairA ps, [], ⟨#[]⟩⟩, .slice va vn vc, .slice none 0 0) (.slice ea1 N ec1) (.slice oa L oc) (.slice ea1 N ec1) (.slice oa L oc) N (es1.flatMap wCells) L (intCells op.reverse) Vd from by
            have h1 := HP0.out.below ((Below.refl _ _).drew)
            rw [hVd, HN1.out, HL.out] at h1
            have h2 := HEV.out
            have h3 := HOV.out
            have key : ∀ (x y : Value), x = Value.slice ea1 N ec1 → y = Value.slice oa L oc → PushW n0 wb (FootW wb es ev ov) W B (codeW false) es1 (⟨nm, U, pairA ps, [], ⟨#[]⟩⟩, .slice va vn vc, .slice none 0 0) x y x y N (es1.flatMap wCells) L (intCells op.reverse) Vd → PushW n0 wb (FootW wb es ev ov) W B (codeW false) es1 (⟨nm, U, pairA ps, [], ⟨#[]⟩⟩, .slice va vn vc, .slice none 0 0) (.slice ea1 N ec1) (.slice oa L oc) (.slice ea1 N ec1) (.slice oa L oc) N (es1.flatMap wCells) L (intCells op.reverse) Vd := fun x y e1 e2 h => by
              rw [← e1, ← e2]
              exact h
            exact key ev ov h2 h3 h1)
          have HEd := Lib.hid (show BlkAt Vd E 57 #[.string nm, .int .i64 0, .int .i64 U, .slice va vn vc, .slice none 0 0, .string ⟨#[]⟩] by rw [← hVd]; exact hE2.drew)
          have HSP := Lib.hid (fun (X : World) (h1 : BlkAt X wb 36 #[.slice ea1 N ec1, .slice oa L oc, .bool B, .int .i64 (codeW false)]) (h2 : BlkAt X E 57 #[.string nm, .int .i64 0, .int .i64 U, .slice va vn vc, .slice none 0 0, .string ⟨#[]⟩]) =>
            show X.cell? ⟨wb, 0, none⟩ = some (.slice ea1 N ec1) ∧ X.cell? ⟨wb, 1, none⟩ = some (.slice oa L oc) ∧ X.cell? ⟨E, 0, none⟩ = some (.string nm) ∧ X.cell? ⟨E, 1, none⟩ = some (.int .i64 0) ∧ X.cell? ⟨E, 2, none⟩ = some (.int .i64 U) ∧ X.cell? ⟨E, 3, none⟩ = some (.slice va vn vc) ∧ X.cell? ⟨E, 4, none⟩ = some (.slice none 0 0) ∧ X.cell? ⟨E, 5, none⟩ = some (.string ⟨#[]⟩) from
              ⟨h1.cell 0, h1.cell 1, h2.cell 0, h2.cell 1, h2.cell 2, h2.cell 3, h2.cell 4, h2.cell 5⟩)
          have HEND := Lib.hid (fun (vE vO : Value) (X : World) (h : PushW n0 wb (FootW wb es ev ov) W B (codeW false) es1 (⟨nm, U, pairA ps, [], ⟨#[]⟩⟩, .slice va vn vc, .slice none 0 0) vE vO vE vO (N + 1) (es1.flatMap wCells ++ (#[.string nm, .int .i64 0, .int .i64 U, .slice va vn vc, .slice none 0 0, .string ⟨#[]⟩] : Array Value).toList) (L + 1) (intCells op.reverse ++ [.int .i64 N]) X) =>
            show WrR n0 wb W es ev ov (openW nm ps ⟨els, op, more, false⟩) (.returned (.pointer (some ⟨wb, 0, none⟩))) X from by
              have h' : PushW n0 wb (FootW wb es ev ov) W B (codeW false) es1 (⟨nm, U, pairA ps, [], ⟨#[]⟩⟩, .slice va vn vc, .slice none 0 0) vE vO vE vO (es1.length + 1) (es1.flatMap wCells ++ wCells (⟨nm, U, pairA ps, [], ⟨#[]⟩⟩, .slice va vn vc, .slice none 0 0)) (op.length + 1) (intCells op.reverse ++ [.int .i64 N]) X := by
                rw [HN1.out, HL.out]
                exact h
              have hd := h'.done HR1.out.elems.told HR1.out.elems.apart rfl rfl (fun r hr g hg => HF1.out g (.inr (.inr (.inr ⟨r, hr, hg⟩)))) (fun g hg => (HA1.out.lt g hg).1)
              have ho : openW nm ps ⟨els, op, more, false⟩ = ⟨elsK els op ++ [⟨nm, U, pairA ps, [], ⟨#[]⟩⟩], N :: op, B, false⟩ := by
                unfold openW
                rw [if_neg (by simp), if_neg (by rw [HM.out]; omega), hB, HNE.out, HU.out]
              rw [ho]
              exact ⟨rfl, _, _, _, hd.1, hd.2.1, hd.2.2⟩)
          obtain ⟨i0, hi0, hz0, hz1, hz2⟩ := info_parts infoEl
          obtain ⟨j0, hj0, hy0, hy1, hy2⟩ := info_parts infoInt
          have hN9 : N ≤ 1000000 := by rw [HNE.out]; exact HLE.out
          clear hW2 hK2 hE2 hA2 HP0 HR1 HE1 HA1 HK1 HF1 hB hev hpl hn q1 q2 q3 q4 hj hlt q8 HBW HB3 HBW3 HBK3 HPS HOP HP HEV HOV H HKB
          go_upto_region 14 with (fail)
          refine wp_region_K 20 (fun w => w.cell? ⟨wb, 0, none⟩ = some (.slice ea1 N ec1) ∧ w.cell? ⟨wb, 1, none⟩ = some (.slice oa L oc) ∧ w.cell? ⟨E, 0, none⟩ = some (.string nm) ∧ w.cell? ⟨E, 1, none⟩ = some (.int .i64 0) ∧ w.cell? ⟨E, 2, none⟩ = some (.int .i64 U) ∧ w.cell? ⟨E, 3, none⟩ = some (.slice va vn vc) ∧ w.cell? ⟨E, 4, none⟩ = some (.slice none 0 0) ∧ w.cell? ⟨E, 5, none⟩ = some (.string ⟨#[]⟩)) (by kernel_rfl) ?_
          rw [hVd]
          clear hVd
          change wpAnyK _ _ _ _ _ _ 24 (Array.replicate 24 false) _ _
          refine wpAnyK_take 0 (v := (.pointer (some ⟨wb, 0, none⟩))) rfl (by kernel_rfl) (by kernel_rfl) (fun _ _ _ h => h) ⟨by rfl, by intro w; first | (go_simp; done) | (go_simp; rfl)⟩ (fun _ => (HSP.out Vd HPd.out.blk HEd.out)) ?_
          try simp only [Act.put, List.setIfInBounds_toArray]
          refine wpAnyK_take 1 (v := (.pointer (some ⟨wb, 0, none⟩))) rfl (by kernel_rfl) (by kernel_rfl) (fun _ _ _ h => h) ⟨by rfl, by intro w; first | (go_simp; done) | (go_simp; rfl)⟩ (fun _ => (HSP.out Vd HPd.out.blk HEd.out)) ?_
          try simp only [Act.put]
          refine wpAnyK_take 2 (v := (.pointer (some ⟨wb, 0, none⟩))) rfl (by kernel_rfl) (by kernel_rfl) (fun _ _ _ h => h) ⟨by rfl, by intro w; first | (go_simp; done) | (go_simp; rfl)⟩ (fun _ => (HSP.out Vd HPd.out.blk HEd.out)) ?_
          try simp only [Act.put]
          refine wpAnyK_take 3 (v := (.pointer (some ⟨wb, 0, none⟩))) rfl (by kernel_rfl) (by kernel_rfl) (fun _ _ _ h => h) ⟨by rfl, by intro w; first | (go_simp; done) | (go_simp; rfl)⟩ (fun _ => (HSP.out Vd HPd.out.blk HEd.out)) ?_
          try simp only [Act.put]
          refine wpAnyK_take 4 (v := (.pointer (some ⟨wb, 0, none⟩))) rfl (by kernel_rfl) (by kernel_rfl) (fun _ _ _ h => h) ⟨by rfl, by intro w; first | (go_simp; done) | (go_simp; rfl)⟩ (fun _ => (HSP.out Vd HPd.out.blk HEd.out)) ?_
          try simp only [Act.put]
          refine wpAnyK_take 5 (v := (.pointer (some ⟨wb, 0, none⟩))) rfl (by kernel_rfl) (by kernel_rfl) (fun _ _ _ h => h) ⟨by rfl, by intro w; first | (go_simp; done) | (go_simp; rfl)⟩ (fun _ => (HSP.out Vd HPd.out.blk HEd.out)) ?_
          try simp only [Act.put]
          refine wpAnyK_load 6 (v := (.slice ea1 N ec1)) rfl (by kernel_rfl) (by kernel_rfl) (fun _ _ _ h => h) (.inl ⟨by rfl, by rintro w ⟨s0, s1, s2, s3, s4, s5, s6, s7⟩; first | (go_simp; done) | (go_simp; rfl)⟩) (HSP.out Vd HPd.out.blk HEd.out) (fun _ => ?_)
          try simp only [Act.put]
          refine wpAnyK_load 7 (v := (.agg #[.string nm, .int .i64 0, .int .i64 U, .slice va vn vc, .slice none 0 0, .string ⟨#[]⟩])) rfl (by kernel_rfl) (by kernel_rfl) (fun _ _ _ h => h) (.inl ⟨by rfl, by rintro w ⟨s0, s1, s2, s3, s4, s5, s6, s7⟩; first | (go_simp; done) | (go_simp; rfl)⟩) (HSP.out Vd HPd.out.blk HEd.out) (fun _ => ?_)
          try simp only [Act.put]
          refine wpAnyK_take 10 (v := (.pointer (some ⟨wb, 0, none⟩))) rfl (by kernel_rfl) (by kernel_rfl) (fun _ _ _ h => h) ⟨by rfl, by intro w; first | (go_simp; done) | (go_simp; rfl)⟩ (fun _ => (HSP.out Vd HPd.out.blk HEd.out)) ?_
          try simp only [Act.put]
          refine wpAnyK_take 11 (v := (.pointer (some ⟨wb, 0, none⟩))) rfl (by kernel_rfl) (by kernel_rfl) (fun _ _ _ h => h) ⟨by rfl, by intro w; first | (go_simp; done) | (go_simp; rfl)⟩ (fun _ => (HSP.out Vd HPd.out.blk HEd.out)) ?_
          try simp only [Act.put]
          refine wpAnyK_take 12 (v := (.pointer (some ⟨wb, 1, none⟩))) rfl (by kernel_rfl) (by kernel_rfl) (fun _ _ _ h => h) ⟨by rfl, by intro w; first | (go_simp; done) | (go_simp; rfl)⟩ (fun _ => (HSP.out Vd HPd.out.blk HEd.out)) ?_
          try simp only [Act.put]
          refine wpAnyK_load 13 (v := (.slice oa L oc)) rfl (by kernel_rfl) (by kernel_rfl) (fun _ _ _ h => h) (.inl ⟨by rfl, by rintro w ⟨s0, s1, s2, s3, s4, s5, s6, s7⟩; first | (go_simp; done) | (go_simp; rfl)⟩) (HSP.out Vd HPd.out.blk HEd.out) (fun _ => ?_)
          try simp only [Act.put]
          refine wpAnyK_take 14 (v := (.int .i64 (N : Nat))) rfl (by kernel_rfl) (by kernel_rfl) (fun _ _ _ h => h) ⟨by rfl, by intro w; first | (go_simp; done) | (go_simp; rfl)⟩ (fun _ => (HSP.out Vd HPd.out.blk HEd.out)) ?_
          try simp only [Act.put]
          refine wpAnyK_two 8 15 rfl rfl (by kernel_rfl) ?_ ?_
          · intro K8 hK8
            go_simp
            refine hK8.out _ _ (fun _ => HSP.out _ (HPd.out.alloc _).blk (HEd.out.alloc _)) ?_
            clear hK8 K8
            obtain ⟨Xq1, hXq1⟩ : ∃ X', Vd.alloc (.cells #[.string nm, .int .i64 0, .int .i64 U, .slice va vn vc, .slice none 0 0, .string ⟨#[]⟩] 57) = X' := ⟨_, rfl⟩
            have HPq1 := Lib.hid (show PushW n0 wb (FootW wb es ev ov) W B (codeW false) es1 (⟨nm, U, pairA ps, [], ⟨#[]⟩⟩, .slice va vn vc, .slice none 0 0) (.slice ea1 N ec1) (.slice oa L oc) (.slice ea1 N ec1) (.slice oa L oc) N (es1.flatMap wCells) L (intCells op.reverse) Xq1 by rw [← hXq1]; exact HPd.out.alloc _)
            have HEq1 := Lib.hid (show BlkAt Xq1 E 57 #[.string nm, .int .i64 0, .int .i64 U, .slice va vn vc, .slice none 0 0, .string ⟨#[]⟩] by rw [← hXq1]; exact HEd.out.alloc _)
            have Hb8q1 := Lib.hid (show BlkAt Xq1 Vd.heap.size 57 #[.string nm, .int .i64 0, .int .i64 U, .slice va vn vc, .slice none 0 0, .string ⟨#[]⟩] by rw [← hXq1]; exact BlkAt.new _ _ _)
            rw [hXq1]
            clear hXq1
            try simp only [Act.put, List.setIfInBounds_toArray, List.set_cons_zero, List.set_cons_succ]
            refine wpAnyK_two 9 15 rfl rfl (by kernel_rfl) ?_ ?_
            · intro K9 hK9
              refine step_append_lies _ (by rfl) _ _ _ (by rfl) n0 57 i0 _ 6 96 Try.underlying30 hi0 hz0 hz1 hz2 rfl (by omega) (.slice ea1 N ec1) N (es1.flatMap wCells) (by rfl) HPq1.out.rowE ⟨Vd.heap.size, 0, none⟩ 1 1 (#[.string nm, .int .i64 0, .int .i64 U, .slice va vn vc, .slice none 0 0, .string ⟨#[]⟩] : Array Value).toList (by rfl) (by rfl) (World.news_of_block Hb8q1.out) (by simp [Value.oneCell']) (by omega) (by unfold maxLen; omega) (by omega) HPq1.out.size _ rfl ?_
              intro gE cE Xq2 hown hgrow hat hlt
              have HPq2 := Lib.hid (HPq1.out.appE hown hgrow hat)
              have HEq2 := Lib.hid (HEq1.out.grown hgrow (fun e => hEE e.symm))
              refine hK9.out _ _ (fun _ => HSP.out _ HPq2.out.blk HEq2.out) ?_
              clear hK9 K9 hown hgrow hat hlt
              try simp only [Act.put, List.setIfInBounds_toArray]
              refine wpAnyK_one 15 rfl (by kernel_rfl) ?_
              intro K15 hK15
              go_simp
              refine hK15.out _ _ (fun _ => HSP.out _ (HPq2.out.alloc _).blk (HEq2.out.alloc _)) ?_
              clear hK15 K15
              obtain ⟨Xq3, hXq3⟩ : ∃ X', Xq2.alloc (.cells #[.int .i64 N] 3) = X' := ⟨_, rfl⟩
              have HPq3 := Lib.hid (show PushW n0 wb (FootW wb es ev ov) W B (codeW false) es1 (⟨nm, U, pairA ps, [], ⟨#[]⟩⟩, .slice va vn vc, .slice none 0 0) (.slice ea1 N ec1) (.slice oa L oc) (.slice (some ⟨gE, 0, none⟩) (N + 1) cE) (.slice oa L oc) (N + 1) (es1.flatMap wCells ++ (#[.string nm, .int .i64 0, .int .i64 U, .slice va vn vc, .slice none 0 0, .string ⟨#[]⟩] : Array Value).toList) L (intCells op.reverse) Xq3 by rw [← hXq3]; exact HPq2.out.alloc _)
              have HEq3 := Lib.hid (show BlkAt Xq3 E 57 #[.string nm, .int .i64 0, .int .i64 U, .slice va vn vc, .slice none 0 0, .string ⟨#[]⟩] by rw [← hXq3]; exact HEq2.out.alloc _)
              have Hb15q3 := Lib.hid (show BlkAt Xq3 Xq2.heap.size 3 #[.int .i64 N] by rw [← hXq3]; exact BlkAt.new _ _ _)
              rw [hXq3]
              clear hXq3
              try simp only [Act.put, List.setIfInBounds_toArray, List.set_cons_zero, List.set_cons_succ]
              refine wpAnyK_one 16 rfl (by kernel_rfl) ?_
              intro K16 hK16
              refine step_append_lies _ (by rfl) _ _ _ (by rfl) n0 3 j0 _ 1 8 Try.underlying33 hj0 hy0 hy1 hy2 rfl (by omega) (.slice oa L oc) L (intCells op.reverse) (by rfl) HPq3.out.rowO ⟨Xq2.heap.size, 0, none⟩ 1 1 [.int .i64 N] (by rfl) (by rfl) (World.news_of_block (cs := #[.int .i64 N]) Hb15q3.out) (by simp [Value.oneCell']) (by omega) (by unfold maxLen; omega) (by omega) HPq3.out.size _ rfl ?_
              intro gO cO Xq4 hown hgrow hat hlt
              have HPq4 := Lib.hid (HPq3.out.appO hown hgrow hat)
              have HEq4 := Lib.hid (HEq3.out.grown hgrow (fun e => blk_ne HPq3.out.rowO HEq3.out (by decide) e.symm))
              refine hK16.out _ _ (fun _ => HSP.out _ HPq4.out.blk HEq4.out) ?_
              clear hK16 K16 hown hgrow hat hlt
              try simp only [Act.put, List.setIfInBounds_toArray]
              refine wpAnyK_take 17 (v := (.pointer (some ⟨wb, 0, none⟩))) rfl (by kernel_rfl) (by kernel_rfl) (fun _ _ _ h => h) ⟨by rfl, by intro w; first | (go_simp; done) | (go_simp; rfl)⟩ (fun _ => HSP.out Xq4 HPq4.out.blk HEq4.out) ?_
              try simp only [Act.put]
              refine wpAnyK_take 18 (v := (.pointer (some ⟨wb, 0, none⟩))) rfl (by kernel_rfl) (by kernel_rfl) (fun _ _ _ h => h) ⟨by rfl, by intro w; first | (go_simp; done) | (go_simp; rfl)⟩ (fun _ => HSP.out Xq4 HPq4.out.blk HEq4.out) ?_
              try simp only [Act.put]
              refine wpAnyK_take 19 (v := (.pointer (some ⟨wb, 0, none⟩))) rfl (by kernel_rfl) (by kernel_rfl) (fun _ _ _ h => h) ⟨by rfl, by intro w; first | (go_simp; done) | (go_simp; rfl)⟩ (fun _ => HSP.out Xq4 HPq4.out.blk HEq4.out) ?_
              try simp only [Act.put]
              have z0 := HPq4.out.blk.cell 0
              have z1 := HPq4.out.blk.frozen 0
              have HPs := Lib.hid (HPq4.out.set (i := 0) (cE' := .slice (some ⟨gE, 0, none⟩) (N + 1) cE) (cO' := (.slice oa L oc)) (.slice (some ⟨gE, 0, none⟩) (N + 1) cE) rfl)
              have y0 := HPs.out.blk.cell 1
              have y1 := HPs.out.blk.frozen 1
              refine wpAnyK_one 20 rfl (by kernel_rfl) ?_
              intro K20 hK20
              go_simp
              refine hK20.out _ _ (fun h => nomatch (show true = false from h)) ?_
              clear hK20 K20
              try simp only [Act.put, List.setIfInBounds_toArray, List.set_cons_zero, List.set_cons_succ]
              refine wpAnyK_take 21 (v := (.pointer (some ⟨wb, 0, none⟩))) rfl (by kernel_rfl) (by kernel_rfl) (fun _ _ _ h => h) ⟨by rfl, by intro w; first | (go_simp; done) | (go_simp; rfl)⟩ (fun h => nomatch (show true = false from h)) ?_
              try simp only [Act.put, List.setIfInBounds_toArray]
              refine wpAnyK_take 22 (v := (.pointer (some ⟨wb, 1, none⟩))) rfl (by kernel_rfl) (by kernel_rfl) (fun _ _ _ h => h) ⟨by rfl, by intro w; first | (go_simp; done) | (go_simp; rfl)⟩ (fun h => nomatch (show true = false from h)) ?_
              try simp only [Act.put]
              have HPt := Lib.hid (HPs.out.set (i := 1) (cE' := .slice (some ⟨gE, 0, none⟩) (N + 1) cE) (cO' := .slice (some ⟨gO, 0, none⟩) (L + 1) cO) (.slice (some ⟨gO, 0, none⟩) (L + 1) cO) rfl)
              refine wpAnyK_one 23 rfl (by kernel_rfl) ?_
              intro K23 hK23
              go_simp
              refine hK23.out _ _ (fun h => nomatch (show true = false from h)) ?_
              clear hK23 K23
              try simp only [Act.put, List.setIfInBounds_toArray, List.set_cons_zero, List.set_cons_succ]
              refine wpAnyK_done (by kernel_rfl) ?_ _
              go_wp2
              go_ret
              exact HEND.out _ _ _ HPt.out
            · intro K15 hK15
              go_simp
              refine hK15.out _ _ (fun _ => HSP.out _ (HPq1.out.alloc _).blk (HEq1.out.alloc _)) ?_
              clear hK15 K15
              obtain ⟨Xq2, hXq2⟩ : ∃ X', Xq1.alloc (.cells #[.int .i64 N] 3) = X' := ⟨_, rfl⟩
              have HPq2 := Lib.hid (show PushW n0 wb (FootW wb es ev ov) W B (codeW false) es1 (⟨nm, U, pairA ps, [], ⟨#[]⟩⟩, .slice va vn vc, .slice none 0 0) (.slice ea1 N ec1) (.slice oa L oc) (.slice ea1 N ec1) (.slice oa L oc) N (es1.flatMap wCells) L (intCells op.reverse) Xq2 by rw [← hXq2]; exact HPq1.out.alloc _)
              have HEq2 := Lib.hid (show BlkAt Xq2 E 57 #[.string nm, .int .i64 0, .int .i64 U, .slice va vn vc, .slice none 0 0, .string ⟨#[]⟩] by rw [← hXq2]; exact HEq1.out.alloc _)
              have Hb15q2 := Lib.hid (show BlkAt Xq2 Xq1.heap.size 3 #[.int .i64 N] by rw [← hXq2]; exact BlkAt.new _ _ _)
              have Hb8q2 := Lib.hid (show BlkAt Xq2 Vd.heap.size 57 #[.string nm, .int .i64 0, .int .i64 U, .slice va vn vc, .slice none 0 0, .string ⟨#[]⟩] by rw [← hXq2]; exact Hb8q1.out.alloc _)
              rw [hXq2]
              clear hXq2
              try simp only [Act.put, List.setIfInBounds_toArray, List.set_cons_zero, List.set_cons_succ]
              refine wpAnyK_one 9 rfl (by kernel_rfl) ?_
              intro K9 hK9
              refine step_append_lies _ (by rfl) _ _ _ (by rfl) n0 57 i0 _ 6 96 Try.underlying30 hi0 hz0 hz1 hz2 rfl (by omega) (.slice ea1 N ec1) N (es1.flatMap wCells) (by rfl) HPq2.out.rowE ⟨Vd.heap.size, 0, none⟩ 1 1 (#[.string nm, .int .i64 0, .int .i64 U, .slice va vn vc, .slice none 0 0, .string ⟨#[]⟩] : Array Value).toList (by rfl) (by rfl) (World.news_of_block Hb8q2.out) (by simp [Value.oneCell']) (by omega) (by unfold maxLen; omega) (by omega) HPq2.out.size _ rfl ?_
              intro gE cE Xq3 hown hgrow hat hlt
              have HPq3 := Lib.hid (HPq2.out.appE hown hgrow hat)
              have HEq3 := Lib.hid (HEq2.out.grown hgrow (fun e => hEE e.symm))
              have Hb15q3 := Lib.hid (Hb15q2.out.grown hgrow (fun e => blk_ne HPq2.out.rowE Hb15q2.out (by decide) e.symm))
              refine hK9.out _ _ (fun _ => HSP.out _ HPq3.out.blk HEq3.out) ?_
              clear hK9 K9 hown hgrow hat hlt
              try simp only [Act.put, List.setIfInBounds_toArray]
              refine wpAnyK_one 16 rfl (by kernel_rfl) ?_
              intro K16 hK16
              refine step_append_lies _ (by rfl) _ _ _ (by rfl) n0 3 j0 _ 1 8 Try.underlying33 hj0 hy0 hy1 hy2 rfl (by omega) (.slice oa L oc) L (intCells op.reverse) (by rfl) HPq3.out.rowO ⟨Xq1.heap.size, 0, none⟩ 1 1 [.int .i64 N] (by rfl) (by rfl) (World.news_of_block (cs := #[.int .i64 N]) Hb15q3.out) (by simp [Value.oneCell']) (by omega) (by unfold maxLen; omega) (by omega) HPq3.out.size _ rfl ?_
              intro gO cO Xq4 hown hgrow hat hlt
              have HPq4 := Lib.hid (HPq3.out.appO hown hgrow hat)
              have HEq4 := Lib.hid (HEq3.out.grown hgrow (fun e => blk_ne HPq3.out.rowO HEq3.out (by decide) e.symm))
              refine hK16.out _ _ (fun _ => HSP.out _ HPq4.out.blk HEq4.out) ?_
              clear hK16 K16 hown hgrow hat hlt
              try simp only [Act.put]
              refine wpAnyK_take 17 (v := (.pointer (some ⟨wb, 0, none⟩))) rfl (by kernel_rfl) (by kernel_rfl) (fun _ _ _ h => h) ⟨by rfl, by intro w; first | (go_simp; done) | (go_simp; rfl)⟩ (fun _ => HSP.out Xq4 HPq4.out.blk HEq4.out) ?_
              try simp only [Act.put]
              refine wpAnyK_take 18 (v := (.pointer (some ⟨wb, 0, none⟩))) rfl (by kernel_rfl) (by kernel_rfl) (fun _ _ _ h => h) ⟨by rfl, by intro w; first | (go_simp; done) | (go_simp; rfl)⟩ (fun _ => HSP.out Xq4 HPq4.out.blk HEq4.out) ?_
              try simp only [Act.put]
              refine wpAnyK_take 19 (v := (.pointer (some ⟨wb, 0, none⟩))) rfl (by kernel_rfl) (by kernel_rfl) (fun _ _ _ h => h) ⟨by rfl, by intro w; first | (go_simp; done) | (go_simp; rfl)⟩ (fun _ => HSP.out Xq4 HPq4.out.blk HEq4.out) ?_
              try simp only [Act.put]
              have z0 := HPq4.out.blk.cell 0
              have z1 := HPq4.out.blk.frozen 0
              have HPs := Lib.hid (HPq4.out.set (i := 0) (cE' := .slice (some ⟨gE, 0, none⟩) (N + 1) cE) (cO' := (.slice oa L oc)) (.slice (some ⟨gE, 0, none⟩) (N + 1) cE) rfl)
              have y0 := HPs.out.blk.cell 1
              have y1 := HPs.out.blk.frozen 1
              refine wpAnyK_one 20 rfl (by kernel_rfl) ?_
              intro K20 hK20
              go_simp
              refine hK20.out _ _ (fun h => nomatch (show true = false from h)) ?_
              clear hK20 K20
              try simp only [Act.put, List.setIfInBounds_toArray, List.set_cons_zero, List.set_cons_succ]
              refine wpAnyK_take 21 (v := (.pointer (some ⟨wb, 0, none⟩))) rfl (by kernel_rfl) (by kernel_rfl) (fun _ _ _ h => h) ⟨by rfl, by intro w; first | (go_simp; done) | (go_simp; rfl)⟩ (fun h => nomatch (show true = false from h)) ?_
              try simp only [Act.put, List.setIfInBounds_toArray]
              refine wpAnyK_take 22 (v := (.pointer (some ⟨wb, 1, none⟩))) rfl (by kernel_rfl) (by kernel_rfl) (fun _ _ _ h => h) ⟨by rfl, by intro w; first | (go_simp; done) | (go_simp; rfl)⟩ (fun h => nomatch (show true = false from h)) ?_
              try simp only [Act.put]
              have HPt := Lib.hid (HPs.out.set (i := 1) (cE' := .slice (some ⟨gE, 0, none⟩) (N + 1) cE) (cO' := .slice (some ⟨gO, 0, none⟩) (L + 1) cO) (.slice (some ⟨gO, 0, none⟩) (L + 1) cO) rfl)
              refine wpAnyK_one 23 rfl (by kernel_rfl) ?_
              intro K23 hK23
              go_simp
              refine hK23.out _ _ (fun h => nomatch (show true = false from h)) ?_
              clear hK23 K23
              try simp only [Act.put, List.setIfInBounds_toArray, List.set_cons_zero, List.set_cons_succ]
              refine wpAnyK_done (by kernel_rfl) ?_ _
              go_wp2
              go_ret
              exact HEND.out _ _ _ HPt.out
          · intro K15 hK15
            go_simp
            refine hK15.out _ _ (fun _ => HSP.out _ (HPd.out.alloc _).blk (HEd.out.alloc _)) ?_
            clear hK15 K15
            obtain ⟨Xq1, hXq1⟩ : ∃ X', Vd.alloc (.cells #[.int .i64 N] 3) = X' := ⟨_, rfl⟩
            have HPq1 := Lib.hid (show PushW n0 wb (FootW wb es ev ov) W B (codeW false) es1 (⟨nm, U, pairA ps, [], ⟨#[]⟩⟩, .slice va vn vc, .slice none 0 0) (.slice ea1 N ec1) (.slice oa L oc) (.slice ea1 N ec1) (.slice oa L oc) N (es1.flatMap wCells) L (intCells op.reverse) Xq1 by rw [← hXq1]; exact HPd.out.alloc _)
            have HEq1 := Lib.hid (show BlkAt Xq1 E 57 #[.string nm, .int .i64 0, .int .i64 U, .slice va vn vc, .slice none 0 0, .string ⟨#[]⟩] by rw [← hXq1]; exact HEd.out.alloc _)
            have Hb15q1 := Lib.hid (show BlkAt Xq1 Vd.heap.size 3 #[.int .i64 N] by rw [← hXq1]; exact BlkAt.new _ _ _)
            rw [hXq1]
            clear hXq1
            try simp only [Act.put, List.setIfInBounds_toArray, List.set_cons_zero, List.set_cons_succ]
            refine wpAnyK_one 8 rfl (by kernel_rfl) ?_
            intro K8 hK8
            go_simp
            refine hK8.out _ _ (fun _ => HSP.out _ (HPq1.out.alloc _).blk (HEq1.out.alloc _)) ?_
            clear hK8 K8
            obtain ⟨Xq2, hXq2⟩ : ∃ X', Xq1.alloc (.cells #[.string nm, .int .i64 0, .int .i64 U, .slice va vn vc, .slice none 0 0, .string ⟨#[]⟩] 57) = X' := ⟨_, rfl⟩
            have HPq2 := Lib.hid (show PushW n0 wb (FootW wb es ev ov) W B (codeW false) es1 (⟨nm, U, pairA ps, [], ⟨#[]⟩⟩, .slice va vn vc, .slice none 0 0) (.slice ea1 N ec1) (.slice oa L oc) (.slice ea1 N ec1) (.slice oa L oc) N (es1.flatMap wCells) L (intCells op.reverse) Xq2 by rw [← hXq2]; exact HPq1.out.alloc _)
            have HEq2 := Lib.hid (show BlkAt Xq2 E 57 #[.string nm, .int .i64 0, .int .i64 U, .slice va vn vc, .slice none 0 0, .string ⟨#[]⟩] by rw [← hXq2]; exact HEq1.out.alloc _)
            have Hb8q2 := Lib.hid (show BlkAt Xq2 Xq1.heap.size 57 #[.string nm, .int .i64 0, .int .i64 U, .slice va vn vc, .slice none 0 0, .string ⟨#[]⟩] by rw [← hXq2]; exact BlkAt.new _ _ _)
            have Hb15q2 := Lib.hid (show BlkAt Xq2 Vd.heap.size 3 #[.int .i64 N] by rw [← hXq2]; exact Hb15q1.out.alloc _)
            rw [hXq2]
            clear hXq2
            try simp only [Act.put, List.setIfInBounds_toArray, List.set_cons_zero, List.set_cons_succ]
            refine wpAnyK_one 9 rfl (by kernel_rfl) ?_
            intro K9 hK9
            refine step_append_lies _ (by rfl) _ _ _ (by rfl) n0 57 i0 _ 6 96 Try.underlying30 hi0 hz0 hz1 hz2 rfl (by omega) (.slice ea1 N ec1) N (es1.flatMap wCells) (by rfl) HPq2.out.rowE ⟨Xq1.heap.size, 0, none⟩ 1 1 (#[.string nm, .int .i64 0, .int .i64 U, .slice va vn vc, .slice none 0 0, .string ⟨#[]⟩] : Array Value).toList (by rfl) (by rfl) (World.news_of_block Hb8q2.out) (by simp [Value.oneCell']) (by omega) (by unfold maxLen; omega) (by omega) HPq2.out.size _ rfl ?_
            intro gE cE Xq3 hown hgrow hat hlt
            have HPq3 := Lib.hid (HPq2.out.appE hown hgrow hat)
            have HEq3 := Lib.hid (HEq2.out.grown hgrow (fun e => hEE e.symm))
            have Hb15q3 := Lib.hid (Hb15q2.out.grown hgrow (fun e => blk_ne HPq2.out.rowE Hb15q2.out (by decide) e.symm))
            refine hK9.out _ _ (fun _ => HSP.out _ HPq3.out.blk HEq3.out) ?_
            clear hK9 K9 hown hgrow hat hlt
            try simp only [Act.put, List.setIfInBounds_toArray]
            refine wpAnyK_one 16 rfl (by kernel_rfl) ?_
            intro K16 hK16
            refine step_append_lies _ (by rfl) _ _ _ (by rfl) n0 3 j0 _ 1 8 Try.underlying33 hj0 hy0 hy1 hy2 rfl (by omega) (.slice oa L oc) L (intCells op.reverse) (by rfl) HPq3.out.rowO ⟨Vd.heap.size, 0, none⟩ 1 1 [.int .i64 N] (by rfl) (by rfl) (World.news_of_block (cs := #[.int .i64 N]) Hb15q3.out) (by simp [Value.oneCell']) (by omega) (by unfold maxLen; omega) (by omega) HPq3.out.size _ rfl ?_
            intro gO cO Xq4 hown hgrow hat hlt
            have HPq4 := Lib.hid (HPq3.out.appO hown hgrow hat)
            have HEq4 := Lib.hid (HEq3.out.grown hgrow (fun e => blk_ne HPq3.out.rowO HEq3.out (by decide) e.symm))
            refine hK16.out _ _ (fun _ => HSP.out _ HPq4.out.blk HEq4.out) ?_
            clear hK16 K16 hown hgrow hat hlt
            try simp only [Act.put]
            refine wpAnyK_take 17 (v := (.pointer (some ⟨wb, 0, none⟩))) rfl (by kernel_rfl) (by kernel_rfl) (fun _ _ _ h => h) ⟨by rfl, by intro w; first | (go_simp; done) | (go_simp; rfl)⟩ (fun _ => HSP.out Xq4 HPq4.out.blk HEq4.out) ?_
            try simp only [Act.put]
            refine wpAnyK_take 18 (v := (.pointer (some ⟨wb, 0, none⟩))) rfl (by kernel_rfl) (by kernel_rfl) (fun _ _ _ h => h) ⟨by rfl, by intro w; first | (go_simp; done) | (go_simp; rfl)⟩ (fun _ => HSP.out Xq4 HPq4.out.blk HEq4.out) ?_
            try simp only [Act.put]
            refine wpAnyK_take 19 (v := (.pointer (some ⟨wb, 0, none⟩))) rfl (by kernel_rfl) (by kernel_rfl) (fun _ _ _ h => h) ⟨by rfl, by intro w; first | (go_simp; done) | (go_simp; rfl)⟩ (fun _ => HSP.out Xq4 HPq4.out.blk HEq4.out) ?_
            try simp only [Act.put]
            have z0 := HPq4.out.blk.cell 0
            have z1 := HPq4.out.blk.frozen 0
            have HPs := Lib.hid (HPq4.out.set (i := 0) (cE' := .slice (some ⟨gE, 0, none⟩) (N + 1) cE) (cO' := (.slice oa L oc)) (.slice (some ⟨gE, 0, none⟩) (N + 1) cE) rfl)
            have y0 := HPs.out.blk.cell 1
            have y1 := HPs.out.blk.frozen 1
            refine wpAnyK_one 20 rfl (by kernel_rfl) ?_
            intro K20 hK20
            go_simp
            refine hK20.out _ _ (fun h => nomatch (show true = false from h)) ?_
            clear hK20 K20
            try simp only [Act.put, List.setIfInBounds_toArray, List.set_cons_zero, List.set_cons_succ]
            refine wpAnyK_take 21 (v := (.pointer (some ⟨wb, 0, none⟩))) rfl (by kernel_rfl) (by kernel_rfl) (fun _ _ _ h => h) ⟨by rfl, by intro w; first | (go_simp; done) | (go_simp; rfl)⟩ (fun h => nomatch (show true = false from h)) ?_
            try simp only [Act.put, List.setIfInBounds_toArray]
            refine wpAnyK_take 22 (v := (.pointer (some ⟨wb, 1, none⟩))) rfl (by kernel_rfl) (by kernel_rfl) (fun _ _ _ h => h) ⟨by rfl, by intro w; first | (go_simp; done) | (go_simp; rfl)⟩ (fun h => nomatch (show true = false from h)) ?_
            try simp only [Act.put]
            have HPt := Lib.hid (HPs.out.set (i := 1) (cE' := .slice (some ⟨gE, 0, none⟩) (N + 1) cE) (cO' := .slice (some ⟨gO, 0, none⟩) (L + 1) cO) (.slice (some ⟨gO, 0, none⟩) (L + 1) cO) rfl)
            refine wpAnyK_one 23 rfl (by kernel_rfl) ?_
            intro K23 hK23
            go_simp
            refine hK23.out _ _ (fun h => nomatch (show true = false from h)) ?_
            clear hK23 K23
            try simp only [Act.put, List.setIfInBounds_toArray, List.set_cons_zero, List.set_cons_succ]
            refine wpAnyK_done (by kernel_rfl) ?_ _
            go_wp2
            go_ret
            exact HEND.out _ _ _ HPt.out
end Go.Proofs.Ytajnpmhgldfgfaa
