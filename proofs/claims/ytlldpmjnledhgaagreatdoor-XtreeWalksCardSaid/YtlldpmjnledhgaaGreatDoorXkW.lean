/- The walk of the cutter's words. -/
import Derived.Test.YtlldpmjnledhgaaGreatDoorXkV
import Derived.Test.YtlldpmjnledhgaaGreatDoorXkM
import Derived.Test.YtlldpmjnledhgaaGreatDoorXkAn
namespace Go.Proofs.YtlldpmjnledhgaaGreatDoor
open Go.RowKit
set_option linter.unusedVariables false

/-- The loop of a Text: behind what was told, at a place. -/
def WrdL (s : ByteArray) (en : Nat) (R : XR (List UInt8)) (w : World) (p : Value) (W : World) : Prop :=
  ∃ k acc f, p = .int .i64 (k : Nat) ∧ k ≤ en ∧ wordsX f ((s.data.toList.drop k).take (en - k)) k acc = R ∧ acc.length + 4 * (en - k) ≤ 4 * en ∧ IsB (w.heap.size + 1) (w.heap.size + 1) acc W ∧ Below (w.heap.size + 1) (two0 w) W
def wordsR (s : ByteArray) (c : XS) (R : XR (List UInt8)) : XR XS :=
  match R with
  | .none => .none
  | .bad e => .bad e
  | .ok x => .ok { addX c c.place x with place := endX s.data.toList c.place }
theorem wordsX_nil {f k : Nat} {acc : List UInt8} {R : XR (List UInt8)} (h : wordsX f [] k acc = R) (hR : R ≠ .none) : R = .ok acc := by
  cases f with
  | zero => exact absurd h.symm hR
  | succ f => rw [wordsX] at h; rw [if_pos rfl] at h; exact h.symm
theorem wordsX_step {f k : Nat} {l acc : List UInt8} {R : XR (List UInt8)} (h : wordsX f l k acc = R) (hR : R ≠ .none) (hl : l ≠ []) :
    ∃ f', (if Lib.indexAny l [38, 93] < 0 then .ok (acc ++ linesX l)
    else if 0 < Lib.indexAny l [38, 93] then
      wordsX f' (l.drop (Lib.indexAny l [38, 93]).toNat) (k + (Lib.indexAny l [38, 93]).toNat) (acc ++ linesX (l.take (Lib.indexAny l [38, 93]).toNat))
    else if l[0]? = some 38 then
      match refX l with
      | none => .bad ⟨11, k, wReference⟩
      | some (t, n) => wordsX f' (l.drop n) (k + n) (acc ++ t)
    else if Lib.hasPrefix l [93, 93, 62] then .bad ⟨11, k, wCdataEnd⟩
    else wordsX f' (l.drop 1) (k + 1) (acc ++ [93])) = R := by
  cases f with
  | zero => exact absurd h.symm hR
  | succ f => rw [wordsX, if_neg hl] at h; exact ⟨f, h⟩
theorem ext_list {s : ByteArray} {k en : Nat} : (s.extract k en).data.toList = (s.data.toList.drop k).take (en - k) := extract_list s k en
theorem ext_sub {s : ByteArray} {k en n : Nat} (hn : n ≤ en - k) (hk : k ≤ en) : ((s.data.toList.drop k).take (en - k)).drop n = (s.data.toList.drop (k + n)).take (en - (k + n)) := by
  rw [List.drop_take, List.drop_drop]
  congr 1
  omega

theorem writeBr (B b : Nat) (l : List UInt8) (w : World) (h : IsB B b l w) (hlen : l.length + 1 ≤ 140737488355328) (hBw : B ≤ w.heap.size) :
    Calls Tryz.prog 73 #[.pointer (some ⟨b, 0, none⟩), .int .u8 93] w fun e w' => e = .returned .nilIface ∧ (IsB B b (l ++ [93]) w' ∧ Below B w w') := writeByte0 B b l 93 w h hlen hBw
theorem two0_low {w W : World} (hW : Below (w.heap.size + 1) (two0 w) W) : Below w.heap.size w W := (((Below.refl _ w).alloc (Nat.le_refl _) _).alloc (by simp) _).trans (hW.mono (by omega))
/-- The end of a step that goes on at e. -/
theorem place_end {base cb r e : Nat} {s : ByteArray} {c : XS} {ts : List (XT × Value)} {out p v : Value} {W : World} (h : CutI base cb s c ts out p v W) (hr : BlkAt W r 28 #[.int .i64 0, .int .i64 0, .string ⟨#[]⟩]) (hbr : base ≤ r) :
    BlkAt ((((W.setCell ⟨cb, 1, none⟩ (.int .i64 e)).setCell ⟨r, 0, none⟩ (.int .i64 0)).setCell ⟨r, 1, none⟩ (.int .i64 0)).setCell ⟨r, 2, none⟩ (.string ⟨#[]⟩)) r 28 #[.int .i64 0, .int .i64 0, .string ⟨#[]⟩] ∧
      CutOf base cb s { c with place := e } ((((W.setCell ⟨cb, 1, none⟩ (.int .i64 e)).setCell ⟨r, 0, none⟩ (.int .i64 0)).setCell ⟨r, 1, none⟩ (.int .i64 0)).setCell ⟨r, 2, none⟩ (.string ⟨#[]⟩)) ∧
      KeepX base W (W.setCell ⟨cb, 1, none⟩ (.int .i64 e)) ∧ (W.setCell ⟨cb, 1, none⟩ (.int .i64 e)).grownBy ((((W.setCell ⟨cb, 1, none⟩ (.int .i64 e)).setCell ⟨r, 0, none⟩ (.int .i64 0)).setCell ⟨r, 1, none⟩ (.int .i64 0)).setCell ⟨r, 2, none⟩ (.string ⟨#[]⟩)) (some r) := by
  have hcr : cb ≠ r := fun e => by
    subst e
    have h1 := h.blk
    rw [BlkAt, show W.heap[cb]? = _ from hr] at h1
    cases h1
  have b5 := h.blk.set 1 (.int .i64 e)
  have g5 := grown_set W cb 1 (.int .i64 e)
  obtain ⟨hM5, hK5⟩ := h.toM.set (pl' := e) (si' := c.since) g5 b5
  have hT5 := h.text.kept g5 (.inr h.apart.1)
  have hI5 : CutI base cb s { c with place := e } ts out p v _ := CutM.toI (c := { c with place := e }) hM5 h.self hT5 h.told
  have r5 := hr.far (p := ⟨cb, 1, none⟩) (fun e => hcr e.symm) (.int .i64 e)
  have hS := three_sets (.int .i64 0) (.int .i64 0) (.string ⟨#[]⟩) r5
  exact ⟨hS.1, ⟨_, _, _, _, hI5.diag r5 hbr hS.2⟩, hK5, hS.2⟩

set_option maxRecDepth 100000 in
set_option maxHeartbeats 16000000 in
theorem words_in {base cb : Nat} {s : ByteArray} {c : XS} {w : World} {m : Int} {f : Nat} {R : XR (List UInt8)} (hs : s.size ≤ 1000000) (hm : w.cell? ⟨0, 0, none⟩ = some (.int .i64 m)) (h : CutOf base cb s c w) (hct : c.text.length ≤ 10000000) (hcp : c.place ≤ s.size)
    (hv : wordsX f ((s.data.toList.drop c.place).take (endX s.data.toList c.place - c.place)) c.place [] = R) (hR : R ≠ .none) :
    Calls Tryz.prog 55 #[.pointer (some ⟨cb, 0, none⟩)] w fun e w' => StepR base cb s w (wordsR s c R) e w' := by
  obtain ⟨ts, out, p, v, h⟩ := h
  obtain ⟨en, hen⟩ : ∃ en, endX s.data.toList c.place = en := ⟨_, rfl⟩
  have hls : s.data.toList.length = s.size := by simp
  have hbd := endX_bd s.data.toList c.place (by omega)
  rw [hen, hls] at hbd
  obtain ⟨hb1, hb2⟩ := hbd
  rw [hen] at hv
  have hb := h.blk
  have HK := Lib.hid (fun (W : World) (hW : Below (w.heap.size + 1) (two0 w) W) => (show W.cell? ⟨cb, 0, none⟩ = some (.string s) ∧ W.cell? ⟨cb, 1, none⟩ = some (.int .i64 c.place) ∧ W.cell? ⟨0, 0, none⟩ = some (.int .i64 m) from ⟨(two0_keep hb hW).cell 0, (two0_keep hb hW).cell 1, by
    have hl := block_lt' hm
    have e1 : (two0 w).cell? ⟨0, 0, none⟩ = w.cell? ⟨0, 0, none⟩ := World.cell?_of_block (by
      show (two0 w).heap[(_ : Nat)]? = _
      unfold two0
      rw [Below.heap_alloc _ _ _ (by rw [World.size_alloc]; exact Nat.lt_succ_of_lt hl), Below.heap_alloc _ _ _ hl])
    rw [hW.cell (p := ⟨0, 0, none⟩) (by omega), e1]; exact hm⟩))
  have hk0 := (two0_keep hb (Below.refl _ _)).cell 0
  have HJ := Lib.hid (fun (W : World) (hW : Below (w.heap.size + 1) (two0 w) W) => HK.out W hW)
  obtain ⟨ca, hcc⟩ : ∃ ca, c.place = ca := ⟨_, rfl⟩
  rw [hcc] at hb1 hv hcp
  have hidx : (Lib.indexByte (s.data.toList.drop ca) 60 = -1 ∧ en = s.size) ∨ ∃ j : Nat, Lib.indexByte (s.data.toList.drop ca) 60 = (j : Int) ∧ en = j + ca := by
    have h1 : endX s.data.toList ca = en := by rw [← hcc]; exact hen
    unfold endX at h1
    rcases indexByte_bd (s.data.toList.drop ca) 60 with h2 | ⟨j, h2, _⟩
    · rw [h2, if_pos (by decide), hls] at h1
      exact .inl ⟨h2, h1.symm⟩
    · rw [h2, if_neg (by omega)] at h1
      exact .inr ⟨j, h2, by rw [← h1]; simp; omega⟩
  have w0 : w.cell? ⟨cb, 0, none⟩ = some (.string s) := hb.cell 0
  have w1 : w.cell? ⟨cb, 1, none⟩ = some (.int .i64 ca) := by rw [← hcc]; exact hb.cell 1
  have a0 : (w.alloc dg0).cell? ⟨cb, 0, none⟩ = some (.string s) := (hb.alloc _).cell 0
  have a1 : (w.alloc dg0).cell? ⟨cb, 1, none⟩ = some (.int .i64 ca) := by rw [← hcc]; exact (hb.alloc _).cell 1
  have HK' := Lib.hid (fun (W : World) (hW : Below (w.heap.size + 1) (two0 w) W) => (show W.cell? ⟨cb, 0, none⟩ = some (.string s) ∧ W.cell? ⟨cb, 1, none⟩ = some (.int .i64 ca) ∧ W.cell? ⟨0, 0, none⟩ = some (.int .i64 m) from by rw [← hcc]; exact HK.out W hW))
  clear HK HJ hk0
  have HK := HK'
  have hcl := hb.lt
  have hcr : ¬ cb = w.heap.size := by omega
  have hcr2 : ¬ w.heap.size = cb := by omega
  have HBS := Lib.hid (show base ≤ w.heap.size by have := h.hcb; omega)
  have H0 := Lib.hid (show WrdL s en R w (.int .i64 (ca : Nat)) (two0 w) from ⟨ca, [], f, rfl, hb1, hv, by simp; omega, two0_b w, Below.refl _ _⟩)
  have HRR := Lib.hid hR
  have HH := Lib.hid h
  have HEN := Lib.hid hen
  have HCC := Lib.hid hcc
  clear hv hls hb hR h hen hcc hm HK'
  go_enter Tryz.func55, Tryz.ntmps55
  rcases hidx with ⟨hidx, he0⟩ | ⟨j, hidx, he0⟩
  all_goals
    have HIX := Lib.hid (fun W => (Tryz.strings_IndexByte (s.extract ca s.size) 60 W))
    rw [extract_drop, show ((60 : Int).toNat.toUInt8) = 60 from rfl, hidx] at HIX
    clear hidx
    go_wp2_with (go_at_call 68; refine (HIX.out _).mono ?_; rintro e w' ⟨rfl, rfl⟩)
    clear HIX
  · rw [show ((s.size : Nat) : Int) = ((en : Nat) : Int) from by omega]
    clear he0
    go_loopw [6] (fun x W => WrdL s en R w x W) (fun x W => en + 1 - (intOf x).toNat)
    case atStart => exact H0.out
    case round =>
      obtain ⟨k, acc, f2, rfl, hk, hval, hacc, hB, hW⟩ := hrel
      have HW := Lib.hid hW
      have HB := Lib.hid hB
      have hsz := hW.size
      rw [two0_size] at hsz
      obtain ⟨k0, k1, km⟩ := HK.out _ hW
      clear hW hB
      by_cases hlt : k < en
      · rw [← ext_list] at hval
        have hxs : (s.extract k en).size = en - k := by simp; omega
        have hxl : (s.extract k en).data.toList.length = en - k := by rw [ext_list]; simp; omega
        obtain ⟨f3, hval⟩ := wordsX_step hval HRR.out (fun e => by rw [e] at hxl; simp at hxl; omega)
        have hacc1 : acc.length + 4 * (en - k) ≤ 4000000 := by omega
        have HAny := Lib.hid (fun W => indexAny_any (s.extract k en) W (by omega))
        have hsub : ∀ n, n ≤ en - k → (s.extract k en).data.toList.drop n = (s.data.toList.drop (k + n)).take (en - (k + n)) := fun n hn => by rw [ext_list]; exact ext_sub hn hk
        have hlnl := linesX_len (s.extract k en).data.toList
        rw [hxl] at hlnl
        rcases indexAny_bd [38, 93] (s.extract k en).data.toList with h1 | ⟨j2, h1, h2, ch, h3, h4⟩
        · rw [h1, if_pos (by decide)] at hval
          rw [h1] at HAny
          have HV := Lib.hid hval
          have HX := Lib.hid hxs
          obtain ⟨ln, hln⟩ : ∃ ln, linesX (s.extract k en).data.toList = ln := ⟨_, rfl⟩
          rw [hln] at hlnl HV
          have HLN := Lib.hid (fun W h => lines_any (s.extract k en) (by omega) m W h)
          rw [hln] at HLN
          have hlz := size_mk ln
          clear hval h1 hxl hsub hln
          go_wp2_with (first
            | (go_at_call 69; refine (HAny.out _).mono ?_; rintro e w1 ⟨rfl, hB1⟩; have HW1 := Lib.hid (HW.out.trans (hB1.mono (by omega))); have hz1 := hB1.size; have HB1 := Lib.hid (HB.out.below hB1); obtain ⟨k10, k11, k12⟩ := HK.out _ HW1.out)
            | (go_at_call 71; refine (HLN.out _ k12).mono ?_; rintro e w2 ⟨rfl, hB2⟩; have HW2 := Lib.hid (HW1.out.trans (hB2.mono (by omega))); have hz2 := hB2.size; have HB2 := Lib.hid (HB1.out.below hB2))
            | (go_at_call 70; refine (writeString0 _ _ acc _ _ HB2.out (by rw [size_mk]; omega) (by omega)).mono ?_; rintro e w5 ⟨rfl, hB5, hW5⟩; have HB5 := Lib.hid hB5; have HW5 := Lib.hid (HW2.out.trans hW5)))
          go_roundw
          case rel => exact ⟨en, acc ++ ln, 1, by go_num, Nat.le_refl _, by rw [Nat.sub_self, List.take_zero, wordsX, if_pos rfl]; exact HV.out, by simp; omega, HB5.out, HW5.out⟩
          case measure => simp [intOf]; omega
        · by_cases hj : 0 < j2
          · rw [h1, if_neg (by omega), if_pos (by omega), Int.toNat_natCast, hsub j2 (by omega)] at hval
            rw [h1] at HAny
            have hext : ((s.extract k en).extract 0 j2).data.toList = (s.extract k en).data.toList.take j2 := by rw [extract_list]; simp
            have hez : ((s.extract k en).extract 0 j2).size = j2 := by simp; omega
            have hlnl2 := linesX_len ((s.extract k en).data.toList.take j2)
            obtain ⟨ln, hln⟩ : ∃ ln, linesX ((s.extract k en).data.toList.take j2) = ln := ⟨_, rfl⟩
            rw [hln] at hlnl2 hval
            have hlnl3 : ln.length ≤ j2 := Nat.le_trans hlnl2 (by simp; omega)
            have HV := Lib.hid hval
            have HX := Lib.hid hxs
            have HLN := Lib.hid (fun W h => lines_any ((s.extract k en).extract 0 j2) (by omega) m W h)
            rw [hext, hln] at HLN
            have hlz := size_mk ln
            rw [hxl] at h2
            clear hval h1 hxl hsub hln hext hez hlnl hlnl2 h3 h4
            go_wp2_with (first
              | (go_at_call 69; refine (HAny.out _).mono ?_; rintro e w1 ⟨rfl, hB1⟩; have HW1 := Lib.hid (HW.out.trans (hB1.mono (by omega))); have hz1 := hB1.size; have HB1 := Lib.hid (HB.out.below hB1); obtain ⟨k10, k11, k12⟩ := HK.out _ HW1.out)
              | (go_at_call 71; refine (HLN.out _ k12).mono ?_; rintro e w2 ⟨rfl, hB2⟩; have HW2 := Lib.hid (HW1.out.trans (hB2.mono (by omega))); have hz2 := hB2.size; have HB2 := Lib.hid (HB1.out.below hB2))
              | (go_at_call 70; refine (writeString0 _ _ acc _ _ HB2.out (by rw [size_mk]; omega) (by omega)).mono ?_; rintro e w5 ⟨rfl, hB5, hW5⟩; have HB5 := Lib.hid hB5; have HW5 := Lib.hid (HW2.out.trans hW5)))
            go_roundw
            case rel => exact ⟨k + j2, acc ++ ln, f3, by go_num, by omega, HV.out, by simp; omega, HB5.out, HW5.out⟩
            case measure => simp [intOf]; omega
          · obtain rfl : j2 = 0 := by omega
            rw [h1, if_neg (by omega), if_neg (by omega), h3] at hval
            rw [h1] at HAny
            have hsk : s[k] = ch := by
              have e1 : (s.extract k en).data.toList[0]? = some s[k] := by
                rw [ext_list, List.getElem?_take_of_lt (by omega)]
                have := get_list s k (by omega)
                simpa using this
              rw [e1] at h3
              exact Option.some.inj h3
            have hch : ch = 38 ∨ ch = 93 := by simpa using h4
            have h0s : 0 < (s.extract k en).size := by omega
            have he0 : (s.extract k en)[0] = ch := by
              have := get_list (s.extract k en) 0 h0s
              rw [this] at h3
              exact Option.some.inj h3
            rcases hch with rfl | rfl
            · rw [if_pos rfl] at hval
              have E3 : ((s[k].toNat : Int) == 38) = true := beq_yes hsk
              have E4 : (((s.extract k en)[0].toNat : Int) == 38) = true := beq_yes he0
              have HRf := Lib.hid (fun W => reference_any (s.extract k en) (by omega) h3 W)
              have hbd : ∀ t n, refX (s.extract k en).data.toList = some (t, n) → t.length ≤ 4 ∧ 1 ≤ n ∧ n ≤ en - k := fun t n h => by
                have := refX_bd h
                rw [hxl] at this
                exact this
              obtain ⟨o, ho⟩ : ∃ o, refX (s.extract k en).data.toList = o := ⟨_, rfl⟩
              rw [ho] at hval HRf hbd
              clear ho h1 h2 h3 h4 hsk he0 hlnl hxl hj
              cases o with
              | none =>
                have HV := Lib.hid hval
                clear hval hbd hsub
                go_wp2_with (first
                  | (go_at_call 69; refine (HAny.out _).mono ?_; rintro e w1 ⟨rfl, hB1⟩; have HW1 := Lib.hid (HW.out.trans (hB1.mono (by omega))); have hz1 := hB1.size; have HB1 := Lib.hid (HB.out.below hB1); obtain ⟨k10, k11, k12⟩ := HK.out _ HW1.out)
                  | (go_at_call 72; refine (HRf.out _).mono ?_; rintro e w2 ⟨⟨t, n, rfl⟩, hB2⟩; have HW2 := Lib.hid (HW1.out.trans (hB2.mono (by omega))); have hz2 := hB2.size)
                  | (go_at_call 52; refine (wrong_any _ _ _).mono ?_; rintro e w3 ⟨rfl, hB3⟩; have HW3 := Lib.hid (HW2.out.trans (hB3.mono (by omega))); have hr := (two0_res HW3.out); obtain ⟨⟨r0, r1, r2⟩, g0, g1, g2⟩ := res_cells hr))
                have hT := three_sets (.int .i64 11) (.int .i64 k) (.string ⟨#[114, 101, 102, 101, 114, 101, 110, 99, 101]⟩) hr
                refine bodyPost_ret (results_c rfl rfl aggDiag rfl hT.1) rfl ?_
                rw [← HV.out]
                exact ⟨rfl, KeepX.of_below (two0_below HW3.out hT.2) HBS.out⟩
              | some xn =>
                obtain ⟨x, n⟩ := xn
                obtain ⟨b1, b2, b3⟩ := hbd x n rfl
                have hval' : wordsX f3 ((s.data.toList.drop (k + n)).take (en - (k + n))) (k + n) (acc ++ x) = R := by rw [← hsub n b3]; exact hval
                have HV := Lib.hid hval'
                have hxz := size_mk x
                have HXZ := Lib.hid hxz
                clear hval hval' hbd hxz hsub
                go_wp2_with (first
                  | (go_at_call 69; refine (HAny.out _).mono ?_; rintro e w1 ⟨rfl, hB1⟩; have HW1 := Lib.hid (HW.out.trans (hB1.mono (by omega))); have hz1 := hB1.size; have HB1 := Lib.hid (HB.out.below hB1); obtain ⟨k10, k11, k12⟩ := HK.out _ HW1.out)
                  | (go_at_call 72; refine (HRf.out _).mono ?_; rintro e w2 ⟨rfl, hB2⟩; have HW2 := Lib.hid (HW1.out.trans (hB2.mono (by omega))); have hz2 := hB2.size; have HB2 := Lib.hid (HB1.out.below hB2))
                  | (go_at_call 70; refine (writeString0 _ _ acc _ _ HB2.out (by rw [size_mk]; omega) (by omega)).mono ?_; rintro e w5 ⟨rfl, hB5, hW5⟩; have HB5 := Lib.hid hB5; have HW5 := Lib.hid (HW2.out.trans hW5)))
                go_roundw
                case rel => exact ⟨k + n, acc ++ x, f3, by go_num, by omega, HV.out, by simp; omega, HB5.out, HW5.out⟩
                case measure => simp [intOf]; omega
            · rw [if_neg (by decide)] at hval
              have E3 : ((s[k].toNat : Int) == 38) = false := by rw [hsk]; rfl
              have E4 : (((s.extract k en)[0].toNat : Int) == 38) = false := by rw [he0]; rfl
              by_cases hp : Lib.hasPrefix (s.extract k en).data.toList [93, 93, 62] = true
              · rw [if_pos hp] at hval
                have HV := Lib.hid hval
                have HP := Lib.hid hp
                clear hval hsub hp h1 h2 h3 h4 hsk he0 hlnl hxl hj
                go_wp2_with (first
                  | (go_at_call 69; refine (HAny.out _).mono ?_; rintro e w1 ⟨rfl, hB1⟩; have HW1 := Lib.hid (HW.out.trans (hB1.mono (by omega))); have hz1 := hB1.size; have HB1 := Lib.hid (HB.out.below hB1); obtain ⟨k10, k11, k12⟩ := HK.out _ HW1.out)
                  | (go_at_call 56; refine (Tryz.strings_HasPrefix _ _ _).mono ?_; rintro e w2 ⟨rfl, rfl⟩; rw [HP.out])
                  | (go_at_call 52; refine (wrong_any _ _ _).mono ?_; rintro e w3 ⟨rfl, hB3⟩; have HW3 := Lib.hid (HW1.out.trans (hB3.mono (by omega))); have hr := (two0_res HW3.out); obtain ⟨⟨r0, r1, r2⟩, g0, g1, g2⟩ := res_cells hr))
                have hT := three_sets (.int .i64 11) (.int .i64 k) (.string ⟨#[93, 93, 62]⟩) hr
                refine bodyPost_ret (results_c rfl rfl aggDiag rfl hT.1) rfl ?_
                rw [← HV.out]
                exact ⟨rfl, KeepX.of_below (two0_below HW3.out hT.2) HBS.out⟩
              · rw [if_neg hp, hsub 1 (by omega)] at hval
                have HV := Lib.hid hval
                have HP := Lib.hid (show Lib.hasPrefix (s.extract k en).data.toList [93, 93, 62] = false by simpa using hp)
                clear hval hsub hp h1 h2 h3 h4 hsk he0 hlnl hxl hj
                go_wp2_with (first
                  | (go_at_call 69; refine (HAny.out _).mono ?_; rintro e w1 ⟨rfl, hB1⟩; have HW1 := Lib.hid (HW.out.trans (hB1.mono (by omega))); have hz1 := hB1.size; have HB1 := Lib.hid (HB.out.below hB1); obtain ⟨k10, k11, k12⟩ := HK.out _ HW1.out)
                  | (go_at_call 56; refine (Tryz.strings_HasPrefix _ _ _).mono ?_; rintro e w2 ⟨rfl, rfl⟩; rw [HP.out])
                  | (go_at_call 73; refine (writeBr _ _ acc _ HB1.out (by omega) (by omega)).mono ?_; rintro e w5 ⟨rfl, hB5, hW5⟩; have HB5 := Lib.hid hB5; have HW5 := Lib.hid (HW1.out.trans hW5)))
                go_roundw
                case rel => exact ⟨k + 1, acc ++ [93], f3, by go_num, by omega, HV.out, by simp; omega, HB5.out, HW5.out⟩
                case measure => simp [intOf]; omega
      · obtain rfl : k = en := by omega
        rw [Nat.sub_self, List.take_zero] at hval
        have hv := wordsX_nil hval HRR.out
        have HV := Lib.hid hv
        have hal : acc.length ≤ 4000000 := by omega
        have haz := size_mk acc
        have HAZ := Lib.hid haz
        clear hval hv haz
        go_wp2_with (first
          | (go_at_call 63; refine (Tryz.Builder_String_any _ _ acc _ HB.out (by omega)).mono ?_; rintro e w3 ⟨rfl, hB3⟩; have HW3 := Lib.hid (HW.out.trans hB3))
          | (go_at_call 74; refine (add_in (c := c) (a := ca) ⟨ts, out, p, v, HH.out.below (two0_low HW3.out)⟩ (by rw [HAZ.out]; omega)).mono ?_; rintro e w4 ⟨rfl, ⟨ts4, out4, p4, v4, hI4⟩, hK4⟩; have hr4 := (hK4.blk (two0_res HW3.out)); have q1 : w4.cell? ⟨cb, 1, none⟩ = some (.int .i64 (addX c ca acc).place) := (hI4.blk.cell 1); have q2 := hI4.blk.frozen 1; obtain ⟨⟨r0, r1, r2⟩, g0, g1, g2⟩ := res_cells hr4))
        have hE := place_end (e := k) hI4 hr4 HBS.out
        refine bodyPost_ret (results_c rfl rfl aggDiag rfl hE.1) rfl ?_
        rw [HV.out]
        refine ⟨rfl, ?_, ((KeepX.of_below (two0_low HW3.out) HBS.out).trans (hK4.trans hE.2.2.1)).fresh hE.2.2.2 (Nat.le_refl _) HBS.out⟩
        have hE2 := HEN.out
        rw [HCC.out] at hE2
        rw [HCC.out, hE2]
        exact hE.2.1
  · rw [show (j : Int) + (ca : Int) = ((en : Nat) : Int) from by omega]
    clear he0
    go_loopw [6] (fun x W => WrdL s en R w x W) (fun x W => en + 1 - (intOf x).toNat)
    case atStart => exact H0.out
    case round =>
      obtain ⟨k, acc, f2, rfl, hk, hval, hacc, hB, hW⟩ := hrel
      have HW := Lib.hid hW
      have HB := Lib.hid hB
      have hsz := hW.size
      rw [two0_size] at hsz
      obtain ⟨k0, k1, km⟩ := HK.out _ hW
      clear hW hB
      by_cases hlt : k < en
      · rw [← ext_list] at hval
        have hxs : (s.extract k en).size = en - k := by simp; omega
        have hxl : (s.extract k en).data.toList.length = en - k := by rw [ext_list]; simp; omega
        obtain ⟨f3, hval⟩ := wordsX_step hval HRR.out (fun e => by rw [e] at hxl; simp at hxl; omega)
        have hacc1 : acc.length + 4 * (en - k) ≤ 4000000 := by omega
        have HAny := Lib.hid (fun W => indexAny_any (s.extract k en) W (by omega))
        have hsub : ∀ n, n ≤ en - k → (s.extract k en).data.toList.drop n = (s.data.toList.drop (k + n)).take (en - (k + n)) := fun n hn => by rw [ext_list]; exact ext_sub hn hk
        have hlnl := linesX_len (s.extract k en).data.toList
        rw [hxl] at hlnl
        rcases indexAny_bd [38, 93] (s.extract k en).data.toList with h1 | ⟨j2, h1, h2, ch, h3, h4⟩
        · rw [h1, if_pos (by decide)] at hval
          rw [h1] at HAny
          have HV := Lib.hid hval
          have HX := Lib.hid hxs
          obtain ⟨ln, hln⟩ : ∃ ln, linesX (s.extract k en).data.toList = ln := ⟨_, rfl⟩
          rw [hln] at hlnl HV
          have HLN := Lib.hid (fun W h => lines_any (s.extract k en) (by omega) m W h)
          rw [hln] at HLN
          have hlz := size_mk ln
          clear hval h1 hxl hsub hln
          go_wp2_with (first
            | (go_at_call 69; refine (HAny.out _).mono ?_; rintro e w1 ⟨rfl, hB1⟩; have HW1 := Lib.hid (HW.out.trans (hB1.mono (by omega))); have hz1 := hB1.size; have HB1 := Lib.hid (HB.out.below hB1); obtain ⟨k10, k11, k12⟩ := HK.out _ HW1.out)
            | (go_at_call 71; refine (HLN.out _ k12).mono ?_; rintro e w2 ⟨rfl, hB2⟩; have HW2 := Lib.hid (HW1.out.trans (hB2.mono (by omega))); have hz2 := hB2.size; have HB2 := Lib.hid (HB1.out.below hB2))
            | (go_at_call 70; refine (writeString0 _ _ acc _ _ HB2.out (by rw [size_mk]; omega) (by omega)).mono ?_; rintro e w5 ⟨rfl, hB5, hW5⟩; have HB5 := Lib.hid hB5; have HW5 := Lib.hid (HW2.out.trans hW5)))
          go_roundw
          case rel => exact ⟨en, acc ++ ln, 1, by go_num, Nat.le_refl _, by rw [Nat.sub_self, List.take_zero, wordsX, if_pos rfl]; exact HV.out, by simp; omega, HB5.out, HW5.out⟩
          case measure => simp [intOf]; omega
        · by_cases hj : 0 < j2
          · rw [h1, if_neg (by omega), if_pos (by omega), Int.toNat_natCast, hsub j2 (by omega)] at hval
            rw [h1] at HAny
            have hext : ((s.extract k en).extract 0 j2).data.toList = (s.extract k en).data.toList.take j2 := by rw [extract_list]; simp
            have hez : ((s.extract k en).extract 0 j2).size = j2 := by simp; omega
            have hlnl2 := linesX_len ((s.extract k en).data.toList.take j2)
            obtain ⟨ln, hln⟩ : ∃ ln, linesX ((s.extract k en).data.toList.take j2) = ln := ⟨_, rfl⟩
            rw [hln] at hlnl2 hval
            have hlnl3 : ln.length ≤ j2 := Nat.le_trans hlnl2 (by simp; omega)
            have HV := Lib.hid hval
            have HX := Lib.hid hxs
            have HLN := Lib.hid (fun W h => lines_any ((s.extract k en).extract 0 j2) (by omega) m W h)
            rw [hext, hln] at HLN
            have hlz := size_mk ln
            rw [hxl] at h2
            clear hval h1 hxl hsub hln hext hez hlnl hlnl2 h3 h4
            go_wp2_with (first
              | (go_at_call 69; refine (HAny.out _).mono ?_; rintro e w1 ⟨rfl, hB1⟩; have HW1 := Lib.hid (HW.out.trans (hB1.mono (by omega))); have hz1 := hB1.size; have HB1 := Lib.hid (HB.out.below hB1); obtain ⟨k10, k11, k12⟩ := HK.out _ HW1.out)
              | (go_at_call 71; refine (HLN.out _ k12).mono ?_; rintro e w2 ⟨rfl, hB2⟩; have HW2 := Lib.hid (HW1.out.trans (hB2.mono (by omega))); have hz2 := hB2.size; have HB2 := Lib.hid (HB1.out.below hB2))
              | (go_at_call 70; refine (writeString0 _ _ acc _ _ HB2.out (by rw [size_mk]; omega) (by omega)).mono ?_; rintro e w5 ⟨rfl, hB5, hW5⟩; have HB5 := Lib.hid hB5; have HW5 := Lib.hid (HW2.out.trans hW5)))
            go_roundw
            case rel => exact ⟨k + j2, acc ++ ln, f3, by go_num, by omega, HV.out, by simp; omega, HB5.out, HW5.out⟩
            case measure => simp [intOf]; omega
          · obtain rfl : j2 = 0 := by omega
            rw [h1, if_neg (by omega), if_neg (by omega), h3] at hval
            rw [h1] at HAny
            have hsk : s[k] = ch := by
              have e1 : (s.extract k en).data.toList[0]? = some s[k] := by
                rw [ext_list, List.getElem?_take_of_lt (by omega)]
                have := get_list s k (by omega)
                simpa using this
              rw [e1] at h3
              exact Option.some.inj h3
            have hch : ch = 38 ∨ ch = 93 := by simpa using h4
            have h0s : 0 < (s.extract k en).size := by omega
            have he0 : (s.extract k en)[0] = ch := by
              have := get_list (s.extract k en) 0 h0s
              rw [this] at h3
              exact Option.some.inj h3
            rcases hch with rfl | rfl
            · rw [if_pos rfl] at hval
              have E3 : ((s[k].toNat : Int) == 38) = true := beq_yes hsk
              have E4 : (((s.extract k en)[0].toNat : Int) == 38) = true := beq_yes he0
              have HRf := Lib.hid (fun W => reference_any (s.extract k en) (by omega) h3 W)
              have hbd : ∀ t n, refX (s.extract k en).data.toList = some (t, n) → t.length ≤ 4 ∧ 1 ≤ n ∧ n ≤ en - k := fun t n h => by
                have := refX_bd h
                rw [hxl] at this
                exact this
              obtain ⟨o, ho⟩ : ∃ o, refX (s.extract k en).data.toList = o := ⟨_, rfl⟩
              rw [ho] at hval HRf hbd
              clear ho h1 h2 h3 h4 hsk he0 hlnl hxl hj
              cases o with
              | none =>
                have HV := Lib.hid hval
                clear hval hbd hsub
                go_wp2_with (first
                  | (go_at_call 69; refine (HAny.out _).mono ?_; rintro e w1 ⟨rfl, hB1⟩; have HW1 := Lib.hid (HW.out.trans (hB1.mono (by omega))); have hz1 := hB1.size; have HB1 := Lib.hid (HB.out.below hB1); obtain ⟨k10, k11, k12⟩ := HK.out _ HW1.out)
                  | (go_at_call 72; refine (HRf.out _).mono ?_; rintro e w2 ⟨⟨t, n, rfl⟩, hB2⟩; have HW2 := Lib.hid (HW1.out.trans (hB2.mono (by omega))); have hz2 := hB2.size)
                  | (go_at_call 52; refine (wrong_any _ _ _).mono ?_; rintro e w3 ⟨rfl, hB3⟩; have HW3 := Lib.hid (HW2.out.trans (hB3.mono (by omega))); have hr := (two0_res HW3.out); obtain ⟨⟨r0, r1, r2⟩, g0, g1, g2⟩ := res_cells hr))
                have hT := three_sets (.int .i64 11) (.int .i64 k) (.string ⟨#[114, 101, 102, 101, 114, 101, 110, 99, 101]⟩) hr
                refine bodyPost_ret (results_c rfl rfl aggDiag rfl hT.1) rfl ?_
                rw [← HV.out]
                exact ⟨rfl, KeepX.of_below (two0_below HW3.out hT.2) HBS.out⟩
              | some xn =>
                obtain ⟨x, n⟩ := xn
                obtain ⟨b1, b2, b3⟩ := hbd x n rfl
                have hval' : wordsX f3 ((s.data.toList.drop (k + n)).take (en - (k + n))) (k + n) (acc ++ x) = R := by rw [← hsub n b3]; exact hval
                have HV := Lib.hid hval'
                have hxz := size_mk x
                have HXZ := Lib.hid hxz
                clear hval hval' hbd hxz hsub
                go_wp2_with (first
                  | (go_at_call 69; refine (HAny.out _).mono ?_; rintro e w1 ⟨rfl, hB1⟩; have HW1 := Lib.hid (HW.out.trans (hB1.mono (by omega))); have hz1 := hB1.size; have HB1 := Lib.hid (HB.out.below hB1); obtain ⟨k10, k11, k12⟩ := HK.out _ HW1.out)
                  | (go_at_call 72; refine (HRf.out _).mono ?_; rintro e w2 ⟨rfl, hB2⟩; have HW2 := Lib.hid (HW1.out.trans (hB2.mono (by omega))); have hz2 := hB2.size; have HB2 := Lib.hid (HB1.out.below hB2))
                  | (go_at_call 70; refine (writeString0 _ _ acc _ _ HB2.out (by rw [size_mk]; omega) (by omega)).mono ?_; rintro e w5 ⟨rfl, hB5, hW5⟩; have HB5 := Lib.hid hB5; have HW5 := Lib.hid (HW2.out.trans hW5)))
                go_roundw
                case rel => exact ⟨k + n, acc ++ x, f3, by go_num, by omega, HV.out, by simp; omega, HB5.out, HW5.out⟩
                case measure => simp [intOf]; omega
            · rw [if_neg (by decide)] at hval
              have E3 : ((s[k].toNat : Int) == 38) = false := by rw [hsk]; rfl
              have E4 : (((s.extract k en)[0].toNat : Int) == 38) = false := by rw [he0]; rfl
              by_cases hp : Lib.hasPrefix (s.extract k en).data.toList [93, 93, 62] = true
              · rw [if_pos hp] at hval
                have HV := Lib.hid hval
                have HP := Lib.hid hp
                clear hval hsub hp h1 h2 h3 h4 hsk he0 hlnl hxl hj
                go_wp2_with (first
                  | (go_at_call 69; refine (HAny.out _).mono ?_; rintro e w1 ⟨rfl, hB1⟩; have HW1 := Lib.hid (HW.out.trans (hB1.mono (by omega))); have hz1 := hB1.size; have HB1 := Lib.hid (HB.out.below hB1); obtain ⟨k10, k11, k12⟩ := HK.out _ HW1.out)
                  | (go_at_call 56; refine (Tryz.strings_HasPrefix _ _ _).mono ?_; rintro e w2 ⟨rfl, rfl⟩; rw [HP.out])
                  | (go_at_call 52; refine (wrong_any _ _ _).mono ?_; rintro e w3 ⟨rfl, hB3⟩; have HW3 := Lib.hid (HW1.out.trans (hB3.mono (by omega))); have hr := (two0_res HW3.out); obtain ⟨⟨r0, r1, r2⟩, g0, g1, g2⟩ := res_cells hr))
                have hT := three_sets (.int .i64 11) (.int .i64 k) (.string ⟨#[93, 93, 62]⟩) hr
                refine bodyPost_ret (results_c rfl rfl aggDiag rfl hT.1) rfl ?_
                rw [← HV.out]
                exact ⟨rfl, KeepX.of_below (two0_below HW3.out hT.2) HBS.out⟩
              · rw [if_neg hp, hsub 1 (by omega)] at hval
                have HV := Lib.hid hval
                have HP := Lib.hid (show Lib.hasPrefix (s.extract k en).data.toList [93, 93, 62] = false by simpa using hp)
                clear hval hsub hp h1 h2 h3 h4 hsk he0 hlnl hxl hj
                go_wp2_with (first
                  | (go_at_call 69; refine (HAny.out _).mono ?_; rintro e w1 ⟨rfl, hB1⟩; have HW1 := Lib.hid (HW.out.trans (hB1.mono (by omega))); have hz1 := hB1.size; have HB1 := Lib.hid (HB.out.below hB1); obtain ⟨k10, k11, k12⟩ := HK.out _ HW1.out)
                  | (go_at_call 56; refine (Tryz.strings_HasPrefix _ _ _).mono ?_; rintro e w2 ⟨rfl, rfl⟩; rw [HP.out])
                  | (go_at_call 73; refine (writeBr _ _ acc _ HB1.out (by omega) (by omega)).mono ?_; rintro e w5 ⟨rfl, hB5, hW5⟩; have HB5 := Lib.hid hB5; have HW5 := Lib.hid (HW1.out.trans hW5)))
                go_roundw
                case rel => exact ⟨k + 1, acc ++ [93], f3, by go_num, by omega, HV.out, by simp; omega, HB5.out, HW5.out⟩
                case measure => simp [intOf]; omega
      · obtain rfl : k = en := by omega
        rw [Nat.sub_self, List.take_zero] at hval
        have hv := wordsX_nil hval HRR.out
        have HV := Lib.hid hv
        have hal : acc.length ≤ 4000000 := by omega
        have haz := size_mk acc
        have HAZ := Lib.hid haz
        clear hval hv haz
        go_wp2_with (first
          | (go_at_call 63; refine (Tryz.Builder_String_any _ _ acc _ HB.out (by omega)).mono ?_; rintro e w3 ⟨rfl, hB3⟩; have HW3 := Lib.hid (HW.out.trans hB3))
          | (go_at_call 74; refine (add_in (c := c) (a := ca) ⟨ts, out, p, v, HH.out.below (two0_low HW3.out)⟩ (by rw [HAZ.out]; omega)).mono ?_; rintro e w4 ⟨rfl, ⟨ts4, out4, p4, v4, hI4⟩, hK4⟩; have hr4 := (hK4.blk (two0_res HW3.out)); have q1 : w4.cell? ⟨cb, 1, none⟩ = some (.int .i64 (addX c ca acc).place) := (hI4.blk.cell 1); have q2 := hI4.blk.frozen 1; obtain ⟨⟨r0, r1, r2⟩, g0, g1, g2⟩ := res_cells hr4))
        have hE := place_end (e := k) hI4 hr4 HBS.out
        refine bodyPost_ret (results_c rfl rfl aggDiag rfl hE.1) rfl ?_
        rw [HV.out]
        refine ⟨rfl, ?_, ((KeepX.of_below (two0_low HW3.out) HBS.out).trans (hK4.trans hE.2.2.1)).fresh hE.2.2.2 (Nat.le_refl _) HBS.out⟩
        have hE2 := HEN.out
        rw [HCC.out] at hE2
        rw [HCC.out, hE2]
        exact hE.2.1
end Go.Proofs.YtlldpmjnledhgaaGreatDoor
