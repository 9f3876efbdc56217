/- The walk of the cutter's attr, behind whatever attributes, where it is one. -/
import Derived.Test.YtlldpmjnledhgaaGreatDoorXsA
namespace Go.Proofs.YtlldpmjnledhgaaGreatDoor
open Go.RowKit
set_option linter.unusedVariables false

set_option maxRecDepth 100000 in
set_option maxHeartbeats 64000000 in
theorem attr_ok {cb tb B at_ : Nat} {s : ByteArray} {ca si : Nat} {out p v tv tk tp tn tx tm : Value} {w : World} {f : Nat} {l : List XA} {xr : XA} {e0 : Nat} (hs : s.size ≤ 1000000) (hb : BlkAt w cb 95 (cutCells s ca out p v si)) (ht : BlkAt w tb 60 #[tk, tp, tn, tx, tv, tm])
    (hl : AttrsAt B w l tv) (hll : l.length ≤ 1000000) (hBt : B ≤ tb) (hat : at_ ≤ s.size) (hv : attrX f s.data.toList ca l at_ = .ok (xr, e0)) :
    Calls Tryz.prog 80 #[.pointer (some ⟨cb, 0, none⟩), .pointer (some ⟨tb, 0, none⟩), .int .i64 at_] w fun en w' => AttrQ B tb l (.ok (xr, e0)) tk tp tn tx tm w en w' := by
  have hls : s.data.toList.length = s.size := by simp
  obtain ⟨av, cv, rfl⟩ := ownsRow_slice' hl
  obtain ⟨n, hn⟩ : ∃ n, nameX (s.data.toList.drop at_) = n := ⟨_, rfl⟩
  have hn1 := nameX_le (s.data.toList.drop at_)
  rw [hn, List.length_drop, hls] at hn1
  obtain ⟨nm, hnm⟩ : ∃ nm, (s.data.toList.drop at_).take n = nm := ⟨_, rfl⟩
  obtain ⟨b1, hb1⟩ : ∃ b1, blanksX (s.data.toList.drop (at_ + n)) = b1 := ⟨_, rfl⟩
  have hb1l := blanksX_le (s.data.toList.drop (at_ + n))
  rw [hb1, List.length_drop, hls] at hb1l
  unfold attrX at hv
  simp only [] at hv
  rw [hn, hnm, hb1] at hv
  have HA := Lib.hid (fun W => nameLen_any (s.extract at_ s.size) (by simp; omega) W)
  rw [extract_drop, hn] at HA
  have HB1 := Lib.hid (fun W => blanks_any (s.extract (at_ + n) s.size) (by simp; omega) W)
  rw [extract_drop, hb1] at HB1
  have hex : (s.extract at_ (at_ + n)) = ⟨nm.toArray⟩ := by
    have h1 := extract_list s at_ (at_ + n)
    rw [show at_ + n - at_ = n from by omega, hnm] at h1
    rw [← h1]
  have HNM := Lib.hid hex
  have HK := Lib.hid (fun (W : World) (hW : Below (w.heap.size + 1) (w.alloc dg0) W) => (show BlkAt W cb 95 (cutCells s ca out p v si) ∧ BlkAt W tb 60 #[tk, tp, tn, tx, .slice av l.length cv, tm] ∧ BlkAt W w.heap.size 28 #[.int .i64 0, .int .i64 0, .string ⟨#[]⟩] ∧ AttrsAt B W l (.slice av l.length cv) from
    ⟨(hb.alloc _).below hW (by have := hb.lt; omega), (ht.alloc _).below hW (by have := ht.lt; omega), (BlkAt.new w _ _).below hW (by omega), own_keep (World.ownsRow.alloc hl dg0) (fun g hg => hW.block g (by have := own_lt hl hg; omega))⟩))
  have k0 : ((w.alloc dg0).alloc (at0 at_)).cell? ⟨cb, 0, none⟩ = some (.string s) := ((hb.alloc dg0).alloc (at0 at_)).cell 0
  have HAB := Lib.hid (fun (W : World) (hW : Below (w.heap.size + 1) (w.alloc dg0) W) => (show Below w.heap.size w W from ((Below.refl _ w).alloc (Nat.le_refl _) dg0).trans (hW.mono (by omega))))
  have HL0 := Lib.hid hl
  have htl := ht.lt
  have hcl := hb.lt
  have HV := Lib.hid hv
  have HLS := Lib.hid hls
  have HBt := Lib.hid hBt
  have hBs : B ≤ w.heap.size := by omega
  obtain ⟨i0, hi0, hz0, hz1, hz2⟩ := info_parts infoAttr
  have n1 : ¬ tb = w.heap.size + 1 := by omega
  have n2 : ¬ w.heap.size + 1 = tb := by omega
  have n3 : ¬ cb = w.heap.size + 1 := by omega
  have n4 : ¬ w.heap.size + 1 = cb := by omega
  have n5 : ¬ tb = w.heap.size := by omega
  have n6 : ¬ w.heap.size = tb := by omega
  clear hv hn hb1 hls hex hb ht hl hBt hnm
  go_enter Tryz.func80, Tryz.ntmps80
  go_wp2_with (first
    | (go_at_call 77; refine (HA.out _).mono ?_; rintro en w1 ⟨rfl, hW1⟩; have hz1' := hW1.size; simp only [World.size_alloc] at hz1'; have HW1 := Lib.hid (((Below.refl (w.heap.size + 1) (w.alloc dg0)).alloc (by simp) (at0 at_)).trans (hW1.mono (by simp))); have HA1 := Lib.hid (show BlkAt w1 (w.heap.size + 1) 43 #[.string ⟨#[]⟩, .string ⟨#[]⟩, .int .i64 at_] from (by have := (BlkAt.new (w.alloc dg0) 43 #[.string ⟨#[]⟩, .string ⟨#[]⟩, .int .i64 at_]).below hW1 (by simp); simp only [World.size_alloc] at this; exact this)); have hK1 := HK.out w1 HW1.out; have c10 : w1.cell? ⟨cb, 0, none⟩ = some (.string s) := (hK1.1.cell 0); have c14 : w1.cell? ⟨tb, 4, none⟩ = some (.slice av l.length cv) := (hK1.2.1.cell 4); obtain ⟨⟨a0, a1, a2⟩, fa0, fa1, fa2⟩ := at_cells HA1.out; clear hK1))
  rw [HNM.out]
  have HW0 := Lib.hid (HW1.out.setCell (p := ⟨w.heap.size + 1, 0, none⟩) (by simp) (.string ⟨nm.toArray⟩))
  have HA0 := Lib.hid (HA1.out.set 0 (.string ⟨nm.toArray⟩))
  have hz0' : w.heap.size + 2 ≤ (w1.setCell ⟨w.heap.size + 1, 0, none⟩ (.string ⟨nm.toArray⟩)).heap.size := by simp; omega
  obtain ⟨W0, hW0⟩ : ∃ W0, w1.setCell ⟨w.heap.size + 1, 0, none⟩ (.string ⟨nm.toArray⟩) = W0 := ⟨_, rfl⟩
  rw [hW0] at HW0 HA0 hz0' ⊢
  clear hW0 c10 c14 a0 a1 a2 fa0 fa1 fa2 hW1 hz1'
  go_loopw [39] (fun a W => ∃ k : Nat, a = .int .i64 k ∧ k ≤ l.length ∧ (l.take k).any (fun x => decide (x.name = nm)) = false ∧ Below (w.heap.size + 2) W0 W) (fun a W => l.length - (intOf a).toNat)
  case atStart => exact ⟨0, rfl, Nat.zero_le _, rfl, Below.refl _ _⟩
  case round =>
    obtain ⟨k, rfl, hk, hany, hW⟩ := hrel
    have hzr := hW.size
    have HWr := Lib.hid (HW0.out.trans (hW.mono (by omega)))
    have HAr := Lib.hid (HA0.out.below hW (by omega))
    have HW := Lib.hid hW
    have HANY := Lib.hid hany
    clear hW hany
    by_cases hlt : k < l.length
    · obtain ⟨x, hx⟩ : ∃ x, l[k]? = some x := ⟨_, List.getElem?_eq_getElem hlt⟩
      obtain ⟨g, rfl⟩ := attrs_some (HK.out _ HWr.out).2.2.2 hlt
      obtain ⟨x0, x1, x2⟩ := attrs_cells (HK.out _ HWr.out).2.2.2 hx
      have y0 : (wr.alloc (.cells #[.string ⟨x.name.toArray⟩, .string ⟨x.value.toArray⟩, .int .i64 x.place] 43)).cell? ⟨w.heap.size + 1, 0, none⟩ = some (.string ⟨nm.toArray⟩) := (HAr.out.alloc _).cell 0
      have hts : l.take (k + 1) = l.take k ++ [x] := by rw [List.take_add_one, hx]; rfl
      have HTS := Lib.hid hts
      have HX := Lib.hid hx
      have hlt' : (k : Int) < (l.length : Int) := by omega
      obtain ⟨xn, hxn⟩ : ∃ xn, x.name = xn := ⟨_, rfl⟩
      rw [hxn] at x0 y0
      have HXN := Lib.hid hxn
      clear hts hx hxn
      by_cases he : xn = nm
      · have HR2 := Lib.hid (show (.ok (xr, e0) : XR (XA × Nat)) = .bad ⟨11, at_, wTwice⟩ from by
          have h1 := HV.out
          rw [if_pos (by rw [List.any_eq_true]; exact ⟨x, List.mem_of_getElem? HX.out, by rw [HXN.out, he]; simp⟩)] at h1
          exact h1.symm)
        have E1 : ((⟨xn.toArray⟩ : ByteArray).toList == (⟨nm.toArray⟩ : ByteArray).toList) = true := by rw [str_beq, he]; simp
        have E2 : (xn == nm) = true := by rw [he]; simp
        have HE := Lib.hid he
        clear he
        exact nomatch HR2.out
      · have E1 : ((⟨xn.toArray⟩ : ByteArray).toList == (⟨nm.toArray⟩ : ByteArray).toList) = false := by rw [str_beq]; simpa using he
        have E2 : (xn == nm) = false := by simpa using he
        have HE := Lib.hid he
        clear he
        go_wp2
        go_roundw
        case rel => exact ⟨k + 1, by go_num, by omega, by rw [HTS.out, List.any_append, HANY.out]; simp [HXN.out, HE.out], HW.out.alloc (by omega) _⟩
        case measure => simp [intOf]; omega
    · obtain rfl : k = l.length := by omega
      have hAN : l.any (fun x => decide (x.name = nm)) = false := by have := HANY.out; rwa [List.take_length] at this
      have hv1 := HV.out
      rw [if_neg (by rw [hAN]; simp)] at hv1
      have hge : ¬ ((l.length : Int) < (l.length : Int)) := by omega
      have c10 : wr.cell? ⟨cb, 0, none⟩ = some (.string s) := (HK.out wr HWr.out).1.cell 0
      have c11 : wr.cell? ⟨cb, 1, none⟩ = some (.int .i64 ca) := (HK.out wr HWr.out).1.cell 1
      have hls := HLS.out
      by_cases c1 : n = 0 ∨ s.data.toList[at_ + n + b1]? ≠ some 61
      · rw [if_pos c1] at hv1
        have HR2 := Lib.hid hv1.symm
        clear hv1 hls hlt hAN
        by_cases hn0 : n = 0
        · have E0 : ((n : Int) == 0) = true := beq_iff_eq.2 (by omega)
          clear c1 hn0
          exact nomatch HR2.out
        · have E0 : ((n : Int) == 0) = false := beq_eq_false_iff_ne.2 (by omega)
          by_cases hend : s.size ≤ at_ + n + b1
          · have E1 : (s.size : Int) ≤ (at_ : Int) + n + b1 := by omega
            clear c1
            exact nomatch HR2.out
          · have hlt2 : at_ + n + b1 < s.size := by omega
            have hne : ¬ s.data.toList[at_ + n + b1]? = some 61 := by rcases c1 with c1 | c1; exact absurd c1 hn0; exact c1
            have E2 : ((s[at_ + n + b1].toNat : Int) != 61) = true := by
              rw [get_list s _ hlt2] at hne
              rw [bne_iff_ne]
              intro e
              exact hne (congrArg some (UInt8.toNat_inj.1 (by have : (61 : UInt8).toNat = 61 := rfl; omega)))
            have E1 : ¬ (s.size : Int) ≤ (at_ : Int) + n + b1 := by omega
            clear c1 hne
            exact nomatch HR2.out
      · rw [if_neg c1] at hv1
        have hn0 : n ≠ 0 := fun e => c1 (.inl e)
        have he1 : s.data.toList[at_ + n + b1]? = some 61 := Decidable.byContradiction fun e => c1 (.inr e)
        have l1 : at_ + n + b1 < s.size := by rw [← hls]; exact (List.getElem?_eq_some_iff.1 he1).1
        obtain ⟨b2, hb2⟩ : ∃ b2, blanksX (s.data.toList.drop (at_ + n + b1 + 1)) = b2 := ⟨_, rfl⟩
        have hb2l := blanksX_le (s.data.toList.drop (at_ + n + b1 + 1))
        rw [hb2, List.length_drop, hls] at hb2l
        rw [hb2] at hv1
        have HB2 := Lib.hid (fun W => blanks_any (s.extract (at_ + n + b1 + 1) s.size) (by simp; omega) W)
        rw [extract_drop, hb2] at HB2
        have E0 : ((n : Int) == 0) = false := beq_eq_false_iff_ne.2 (by omega)
        have E1 : (s[at_ + n + b1].toNat : Int) = 61 := byte_eq l1 he1
        have E1' : ((s[at_ + n + b1].toNat : Int) != 61) = false := by simp [bne, E1]
        clear c1 he1 hb2
        cases hq : s.data.toList[at_ + n + b1 + 1 + b2]? with
        | none =>
          rw [hq] at hv1
          have HR2 := Lib.hid hv1.symm
          have l2 : s.size ≤ at_ + n + b1 + 1 + b2 := by rw [← hls]; exact List.getElem?_eq_none_iff.1 hq
          have E2 : (s.size : Int) ≤ (at_ : Int) + n + b1 + 1 + b2 := by omega
          clear hv1 hq hls hAN
          exact nomatch HR2.out
        | some q =>
          rw [hq] at hv1
          simp only [] at hv1
          have l2 : at_ + n + b1 + 1 + b2 < s.size := by rw [← hls]; exact (List.getElem?_eq_some_iff.1 hq).1
          have hqq : s[at_ + n + b1 + 1 + b2] = q := by rw [get_list s _ l2] at hq; exact Option.some.inj hq
          by_cases hqs : q = 34 ∨ q = 39
          · rw [if_pos hqs] at hv1
            obtain ⟨V, hV⟩ : ∃ V, valueX ca q f (s.data.toList.drop (at_ + n + b1 + 1 + b2 + 1)) (at_ + n + b1 + 1 + b2 + 1) [] = V := ⟨_, rfl⟩
            have hVn : V ≠ .none := fun e => by rw [hV, e] at hv1; cases hv1
            have HVal := Lib.hid (fun (W : World) (hW : BlkAt W cb 95 (cutCells s ca out p v si)) => value_in (R := V) hs hW l2 (by rw [hqq]; exact hV) hVn)
            have HVal' := Lib.hid (fun (W : World) (hW : BlkAt W cb 95 (cutCells s ca out p v si)) => (show Calls Tryz.prog 96 #[.pointer (some ⟨cb, 0, none⟩), .int .i64 ((at_ : Int) + n + b1 + 1 + b2)] W fun e_1 w' => ValR W V e_1 w' from by have := HVal.out W hW; push_cast at this; exact this))
            rw [hV] at hv1
            have HVC0 := Lib.hid hV
            clear HVal hV hls hAN hq
            cases V with
            | none => exact absurd rfl hVn
            | bad er =>
              have HR2 := Lib.hid (show (.ok (xr, e0) : XR (XA × Nat)) = .bad er from hv1.symm)
              have HVC := HVC0
              have hez : 0 < er.code := by rw [valueX_code f _ _ _ er HVC.out]; omega
              have hez2 : ((er.code : Int) == 0) = false := beq_eq_false_iff_ne.2 (by omega)
              clear hv1 hVn
              rcases hqs with hqs | hqs
              · have Q1 : ((s[at_ + n + b1 + 1 + b2].toNat : Int) != 34) = false := by rw [hqq, hqs]; rfl
                clear hqq hqs
                exact nomatch HR2.out
              · have Q1 : ((s[at_ + n + b1 + 1 + b2].toNat : Int) != 34) = true := by rw [hqq, hqs]; rfl
                have Q2 : ((s[at_ + n + b1 + 1 + b2].toNat : Int) != 39) = false := by rw [hqq, hqs]; rfl
                clear hqq hqs
                exact nomatch HR2.out
            | ok ve =>
              obtain ⟨xv, e⟩ := ve
              have HR2 := Lib.hid (show (.ok (xr, e0) : XR (XA × Nat)) = .ok (⟨nm, xv, at_⟩, e) from hv1.symm)
              clear hv1 hVn
              rcases hqs with hqs | hqs
              · have Q1 : ((s[at_ + n + b1 + 1 + b2].toNat : Int) != 34) = false := by rw [hqq, hqs]; rfl
                clear hqq hqs
                go_wp2_with (first
                  | (go_at_call 79; refine (HB1.out _).mono ?_; rintro en w2 ⟨rfl, hW2⟩; have hz2' := hW2.size; have HA2 := Lib.hid (HAr.out.below hW2 HAr.out.lt); have HW2 := Lib.hid (HWr.out.trans (hW2.mono (by omega))); have c20 : w2.cell? ⟨cb, 0, none⟩ = some (.string s) := ((HK.out w2 HW2.out).1.cell 0); have c21 : w2.cell? ⟨cb, 1, none⟩ = some (.int .i64 ca) := ((HK.out w2 HW2.out).1.cell 1); clear c10 c11)
                  | (go_at_call 79; refine (HB2.out _).mono ?_; rintro en w3 ⟨rfl, hW3⟩; have hz3' := hW3.size; have HA3 := Lib.hid (HA2.out.below hW3 HA2.out.lt); have HW3 := Lib.hid (HW2.out.trans (hW3.mono (by omega))); have c30 : w3.cell? ⟨cb, 0, none⟩ = some (.string s) := ((HK.out w3 HW3.out).1.cell 0); have c31 : w3.cell? ⟨cb, 1, none⟩ = some (.int .i64 ca) := ((HK.out w3 HW3.out).1.cell 1); clear c20 c21)
                  | (go_at_call 96; refine (HVal'.out _ (HK.out w3 HW3.out).1).mono ?_; rintro en w4 ⟨rfl, hW4⟩; have hz4' := hW4.size; have HA4 := Lib.hid (HA3.out.below hW4 HA3.out.lt); have HW4 := Lib.hid (HW3.out.trans (hW4.mono (by omega))); clear c30 c31)
                  | (go_at_call 35; refine (fine_any 0 0 ⟨#[]⟩ _).mono ?_; rintro en w5 ⟨rfl, hW5⟩; have hz5' := hW5.size; simp only [World.size_alloc] at hz5'; have HA5 := Lib.hid ((HA4.out.alloc _).below hW5 (HA4.out.alloc _).lt); have HW5 := Lib.hid ((HW4.out.alloc (by omega) _).trans (hW5.mono (by simp; omega))); have c54 : w5.cell? ⟨tb, 4, none⟩ = some (.slice av l.length cv) := ((HK.out w5 HW5.out).2.1.cell 4); obtain ⟨⟨a0, a1, a2⟩, fa0, fa1, fa2⟩ := at_cells HA5.out))
                have HT5 := Lib.hid (((HK.out w5 HW5.out).2.1.far (p := ⟨w.heap.size + 1, 1, none⟩) n1 (.string ⟨xv.toArray⟩)))
                have HR5 := Lib.hid (((HK.out w5 HW5.out).2.2.1.far (p := ⟨w.heap.size + 1, 1, none⟩) (by simp) (.string ⟨xv.toArray⟩)))
                have HB5 := Lib.hid (show Below w.heap.size w (w5.setCell ⟨w.heap.size + 1, 1, none⟩ (.string ⟨xv.toArray⟩)) from (((Below.refl _ w).alloc (Nat.le_refl _) dg0).trans (HW5.out.mono (by omega))).setCell (p := ⟨w.heap.size + 1, 1, none⟩) (by simp) _)
                have HL5 := Lib.hid (show AttrsAt B (w5.setCell ⟨w.heap.size + 1, 1, none⟩ (.string ⟨xv.toArray⟩)) l (.slice av l.length cv) from own_keep HL0.out (fun g hg => HB5.out.block g (own_lt HL0.out hg)))
                obtain ⟨V, hV⟩ : ∃ V, w5.setCell ⟨w.heap.size + 1, 1, none⟩ (.string ⟨xv.toArray⟩) = V := ⟨_, rfl⟩
                have HA6 := Lib.hid (show BlkAt V (w.heap.size + 1) 43 #[.string ⟨nm.toArray⟩, .string ⟨xv.toArray⟩, .int .i64 at_] by rw [← hV]; exact HA5.out.set 1 _)
                rw [hV] at HT5 HR5 HB5 HL5 ⊢
                have hVz : w.heap.size ≤ V.heap.size := HB5.out.size
                have v4 : V.cell? ⟨tb, 4, none⟩ = some (.slice av l.length cv) := HT5.out.cell 4
                obtain ⟨⟨v0, v1, v2⟩, fv0, fv1, fv2⟩ := at_cells HA6.out
                have v4a : (V.drew.alloc (Obj.cells #[.string ⟨nm.toArray⟩, .string ⟨xv.toArray⟩, .int .i64 at_] 43)).cell? ⟨tb, 4, none⟩ = some (.slice av l.length cv) := (HT5.out.drew.alloc _).cell 4
                have v4b : (V.alloc (Obj.cells #[.string ⟨nm.toArray⟩, .string ⟨xv.toArray⟩, .int .i64 at_] 43)).cell? ⟨tb, 4, none⟩ = some (.slice av l.length cv) := (HT5.out.alloc _).cell 4
                clear hV c54 a0 a1 a2 fa0 fa1 fa2 hW2 hW3 hW4 hW5
                go_region_law ((refine step_append_lies _ (by rfl) _ _ _ (by rfl) B 43 i0 _ 3 40 Tryz.underlying34 hi0 hz0 hz1 hz2 rfl (by omega) (.slice av l.length cv) l.length (l.flatMap attrCells) (by rfl) (World.ownsRow.alloc HL5.out.drew _) ⟨V.heap.size, 0, none⟩ 1 1 [.string ⟨nm.toArray⟩, .string ⟨xv.toArray⟩, .int .i64 at_] (by rfl) (by rfl) (World.news_of_block (cs := #[.string ⟨nm.toArray⟩, .string ⟨xv.toArray⟩, .int .i64 at_]) (t := 43) (fr := (0, 0)) (heap_alloc_new V.drew _)) (by simp [Value.oneCell']) (by omega) (by unfold maxLen; omega) (by omega) (by have e0 : V.drew.heap.size = V.heap.size := rfl; simp; omega) (V.heap.size + 1) (by simp) ?_; intro gg cap w6 hown hgrow hat6 hlt6; have hT6 := ((HT5.out.drew.alloc (Obj.cells #[.string ⟨nm.toArray⟩, .string ⟨xv.toArray⟩, .int .i64 at_] 43)).grown hgrow (fun e => blk_ne HL5.out HT5.out (by decide) e.symm)); have hR6 := ((HR5.out.drew.alloc (Obj.cells #[.string ⟨nm.toArray⟩, .string ⟨xv.toArray⟩, .int .i64 at_] 43)).grown hgrow (fun e => blk_ne HL5.out HR5.out (by decide) e.symm)); have f64 := hT6.frozen 4; have c64 := hT6.cell 4; obtain ⟨⟨r0, r1, r2⟩, g0, g1, g2⟩ := res_cells hR6))
                all_goals
                  have hB6 : Below B w w6 := (((HB5.out.mono hBs).drew.alloc (show B ≤ V.drew.heap.size from Nat.le_trans hBs hVz) (Obj.cells #[.string ⟨nm.toArray⟩, .string ⟨xv.toArray⟩, .int .i64 at_] 43)).grown hgrow (by have e0 : V.drew.heap.size = V.heap.size := rfl; simp; omega) (fun k e => (by obtain ⟨c, hc, hb⟩ := own_at HL5.out e; exact hb)))
                  have hown' : w6.ownsRow B 43 3 (.slice (some ⟨gg, 0, none⟩) (l.length + 1) cap) (l.length + 1) ((l ++ [(⟨nm, xv, at_⟩ : XA)]).flatMap attrCells) := by
                    rw [List.flatMap_append, List.flatMap_cons, List.flatMap_nil, List.append_nil]
                    exact hown
                  have hE := attr_fin HBt.out htl hT6 hR6 hB6 hown'
                  have HE := Lib.hid hE
                  clear hE hown hown' hgrow hB6 hT6 hR6 hat6 hlt6 v0 v1 v2 v4 v4a v4b fv0 fv1 fv2
                  go_wp2
                  refine bodyPost_ret (results_tc rfl rfl aggDiag rfl HE.out.1) rfl ?_
                  rw [HR2.out]
                  exact ⟨rfl, HE.out.2⟩
              · have Q1 : ((s[at_ + n + b1 + 1 + b2].toNat : Int) != 34) = true := by rw [hqq, hqs]; rfl
                have Q2 : ((s[at_ + n + b1 + 1 + b2].toNat : Int) != 39) = false := by rw [hqq, hqs]; rfl
                clear hqq hqs
                go_wp2_with (first
                  | (go_at_call 79; refine (HB1.out _).mono ?_; rintro en w2 ⟨rfl, hW2⟩; have hz2' := hW2.size; have HA2 := Lib.hid (HAr.out.below hW2 HAr.out.lt); have HW2 := Lib.hid (HWr.out.trans (hW2.mono (by omega))); have c20 : w2.cell? ⟨cb, 0, none⟩ = some (.string s) := ((HK.out w2 HW2.out).1.cell 0); have c21 : w2.cell? ⟨cb, 1, none⟩ = some (.int .i64 ca) := ((HK.out w2 HW2.out).1.cell 1); clear c10 c11)
                  | (go_at_call 79; refine (HB2.out _).mono ?_; rintro en w3 ⟨rfl, hW3⟩; have hz3' := hW3.size; have HA3 := Lib.hid (HA2.out.below hW3 HA2.out.lt); have HW3 := Lib.hid (HW2.out.trans (hW3.mono (by omega))); have c30 : w3.cell? ⟨cb, 0, none⟩ = some (.string s) := ((HK.out w3 HW3.out).1.cell 0); have c31 : w3.cell? ⟨cb, 1, none⟩ = some (.int .i64 ca) := ((HK.out w3 HW3.out).1.cell 1); clear c20 c21)
                  | (go_at_call 96; refine (HVal'.out _ (HK.out w3 HW3.out).1).mono ?_; rintro en w4 ⟨rfl, hW4⟩; have hz4' := hW4.size; have HA4 := Lib.hid (HA3.out.below hW4 HA3.out.lt); have HW4 := Lib.hid (HW3.out.trans (hW4.mono (by omega))); clear c30 c31)
                  | (go_at_call 35; refine (fine_any 0 0 ⟨#[]⟩ _).mono ?_; rintro en w5 ⟨rfl, hW5⟩; have hz5' := hW5.size; simp only [World.size_alloc] at hz5'; have HA5 := Lib.hid ((HA4.out.alloc _).below hW5 (HA4.out.alloc _).lt); have HW5 := Lib.hid ((HW4.out.alloc (by omega) _).trans (hW5.mono (by simp; omega))); have c54 : w5.cell? ⟨tb, 4, none⟩ = some (.slice av l.length cv) := ((HK.out w5 HW5.out).2.1.cell 4); obtain ⟨⟨a0, a1, a2⟩, fa0, fa1, fa2⟩ := at_cells HA5.out))
                have HT5 := Lib.hid (((HK.out w5 HW5.out).2.1.far (p := ⟨w.heap.size + 1, 1, none⟩) n1 (.string ⟨xv.toArray⟩)))
                have HR5 := Lib.hid (((HK.out w5 HW5.out).2.2.1.far (p := ⟨w.heap.size + 1, 1, none⟩) (by simp) (.string ⟨xv.toArray⟩)))
                have HB5 := Lib.hid (show Below w.heap.size w (w5.setCell ⟨w.heap.size + 1, 1, none⟩ (.string ⟨xv.toArray⟩)) from (((Below.refl _ w).alloc (Nat.le_refl _) dg0).trans (HW5.out.mono (by omega))).setCell (p := ⟨w.heap.size + 1, 1, none⟩) (by simp) _)
                have HL5 := Lib.hid (show AttrsAt B (w5.setCell ⟨w.heap.size + 1, 1, none⟩ (.string ⟨xv.toArray⟩)) l (.slice av l.length cv) from own_keep HL0.out (fun g hg => HB5.out.block g (own_lt HL0.out hg)))
                obtain ⟨V, hV⟩ : ∃ V, w5.setCell ⟨w.heap.size + 1, 1, none⟩ (.string ⟨xv.toArray⟩) = V := ⟨_, rfl⟩
                have HA6 := Lib.hid (show BlkAt V (w.heap.size + 1) 43 #[.string ⟨nm.toArray⟩, .string ⟨xv.toArray⟩, .int .i64 at_] by rw [← hV]; exact HA5.out.set 1 _)
                rw [hV] at HT5 HR5 HB5 HL5 ⊢
                have hVz : w.heap.size ≤ V.heap.size := HB5.out.size
                have v4 : V.cell? ⟨tb, 4, none⟩ = some (.slice av l.length cv) := HT5.out.cell 4
                obtain ⟨⟨v0, v1, v2⟩, fv0, fv1, fv2⟩ := at_cells HA6.out
                have v4a : (V.drew.alloc (Obj.cells #[.string ⟨nm.toArray⟩, .string ⟨xv.toArray⟩, .int .i64 at_] 43)).cell? ⟨tb, 4, none⟩ = some (.slice av l.length cv) := (HT5.out.drew.alloc _).cell 4
                have v4b : (V.alloc (Obj.cells #[.string ⟨nm.toArray⟩, .string ⟨xv.toArray⟩, .int .i64 at_] 43)).cell? ⟨tb, 4, none⟩ = some (.slice av l.length cv) := (HT5.out.alloc _).cell 4
                clear hV c54 a0 a1 a2 fa0 fa1 fa2 hW2 hW3 hW4 hW5
                go_region_law ((refine step_append_lies _ (by rfl) _ _ _ (by rfl) B 43 i0 _ 3 40 Tryz.underlying34 hi0 hz0 hz1 hz2 rfl (by omega) (.slice av l.length cv) l.length (l.flatMap attrCells) (by rfl) (World.ownsRow.alloc HL5.out.drew _) ⟨V.heap.size, 0, none⟩ 1 1 [.string ⟨nm.toArray⟩, .string ⟨xv.toArray⟩, .int .i64 at_] (by rfl) (by rfl) (World.news_of_block (cs := #[.string ⟨nm.toArray⟩, .string ⟨xv.toArray⟩, .int .i64 at_]) (t := 43) (fr := (0, 0)) (heap_alloc_new V.drew _)) (by simp [Value.oneCell']) (by omega) (by unfold maxLen; omega) (by omega) (by have e0 : V.drew.heap.size = V.heap.size := rfl; simp; omega) (V.heap.size + 1) (by simp) ?_; intro gg cap w6 hown hgrow hat6 hlt6; have hT6 := ((HT5.out.drew.alloc (Obj.cells #[.string ⟨nm.toArray⟩, .string ⟨xv.toArray⟩, .int .i64 at_] 43)).grown hgrow (fun e => blk_ne HL5.out HT5.out (by decide) e.symm)); have hR6 := ((HR5.out.drew.alloc (Obj.cells #[.string ⟨nm.toArray⟩, .string ⟨xv.toArray⟩, .int .i64 at_] 43)).grown hgrow (fun e => blk_ne HL5.out HR5.out (by decide) e.symm)); have f64 := hT6.frozen 4; have c64 := hT6.cell 4; obtain ⟨⟨r0, r1, r2⟩, g0, g1, g2⟩ := res_cells hR6))
                all_goals
                  have hB6 : Below B w w6 := (((HB5.out.mono hBs).drew.alloc (show B ≤ V.drew.heap.size from Nat.le_trans hBs hVz) (Obj.cells #[.string ⟨nm.toArray⟩, .string ⟨xv.toArray⟩, .int .i64 at_] 43)).grown hgrow (by have e0 : V.drew.heap.size = V.heap.size := rfl; simp; omega) (fun k e => (by obtain ⟨c, hc, hb⟩ := own_at HL5.out e; exact hb)))
                  have hown' : w6.ownsRow B 43 3 (.slice (some ⟨gg, 0, none⟩) (l.length + 1) cap) (l.length + 1) ((l ++ [(⟨nm, xv, at_⟩ : XA)]).flatMap attrCells) := by
                    rw [List.flatMap_append, List.flatMap_cons, List.flatMap_nil, List.append_nil]
                    exact hown
                  have hE := attr_fin HBt.out htl hT6 hR6 hB6 hown'
                  have HE := Lib.hid hE
                  clear hE hown hown' hgrow hB6 hT6 hR6 hat6 hlt6 v0 v1 v2 v4 v4a v4b fv0 fv1 fv2
                  go_wp2
                  refine bodyPost_ret (results_tc rfl rfl aggDiag rfl HE.out.1) rfl ?_
                  rw [HR2.out]
                  exact ⟨rfl, HE.out.2⟩
          · rw [if_neg hqs] at hv1
            have HR2 := Lib.hid hv1.symm
            have Q1 : ((s[at_ + n + b1 + 1 + b2].toNat : Int) != 34) = true := by
              rw [hqq, bne_iff_ne]
              intro e
              exact hqs (.inl (UInt8.toNat_inj.1 (by have : (34 : UInt8).toNat = 34 := rfl; omega)))
            have Q2 : ((s[at_ + n + b1 + 1 + b2].toNat : Int) != 39) = true := by
              rw [hqq, bne_iff_ne]
              intro e
              exact hqs (.inr (UInt8.toNat_inj.1 (by have : (39 : UInt8).toNat = 39 := rfl; omega)))
            have E2 : ¬ (s.size : Int) ≤ (at_ : Int) + n + b1 + 1 + b2 := by omega
            clear hv1 hq hls hAN hqq hqs
            exact nomatch HR2.out
end Go.Proofs.YtlldpmjnledhgaaGreatDoor
