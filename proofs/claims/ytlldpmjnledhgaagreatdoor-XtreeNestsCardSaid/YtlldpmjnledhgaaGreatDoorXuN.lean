/- The walk of the law XtreeNests. -/
import Derived.Test.YtlldpmjnledhgaaGreatDoorXuA
import Derived.Test.YtlldpmjnledhgaaGreatDoorQb
namespace Go.Proofs.YtlldpmjnledhgaaGreatDoor
open Go.RowKit
set_option linter.unusedVariables false

/-- Elements around a document: how deep they are. -/
theorem nested_deep {k : Nat} {l : List XL} {b : XB} {D : List Nat} (h : Nested k l b.elems) (hD : Fine b D) (hl : l ≠ []) : ∀ j, j ≤ k → D[j]? = some (j + 1)
  | 0, _ => by
    have hlen : 0 < b.elems.length := by rw [h.len]; have := List.length_pos_iff.2 hl; omega
    rcases hD.shape 0 hlen with ⟨-, -, g⟩ | ⟨u, g, -⟩
    · exact g
    · omega
  | j + 1, hj => by
    have ih := nested_deep h hD hl j (by omega)
    have hlen : j + 1 < b.elems.length := by rw [h.len]; have := List.length_pos_iff.2 hl; omega
    have hu : (upsX b.elems)[j + 1]? = some (j : Int) := by
      unfold upsX
      rw [List.getElem?_map, List.getElem?_eq_getElem hlen, Option.map_some, h.ups (j + 1) _ hj (List.getElem?_eq_getElem hlen)]
      simp
    rcases hD.shape (j + 1) hlen with ⟨g, -⟩ | ⟨u, -, g2, -, d, g4, g5⟩
    · omega
    · rw [hu] at g2
      have hju : j = u := by have := Option.some.inj g2; omega
      subst hju
      rw [ih] at g4
      cases g4
      exact g5
theorem nested_name {k : Nat} {l : List XL} {b : XB} (h : Nested k l b.elems) (hl : l ≠ []) : ∃ e0 ek, l[0]? = some e0 ∧ b.elems[k]? = some ek ∧ ek.name = e0.name := by
  have h0 : 0 < l.length := List.length_pos_iff.2 hl
  have hk : k < b.elems.length := by rw [h.len]; omega
  have := h.name
  rw [List.getElem?_eq_getElem h0, List.getElem?_eq_getElem hk] at this
  exact ⟨_, _, List.getElem?_eq_getElem h0, List.getElem?_eq_getElem hk, Option.some.inj this⟩
/-- The greatest depth so far. -/
def MostTo (D : List Nat) (i mk : Nat) : Prop := (∀ (j d : Nat), j < i → D[j]? = some d → d ≤ mk) ∧ (mk = 0 ∨ mk ∈ D)
theorem MostTo.step {D : List Nat} {i mk d : Nat} (h : MostTo D i mk) (hd : D[i]? = some d) : MostTo D (i + 1) (max mk d) := by
  obtain ⟨h1, h2⟩ := h
  refine ⟨fun j e hj he => ?_, ?_⟩
  · by_cases hji : j = i
    · subst hji
      rw [hd] at he
      cases he
      exact Nat.le_max_right _ _
    · exact Nat.le_trans (h1 j e (by omega) he) (Nat.le_max_left _ _)
  · by_cases hm : mk ≤ d
    · rw [Nat.max_eq_right hm]; exact .inr (List.mem_of_getElem? hd)
    · rw [Nat.max_eq_left (by omega)]; exact h2
theorem MostTo.done {b : XB} {D : List Nat} {mk : Nat} (h : MostTo D b.elems.length mk) (hD : Fine b D) (hne : b.elems ≠ []) : mk = b.most := by
  obtain ⟨h1, h2⟩ := h
  have h3 : b.most ≤ mk := by
    obtain ⟨j, hj⟩ := List.mem_iff_getElem?.1 (hD.mem hne)
    exact h1 j _ (by have := (List.getElem?_eq_some_iff.1 hj).1; rw [hD.len] at this; exact this) hj
  rcases h2 with h2 | h2
  · omega
  · have := hD.le _ h2
    omega
theorem wrap_cat {t : ByteArray} {k : Nat} {l : List UInt8} (h : t.data.toList = wrapN k l) : ((⟨#[60, 113, 62]⟩ : ByteArray) ++ t ++ ⟨#[60, 47, 113, 62]⟩).data.toList = wrapN (k + 1) l := by
  simp [ByteArray.data_append, h, wrapN, wrapX]

set_option maxRecDepth 100000 in
set_option maxHeartbeats 16000000 in
theorem nests_off (s : ByteArray) (dep : Int) (w : World) {m : Int} (hm : w.cell? ⟨0, 0, none⟩ = some (.int .i64 m)) (hT : FoldTab w) (ho : 2000 < s.size ∨ (s.size ≤ 2000 ∧ dep < 0) ∨ (s.size ≤ 2000 ∧ 0 ≤ dep ∧ 110 < dep)) :
    Calls Tryz.prog 3 #[.string s, .int .i64 dep] w fun e w' => e = .returned (.bool true) ∧ Below w.heap.size w w' := by
  have HA := Lib.hid (alive_any w hm hT)
  clear hm hT
  rcases ho with ho | ⟨ho, h2⟩ | ⟨ho, h2, h3⟩
  all_goals
    go_enter Tryz.func3, Tryz.ntmps3
    go_wp2_with (go_at_call 6; refine HA.out.mono ?_; rintro e w1 ⟨rfl, hB⟩)
    go_ret
    exact ⟨rfl, hB⟩
/-- A text that begins with the signs 60, 63; one that does not. -/
theorem ask_cases (s : ByteArray) : (Lib.hasPrefix s.data.toList [60, 63] = true ∧ ∃ (h : 1 < s.size), ((s[0]'(by omega)).toNat : Int) = 60 ∧ ((s[1]'h).toNat : Int) = 63) ∨ (Lib.hasPrefix s.data.toList [60, 63] = false ∧ (s.size ≤ 1 ∨ ∃ (h : 1 < s.size), ((((s[0]'(by omega)).toNat : Int) == 60) = false ∨ (((s[0]'(by omega)).toNat : Int) = 60 ∧ (((s[1]'h).toNat : Int) == 63) = false)))) := by
  have hz : s.data.toList.length = s.size := by simp
  by_cases h : 1 < s.size
  · have hl : s.data.toList = s[0] :: s[1] :: s.data.toList.drop 2 := by
      rw [← List.drop_zero (l := s.data.toList), List.drop_eq_getElem_cons (by omega), List.drop_eq_getElem_cons (by omega)]
      rfl
    have hp : Lib.hasPrefix s.data.toList [60, 63] = (s[0] == 60 && s[1] == 63) := by
      rw [hl]
      simp [Lib.hasPrefix, List.isPrefixOf, Bool.beq_comm]
    by_cases h0 : s[0] = 60
    · by_cases h1 : s[1] = 63
      · exact .inl ⟨by rw [hp, h0, h1]; rfl, h, by rw [h0]; rfl, by rw [h1]; rfl⟩
      · refine .inr ⟨by rw [hp, beq_eq_false_iff_ne.2 h1]; simp, .inr ⟨h, .inr ⟨by rw [h0]; rfl, beq_eq_false_iff_ne.2 fun e => h1 ?_⟩⟩⟩
        exact UInt8.toNat_inj.1 (by have : (63 : UInt8).toNat = 63 := rfl; omega)
    · refine .inr ⟨by rw [hp, beq_eq_false_iff_ne.2 h0]; simp, .inr ⟨h, .inl (beq_eq_false_iff_ne.2 fun e => h0 ?_)⟩⟩
      exact UInt8.toNat_inj.1 (by have : (60 : UInt8).toNat = 60 := rfl; omega)
  · refine .inr ⟨?_, .inl (by omega)⟩
    cases hh : Lib.hasPrefix s.data.toList [60, 63] with
    | false => rfl
    | true =>
      have := (List.isPrefixOf_iff_prefix.1 hh).length_le
      simp at this
      omega

set_option maxRecDepth 100000 in
set_option maxHeartbeats 16000000 in
theorem nests_on (s : ByteArray) (k : Nat) (w : World) {m : Int} (hm : w.cell? ⟨0, 0, none⟩ = some (.int .i64 m)) (hT : FoldTab w) (hs : s.size ≤ 2000) (hk : k ≤ 110) :
    Calls Tryz.prog 3 #[.string s, .int .i64 (k : Nat)] w fun e w' => e = .returned (.bool true) ∧ Below w.heap.size w w' := by
  have mixed : Tryz.prog.follows .mixedOrders = true := by kernel_rfl
  have HA := Lib.hid (alive_any w hm hT)
  have HP := Lib.hid (fun (t : ByteArray) (ht : t.size ≤ 60000) (W : World) (hW : Below w.heap.size w W) => parse_any t ht W (maxLen_below hm hW) (hT.below hW))
  clear hm hT
  have hk0 : (0 : Int) ≤ k := Int.natCast_nonneg k
  go_enter Tryz.func3, Tryz.ntmps3
  go_upto_region 3 with (go_at_call 6; refine HA.out.mono ?_; rintro e w2 ⟨rfl, hB2⟩; have HB2 := Lib.hid hB2; clear hB2)
  have hPs := HP.out s (by omega) w2 HB2.out
  cases hR : parseX s.data.toList with
  | none => exact absurd hR (parseX_some (by show s.data.toList.length < 100000; simp; omega))
  | bad er =>
    rw [hR] at hPs
    have hcode := parseX_code hR
    have HPs := Lib.hid hPs
    clear hPs hR HA HP
    go_upto_region 4 with (go_at_call 7; refine HPs.out.mono ?_; rintro _ w3 ⟨rfl, hB3⟩; unfold errV dgv)
    obtain ⟨W4, hW4, hB4, k1, k2⟩ := two_blocks w3 (.slice none 0 0) (.int .i64 er.code) (.int .i64 er.place) (.string ⟨er.what.toArray⟩)
    rw [hW4]
    have c1 := k2.cell 0
    have hz : ((er.code : Int) == 0) = false := beq_eq_false_iff_ne.2 (by omega)
    have HB4 := Lib.hid (HB2.out.trans ((hB3.trans (hB4.mono hB3.size)).mono HB2.out.size))
    clear hW4 hB3 hB4 k1 k2
    generalize w3.heap.size = g3 at *
    go_wp2
    go_ret
    exact ⟨rfl, HB4.out⟩
  | ok b =>
    rw [hR] at hPs
    obtain ⟨l0, hl1, hl2, hne, hl4⟩ := parse_ok hR
    have hLies := parse_lies hR
    obtain ⟨D, hD⟩ := hLies.fine
    have hk0 : ∀ e ∈ b.elems, e.kids.length ≤ 1000000 := fun e he => Nat.le_trans ((tree_keeps hl2).2.2.2 e he) (by decide)
    have HPs := Lib.hid hPs
    have HR := Lib.hid hR
    clear hPs hR HA hl1 hl2 hl4
    go_upto_region 4 with (go_at_call 7; refine HPs.out.mono ?_; rintro _ w3 ⟨es, ev, rfl, hE, hB3⟩; unfold okV dgv; obtain ⟨a, c, rfl, had, hrd⟩ := doc_reads hLies hD hE hk0)
    obtain ⟨W4, hW4, hB4, k1, k2⟩ := two_blocks w3 (.slice a b.elems.length c) (.int .i64 0) (.int .i64 0) (.string ⟨#[]⟩)
    rw [hW4]
    have HRd := Lib.hid (fun (X : World) (hX : Below W4.heap.size W4 X) => (hrd X (hB4.trans (hX.mono hB4.size))).1)
    have HB4 := Lib.hid (HB2.out.trans ((hB3.trans (hB4.mono hB3.size)).mono HB2.out.size))
    have c1 := k2.cell 0
    have K1 := Lib.hid k1
    obtain ⟨g, o, rfl, hg, hnm⟩ := had hne
    have HNm := Lib.hid (fun (X : World) (hX : Below W4.heap.size W4 X) (i : Nat) (e : XL) (he : b.elems[i]? = some e) => ((hB4.trans (hX.mono hB4.size)).cell (p := ⟨g, o + i * 6, none⟩) hg).trans (hnm i e he))
    have hpos : 0 < b.elems.length := List.length_pos_iff.2 hne
    have hn1 := hLies.size
    have HD := Lib.hid hD
    have HNe := Lib.hid hne
    have hDl := hD.len
    have hmo := hLies.most
    clear hW4 hB3 hB4 k1 k2 hE hrd HPs hk0 hne hnm had hg hD hLies HB2
    generalize w3.heap.size = g3 at *
    obtain ⟨n, hn⟩ : ∃ n, b.elems.length = n := ⟨_, rfl⟩
    have HN := Lib.hid hn
    have HDn := Lib.hid (hDl.trans hn)
    rw [hn] at HRd K1 hpos hn1
    rw [hn]
    clear hn hDl
    go_upto_region 6 with (fail)
    obtain ⟨B0, hB0⟩ : ∃ B0, Lib.hasPrefix s.data.toList [60, 63] = B0 := ⟨_, rfl⟩
    have HB0 := Lib.hid hB0
    clear hB0 c1
    go_cut [49] (fun sv wy => sv = .bool B0 ∧ wy = W4)
    case first =>
      rcases ask_cases s with ⟨hp, h1, i0, i1⟩ | ⟨hp, h1 | ⟨h1, i0 | ⟨i0, i1⟩⟩⟩
      all_goals
        have hq := HB0.out
        rw [hp] at hq
        subst hq
        clear hp
        go_wp2
        go_meet
        exact ⟨rfl, rfl⟩
    case rest =>
      rename World => wy
      obtain ⟨rfl, rfl⟩ := hcut
      cases B0 with
      | true =>
        go_wp2
        go_ret
        exact ⟨rfl, HB4.out⟩
      | false =>
        go_wp2
        go_loopw [7, 8] (fun q p wr => ∃ (i mk : Nat), p = .int .i64 i ∧ q = .int .i64 mk ∧ i ≤ n ∧ mk ≤ 100 ∧ MostTo D i mk ∧ Below wy.heap.size wy wr) (fun q p wr => n - (intOf p).toNat)
        case atStart => exact ⟨0, 0, rfl, rfl, Nat.zero_le _, Nat.zero_le _, ⟨(fun j d h => by omega), .inl rfl⟩, Below.refl _ _⟩
        case round =>
          obtain ⟨i, mk, rfl, rfl, hi, hmk, hM, hB⟩ := hrel
          have HM := Lib.hid hM
          have HB := Lib.hid hB
          have d1 := (K1.out.below hB K1.out.lt).cell 0
          clear hM hB
          by_cases hlt : i < n
          · obtain ⟨d, hd⟩ : ∃ d, D[i]? = some d := ⟨_, List.getElem?_eq_getElem (by rw [HDn.out]; exact hlt)⟩
            have HC := Lib.hid (HRd.out wr HB.out i d hd)
            have hd100 : d ≤ 100 := Nat.le_trans (HD.out.le d (List.mem_of_getElem? hd)) hmo
            have HM2 := Lib.hid (HM.out.step hd)
            clear hd
            by_cases hmd : mk ≤ d
            · have hmx : max mk d = d := Nat.max_eq_right hmd
              rw [hmx] at HM2
              have hmd' : (mk : Int) ≤ d := by omega
              have hmi : max (mk : Int) (d : Int) = d := by omega
              clear hmx hmd
              go_wp2_with (go_at_call 8; refine HC.out.mono ?_; rintro e w5 ⟨rfl, hB5⟩; have HB5 := Lib.hid hB5; clear hB5)
              go_roundw
              case rel => exact ⟨i + 1, d, by go_num, by go_num, hlt, hd100, HM2.out, HB.out.trans (HB5.out.mono HB.out.size)⟩
              case measure => simp [intOf]; omega
            · have hmx : max mk d = mk := Nat.max_eq_left (by omega)
              rw [hmx] at HM2
              have hmd' : (d : Int) < mk := by omega
              have hmi : max (mk : Int) (d : Int) = mk := by omega
              clear hmx hmd
              go_wp2_with (go_at_call 8; refine HC.out.mono ?_; rintro e w5 ⟨rfl, hB5⟩; have HB5 := Lib.hid hB5; clear hB5)
              go_roundw
              case rel => exact ⟨i + 1, mk, by go_num, by go_num, hlt, hmk, HM2.out, HB.out.trans (HB5.out.mono HB.out.size)⟩
              case measure => simp [intOf]; omega
          · obtain rfl : i = n := by omega
            have hmost : mk = b.most := MostTo.done (by rw [HN.out]; exact HM.out) HD.out HNe.out
            have HMo := Lib.hid hmost
            clear hmost hmo
            go_wp2
            go_loopw [9, 10] (fun q p wv => ∃ (j : Nat) (t : ByteArray), p = .int .i64 j ∧ q = .string t ∧ j ≤ k ∧ t.data.toList = wrapN j s.data.toList ∧ t.size ≤ 2000 + 7 * j ∧ wv = wr) (fun q p wr => k - (intOf p).toNat)
            case atStart => exact ⟨0, s, rfl, rfl, Nat.zero_le _, rfl, by omega, rfl⟩
            case round =>
              obtain ⟨j, t, rfl, rfl, hj, ht, htz, rfl⟩ := hrel
              have HT := Lib.hid ht
              clear ht
              by_cases hjk : j < k
              · have HT2 := Lib.hid (wrap_cat HT.out)
                have z1 : (⟨#[60, 113, 62]⟩ : ByteArray).size = 3 := rfl
                have z2 : (⟨#[60, 47, 113, 62]⟩ : ByteArray).size = 4 := rfl
                go_wp2
                go_roundw
                case rel => exact ⟨j + 1, _, by go_num, rfl, hjk, HT2.out, by simp only [ByteArray.size_append]; omega, trivial⟩
                case measure => simp [intOf]; omega
              · obtain rfl : j = k := by omega
                have HPt := Lib.hid (HP.out t (by omega) wr (HB4.out.trans (HB.out.mono HB4.out.size)))
                rw [HT.out] at HPt
                have hnw := nest_whole HB0.out (by simp; exact hs) HR.out j hk
                have HBr := Lib.hid (HB4.out.trans (HB.out.mono HB4.out.size))
                have HK := Lib.hid (K1.out.below HB.out K1.out.lt)
                have HNm2 := Lib.hid (fun (X : World) (hX : Below wr.heap.size wr X) => HNm.out X (HB.out.trans (hX.mono HB.out.size)))
                clear HP HRd HNm HB HB4 K1 d1 HT HM HR HD
                by_cases hd : b.most + j ≤ 100
                · obtain ⟨b', hb1, hb2, hb3⟩ := hnw.1 hd
                  rw [hb1] at HPt
                  obtain ⟨l1, hl1, hl2, hne1, hl4⟩ := parse_ok hb1
                  have hLies := parse_lies hb1
                  obtain ⟨D', hD⟩ := hLies.fine
                  have hk1 : ∀ e ∈ b'.elems, e.kids.length ≤ 1000000 := fun e he => Nat.le_trans ((tree_keeps hl2).2.2.2 e he) (by decide)
                  obtain ⟨e0, ek, hx0, hxk, hxn⟩ := nested_name hb3 HNe.out
                  have hdk := nested_deep hb3 hD HNe.out j (Nat.le_refl _)
                  have hln := hb3.len
                  rw [HN.out] at hln
                  have hsm : (mk : Int) + j ≤ 100 := by have := HMo.out; omega
                  have hH3 := Lib.hid hb3
                  have HNm0 := Lib.hid (fun (X : World) (hX : Below wr.heap.size wr X) => HNm2.out X hX 0 e0 hx0)
                  clear hnw hb1 hb2 hl1 hl2 hl4 HNm2 hx0 HMo hd hb3
                  go_upto_region 19 with (go_at_call 7; refine HPt.out.mono ?_; rintro _ v1 ⟨es', ev', rfl, hE, hv1⟩; unfold okV dgv; obtain ⟨a', c', rfl, had, hrd⟩ := doc_reads hLies hD hE hk1)
                  rw [hln] at hrd
                  obtain ⟨V1, hV1, hy1, y1, p1⟩ := two_blocks v1 (.slice a' (i + j) c') (.int .i64 0) (.int .i64 0) (.string ⟨#[]⟩)
                  rw [hV1]
                  obtain ⟨g', o', rfl, hg, hnm⟩ := had hne1
                  have hz1 := hv1.trans (hy1.mono hv1.size)
                  have HL := Lib.hid (fun p => ((hy1.trans ((below_lift V1 p).mono hy1.size)).cell (p := ⟨g', o' + j * 6, none⟩) hg).trans (hnm j ek hxk))
                  rw [hxn] at HL
                  have HL0 := Lib.hid (fun p => HNm0.out (lift V1 p) (hz1.trans ((below_lift V1 p).mono hz1.size)))
                  have HDp := Lib.hid (fun p => (hrd (lift V1 p) (hy1.trans ((below_lift V1 p).mono hy1.size))).1 j (j + 1) hdk)
                  have HKd := Lib.hid (fun p => (hrd (lift V1 p) (hy1.trans ((below_lift V1 p).mono hy1.size))).2)
                  have q0 := HK.out.below hz1 HK.out.lt
                  have e1 : ∀ p, (lift V1 p).cell? ⟨g3, 0, none⟩ = some (.slice (some ⟨g, o, none⟩) i c) := lift_cell (a := ⟨g3, 0, none⟩) q0.lt (q0.cell 0)
                  have e2 : ∀ p, (lift V1 p).cell? ⟨v1.heap.size, 0, none⟩ = some (.slice (some ⟨g', o', none⟩) (i + j) c') := lift_cell (a := ⟨v1.heap.size, 0, none⟩) y1.lt (y1.cell 0)
                  have e3 : ∀ p, (lift V1 p).cell? ⟨v1.heap.size + 1, 0, none⟩ = some (.int .i64 0) := lift_cell (a := ⟨v1.heap.size + 1, 0, none⟩) p1.lt (p1.cell 0)
                  obtain ⟨nm, hnm0⟩ : ∃ nm, (⟨e0.name.toArray⟩ : ByteArray) = nm := ⟨_, rfl⟩
                  rw [hnm0] at HL HL0
                  have e4 : ∀ p, (lift V1 p).cell? ⟨g', o' + j * 6, none⟩ = some (.string nm) := HL.out
                  have e5 : ∀ p, (lift V1 p).cell? ⟨g, o, none⟩ = some (.string nm) := fun p => by have := HL0.out p; rwa [Nat.zero_mul, Nat.add_zero] at this
                  have HV1 := Lib.hid (HBr.out.trans (hz1.mono HBr.out.size))
                  have hpi := hpos
                  clear hV1 hy1 hv1 y1 p1 hE hrd had hg hnm hz1 HK HBr q0 HL HL0 HNm0 hnm0 hxn hxk hln hdk hLies hk1 hD hne1 HPt
                  generalize v1.heap.size = g11 at *
                  have HC5 := Lib.hid (fun (X : World) (hX : Below V1.heap.size V1 X) => show X.cell? ⟨g11 + 1, 0, none⟩ = some (.int .i64 0) ∧ X.cell? ⟨g3, 0, none⟩ = some (.slice (some ⟨g, o, none⟩) i c) ∧ X.cell? ⟨g11, 0, none⟩ = some (.slice (some ⟨g', o', none⟩) (i + j) c') ∧ X.cell? ⟨g', o' + j * 6, none⟩ = some (.string nm) ∧ X.cell? ⟨g, o, none⟩ = some (.string nm) from by
                    obtain ⟨p, rfl⟩ := lift_of hX
                    exact ⟨e3 p, e1 p, e2 p, e4 p, e5 p⟩)
                  clear e1 e2 e3 e4 e5
                  obtain ⟨q, hq⟩ : ∃ q, i + j = q := ⟨_, rfl⟩
                  have hw1 : IntKind.i64.wrap ((i : Int) + (j : Int)) = (q : Int) := by rw [← hq]; unfold IntKind.wrap; simp [IntKind.bits, IntKind.signed]; omega
                  rw [hq] at HC5 HDp HKd
                  have HQ := Lib.hid hq
                  clear hq
                  have hip : (0 : Int) < i := by omega
                  have hjq : j < q := by have := HQ.out; omega
                  by_cases hj0 : j = 0
                  · have hjz : ((j : Int) == 0) = true := by rw [hj0]; rfl
                    clear HDp HKd hj0
                    go_upto_region 21 with (fail)
                    refine wp_region_quiet_below mixed (by kernel_rfl) ?_
                    have e1 := fun p => (HC5.out _ (below_lift V1 p)).1
                    have e2 := fun p => (HC5.out _ (below_lift V1 p)).2.1
                    have e3 := fun p => (HC5.out _ (below_lift V1 p)).2.2.1
                    have e4 := fun p => (HC5.out _ (below_lift V1 p)).2.2.2.1
                    have e5 := fun p => (HC5.out _ (below_lift V1 p)).2.2.2.2
                    repeat (go_big_quiet_step (fail))
                    refine wpQuiet_nil ?_
                    intro _ hw'
                    obtain ⟨p, hw''⟩ := hw'
                    subst hw''
                    have HV2 := Lib.hid (HV1.out.trans ((below_lift V1 p).mono HV1.out.size))
                    clear e1 e2 e3 e4 e5
                    generalize lift V1 p = V2 at *
                    go_wp2
                    go_ret
                    exact ⟨rfl, HV2.out⟩
                  · have hkj : 0 < j := by omega
                    obtain ⟨e9, hx9⟩ : ∃ e9, b'.elems[j - 1]? = some e9 := ⟨_, List.getElem?_eq_getElem (by have := hH3.out.len; have := HN.out; omega)⟩
                    have hkd9 := hH3.out.kids (j - 1) e9 (by omega) hx9
                    have HK9 := Lib.hid (fun (X : World) (hX : Below V1.heap.size V1 X) => show Calls Tryz.prog 9 #[.agg #[.slice (some ⟨g', o', none⟩) q c'], .int .i64 ((j : Int) - 1), .string ⟨#[]⟩] X fun en W' => ∃ v, en = .returned v ∧ IntRd W' v [((j - 1 + 1 : Nat) : Int)] ∧ Below X.heap.size X W' from by
                      obtain ⟨p, rfl⟩ := lift_of hX
                      have := HKd.out p (j - 1) e9 hx9
                      rw [hkd9, show ((j - 1 : Nat) : Int) = (j : Int) - 1 by omega] at this
                      exact this)
                    have hjz : ((j : Int) == 0) = false := beq_eq_false_iff_ne.2 (by omega)
                    have hj1 : (1 : Int) ≤ j := by omega
                    have HDp2 := Lib.hid (fun (X : World) (hX : Below V1.heap.size V1 X) => show Calls Tryz.prog 8 #[.agg #[.slice (some ⟨g', o', none⟩) q c'], .int .i64 (j : Nat)] X fun e W' => e = .returned (.int .i64 ((j : Int) + 1)) ∧ Below X.heap.size X W' from by
                      obtain ⟨p, rfl⟩ := lift_of hX
                      have := HDp.out p
                      rwa [Int.natCast_add] at this)
                    obtain ⟨q1, hq1⟩ : ∃ q1 : Int, (j : Int) + 1 = q1 := ⟨_, rfl⟩
                    obtain ⟨q2, hq2⟩ : ∃ q2 : Int, (j : Int) - 1 = q2 := ⟨_, rfl⟩
                    have hw2 : IntKind.i64.wrap ((j : Int) + 1) = q1 := by rw [← hq1]; unfold IntKind.wrap; simp [IntKind.bits, IntKind.signed]; omega
                    have hw3 : IntKind.i64.wrap ((j : Int) - 1) = q2 := by rw [← hq2]; unfold IntKind.wrap; simp [IntKind.bits, IntKind.signed]; omega
                    rw [hq1] at HDp2
                    rw [hq2] at HK9
                    clear HKd HDp hkd9 hx9 hq1 hq2 hj1
                    obtain ⟨f1, f2, f3, f4, f5⟩ := HC5.out V1 (Below.refl _ _)
                    go_upto_region 21 with (fail)
                    go_region_held3 (fun W => W.cell? ⟨g11 + 1, 0, none⟩ = some (.int .i64 0) ∧ W.cell? ⟨g3, 0, none⟩ = some (.slice (some ⟨g, o, none⟩) i c) ∧ W.cell? ⟨g11, 0, none⟩ = some (.slice (some ⟨g', o', none⟩) q c') ∧ W.cell? ⟨g', o' + j * 6, none⟩ = some (.string nm) ∧ W.cell? ⟨g, o, none⟩ = some (.string nm)) (go_keep)
                      (first
                        | (go_at_call 8; refine (HDp2.out _ ((Below.refl _ V1).drew)).mono ?_; rintro _ w5 ⟨rfl, hB5⟩; replace hB5 : Below V1.heap.size V1 w5 := ((Below.refl _ V1).drew).trans hB5; have HB5 := Lib.hid hB5; obtain ⟨f1, f2, f3, f4, f5⟩ := HC5.out w5 hB5; clear hB5)
                        | (go_at_call 9; refine (HK9.out _ HB5.out).mono ?_; rintro _ w6 ⟨v6, rfl, ⟨a6, c6, rfl, h6⟩, hB6⟩; replace hB6 : Below V1.heap.size V1 w6 := HB5.out.trans (hB6.mono HB5.out.size); have HB6 := Lib.hid hB6; obtain ⟨f1, f2, f3, f4, f5⟩ := HC5.out w6 hB6; clear hB6 h6))
                    go_wp2
                    go_ret
                    exact ⟨rfl, HV1.out.trans (HB6.out.mono HV1.out.size)⟩
                · have hda : 100 < b.most + j := by omega
                  obtain ⟨a1, x1, hb1⟩ := hnw.2 hda
                  rw [hb1] at HPt
                  have hsm : (100 : Int) < (mk : Int) + j := by have := HMo.out; omega
                  clear hnw hb1 HMo hd hda HNm2
                  go_upto_region 19 with (go_at_call 7; refine HPt.out.mono ?_; rintro _ v1 ⟨rfl, hv1⟩; unfold errV dgv)
                  obtain ⟨V1, hV1, hy1, y1, p1⟩ := two_blocks v1 (.slice none 0 0) (.int .i64 2) (.int .i64 a1) (.string ⟨x1.toArray⟩)
                  rw [hV1]
                  have q0 := y1.cell 0
                  have q1 := p1.cell 0
                  have HV1 := Lib.hid (HBr.out.trans ((hv1.trans (hy1.mono hv1.size)).mono HBr.out.size))
                  clear hV1 hv1 hy1 y1 p1 HBr HK
                  generalize v1.heap.size = g11 at *
                  go_wp2
                  go_ret
                  exact ⟨rfl, HV1.out⟩

/-- The law XtreeNests answers true. -/
theorem nests_any (s : ByteArray) (dep : Int) (w : World) {m : Int} (hm : w.cell? ⟨0, 0, none⟩ = some (.int .i64 m)) (hT : FoldTab w) :
    Calls Tryz.prog 3 #[.string s, .int .i64 dep] w fun e w' => e = .returned (.bool true) ∧ Below w.heap.size w w' := by
  by_cases h1 : s.size ≤ 2000
  · by_cases h2 : dep < 0
    · exact nests_off s dep w hm hT (.inr (.inl ⟨h1, h2⟩))
    · by_cases h3 : dep ≤ 110
      · obtain ⟨k, rfl⟩ : ∃ k : Nat, dep = k := ⟨dep.toNat, by omega⟩
        exact nests_on s k w hm hT h1 (by omega)
      · exact nests_off s dep w hm hT (.inr (.inr ⟨h1, by omega, by omega⟩))
  · exact nests_off s dep w hm hT (.inl (by omega))
end Go.Proofs.YtlldpmjnledhgaaGreatDoor
