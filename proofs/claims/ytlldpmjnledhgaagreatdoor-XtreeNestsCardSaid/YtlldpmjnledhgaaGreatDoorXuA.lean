/- The walk of the law XtreeUnclosed. -/
import Derived.Test.YtlldpmjnledhgaaGreatDoorXtNP
import Derived.Test.YtlldpmjnledhgaaGreatDoorXnA
import Derived.Deep.DeepCutAuto
namespace Go.Proofs.YtlldpmjnledhgaaGreatDoor
open Go.RowKit
set_option linter.unusedVariables false

theorem two_blocks (w1 : World) (x a b c : Value) : ∃ W2, (w1.alloc (.cells #[x] 25)).alloc (.cells #[a, b, c] 28) = W2 ∧ Below w1.heap.size w1 W2 ∧ BlkAt W2 w1.heap.size 25 #[x] ∧ BlkAt W2 (w1.heap.size + 1) 28 #[a, b, c] := by
  refine ⟨_, rfl, ((Below.refl _ w1).alloc (Nat.le_refl _) _).alloc (by simp) _, (BlkAt.new w1 _ _).alloc _, ?_⟩
  have := BlkAt.new (w1.alloc (.cells #[x] 25)) 28 #[a, b, c]
  simpa using this
theorem maxLen_below {w W : World} {m : Int} (hm : w.cell? ⟨0, 0, none⟩ = some (.int .i64 m)) (hW : Below w.heap.size w W) : W.cell? ⟨0, 0, none⟩ = some (.int .i64 m) := by
  rw [hW.cell (p := ⟨0, 0, none⟩) (block_lt' hm)]; exact hm

set_option maxRecDepth 100000 in
set_option maxHeartbeats 16000000 in
theorem unclosed_off (s nm : ByteArray) (w : World) {m : Int} (hm : w.cell? ⟨0, 0, none⟩ = some (.int .i64 m)) (hT : FoldTab w) (ho : 2000 < s.size ∨ (s.size ≤ 2000 ∧ 40 < nm.size)) :
    Calls Tryz.prog 4 #[.string s, .string nm] w fun e w' => e = .returned (.bool true) ∧ Below w.heap.size w w' := by
  have HA := Lib.hid (alive_any w hm hT)
  clear hm hT
  rcases ho with ho | ⟨ho, h2⟩
  all_goals
    go_enter Tryz.func4, Tryz.ntmps4
    go_wp2_with (go_at_call 6; refine HA.out.mono ?_; rintro e w1 ⟨rfl, hB⟩)
    go_ret
    exact ⟨rfl, hB⟩

set_option maxRecDepth 100000 in
set_option maxHeartbeats 16000000 in
theorem unclosed_on (s nm : ByteArray) (w : World) {m : Int} (hm : w.cell? ⟨0, 0, none⟩ = some (.int .i64 m)) (hT : FoldTab w) (hs : s.size ≤ 2000) (hn : nm.size ≤ 40) :
    Calls Tryz.prog 4 #[.string s, .string nm] w fun e w' => e = .returned (.bool true) ∧ Below w.heap.size w w' := by
  have HA := Lib.hid (fun (W : World) (hW : Below w.heap.size w W) => alive_any W (maxLen_below hm hW) (hT.below hW))
  have HP := Lib.hid (fun (t : ByteArray) (ht : t.size ≤ 60000) (W : World) (hW : Below w.heap.size w W) => parse_any t ht W (maxLen_below hm hW) (hT.below hW))
  have HN := Lib.hid (fun W => refName_any nm (by omega) W)
  clear hm hT
  go_enter Tryz.func4, Tryz.ntmps4
  go_wp2_with fail
  refine (HN.out _).mono ?_
  rintro e w1 ⟨B, rfl, hB, hB1⟩
  have HNm := Lib.hid hB
  have HB1 := Lib.hid hB1
  clear hB hB1 HN
  cases B with
  | false =>
    go_wp2_with (go_at_call 6; refine (HA.out _ HB1.out).mono ?_; rintro e w2 ⟨rfl, hB2⟩; have HB2 := Lib.hid (HB1.out.trans (hB2.mono HB1.out.size)); clear hB2)
    go_ret
    exact ⟨rfl, HB2.out⟩
  | true =>
    go_upto_region 3 with (go_at_call 6; refine (HA.out _ HB1.out).mono ?_; rintro e w2 ⟨rfl, hB2⟩; have HB2 := Lib.hid (HB1.out.trans (hB2.mono HB1.out.size)); clear hB2)
    have hPs := HP.out s (by omega) w2 HB2.out
    cases hR : parseX s.data.toList with
    | none => exact absurd hR (parseX_some (by show s.data.toList.length < 100000; simp; omega))
    | bad er =>
      rw [hR] at hPs
      have hcode := parseX_code hR
      have HPs := Lib.hid hPs
      clear hPs hR HA HP
      go_upto_region 4 with (go_at_call 7; refine HPs.out.mono ?_; rintro _ w3 ⟨rfl, hB3⟩; unfold errV dgv)
      obtain ⟨W4, hW4, hB4, k1, k2⟩ := two_blocks w3 (.slice none 0 0) (.int .i64 er.code) (.int .i64 er.place) (.string ⟨er.what.toArray⟩)
      rw [hW4]
      have c1 := k2.cell 0
      have hz : ((er.code : Int) == 0) = false := beq_eq_false_iff_ne.2 (by omega)
      have HB4 := Lib.hid (HB2.out.trans ((hB3.trans (hB4.mono hB3.size)).mono HB2.out.size))
      clear hW4 hB3 hB4 k1 k2
      generalize w3.heap.size = g3 at *
      go_wp2
      go_ret
      exact ⟨rfl, HB4.out⟩
    | ok b =>
      rw [hR] at hPs
      obtain ⟨l0, hl1, hl2, hne, hl4⟩ := parse_ok hR
      have hLies := parse_lies hR
      obtain ⟨D, hD⟩ := hLies.fine
      have hk0 : ∀ e ∈ b.elems, e.kids.length ≤ 1000000 := fun e he => Nat.le_trans ((tree_keeps hl2).2.2.2 e he) (by decide)
      have hlen : s.data.toList.length ≤ 2000 := by simp; exact hs
      have hlaw : b.most < 100 → ∃ a1 x1 x2 x3, (∀ (W : World), Below w.heap.size w W → Calls Tryz.prog 7 #[.string ((⟨#[60]⟩ : ByteArray) ++ nm ++ ⟨#[62]⟩ ++ s)] W fun e w' => e = .returned (.tuple #[.agg #[.slice none 0 0], dgv 11 a1 x1]) ∧ Below W.heap.size W w') ∧
          (∀ (W : World), Below w.heap.size w W → Calls Tryz.prog 7 #[.string (s ++ ⟨#[60, 47]⟩ ++ nm ++ ⟨#[62]⟩)] W fun e w' => e = .returned (.tuple #[.agg #[.slice none 0 0], dgv 11 s.size x2]) ∧ Below W.heap.size W w') ∧
          (∀ (W : World), Below w.heap.size w W → Calls Tryz.prog 7 #[.string (s ++ ⟨#[60]⟩ ++ nm ++ ⟨#[47, 62]⟩)] W fun e w' => e = .returned (.tuple #[.agg #[.slice none 0 0], dgv 11 s.size x3]) ∧ Below W.heap.size W w') := fun hm => by
        obtain ⟨c, m', hnm, hok⟩ := HNm.out trivial
        have z1 : (⟨#[60]⟩ : ByteArray).size = 1 := rfl
        have z2 : (⟨#[62]⟩ : ByteArray).size = 1 := rfl
        have z3 : (⟨#[60, 47]⟩ : ByteArray).size = 2 := rfl
        have z4 : (⟨#[47, 62]⟩ : ByteArray).size = 2 := rfl
        obtain ⟨⟨a1, y1, h1⟩, ⟨y2, h2⟩, ⟨y3, h3⟩⟩ := unclosed_law hlen hR hm hok
        have hsl : s.data.toList.length = s.size := by simp
        refine ⟨a1, ⟨y1.toArray⟩, ⟨y2.toArray⟩, ⟨y3.toArray⟩, fun W hW => ?_, fun W hW => ?_, fun W hW => ?_⟩
        · have := HP.out ((⟨#[60]⟩ : ByteArray) ++ nm ++ ⟨#[62]⟩ ++ s) (by simp only [ByteArray.size_append]; omega) W hW
          rw [show ((⟨#[60]⟩ : ByteArray) ++ nm ++ ⟨#[62]⟩ ++ s).data.toList = 60 :: c :: m' ++ [62] ++ s.data.toList by simp [ByteArray.data_append, hnm], h1] at this
          exact this
        · have := HP.out (s ++ ⟨#[60, 47]⟩ ++ nm ++ ⟨#[62]⟩) (by simp only [ByteArray.size_append]; omega) W hW
          rw [show (s ++ ⟨#[60, 47]⟩ ++ nm ++ ⟨#[62]⟩).data.toList = s.data.toList ++ 60 :: 47 :: c :: m' ++ [62] by simp [ByteArray.data_append, hnm], h2, hsl] at this
          exact this
        · have := HP.out (s ++ ⟨#[60]⟩ ++ nm ++ ⟨#[47, 62]⟩) (by simp only [ByteArray.size_append]; omega) W hW
          rw [show (s ++ ⟨#[60]⟩ ++ nm ++ ⟨#[47, 62]⟩).data.toList = s.data.toList ++ 60 :: c :: m' ++ [47, 62] by simp [ByteArray.data_append, hnm], h3, hsl] at this
          exact this
      have HLaw := Lib.hid hlaw
      have HPs := Lib.hid hPs
      have hmost : (∀ d ∈ D, d < 100) → b.most < 100 := fun h => h _ (hD.mem hne)
      have HMost := Lib.hid hmost
      have hpos : 0 < b.elems.length := List.length_pos_iff.2 hne
      have hn1 := hLies.size
      have hDl := hD.len
      have HDl := Lib.hid hDl
      clear hPs hR HA HP hlaw hmost hl1 hl4 hlen hDl HNm
      go_upto_region 4 with (go_at_call 7; refine HPs.out.mono ?_; rintro _ w3 ⟨es, ev, rfl, hE, hB3⟩; unfold okV dgv; obtain ⟨a, c, rfl, -, hrd⟩ := doc_reads hLies hD hE hk0)
      obtain ⟨W4, hW4, hB4, k1, k2⟩ := two_blocks w3 (.slice a b.elems.length c) (.int .i64 0) (.int .i64 0) (.string ⟨#[]⟩)
      rw [hW4]
      have HRd := Lib.hid (fun (X : World) (hX : Below W4.heap.size W4 X) => (hrd X (hB4.trans (hX.mono hB4.size))).1)
      have HB4 := Lib.hid (HB2.out.trans ((hB3.trans (hB4.mono hB3.size)).mono HB2.out.size))
      have c1 := k2.cell 0
      have K1 := Lib.hid k1
      clear hW4 hB3 hB4 k1 k2 hE hrd HPs hk0 hl2 hne
      generalize w3.heap.size = g3 at *
      obtain ⟨n, hn⟩ : ∃ n, b.elems.length = n := ⟨_, rfl⟩
      have HDn := Lib.hid (HDl.out.trans hn)
      rw [hn] at HRd K1 hpos hn1
      rw [hn]
      clear hn HDl hLies hD
      go_wp2
      go_loopw [7] (fun p wr => ∃ i : Nat, p = .int .i64 i ∧ i ≤ n ∧ (∀ (j d : Nat), j < i → D[j]? = some d → d < 100) ∧ Below W4.heap.size W4 wr) (fun p wr => n - (intOf p).toNat)
      case atStart => exact ⟨0, rfl, Nat.zero_le _, (fun j d h => by omega), Below.refl _ _⟩
      case round =>
        obtain ⟨i, rfl, hi, hd, hB⟩ := hrel
        have HD := Lib.hid hd
        have HB := Lib.hid hB
        have d1 := (K1.out.below hB K1.out.lt).cell 0
        clear hd hB c1
        by_cases hlt : i < n
        · obtain ⟨d, hd⟩ : ∃ d, D[i]? = some d := ⟨_, List.getElem?_eq_getElem (by rw [HDn.out]; exact hlt)⟩
          have HC := Lib.hid (HRd.out wr HB.out i d hd)
          have HDd := Lib.hid hd
          clear hd
          by_cases h100 : 100 ≤ d
          · clear HLaw HMost HRd
            go_wp2_with (go_at_call 8; refine HC.out.mono ?_; rintro e w5 ⟨rfl, hB5⟩; have HB5 := Lib.hid hB5; clear hB5)
            go_ret
            exact ⟨rfl, HB4.out.trans ((HB.out.trans (HB5.out.mono HB.out.size)).mono HB4.out.size)⟩
          · go_wp2_with (go_at_call 8; refine HC.out.mono ?_; rintro e w5 ⟨rfl, hB5⟩; have HB5 := Lib.hid hB5; clear hB5)
            go_roundw
            case rel => exact ⟨i + 1, by go_num, hlt, (fun j e hj he => by
              by_cases hji : j = i
              · subst hji
                have := HDd.out
                rw [this] at he
                cases he
                omega
              · exact HD.out j e (by omega) he), HB.out.trans (HB5.out.mono HB.out.size)⟩
            case measure => simp [intOf]; omega
        · obtain rfl : i = n := by omega
          obtain ⟨a1, x1, x2, x3, hq1, hq2, hq3⟩ := HLaw.out (HMost.out fun d hd => by
            obtain ⟨j, hj⟩ := List.mem_iff_getElem?.1 hd
            exact HD.out j d (by have := (List.getElem?_eq_some_iff.1 hj).1; rw [HDn.out] at this; exact this) hj)
          have HQ1 := Lib.hid hq1
          have HQ2 := Lib.hid hq2
          have HQ3 := Lib.hid hq3
          have HBr := Lib.hid (HB4.out.trans (HB.out.mono HB4.out.size))
          have HK := Lib.hid (K1.out.below HB.out K1.out.lt)
          clear hq1 hq2 hq3 HLaw HMost HRd HD HDn HB HB4 K1
          go_upto_region 12 with (go_at_call 7; refine (HQ1.out _ HBr.out).mono ?_; rintro _ v1 ⟨rfl, hv1⟩; unfold dgv)
          obtain ⟨V1, hV1, hy1, -, p1⟩ := two_blocks v1 (.slice none 0 0) (.int .i64 11) (.int .i64 a1) (.string x1)
          rw [hV1]
          have HK1 := Lib.hid (HK.out.below (hv1.trans (hy1.mono hv1.size)) HK.out.lt)
          have HV1 := Lib.hid (HBr.out.trans ((hv1.trans (hy1.mono hv1.size)).mono HBr.out.size))
          have P1 := Lib.hid p1
          clear hV1 hv1 hy1 p1 HK HBr d1 HQ1
          generalize v1.heap.size = g11 at *
          go_upto_region 13 with (go_at_call 7; refine (HQ2.out _ HV1.out).mono ?_; rintro _ v2 ⟨rfl, hv2⟩; unfold dgv)
          obtain ⟨V2, hV2, hy2, -, p2⟩ := two_blocks v2 (.slice none 0 0) (.int .i64 11) (.int .i64 s.size) (.string x2)
          rw [hV2]
          have hz2 := hv2.trans (hy2.mono hv2.size)
          have HK2 := Lib.hid (HK1.out.below hz2 HK1.out.lt)
          have P12 := Lib.hid (P1.out.below hz2 P1.out.lt)
          have HV2 := Lib.hid (HV1.out.trans (hz2.mono HV1.out.size))
          have P2 := Lib.hid p2
          clear hV2 hv2 hy2 p2 HK1 P1 HV1 HQ2 hz2
          generalize v2.heap.size = g12 at *
          go_upto_region 14 with (go_at_call 7; refine (HQ3.out _ HV2.out).mono ?_; rintro _ v3 ⟨rfl, hv3⟩; unfold dgv)
          obtain ⟨V3, hV3, hy3, -, p3⟩ := two_blocks v3 (.slice none 0 0) (.int .i64 11) (.int .i64 s.size) (.string x3)
          rw [hV3]
          have hz3 := hv3.trans (hy3.mono hv3.size)
          have HV3 := Lib.hid (HV2.out.trans (hz3.mono HV2.out.size))
          have q0 := (HK2.out.below hz3 HK2.out.lt).cell 0
          have q1 := (P12.out.below hz3 P12.out.lt).cell 0
          have q2 := (P2.out.below hz3 P2.out.lt).cell 0
          have q3 := (P2.out.below hz3 P2.out.lt).cell 1
          have q4 := p3.cell 0
          have q5 := p3.cell 1
          clear hV3 hv3 hy3 p3 HK2 P12 P2 HV2 HQ3 hz3
          generalize v3.heap.size = g13 at *
          go_wp2
          go_ret
          exact ⟨rfl, HV3.out⟩

/-- The law XtreeUnclosed answers true. -/
theorem unclosed_any (s nm : ByteArray) (w : World) {m : Int} (hm : w.cell? ⟨0, 0, none⟩ = some (.int .i64 m)) (hT : FoldTab w) :
    Calls Tryz.prog 4 #[.string s, .string nm] w fun e w' => e = .returned (.bool true) ∧ Below w.heap.size w w' := by
  by_cases h1 : s.size ≤ 2000
  · by_cases h2 : nm.size ≤ 40
    · exact unclosed_on s nm w hm hT h1 h2
    · exact unclosed_off s nm w hm hT (.inr ⟨h1, by omega⟩)
  · exact unclosed_off s nm w hm hT (.inl (by omega))
end Go.Proofs.YtlldpmjnledhgaaGreatDoor
