/- The walk of forest's Join, at the median of numbers that are all good. -/
import Derived.Test.YtjcpfmndkeiegaaGreatDoorFoH
namespace Go.Proofs.YtjcpfmndkeiegaaGreatDoor
open Go.RowKit
set_option linter.unusedVariables false

theorem tinyQ.zero : tinyQ 0 := ⟨by rw [num_zero, szN_zero]; omega, Nat.le_trans szN_one (by decide)⟩
theorem getD_tiny {qs : List Rat} (h : ∀ q ∈ qs, tinyQ q) (i : Nat) : tinyQ (qs.getD i 0) := by
  by_cases hi : i < qs.length
  · rw [List.getD, List.getElem?_eq_getElem hi]; exact h _ (List.getElem_mem _)
  · rw [List.getD, List.getElem?_eq_none (by omega)]; exact tinyQ.zero
theorem midQ_sz {qs : List Rat} (h : ∀ q ∈ qs, tinyQ q) : szN (numQ (midQ qs)) ≤ 1000000 ∧ szN (midQ qs).den ≤ 1000000 := by
  unfold midQ
  split
  · exact ⟨Nat.le_trans (getD_tiny h _).1 (by decide), Nat.le_trans (getD_tiny h _).2 (by decide)⟩
  · have hs := addQ_small (getD_tiny h (qs.length / 2 - 1)) (getD_tiny h (qs.length / 2))
    obtain ⟨x, hx⟩ : ∃ x, qs.getD (qs.length / 2 - 1) 0 + qs.getD (qs.length / 2) 0 = x := ⟨_, rfl⟩
    rw [hx] at hs ⊢
    have e : divP x 2 = x / 2 := by unfold divP; rw [if_neg (by decide)]
    rw [e, ← divQ (by decide : (2 : Rat) ≠ 0)]
    obtain ⟨l1, l2⟩ := lowQ_le (neg := negQ x != negQ 2) (n := numQ x * (2 : Rat).den) (d := x.den * numQ 2) (Nat.mul_ne_zero x.den_nz (by decide))
    have t1 := two_sz
    exact ⟨Nat.le_trans (szN_mono l1) (Nat.le_trans (szN_mul _ _) (by have := hs.1; have := t1.2; omega)), Nat.le_trans (szN_mono l2) (Nat.le_trans (szN_mul _ _) (by have := hs.2; have := t1.1; omega))⟩
set_option maxRecDepth 100000 in
set_option maxHeartbeats 4000000 in
theorem joinMed_any {w : World} {a : Option Addr} {n c : Nat} {ns : List ByteArray} (wt : Value) (hr : RdS w a ns) (hn : ns.length = n) (hlim : n ≤ 100000) (hs : ∀ s ∈ ns, s.size ≤ 100000)
    (hall : ∀ s ∈ ns, parseRC s.data.toList = 0) (h0 : 0 < n) :
    Calls Tryz.prog 8 #[.int .i64 4, .slice a n c, wt] w fun e w' => ∃ qs, qs.Perm (ns.map fun s => parseRQ s.data.toList) ∧ SortedQ qs ∧ OneAt w w' e ⟨(textQ (midQ qs)).toArray⟩ := by
  obtain ⟨W1, hW1⟩ : ∃ W1, w.alloc (.cells #[.slice none 0 0] 27) = W1 := ⟨_, rfl⟩
  have hB1 : Below w.heap.size w W1 := by rw [← hW1]; exact (Below.refl _ w).alloc (Nat.le_refl _) _
  have hz1 : W1.heap.size = w.heap.size + 1 := by rw [← hW1]; simp
  have HK1 := Lib.hid (show BlkAt W1 w.heap.size 27 #[.slice none 0 0] by rw [← hW1]; exact BlkAt.new w _ _)
  obtain ⟨w2, hmk, hrow, hB2⟩ := makeR_none W1 n (by omega)
  have H0 := Lib.hid (show JoinL ns W1 W1.heap.size (.slice (some ⟨W1.heap.size, 0, none⟩) 0 n) (.int .i64 0) w2 from ⟨0, rfl, Nat.zero_le _, fun i hi => by omega, hrow, hB2⟩)
  have HR := Lib.hid (hr.below hB1)
  have HS := Lib.hid hs
  have HAll := Lib.hid hall
  have HN := Lib.hid hn
  have HB1 := Lib.hid hB1
  have HB2 := Lib.hid hB2
  have HZ1 := Lib.hid hz1
  clear hr hs hall hn hB1 hrow hB2 hz1
  go_enter Tryz.func8, Tryz.ntmps8
  go_wp2
  go_step3
  go_wp2
  go_step3
  go_wp2
  clear hmk
  go_loopw [10, 62] (fun v p W => JoinL ns W1 W1.heap.size v p W) (fun v p W => n - (intOf p).toNat)
  case atStart => exact H0.out
  case round =>
    obtain ⟨k, rfl, hk, hok, hrow, hB⟩ := hrel
    obtain ⟨rs, hrq, ho, hin⟩ := hrow
    obtain ⟨vb, vc, rfl⟩ := ownsRow_slice' ho
    have hrl : rs.length = k := by
      have := congrArg List.length hrq
      rw [List.length_map, List.length_map, List.length_take] at this
      omega
    rw [HN.out] at hk
    rw [hrl] at ho ⊢
    have HB := Lib.hid hB
    have HO := Lib.hid ho
    have HRq := Lib.hid hrq
    have HIn := Lib.hid hin
    have HOk := Lib.hid hok
    have HRl := Lib.hid hrl
    have HKw := Lib.hid (HK1.out.below hB HK1.out.lt)
    have HBw := Lib.hid (HB1.out.trans (hB.mono HB1.out.size))
    clear hB ho hrq hin hok hrl
    by_cases hlt : k < n
    · obtain ⟨x, rfl, hxb, hxc⟩ := (HR.out.below HB.out) k (by rw [HN.out]; exact hlt)
      obtain ⟨s, hs⟩ : ∃ s, ns[k]'(by rw [HN.out]; exact hlt) = s := ⟨_, rfl⟩
      rw [hs] at hxc
      have hsm : s ∈ ns := by rw [← hs]; exact List.getElem_mem _
      have hsg : ns.getD k ⟨#[]⟩ = s := by rw [List.getD, List.getElem?_eq_getElem (by rw [HN.out]; exact hlt), hs]; rfl
      have HP := Lib.hid (fun W => ratParse_any s (HS.out s hsm) W)
      have HSg := Lib.hid hsg
      have HSk := Lib.hid (show ns[k]? = some s by rw [List.getElem?_eq_getElem (by rw [HN.out]; exact hlt), hs])
      by_cases hz : parseRC s.data.toList = 0
      · rw [hz] at HP
        have HZ := Lib.hid hz
        clear hz hs hsm hsg hxb
        go_wp2_with (first
          | (go_at_call 19; refine (HP.out _).mono ?_; clear HP; rintro e w3 ⟨v3, rfl, hN3, hB3⟩; obtain ⟨a3, c3, b3, d3, rfl, hr3, hs3⟩ := hN3; have HR3 := Lib.hid hr3; have HS3 := Lib.hid hs3; have HB3 := Lib.hid hB3; have HO3 := Lib.hid ((rowKept HO.out hB3).alloc (.cells #[.bool (negQ (parseRQ s.data.toList)), .slice a3 (szN (numQ (parseRQ s.data.toList))) c3, .slice b3 (szN (denQ (parseRQ s.data.toList))) d3] 59)); have HB13 := Lib.hid ((HB.out.trans (hB3.mono HB.out.size)).alloc (Nat.le_trans HB.out.size hB3.size) (.cells #[.bool (negQ (parseRQ s.data.toList)), .slice a3 (szN (numQ (parseRQ s.data.toList))) c3, .slice b3 (szN (denQ (parseRQ s.data.toList))) d3] 59)); clear hr3 hs3 hB3)
          | (at_builtin; refine wpList_app _ rfl _ _ _ _ _ _ slR rfl W1.heap.size W1 (HB13.out.alloc HB13.out.size _) (by have := HB13.out.size; rw [World.size_alloc]; omega) _ _ _ rfl (HO3.out.alloc _) ⟨w3.heap.size + 1, 0, none⟩ #[.bool (negQ (parseRQ s.data.toList)), .slice a3 (szN (numQ (parseRQ s.data.toList))) c3, .slice b3 (szN (denQ (parseRQ s.data.toList))) d3].toList rfl rfl (news_blk (two_more w3 (.cells #[.bool (negQ (parseRQ s.data.toList)), .slice a3 (szN (numQ (parseRQ s.data.toList))) c3, .slice b3 (szN (denQ (parseRQ s.data.toList))) d3] 59) 59 #[.bool (negQ (parseRQ s.data.toList)), .slice a3 (szN (numQ (parseRQ s.data.toList))) c3, .slice b3 (szN (denQ (parseRQ s.data.toList))) d3])) (by intro u hu; simp at hu; rcases hu with rfl | rfl | rfl <;> rfl) (by omega) ?_; intro v6 w6 ho6 hB6 hb6 hg6))
        have hk3 : KeepT 133 wr w6 := ((KeepT.of_below HB3.out).trans ((KeepT.of_below ((Below.refl _ w3).alloc (Nat.le_refl _) _)).trans (KeepT.of_below ((Below.refl _ (w3.alloc (.cells #[.bool (negQ (parseRQ s.data.toList)), .slice a3 (szN (numQ (parseRQ s.data.toList))) c3, .slice b3 (szN (denQ (parseRQ s.data.toList))) d3] 59))).alloc (Nat.le_refl _) _)))).trans (KeepT.grown (HO3.out.alloc _) (show 133 ≠ 59 by decide) hg6)
        have hk4 : KeepT 133 w3 w6 := ((KeepT.of_below ((Below.refl _ w3).alloc (Nat.le_refl _) _)).trans (KeepT.of_below ((Below.refl _ (w3.alloc (.cells #[.bool (negQ (parseRQ s.data.toList)), .slice a3 (szN (numQ (parseRQ s.data.toList))) c3, .slice b3 (szN (denQ (parseRQ s.data.toList))) d3] 59))).alloc (Nat.le_refl _) _))).trans (KeepT.grown (HO3.out.alloc _) (show 133 ≠ 59 by decide) hg6)
        refine ⟨⟨k + 1, by go_num, by rw [HN.out]; omega, ?_, ⟨rs ++ [⟨parseRQ s.data.toList, a3, c3, b3, d3⟩], ?_, ?_, ?_⟩, hB6⟩, ?_⟩
        · intro i hi
          by_cases h : i = k
          · rw [h, HSg.out]; exact HZ.out
          · exact HOk.out i (by omega)
        · rw [List.map_append, HRq.out, List.take_add_one, HSk.out]; simp
        · rw [List.length_append, HRl.out, List.flatMap_append]
          simpa [cellsC] using ho6
        · intro r hr
          rcases List.mem_append.1 hr with hr | hr
          · exact (HIn.out r hr).keep hk3
          · obtain rfl : r = _ := by simpa using hr
            exact RatIn.keep (w := w3) ⟨HR3.out, HS3.out⟩ hk4
        · simp only [intOf]; omega
      · exact absurd (HAll.out s hsm) hz
    · obtain rfl : k = n := by omega
      have hq : (ns.take k).map (fun s => parseRQ s.data.toList) = ns.map fun s => parseRQ s.data.toList := by rw [List.take_of_length_le (by rw [HN.out]; exact Nat.le_refl _)]
      have hrr : RatRow wr W1.heap.size (.slice vb k vc) (ns.map fun s => parseRQ s.data.toList) := ⟨rs, by rw [HRq.out, hq], by rw [HRl.out]; exact HO.out, HIn.out⟩
      have htiny : ∀ q ∈ ns.map (fun s => parseRQ s.data.toList), tinyQ q := fun q hq => by
        obtain ⟨s, _, rfl⟩ := List.mem_map.1 hq
        exact ⟨Nat.le_trans (parseRQ_sz _).1 (by decide), Nat.le_trans (parseRQ_sz _).2 (by decide)⟩
      have HTg := Lib.hid (together_med wt hrr htiny (by rw [List.length_map, HN.out]; exact h0) (by rw [List.length_map, HN.out]; omega))
      have HTiny := Lib.hid htiny
      have h0I : (0 : Int) < (k : Int) := by omega
      have hnz : ((k : Int) == 0) = false := beq_eq_false_iff_ne.2 (by omega)
      clear HR H0 hq hrr htiny
      go_wp2_with (first
        | (go_at_call 20; refine HTg.out.mono ?_; clear HTg; rintro e w3 ⟨v3, qs, rfl, hp, hso, hN3, hB3⟩; obtain ⟨a3, c3, b3, d3, rfl, hr3, hs3⟩ := hN3; have HP := Lib.hid hp; have HSo := Lib.hid hso; have HSz := Lib.hid (midQ_sz (fun q hq => HTiny.out q (hp.mem_iff.1 hq))); obtain ⟨q, hq⟩ : ∃ q, midQ qs = q := ⟨_, rfl⟩; rw [hq] at hr3 hs3 HSz ⊢; have HQ := Lib.hid hq; have HV := Lib.hid ((ratAt_mk (c := c3) (d := d3) hr3 hs3).below ((Below.refl _ w3).alloc (Nat.le_refl _) (.cells #[.bool (negQ q), .slice a3 (szN (numQ q)) c3, .slice b3 (szN (denQ q)) d3] 59))); have kq := BlkAt.new w3 59 #[.bool (negQ q), .slice a3 (szN (numQ q)) c3, .slice b3 (szN (denQ q)) d3]; have i0 := kq.cell 0; have i1 := kq.cell 1; have i2 := kq.cell 2; have HB3 := Lib.hid (hB3.alloc hB3.size (.cells #[.bool (negQ q), .slice a3 (szN (numQ q)) c3, .slice b3 (szN (denQ q)) d3] 59)); clear hp hso hr3 hs3 hB3 hq kq)
        | (go_at_call 21; refine (ratText_any HV.out HSz.out.1 HSz.out.2).mono ?_; rintro e w4 ⟨rfl, hB4⟩; have HB4 := Lib.hid (HB3.out.trans (hB4.mono HB3.out.size)); have HKw4 := Lib.hid (HKw.out.below HB4.out HKw.out.lt); have HBw4 := Lib.hid (HBw.out.trans (HB4.out.mono HBw.out.size)); clear hB4)
        | (go_at_call 18; refine (one_any _ _).mono ?_; rintro e w5 ⟨g5, rfl, hb5, hg5, hB5⟩; have HB5 := Lib.hid hB5; have HG5 := Lib.hid hb5; have HL5 := Lib.hid hg5; have kR := HKw4.out.below hB5 HKw4.out.lt; have e0 := kR.cell 0; have f0 := kR.frozen 0; have HKR := Lib.hid kR; clear hb5 hg5 hB5 kR))
      rw [Exit.noGoto_ret]
      exact bodyPost_ret (r_c rfl rfl (aggRes.load rfl (HKR.out.set 0 _))) rfl ⟨qs, HP.out, HSo.out, by rw [HQ.out]; exact one_end HBw4.out HB5.out HG5.out HL5.out HKw4.out.lt⟩
end Go.Proofs.YtjcpfmndkeiegaaGreatDoor
