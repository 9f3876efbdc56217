/- The walk of forest's Join, where numbers that are all good are put together. -/
import Derived.Test.YtjcpfmndkeiegaaGreatDoorFoT
namespace Go.Proofs.YtjcpfmndkeiegaaGreatDoor
open Go.RowKit
set_option linter.unusedVariables false

set_option maxRecDepth 100000 in
set_option maxHeartbeats 4000000 in
theorem joinNums_any {w : World} {a : Option Addr} {n c : Nat} {ns : List ByteArray} (m : Int) (wt : Value) (R : Rat → Bool → Prop) (hm1 : 1 ≤ m) (hm2 : m ≤ 6) (hr : RdS w a ns) (hn : ns.length = n) (hlim : n ≤ 100000) (hs : ∀ s ∈ ns, s.size ≤ 100000)
    (hall : ∀ s ∈ ns, parseRC s.data.toList = 0) (h0 : 0 < n)
    (hT : ∀ (W : World) (base : Nat) (v : Value), Below w.heap.size w W → RatRow W base v (ns.map fun s => parseRQ s.data.toList) → Calls Tryz.prog 20 #[.int .i64 m, v, wt] W fun e w' => ∃ v' q b, e = .returned (.tuple #[v', .bool b]) ∧ R q b ∧ RatAt w' v' q ∧ (szN (numQ q) ≤ 1000000 ∧ szN q.den ≤ 1000000) ∧ Below W.heap.size W w') :
    Calls Tryz.prog 8 #[.int .i64 m, .slice a n c, wt] w fun e w' => ∃ q b, R q b ∧ OneAt w w' e (if b then ⟨(textQ q).toArray⟩ else ⟨#[]⟩) := by
  have hm7 : (m == 7) = false := beq_eq_false_iff_ne.2 (by omega)
  have hm8 : (m == 8) = false := beq_eq_false_iff_ne.2 (by omega)
  have hm9 : (m == 9) = false := beq_eq_false_iff_ne.2 (by omega)
  have HT0 := Lib.hid hT
  clear hT
  obtain ⟨W1, hW1⟩ : ∃ W1, w.alloc (.cells #[.slice none 0 0] 27) = W1 := ⟨_, rfl⟩
  have hB1 : Below w.heap.size w W1 := by rw [← hW1]; exact (Below.refl _ w).alloc (Nat.le_refl _) _
  have hz1 : W1.heap.size = w.heap.size + 1 := by rw [← hW1]; simp
  have HK1 := Lib.hid (show BlkAt W1 w.heap.size 27 #[.slice none 0 0] by rw [← hW1]; exact BlkAt.new w _ _)
  obtain ⟨w2, hmk, hrow, hB2⟩ := makeR_none W1 n (by omega)
  have H0 := Lib.hid (show JoinL ns W1 W1.heap.size (.slice (some ⟨W1.heap.size, 0, none⟩) 0 n) (.int .i64 0) w2 from ⟨0, rfl, Nat.zero_le _, fun i hi => by omega, hrow, hB2⟩)
  have HR := Lib.hid (hr.below hB1)
  have HS := Lib.hid hs
  have HAll := Lib.hid hall
  have HN := Lib.hid hn
  have HB1 := Lib.hid hB1
  have HB2 := Lib.hid hB2
  have HZ1 := Lib.hid hz1
  clear hr hs hall hn hB1 hrow hB2 hz1
  go_enter Tryz.func8, Tryz.ntmps8
  go_wp2
  go_step3
  go_wp2
  go_step3
  go_wp2
  clear hmk
  go_loopw [10, 62] (fun v p W => JoinL ns W1 W1.heap.size v p W) (fun v p W => n - (intOf p).toNat)
  case atStart => exact H0.out
  case round =>
    obtain ⟨k, rfl, hk, hok, hrow, hB⟩ := hrel
    obtain ⟨rs, hrq, ho, hin⟩ := hrow
    obtain ⟨vb, vc, rfl⟩ := ownsRow_slice' ho
    have hrl : rs.length = k := by
      have := congrArg List.length hrq
      rw [List.length_map, List.length_map, List.length_take] at this
      omega
    rw [HN.out] at hk
    rw [hrl] at ho ⊢
    have HB := Lib.hid hB
    have HO := Lib.hid ho
    have HRq := Lib.hid hrq
    have HIn := Lib.hid hin
    have HOk := Lib.hid hok
    have HRl := Lib.hid hrl
    have HKw := Lib.hid (HK1.out.below hB HK1.out.lt)
    have HBw := Lib.hid (HB1.out.trans (hB.mono HB1.out.size))
    clear hB ho hrq hin hok hrl
    by_cases hlt : k < n
    · obtain ⟨x, rfl, hxb, hxc⟩ := (HR.out.below HB.out) k (by rw [HN.out]; exact hlt)
      obtain ⟨s, hs⟩ : ∃ s, ns[k]'(by rw [HN.out]; exact hlt) = s := ⟨_, rfl⟩
      rw [hs] at hxc
      have hsm : s ∈ ns := by rw [← hs]; exact List.getElem_mem _
      have hsg : ns.getD k ⟨#[]⟩ = s := by rw [List.getD, List.getElem?_eq_getElem (by rw [HN.out]; exact hlt), hs]; rfl
      have HP := Lib.hid (fun W => ratParse_any s (HS.out s hsm) W)
      have HSg := Lib.hid hsg
      have HSk := Lib.hid (show ns[k]? = some s by rw [List.getElem?_eq_getElem (by rw [HN.out]; exact hlt), hs])
      by_cases hz : parseRC s.data.toList = 0
      · rw [hz] at HP
        have HZ := Lib.hid hz
        clear hz hs hsm hsg hxb
        go_wp2_with (first
          | (go_at_call 19; refine (HP.out _).mono ?_; clear HP; rintro e w3 ⟨v3, rfl, hN3, hB3⟩; obtain ⟨a3, c3, b3, d3, rfl, hr3, hs3⟩ := hN3; have HR3 := Lib.hid hr3; have HS3 := Lib.hid hs3; have HB3 := Lib.hid hB3; have HO3 := Lib.hid ((rowKept HO.out hB3).alloc (.cells #[.bool (negQ (parseRQ s.data.toList)), .slice a3 (szN (numQ (parseRQ s.data.toList))) c3, .slice b3 (szN (denQ (parseRQ s.data.toList))) d3] 59)); have HB13 := Lib.hid ((HB.out.trans (hB3.mono HB.out.size)).alloc (Nat.le_trans HB.out.size hB3.size) (.cells #[.bool (negQ (parseRQ s.data.toList)), .slice a3 (szN (numQ (parseRQ s.data.toList))) c3, .slice b3 (szN (denQ (parseRQ s.data.toList))) d3] 59)); clear hr3 hs3 hB3)
          | (at_builtin; refine wpList_app _ rfl _ _ _ _ _ _ slR rfl W1.heap.size W1 (HB13.out.alloc HB13.out.size _) (by have := HB13.out.size; rw [World.size_alloc]; omega) _ _ _ rfl (HO3.out.alloc _) ⟨w3.heap.size + 1, 0, none⟩ #[.bool (negQ (parseRQ s.data.toList)), .slice a3 (szN (numQ (parseRQ s.data.toList))) c3, .slice b3 (szN (denQ (parseRQ s.data.toList))) d3].toList rfl rfl (news_blk (two_more w3 (.cells #[.bool (negQ (parseRQ s.data.toList)), .slice a3 (szN (numQ (parseRQ s.data.toList))) c3, .slice b3 (szN (denQ (parseRQ s.data.toList))) d3] 59) 59 #[.bool (negQ (parseRQ s.data.toList)), .slice a3 (szN (numQ (parseRQ s.data.toList))) c3, .slice b3 (szN (denQ (parseRQ s.data.toList))) d3])) (by intro u hu; simp at hu; rcases hu with rfl | rfl | rfl <;> rfl) (by omega) ?_; intro v6 w6 ho6 hB6 hb6 hg6))
        have hk3 : KeepT 133 wr w6 := ((KeepT.of_below HB3.out).trans ((KeepT.of_below ((Below.refl _ w3).alloc (Nat.le_refl _) _)).trans (KeepT.of_below ((Below.refl _ (w3.alloc (.cells #[.bool (negQ (parseRQ s.data.toList)), .slice a3 (szN (numQ (parseRQ s.data.toList))) c3, .slice b3 (szN (denQ (parseRQ s.data.toList))) d3] 59))).alloc (Nat.le_refl _) _)))).trans (KeepT.grown (HO3.out.alloc _) (show 133 ≠ 59 by decide) hg6)
        have hk4 : KeepT 133 w3 w6 := ((KeepT.of_below ((Below.refl _ w3).alloc (Nat.le_refl _) _)).trans (KeepT.of_below ((Below.refl _ (w3.alloc (.cells #[.bool (negQ (parseRQ s.data.toList)), .slice a3 (szN (numQ (parseRQ s.data.toList))) c3, .slice b3 (szN (denQ (parseRQ s.data.toList))) d3] 59))).alloc (Nat.le_refl _) _))).trans (KeepT.grown (HO3.out.alloc _) (show 133 ≠ 59 by decide) hg6)
        refine ⟨⟨k + 1, by go_num, by rw [HN.out]; omega, ?_, ⟨rs ++ [⟨parseRQ s.data.toList, a3, c3, b3, d3⟩], ?_, ?_, ?_⟩, hB6⟩, ?_⟩
        · intro i hi
          by_cases h : i = k
          · rw [h, HSg.out]; exact HZ.out
          · exact HOk.out i (by omega)
        · rw [List.map_append, HRq.out, List.take_add_one, HSk.out]; simp
        · rw [List.length_append, HRl.out, List.flatMap_append]
          simpa [cellsC] using ho6
        · intro r hr
          rcases List.mem_append.1 hr with hr | hr
          · exact (HIn.out r hr).keep hk3
          · obtain rfl : r = _ := by simpa using hr
            exact RatIn.keep (w := w3) ⟨HR3.out, HS3.out⟩ hk4
        · simp only [intOf]; omega
      · exact absurd (HAll.out s hsm) hz
    · obtain rfl : k = n := by omega
      have hq : (ns.take k).map (fun s => parseRQ s.data.toList) = ns.map fun s => parseRQ s.data.toList := by rw [List.take_of_length_le (by rw [HN.out]; exact Nat.le_refl _)]
      have hrr : RatRow wr W1.heap.size (.slice vb k vc) (ns.map fun s => parseRQ s.data.toList) := ⟨rs, by rw [HRq.out, hq], by rw [HRl.out]; exact HO.out, HIn.out⟩
      have HTg := Lib.hid (HT0.out wr W1.heap.size _ HBw.out hrr)
      have h0I : (0 : Int) < (k : Int) := by omega
      have hnz : ((k : Int) == 0) = false := beq_eq_false_iff_ne.2 (by omega)
      clear HR H0 hq hrr HT0
      go_wp2_with fail
      refine HTg.out.mono ?_
      rintro e w3 ⟨v3, q, t3, rfl, hp, hN3, hsz, hB3⟩
      obtain ⟨a3, c3, b3, d3, rfl, hr3, hs3⟩ := hN3
      have HP := Lib.hid hp
      have HSz := Lib.hid hsz
      have HV := Lib.hid ((ratAt_mk (c := c3) (d := d3) hr3 hs3).below ((Below.refl _ w3).alloc (Nat.le_refl _) (.cells #[.bool (negQ q), .slice a3 (szN (numQ q)) c3, .slice b3 (szN (denQ q)) d3] 59)))
      have kq := BlkAt.new w3 59 #[.bool (negQ q), .slice a3 (szN (numQ q)) c3, .slice b3 (szN (denQ q)) d3]
      have i0 := kq.cell 0
      have i1 := kq.cell 1
      have i2 := kq.cell 2
      have HB3 := Lib.hid (hB3.alloc hB3.size (.cells #[.bool (negQ q), .slice a3 (szN (numQ q)) c3, .slice b3 (szN (denQ q)) d3] 59))
      clear hp hr3 hs3 hB3 kq hsz HTg
      cases t3
      · go_wp2_with (first
          | (go_at_call 18; refine (one_any _ _).mono ?_; rintro e w5 ⟨g5, rfl, hb5, hg5, hB5⟩; have HB5 := Lib.hid hB5; have HG5 := Lib.hid hb5; have HL5 := Lib.hid hg5; have HKw4 := Lib.hid (HKw.out.below HB3.out HKw.out.lt); have HBw4 := Lib.hid (HBw.out.trans (HB3.out.mono HBw.out.size)); have kR := HKw4.out.below hB5 HKw4.out.lt; have e0 := kR.cell 0; have f0 := kR.frozen 0; have HKR := Lib.hid kR; clear hb5 hg5 hB5 kR))
        rw [Exit.noGoto_ret]
        exact bodyPost_ret (r_c rfl rfl (aggRes.load rfl (HKR.out.set 0 _))) rfl ⟨q, false, HP.out, one_end HBw4.out HB5.out HG5.out HL5.out HKw4.out.lt⟩
      · go_wp2_with (first
          | (go_at_call 21; refine (ratText_any HV.out HSz.out.1 HSz.out.2).mono ?_; rintro e w4 ⟨rfl, hB4⟩; have HB4 := Lib.hid (HB3.out.trans (hB4.mono HB3.out.size)); have HKw4 := Lib.hid (HKw.out.below HB4.out HKw.out.lt); have HBw4 := Lib.hid (HBw.out.trans (HB4.out.mono HBw.out.size)); clear hB4)
          | (go_at_call 18; refine (one_any _ _).mono ?_; rintro e w5 ⟨g5, rfl, hb5, hg5, hB5⟩; have HB5 := Lib.hid hB5; have HG5 := Lib.hid hb5; have HL5 := Lib.hid hg5; have kR := HKw4.out.below hB5 HKw4.out.lt; have e0 := kR.cell 0; have f0 := kR.frozen 0; have HKR := Lib.hid kR; clear hb5 hg5 hB5 kR))
        rw [Exit.noGoto_ret]
        exact bodyPost_ret (r_c rfl rfl (aggRes.load rfl (HKR.out.set 0 _))) rfl ⟨q, true, HP.out, one_end HBw4.out HB5.out HG5.out HL5.out HKw4.out.lt⟩
/-- What Join tells of a method that is one of sum, average, median, greatest, least. -/
def JoinR (m : Int) (ns : List ByteArray) (t : ByteArray) : Prop :=
  (ns = [] ∨ ∃ s ∈ ns, parseRC s.data.toList ≠ 0) ∧ t = ⟨#[]⟩ ∨ (ns ≠ [] ∧ ∀ s ∈ ns, parseRC s.data.toList = 0) ∧ ∃ q, TogR m (ns.map fun s => parseRQ s.data.toList) q ∧ t = ⟨(textQ q).toArray⟩
theorem joinR_same {m : Int} {a b : List ByteArray} {x y : ByteArray} (hx : JoinR m a x) (hy : JoinR m b y) (h : a.Perm b) : x = y := by
  rcases hx with ⟨h1, rfl⟩ | ⟨h1, q, hq, rfl⟩
  · rcases hy with ⟨-, rfl⟩ | ⟨h2, -⟩
    · rfl
    · exfalso
      rcases h1 with rfl | ⟨s, hs, hn⟩
      · exact h2.1 h.nil_eq.symm
      · exact hn (h2.2 s (h.mem_iff.1 hs))
  · rcases hy with ⟨h2, rfl⟩ | ⟨-, p, hp, rfl⟩
    · exfalso
      rcases h2 with rfl | ⟨s, hs, hn⟩
      · exact h1.1 h.eq_nil
      · exact hn (h1.2 s (h.mem_iff.2 hs))
    · rw [togR_same hq hp (h.map _)]
theorem parse_wee (ns : List ByteArray) : ∀ q ∈ ns.map (fun s => parseRQ s.data.toList), weeQ q := fun q hq => by
  obtain ⟨s, _, rfl⟩ := List.mem_map.1 hq
  exact parseRQ_sz _
theorem join_any {w : World} {a : Option Addr} {n c : Nat} {ns : List ByteArray} (m : Int) (wt : Value) (hm : m = 1 ∨ m = 2 ∨ m = 4 ∨ m = 5 ∨ m = 6) (hr : RdS w a ns) (hn : ns.length = n) (hlim : n ≤ 200) (hs : ∀ s ∈ ns, s.size ≤ 100000) :
    Calls Tryz.prog 8 #[.int .i64 m, .slice a n c, wt] w fun e w' => ∃ t, JoinR m ns t ∧ OneAt w w' e t := by
  by_cases hbad : ns = [] ∨ ∃ s ∈ ns, parseRC s.data.toList ≠ 0
  · refine (joinNum_any m wt (by omega) (by omega) hr hn (by omega) hs hbad).mono ?_
    intro e w' h
    exact ⟨_, .inl ⟨hbad, rfl⟩, h⟩
  · have h1 : ns ≠ [] := fun h => hbad (.inl h)
    have h2 : ∀ s ∈ ns, parseRC s.data.toList = 0 := fun s hs => Classical.byContradiction fun h => hbad (.inr ⟨s, hs, h⟩)
    have h0 : 0 < n := by rw [← hn]; exact List.length_pos_iff.2 h1
    have hl : (ns.map fun s => parseRQ s.data.toList).length = n := by rw [List.length_map, hn]
    refine (joinNums_any m wt (fun q b => b = true ∧ TogR m (ns.map fun s => parseRQ s.data.toList) q) (by omega) (by omega) hr hn (by omega) hs h2 h0 ?_).mono ?_
    · intro W base v hW hrow
      refine (tog_any m wt hm hrow (parse_wee ns) (by omega) (by omega)).mono ?_
      rintro e w' ⟨v', q, rfl, ht, hv, hB⟩
      exact ⟨v', q, true, rfl, ⟨rfl, ht⟩, hv, togR_sz ht (parse_wee ns) (by omega) (by omega), hB⟩
    · rintro e w' ⟨q, b, ⟨rfl, ht⟩, ho⟩
      exact ⟨_, .inr ⟨⟨h1, h2⟩, q, ht, rfl⟩, ho⟩
end Go.Proofs.YtjcpfmndkeiegaaGreatDoor
