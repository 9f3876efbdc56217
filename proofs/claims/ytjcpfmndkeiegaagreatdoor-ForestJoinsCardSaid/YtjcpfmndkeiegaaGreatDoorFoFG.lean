/- The walk of forest's together, at the median. The walk of forest's Join, where numbers are put together. -/
import Derived.Test.YtjcpfmndkeiegaaGreatDoorFoE
import Derived.Test.YtjcpfmndkeiegaaGreatDoorTs
namespace Go.Proofs.YtjcpfmndkeiegaaGreatDoor
open Go.RowKit
set_option linter.unusedVariables false

set_option maxRecDepth 100000 in
set_option maxHeartbeats 4000000 in
theorem together_med {w : World} {base : Nat} {v : Value} {qs : List Rat} (wt : Value) (h : RatRow w base v qs) (hs : ∀ q ∈ qs, tinyQ q) (hn : 0 < qs.length) (hl : qs.length ≤ 1000000) :
    Calls Tryz.prog 20 #[.int .i64 4, v, wt] w fun e w' => ∃ v' qs', e = .returned (.tuple #[v', .bool true]) ∧ qs'.Perm qs ∧ SortedQ qs' ∧ RatAt w' v' (midQ qs') ∧ Below w.heap.size w w' := by
  have HM := Lib.hid (fun (W : World) (hW : Below w.heap.size w W) => median_any (w := W) (base := base) (v := v) (qs := qs) (by
    obtain ⟨rs, h1, h2, h3⟩ := h
    exact ⟨rs, h1, rowKept h2 hW, fun r hr => (h3 r hr).keep (KeepT.of_below hW)⟩) hs hn hl)
  have HB0 := Lib.hid (show Below (w.heap.size + 1) (w.alloc rat0) (w.alloc rat0) from Below.refl _ _)
  clear h hs
  go_enter Tryz.func20, Tryz.ntmps20
  go_wp2_with (first
    | (go_at_call 65; refine (HM.out _ ((Below.refl _ w).alloc (Nat.le_refl _) _)).mono ?_; clear HM; rintro e w3 ⟨v3, qs', rfl, hp, hso, hN3, hB3⟩; obtain ⟨a3, c3, b3, d3, rfl, hr, hs⟩ := hN3; have HV := Lib.hid (ratAt_mk (c := c3) (d := d3) hr hs); have HP := Lib.hid hp; have HS := Lib.hid hso; have HB3 := Lib.hid (HB0.out.trans (hB3.mono (by simp))); have k := rat_free HB3.out; have c0 := k.cell 0; have c1 := k.cell 1; have c2 := k.cell 2; have f0 := k.frozen 0; have f1 := k.frozen 1; have f2 := k.frozen 2; have HK := Lib.hid k; clear hp hso hr hs hB3 k))
  obtain ⟨r1, r2, r3⟩ := res_rat HK.out rfl (Nat.le_refl _) (below_in HB3.out) HV.out
  exact bodyPost_ret (r_ct rfl rfl (aggRat.load rfl r1)) rfl ⟨_, qs', rfl, HP.out, HS.out, r2, r3⟩
end Go.Proofs.YtjcpfmndkeiegaaGreatDoor
namespace Go.Proofs.YtjcpfmndkeiegaaGreatDoor
open Go.RowKit
set_option linter.unusedVariables false

/-- A result of one text. -/
def OneAt (w w' : World) (e : Ending) (s : ByteArray) : Prop := ∃ g, e = .returned (.agg #[.slice (some ⟨g, 0, none⟩) 1 1]) ∧ BlkAt w' g 9 #[.string s] ∧ w.heap.size ≤ g ∧ Below w.heap.size w w'
theorem infoR : (Tryz.prog.info? 59).map (fun i => (i.zero, i.size, i.bytes)) = some (some (.agg #[.bool false, .slice none 0 0, .slice none 0 0]), 3, 56) := by kernel_rfl
/-- 'make([]rat.Rat, 0, N)'. -/
theorem makeR_none (w : World) (N : Nat) (hN : N ≤ 4000000) : ∃ w', (Instr.makeSlice 54 (.int .i64 0) (.int .i64 (N : Int))).run Tryz.prog w = .ok (.slice (some ⟨w.heap.size, 0, none⟩) 0 N) w' ∧
    RatRow w' w.heap.size (.slice (some ⟨w.heap.size, 0, none⟩) 0 N) [] ∧ Below w.heap.size w w' := by
  obtain ⟨i0, hi, hz0, hz1, hz2⟩ := info_parts infoR
  obtain ⟨w', h1, h2, h3⟩ := run_make_own (P := Tryz.prog) w w.heap.size 54 59 i0 _ 3 Tryz.underlying54 hi hz0 hz1 .i64 .i64 N (by rw [hz2]; omega) (by unfold maxLen; omega) (Nat.le_refl _)
  exact ⟨w', h1, ⟨[], rfl, h2, fun r hr => by cases hr⟩, ⟨h3.os, h3.tape, h3.output, h3.size, fun k hk => h3.block k hk (by simp)⟩⟩
theorem one_end {w W W' : World} {g : Nat} {s : ByteArray} (hB : Below w.heap.size w W) (hB' : Below W.heap.size W W') (hb : BlkAt W' g 9 #[.string s]) (hg : W.heap.size ≤ g) (hl : w.heap.size < W.heap.size) :
    OneAt w (W'.setCell ⟨w.heap.size, 0, none⟩ (.slice (some ⟨g, 0, none⟩) 1 1)) (.returned (.agg #[.slice (some ⟨g, 0, none⟩) 1 1])) s :=
  ⟨g, rfl, hb.far (p := ⟨w.heap.size, 0, none⟩) (by simp; omega) _, by omega, (hB.trans (hB'.mono hB.size)).setCell (p := ⟨w.heap.size, 0, none⟩) (Nat.le_refl _) _⟩
/-- The loop of Join. -/
def JoinL (ns : List ByteArray) (w : World) (base : Nat) (v p : Value) (W : World) : Prop :=
  ∃ k, p = .int .i64 (k : Nat) ∧ k ≤ ns.length ∧ (∀ i, i < k → parseRC ((ns.getD i ⟨#[]⟩).data.toList) = 0) ∧ RatRow W base v ((ns.take k).map fun s => parseRQ s.data.toList) ∧ Below base w W
set_option maxRecDepth 100000 in
set_option maxHeartbeats 4000000 in
theorem joinNum_any {w : World} {a : Option Addr} {n c : Nat} {ns : List ByteArray} (m : Int) (wt : Value) (hm1 : m ≠ 7) (hm2 : m ≠ 8 ∧ m ≠ 9) (hr : RdS w a ns) (hn : ns.length = n) (hlim : n ≤ 100000) (hs : ∀ s ∈ ns, s.size ≤ 100000)
    (hbad : ns = [] ∨ ∃ s ∈ ns, parseRC s.data.toList ≠ 0) :
    Calls Tryz.prog 8 #[.int .i64 m, .slice a n c, wt] w fun e w' => OneAt w w' e ⟨#[]⟩ := by
  have hm7 : (m == 7) = false := beq_eq_false_iff_ne.2 (by omega)
  have hm8 : (m == 8) = false := beq_eq_false_iff_ne.2 (by omega)
  have hm9 : (m == 9) = false := beq_eq_false_iff_ne.2 (by omega)
  obtain ⟨W1, hW1⟩ : ∃ W1, w.alloc (.cells #[.slice none 0 0] 27) = W1 := ⟨_, rfl⟩
  have hB1 : Below w.heap.size w W1 := by rw [← hW1]; exact (Below.refl _ w).alloc (Nat.le_refl _) _
  have hz1 : W1.heap.size = w.heap.size + 1 := by rw [← hW1]; simp
  have HK1 := Lib.hid (show BlkAt W1 w.heap.size 27 #[.slice none 0 0] by rw [← hW1]; exact BlkAt.new w _ _)
  obtain ⟨w2, hmk, hrow, hB2⟩ := makeR_none W1 n (by omega)
  have H0 := Lib.hid (show JoinL ns W1 W1.heap.size (.slice (some ⟨W1.heap.size, 0, none⟩) 0 n) (.int .i64 0) w2 from ⟨0, rfl, Nat.zero_le _, fun i hi => by omega, hrow, hB2⟩)
  have HR := Lib.hid (hr.below hB1)
  have HS := Lib.hid hs
  have HBad := Lib.hid hbad
  have HN := Lib.hid hn
  have HB1 := Lib.hid hB1
  have HB2 := Lib.hid hB2
  have HZ1 := Lib.hid hz1
  clear hr hs hbad hn hB1 hrow hB2 hz1
  go_enter Tryz.func8, Tryz.ntmps8
  go_wp2
  go_step3
  go_wp2
  go_step3
  go_wp2
  clear hmk
  go_loopw [10, 62] (fun v p W => JoinL ns W1 W1.heap.size v p W) (fun v p W => n - (intOf p).toNat)
  case atStart => exact H0.out
  case round =>
    obtain ⟨k, rfl, hk, hok, hrow, hB⟩ := hrel
    obtain ⟨rs, hrq, ho, hin⟩ := hrow
    obtain ⟨vb, vc, rfl⟩ := ownsRow_slice' ho
    have hrl : rs.length = k := by
      have := congrArg List.length hrq
      rw [List.length_map, List.length_map, List.length_take] at this
      omega
    rw [HN.out] at hk
    rw [hrl] at ho ⊢
    have HB := Lib.hid hB
    have HO := Lib.hid ho
    have HRq := Lib.hid hrq
    have HIn := Lib.hid hin
    have HOk := Lib.hid hok
    have HRl := Lib.hid hrl
    have HKw := Lib.hid (HK1.out.below hB HK1.out.lt)
    have HBw := Lib.hid (HB1.out.trans (hB.mono HB1.out.size))
    clear hB ho hrq hin hok hrl
    by_cases hlt : k < n
    · obtain ⟨x, rfl, hxb, hxc⟩ := (HR.out.below HB.out) k (by rw [HN.out]; exact hlt)
      obtain ⟨s, hs⟩ : ∃ s, ns[k]'(by rw [HN.out]; exact hlt) = s := ⟨_, rfl⟩
      rw [hs] at hxc
      have hsm : s ∈ ns := by rw [← hs]; exact List.getElem_mem _
      have hsg : ns.getD k ⟨#[]⟩ = s := by rw [List.getD, List.getElem?_eq_getElem (by rw [HN.out]; exact hlt), hs]; rfl
      have HP := Lib.hid (fun W => ratParse_any s (HS.out s hsm) W)
      have HSg := Lib.hid hsg
      have HSk := Lib.hid (show ns[k]? = some s by rw [List.getElem?_eq_getElem (by rw [HN.out]; exact hlt), hs])
      by_cases hz : parseRC s.data.toList = 0
      · rw [hz] at HP
        have HZ := Lib.hid hz
        clear hz hs hsm hsg hxb
        go_wp2_with (first
          | (go_at_call 19; refine (HP.out _).mono ?_; clear HP; rintro e w3 ⟨v3, rfl, hN3, hB3⟩; obtain ⟨a3, c3, b3, d3, rfl, hr3, hs3⟩ := hN3; have HR3 := Lib.hid hr3; have HS3 := Lib.hid hs3; have HB3 := Lib.hid hB3; have HO3 := Lib.hid ((rowKept HO.out hB3).alloc (.cells #[.bool (negQ (parseRQ s.data.toList)), .slice a3 (szN (numQ (parseRQ s.data.toList))) c3, .slice b3 (szN (denQ (parseRQ s.data.toList))) d3] 59)); have HB13 := Lib.hid ((HB.out.trans (hB3.mono HB.out.size)).alloc (Nat.le_trans HB.out.size hB3.size) (.cells #[.bool (negQ (parseRQ s.data.toList)), .slice a3 (szN (numQ (parseRQ s.data.toList))) c3, .slice b3 (szN (denQ (parseRQ s.data.toList))) d3] 59)); clear hr3 hs3 hB3)
          | (at_builtin; refine wpList_app _ rfl _ _ _ _ _ _ slR rfl W1.heap.size W1 (HB13.out.alloc HB13.out.size _) (by have := HB13.out.size; rw [World.size_alloc]; omega) _ _ _ rfl (HO3.out.alloc _) ⟨w3.heap.size + 1, 0, none⟩ #[.bool (negQ (parseRQ s.data.toList)), .slice a3 (szN (numQ (parseRQ s.data.toList))) c3, .slice b3 (szN (denQ (parseRQ s.data.toList))) d3].toList rfl rfl (news_blk (two_more w3 (.cells #[.bool (negQ (parseRQ s.data.toList)), .slice a3 (szN (numQ (parseRQ s.data.toList))) c3, .slice b3 (szN (denQ (parseRQ s.data.toList))) d3] 59) 59 #[.bool (negQ (parseRQ s.data.toList)), .slice a3 (szN (numQ (parseRQ s.data.toList))) c3, .slice b3 (szN (denQ (parseRQ s.data.toList))) d3])) (by intro u hu; simp at hu; rcases hu with rfl | rfl | rfl <;> rfl) (by omega) ?_; intro v6 w6 ho6 hB6 hb6 hg6))
        have hk3 : KeepT 133 wr w6 := ((KeepT.of_below HB3.out).trans ((KeepT.of_below ((Below.refl _ w3).alloc (Nat.le_refl _) _)).trans (KeepT.of_below ((Below.refl _ (w3.alloc (.cells #[.bool (negQ (parseRQ s.data.toList)), .slice a3 (szN (numQ (parseRQ s.data.toList))) c3, .slice b3 (szN (denQ (parseRQ s.data.toList))) d3] 59))).alloc (Nat.le_refl _) _)))).trans (KeepT.grown (HO3.out.alloc _) (show 133 ≠ 59 by decide) hg6)
        have hk4 : KeepT 133 w3 w6 := ((KeepT.of_below ((Below.refl _ w3).alloc (Nat.le_refl _) _)).trans (KeepT.of_below ((Below.refl _ (w3.alloc (.cells #[.bool (negQ (parseRQ s.data.toList)), .slice a3 (szN (numQ (parseRQ s.data.toList))) c3, .slice b3 (szN (denQ (parseRQ s.data.toList))) d3] 59))).alloc (Nat.le_refl _) _))).trans (KeepT.grown (HO3.out.alloc _) (show 133 ≠ 59 by decide) hg6)
        refine ⟨⟨k + 1, by go_num, by rw [HN.out]; omega, ?_, ⟨rs ++ [⟨parseRQ s.data.toList, a3, c3, b3, d3⟩], ?_, ?_, ?_⟩, hB6⟩, ?_⟩
        · intro i hi
          by_cases h : i = k
          · rw [h, HSg.out]; exact HZ.out
          · exact HOk.out i (by omega)
        · rw [List.map_append, HRq.out, List.take_add_one, HSk.out]; simp
        · rw [List.length_append, HRl.out, List.flatMap_append]
          simpa [cellsC] using ho6
        · intro r hr
          rcases List.mem_append.1 hr with hr | hr
          · exact (HIn.out r hr).keep hk3
          · obtain rfl : r = _ := by simpa using hr
            exact RatIn.keep (w := w3) ⟨HR3.out, HS3.out⟩ hk4
        · simp only [intOf]; omega
      · obtain ⟨z, hzz⟩ : ∃ z : Int, ((parseRC s.data.toList : Nat) : Int) = z := ⟨_, rfl⟩
        have hz0 : (z != 0) = true := bne_iff_ne.2 (by omega)
        rw [hzz] at HP
        clear hz hs hsm hsg hxb hzz HR H0 HBad
        go_wp2_with (first
          | (go_at_call 19; refine (HP.out _).mono ?_; clear HP; rintro e w3 ⟨v3, rfl, hN3, hB3⟩; obtain ⟨a3, c3, b3, d3, rfl, hr3, hs3⟩ := hN3; have HB3 := Lib.hid (hB3.alloc hB3.size (.cells #[.bool (negQ (parseRQ s.data.toList)), .slice a3 (szN (numQ (parseRQ s.data.toList))) c3, .slice b3 (szN (denQ (parseRQ s.data.toList))) d3] 59)); clear hr3 hs3 hB3)
          | (go_at_call 18; refine (one_any _ _).mono ?_; rintro e w5 ⟨g5, rfl, hb5, hg5, hB5⟩; have HB5 := Lib.hid hB5; have HG5 := Lib.hid hb5; have HL5 := Lib.hid hg5; have kR := (HKw.out.below HB3.out HKw.out.lt).below hB5 (Nat.lt_of_lt_of_le HKw.out.lt HB3.out.size); have e0 := kR.cell 0; have f0 := kR.frozen 0; have HKR := Lib.hid kR; clear hb5 hg5 hB5 kR))
        rw [Exit.noGoto_ret]
        exact bodyPost_ret (r_c rfl rfl (aggRes.load rfl (HKR.out.set 0 _))) rfl (one_end (HBw.out.trans ((HB3.out).mono HBw.out.size)) HB5.out HG5.out HL5.out (Nat.lt_of_lt_of_le HKw.out.lt HB3.out.size))
    · obtain rfl : k = n := by omega
      have hk0 : k = 0 := by
        rcases HBad.out with h | ⟨s, hs, hne⟩
        · rw [← HN.out, h]; rfl
        · obtain ⟨i, hi, rfl⟩ := List.mem_iff_getElem.1 hs
          have := HOk.out i (by rw [← HN.out]; exact hi)
          rw [List.getD, List.getElem?_eq_getElem hi] at this
          exact absurd this hne
      subst hk0
      clear HR H0 HBad
      go_wp2_with (go_at_call 18; refine (one_any _ _).mono ?_; rintro e w5 ⟨g5, rfl, hb5, hg5, hB5⟩; have HB5 := Lib.hid hB5; have HG5 := Lib.hid hb5; have HL5 := Lib.hid hg5; have kR := (HKw.out.below (Below.refl _ _) HKw.out.lt).below hB5 HKw.out.lt; have e0 := kR.cell 0; have f0 := kR.frozen 0; have HKR := Lib.hid kR; clear hb5 hg5 hB5 kR)
      rw [Exit.noGoto_ret]
      exact bodyPost_ret (r_c rfl rfl (aggRes.load rfl (HKR.out.set 0 _))) rfl (one_end (HBw.out.trans ((Below.refl wr.heap.size wr).mono HBw.out.size)) HB5.out HG5.out HL5.out (Nat.lt_of_lt_of_le HKw.out.lt (Nat.le_refl _)))
end Go.Proofs.YtjcpfmndkeiegaaGreatDoor
