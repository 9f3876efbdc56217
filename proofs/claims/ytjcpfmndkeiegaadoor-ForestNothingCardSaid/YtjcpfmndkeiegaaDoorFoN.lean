/- The walk of the law ForestNothing at nil. -/
import Derived.Test.YtjcpfmndkeiegaaDoorFoM
namespace Go.Proofs.YtjcpfmndkeiegaaDoor
open Go.RowKit
set_option linter.unusedVariables false

set_option maxRecDepth 100000 in
set_option maxHeartbeats 8000000 in
theorem nothing_nil (w : World) :
    Calls Tryd.prog 3 #[.slice none 0 0, .int .i64 0] w fun e w' => e = .returned (.bool true) ∧ Below w.heap.size w w' := by
  obtain ⟨n, hn0⟩ : ∃ n : Nat, 0 = n := ⟨0, rfl⟩
  obtain ⟨k, hk0⟩ : ∃ k : Nat, 0 = k := ⟨0, rfl⟩
  obtain ⟨ns, hns⟩ : ∃ ns : List ByteArray, [] = ns := ⟨_, rfl⟩
  have hn : ns.length = n := by rw [← hns, ← hn0]; rfl
  have hk : k ≤ n := by omega
  have HS := Lib.hid (short_any (w := w) (x := none) (c := 0) (n := 0) (ns := []) 15 500 (by decide) (by decide) (fun i hi => by cases hi) rfl)
  have HX1 := Lib.hid (show ∀ W, RdX W (.slice none 0 0) (ns.take k) from fun W => .inr ⟨rfl, by rw [← hns]; simp⟩)
  have HX2 := Lib.hid (show ∀ W, RdX W (.slice none 0 0) (ns.drop k) from fun W => .inr ⟨rfl, by rw [← hns]; simp⟩)
  have HK0 := Lib.hid hk0
  have HN0 := Lib.hid hn0
  have HNs := Lib.hid hns
  clear hk0 hn0 hns
  have HN := Lib.hid hn
  clear hn
  go_enter Tryd.func3, Tryd.ntmps3
  go_wp2_with fail
  refine HS.out.mono ?_
  rintro e w1 ⟨q, rfl, hq, hB1⟩
  have HB1 := Lib.hid hB1
  clear HS hB1
  cases q with
  | false =>
    clear HX1 HX2 hq
    go_wp2_with fail
    refine (alive_any _).mono ?_
    rintro e w2 ⟨rfl, hB2⟩
    go_wp2
    go_ret
    exact ⟨rfl, HB1.out.trans (hB2.mono HB1.out.size)⟩
  | true =>
  have hn15 : n ≤ 15 := by have := HN0.out; omega
  have HSz := Lib.hid (show ∀ s ∈ ns, s.size ≤ 500 from by rw [← HNs.out]; intro s hs; cases hs)
  clear hq
  go_wp2_with fail
  refine (alive_any _).mono ?_
  rintro e w2 ⟨rfl, hB2⟩
  have HB2 := Lib.hid (HB1.out.trans (hB2.mono HB1.out.size))
  clear hB2 HB1
  go_wp2_with fail
  have HT := Lib.hid (show (ns.take k).length = k by rw [List.length_take, HN.out, Nat.min_eq_left hk])
  have HD := Lib.hid (show (ns.drop k).length = n - k by rw [List.length_drop, HN.out])
  have hz2 := HB2.out.size
  go_region_law (first
    | (refine step_appS (by rfl) _ _ (by rfl) (by rfl) _ (.slice none 0 0) (.slice none 0 0) [] (ns.take k) (by rfl) (by rfl) (strRow_nil _ _) (HX1.out _) (by rw [HT.out]; simp; omega) (Nat.le_refl _) ?_; intro v1 w3 ho1 hB3)
    | (refine step_appS (by rfl) _ _ (by rfl) (by rfl) _ v1 (.slice (some ⟨w3.heap.size, 0, none⟩) 1 1) _ [⟨#[]⟩] (by rfl) (by rfl) (ho1.alloc _) (RdX.blk (l := [⟨#[]⟩]) (BlkAt.new w3 9 #[.string ⟨#[]⟩])) (by rw [List.nil_append, HT.out]; simp; omega) (by have := hB3.size; rw [World.size_alloc]; omega) ?_; intro v2 w4 ho2 hB4; have HB4 := Lib.hid ((HB2.out.drew.trans (hB3.mono hz2)).alloc (Nat.le_trans hz2 hB3.size) (.cells #[.string ⟨#[]⟩] 9) |>.trans (hB4.mono hz2)))
    | (refine step_appS (by rfl) _ _ (by rfl) (by rfl) _ v1 (.slice (some ⟨w2.heap.size, 0, none⟩) 1 1) _ [⟨#[]⟩] (by rfl) (by rfl) ho1 (RdX.blk (l := [⟨#[]⟩]) ((BlkAt.new w2 9 #[.string ⟨#[]⟩]).drew.below hB3 (BlkAt.new w2 9 #[.string ⟨#[]⟩]).drew.lt)) (by rw [List.nil_append, HT.out]; simp; omega) (by have := hB3.size; omega) ?_; intro v2 w4 ho2 hB4; have HB4 := Lib.hid ((HB2.out.alloc hz2 (.cells #[.string ⟨#[]⟩] 9)).drew.trans (hB3.mono (by have := World.size_alloc w2 (.cells #[.string ⟨#[]⟩] 9); show w.heap.size ≤ (w2.alloc _).heap.size; omega)) |>.trans (hB4.mono (by have := World.size_alloc w2 (.cells #[.string ⟨#[]⟩] 9); show w.heap.size ≤ (w2.alloc _).heap.size; omega))))
    | (refine step_appS (by rfl) _ _ (by rfl) (by rfl) _ v2 (.slice none 0 0) _ (ns.drop k) (by rfl) (by rfl) ho2 (HX2.out _) (by rw [List.nil_append, List.length_append, HT.out, HD.out]; simp; omega) (by have := hB3.size; have := hB4.size; simp at *; omega) ?_; intro v3 w5 ho3 hB5))
  all_goals
    have HB5 := Lib.hid (HB4.out.trans (hB5.mono (by first | exact hz2 | exact Nat.le_succ_of_le hz2 | (have := World.size_alloc w2 (.cells #[.string ⟨#[]⟩] 9); show w.heap.size ≤ (w2.alloc _).heap.size; omega))))
    have hLn := lList_len ns (k := k) (by rw [HN.out]; exact hk)
    rw [HN.out] at hLn
    have hrd5 := StrRow.rd (l := lList ns k) ho3 (by rw [hLn]; omega)
    rw [hLn] at hrd5
    obtain ⟨g5, c5, rfl, hg5, hgl5, hrd5⟩ := hrd5
    have HR5 := Lib.hid hrd5
    have HLn := Lib.hid hLn
    have HBad := Lib.hid (show lList ns k = [] ∨ ∃ s ∈ lList ns k, parseRC s.data.toList ≠ 0 from .inr ⟨⟨#[]⟩, List.mem_of_getElem? (lList_at ns (by rw [HN.out]; exact hk)), bad0⟩)
    have HLs := Lib.hid (show ∀ s ∈ lList ns k, s.size ≤ 100000 from fun s hs => by
      rcases lList_mem ns k hs with h | rfl
      · exact Nat.le_trans (HSz.out s h) (by decide)
      · decide)
    clear ho1 ho2 ho3 hB3 hB4 hB5 HB4 HX1 HX2 HT HD HB2 hz2 hrd5 hLn hg5 hgl5
    go_wp2_with fail
    go_loopw [6] (fun p W => NoL w5 p W) (fun p W => 7 - (intOf p).toNat)
    case atStart => exact ⟨1, rfl, by decide, by decide, Below.refl _ _⟩
    case round =>
      obtain ⟨m, rfl, hm1, hm7, hB⟩ := hrel
      have HB := Lib.hid hB
      clear hB
      by_cases hm : m ≤ 6
      · have HJ := Lib.hid (fun (W : World) (hW : Below w5.heap.size w5 W) => joinNum_any (c := c5) m (.slice none 0 0) hm1 hm (HR5.out.below hW) HLn.out (by omega) HLs.out HBad.out)
        have HJ0 := Lib.hid (fun (W : World) => joinNum_any (w := W) (a := none) (n := 0) (c := 0) (ns := []) m (.slice none 0 0) hm1 hm (fun i hi => by cases hi) rfl (by decide) (fun s hs => by cases hs) (.inl rfl))
        clear HR5 HBad HLs HLn
        go_wp2_with fail
        all_goals
          refine (HJ.out _ HB.out).mono ?_
          rintro e w6 ⟨g6, rfl, hb6, hg6, hB6⟩
          have HB6 := Lib.hid (HB.out.trans (hB6.mono HB.out.size))
          clear hg6 hB6 HJ
          go_wp2_with fail
        all_goals
          refine (HJ0.out _).mono ?_
          rintro e w7 ⟨g7, rfl, hb7, hg7, hB7⟩
          have hr0 := BlkAt.new w6 26 #[.slice (some ⟨g6, 0, none⟩) 1 1]
          have hr1 := hr0.below hB7 hr0.lt
          have hbg := (hb6.alloc (Obj.cells #[.slice (some ⟨g6, 0, none⟩) 1 1] 26)).below hB7 (hb6.alloc (Obj.cells #[.slice (some ⟨g6, 0, none⟩) 1 1] 26)).lt
          have HB7 := Lib.hid ((HB6.out.alloc HB6.out.size (Obj.cells #[.slice (some ⟨g6, 0, none⟩) 1 1] 26)).trans (hB7.mono (by have := HB6.out.size; rw [World.size_alloc]; omega)))
          have e0 := (hr1.alloc (Obj.cells #[.slice (some ⟨g7, 0, none⟩) 1 1] 26)).cell 0
          have e1 := (hbg.alloc (Obj.cells #[.slice (some ⟨g7, 0, none⟩) 1 1] 26)).cell 0
          have e2 := (hb7.alloc (Obj.cells #[.slice (some ⟨g7, 0, none⟩) 1 1] 26)).cell 0
          have e3 := (BlkAt.new w7 26 #[.slice (some ⟨g7, 0, none⟩) 1 1]).cell 0
          have HBl := Lib.hid (HB7.out.alloc HB7.out.size (Obj.cells #[.slice (some ⟨g7, 0, none⟩) 1 1] 26))
          clear hb6 hb7 hg7 hB7 hr0 hr1 hbg HB6 HB7 HJ0
          go_wp2_with fail
        all_goals exact ⟨⟨m + 1, rfl, by omega, by omega, HBl.out⟩, by simp only [intOf]; omega⟩
      · have hm' : m = 7 := by omega
        subst hm'
        have HJ8 := Lib.hid (fun (W : World) (hW : Below w5.heap.size w5 W) => joinAll_any (c := c5) (.slice none 0 0) (HR5.out.below hW) HLn.out (by omega) HLs.out)
        have HJ7 := Lib.hid (fun (W : World) (hW : Below w5.heap.size w5 W) => joinFirst_any (c := c5) (.slice none 0 0) (HR5.out.below hW) HLn.out (by omega) (by omega) HLs.out)
        have HJ9 := Lib.hid (fun (W : World) (hW : Below w5.heap.size w5 W) => joinLast_any (c := c5) (.slice none 0 0) (HR5.out.below hW) HLn.out (by omega) (by omega) HLs.out)
        obtain ⟨S0, hS0⟩ : ∃ S0, cleanS ((lList ns k).getD 0 ⟨#[]⟩) = S0 := ⟨_, rfl⟩
        obtain ⟨Sn, hSn⟩ : ∃ Sn, cleanS ((lList ns k).getD (n + 1 - 1) ⟨#[]⟩) = Sn := ⟨_, rfl⟩
        rw [hS0] at HJ7
        rw [hSn] at HJ9
        obtain ⟨M, hM⟩ : ∃ M, (lList ns k).map cleanS = M := ⟨_, rfl⟩
        rw [hM] at HJ8
        have hMl : M.length = n + 1 := by rw [← hM, List.length_map, HLn.out]
        have hM0 : M[0]? = some S0 := by rw [← hM, List.getElem?_map, ← hS0, List.getElem?_eq_getElem (by rw [HLn.out]; omega), List.getD, List.getElem?_eq_getElem (by rw [HLn.out]; omega)]; rfl
        have hMn : M[n]? = some Sn := by rw [← hM, List.getElem?_map, ← hSn, List.getElem?_eq_getElem (by rw [HLn.out]; omega), List.getD, List.getElem?_eq_getElem (by rw [HLn.out]; omega)]; rfl
        have hMk : M[k]? = some ⟨#[]⟩ := by rw [← hM, List.getElem?_map, lList_at ns (by rw [HN.out]; exact hk), Option.map_some, clean0]
        have HM := Lib.hid hMl
        have HM0 := Lib.hid hM0
        have HMn := Lib.hid hMn
        have HMk := Lib.hid hMk
        have hS00 : S0 = ⟨#[]⟩ := by
          rw [← HK0.out] at hMk
          exact Option.some.inj (hM0.symm.trans hMk)
        clear HR5 HLs HBad HLn hS0 hSn hM hMl hM0 hMn hMk
        subst hS00
        go_wp2_with fail
        all_goals
          refine (HJ8.out _ HB.out).mono ?_
          rintro e w6 ⟨va, rfl, hva, hB6⟩
          have hra := StrRow.rd hva (by rw [HM.out]; omega)
          rw [HM.out] at hra
          obtain ⟨ga, ca, rfl, -, hgal, hra⟩ := hra
          have HB6 := Lib.hid (HB.out.trans (hB6.mono HB.out.size))
          have HRa := Lib.hid hra
          clear hva hra hB6 HJ8
          go_wp2_with fail
        all_goals
          refine (HJ7.out _ HB6.out).mono ?_
          rintro e w7 ⟨gb, rfl, hb7, -, hB7⟩
          have HB7 := Lib.hid (HB6.out.trans (hB7.mono HB6.out.size))
          have HRa7 := Lib.hid (HRa.out.below hB7)
          clear HRa hB7 HJ7
          go_wp2_with fail
        all_goals
          refine (HJ9.out _ HB7.out).mono ?_
          rintro e w8 ⟨gc, rfl, hb8, -, hB8⟩
          have HB8 := Lib.hid (HB7.out.trans (hB8.mono HB7.out.size))
          have HRa8 := Lib.hid (HRa7.out.below hB8)
          have hb7' := hb7.below hB8 hb7.lt
          clear HRa7 hb7 hB8 HJ9
        all_goals
          obtain ⟨y, hy⟩ : ∃ y : Addr, (⟨ga, 0, none⟩ : Addr) = y := ⟨_, rfl⟩
          rw [hy] at HRa8 ⊢
          have rd : ∀ (i : Nat) (u : ByteArray), M[i]? = some u → (((w8.alloc (Obj.cells #[.slice (some y) (n + 1) ca] 26)).alloc (Obj.cells #[.slice (some ⟨gb, 0, none⟩) 1 1] 26)).alloc (Obj.cells #[.slice (some ⟨gc, 0, none⟩) 1 1] 26)).cell? (y.add i) = some (.string u) := fun i u hu => by
            obtain ⟨hi, rfl⟩ := List.getElem?_eq_some_iff.1 hu
            obtain ⟨z, hz, hz1, hz2⟩ := (((HRa8.out.below ((Below.refl _ _).alloc (Nat.le_refl _) (Obj.cells #[.slice (some y) (n + 1) ca] 26))).below ((Below.refl _ _).alloc (Nat.le_refl _) (Obj.cells #[.slice (some ⟨gb, 0, none⟩) 1 1] 26))).below ((Below.refl _ _).alloc (Nat.le_refl _) (Obj.cells #[.slice (some ⟨gc, 0, none⟩) 1 1] 26))) i hi
            cases hz
            exact hz2
          have r0 := rd 0 _ HM0.out
          rw [show y.add 0 = y by simp [Addr.add]] at r0
          have rk := rd k _ HMk.out
          have rn := rd n _ HMn.out
          have a0 := (((BlkAt.new w8 26 #[.slice (some y) (n + 1) ca]).alloc (Obj.cells #[.slice (some ⟨gb, 0, none⟩) 1 1] 26)).alloc (Obj.cells #[.slice (some ⟨gc, 0, none⟩) 1 1] 26)).cell 0
          have b0 := ((BlkAt.new (w8.alloc (Obj.cells #[.slice (some y) (n + 1) ca] 26)) 26 #[.slice (some ⟨gb, 0, none⟩) 1 1]).alloc (Obj.cells #[.slice (some ⟨gc, 0, none⟩) 1 1] 26)).cell 0
          have c0 := (BlkAt.new ((w8.alloc (Obj.cells #[.slice (some y) (n + 1) ca] 26)).alloc (Obj.cells #[.slice (some ⟨gb, 0, none⟩) 1 1] 26)) 26 #[.slice (some ⟨gc, 0, none⟩) 1 1]).cell 0
          rw [World.size_alloc] at b0
          rw [World.size_alloc, World.size_alloc] at c0
          have s0 := (((hb7'.alloc (Obj.cells #[.slice (some y) (n + 1) ca] 26)).alloc (Obj.cells #[.slice (some ⟨gb, 0, none⟩) 1 1] 26)).alloc (Obj.cells #[.slice (some ⟨gc, 0, none⟩) 1 1] 26)).cell 0
          have sn := (((hb8.alloc (Obj.cells #[.slice (some y) (n + 1) ca] 26)).alloc (Obj.cells #[.slice (some ⟨gb, 0, none⟩) 1 1] 26)).alloc (Obj.cells #[.slice (some ⟨gc, 0, none⟩) 1 1] 26)).cell 0
          have HBl := Lib.hid (((HB8.out.alloc HB8.out.size (Obj.cells #[.slice (some y) (n + 1) ca] 26)).alloc (by have := HB8.out.size; rw [World.size_alloc]; omega) (Obj.cells #[.slice (some ⟨gb, 0, none⟩) 1 1] 26)).alloc (by have := HB8.out.size; rw [World.size_alloc, World.size_alloc]; omega) (Obj.cells #[.slice (some ⟨gc, 0, none⟩) 1 1] 26))
          clear rd hb7' hb8 HB8 HRa8 HM0 HMk HMn HB6 HB7
          go_wp2_with fail
        all_goals go_quiet (fail)
        all_goals
          have HE := Lib.hid (HB5.out.trans (HBl.out.mono HB5.out.size))
          clear HBl HB5
          go_wp2
          go_ret
          exact ⟨rfl, below_drewN' HE.out nq⟩
end Go.Proofs.YtjcpfmndkeiegaaDoor
