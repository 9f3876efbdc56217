/- The walk of hornbeambook.SameTexts. The walk of the law ForestOrder. -/
import Derived.Test.YtjcpfmndkeiegaaGreatDoorFoTU
import Derived.Test.YtjcpfmndkeiegaaGreatDoorFoJK
import Derived.BigRegion
import Derived.BigQuiet
import Derived.Test.YtjcpfmndkeiegaaGreatDoorRd
import Derived.IntWalk
namespace Go.Proofs.YtjcpfmndkeiegaaGreatDoor
open Go.RowKit
set_option linter.unusedVariables false

end Go.Proofs.YtjcpfmndkeiegaaGreatDoor
namespace Go.Proofs.YtjcpfmndkeiegaaGreatDoor
open Go.RowKit
set_option linter.unusedVariables false

/-- A slice's numbers as they lie. -/
def RdN (w : World) (a : Option Addr) (l : List Int) : Prop := ∀ i (h : i < l.length), ∃ x, a = some x ∧ x.block < w.heap.size ∧ w.cell? (x.add i) = some (.int .i64 l[i])
theorem RdN.below {w w' : World} {a : Option Addr} {l : List Int} (h : RdN w a l) (hB : Below w.heap.size w w') : RdN w' a l := fun i hi => by
  obtain ⟨x, h1, h2, h3⟩ := h i hi
  exact ⟨x, h1, Nat.lt_of_lt_of_le h2 hB.size, (hB.cell (p := x.add i) (by rw [add_block]; exact h2)).trans h3⟩
/-- Two changed places. -/
def swapL (l : List ByteArray) (a b : Nat) (ha : a < l.length) (hb : b < l.length) : List ByteArray := (l.set a l[b]).set b l[a]
theorem swapL_perm (l : List ByteArray) (a b : Nat) (ha : a < l.length) (hb : b < l.length) : (swapL l a b ha hb).Perm l := by
  have h := Array.swap_perm (xs := l.toArray) (i := a) (j := b) (by simpa using ha) (by simpa using hb)
  have h2 := h.toList
  unfold swapL
  simpa [Array.swap] using h2
/-- What order the index of order tells. -/
theorem idx_lt (v : Int) (n : Nat) (h : 0 < n) : 0 ≤ v.tmod n + n ∧ v.tmod n + n < 2 * n := by
  have h1 := Int.tmod_lt_of_pos v (b := (n : Int)) (by omega)
  have h2 := Int.tmod_lt_of_pos (-v) (b := (n : Int)) (by omega)
  rw [Int.neg_tmod] at h2
  omega
def OrdL (w5 : World) (base : Nat) (ns : List ByteArray) (md : Nat) (v p : Value) (W : World) : Prop :=
  ∃ (k : Nat) (l : List ByteArray), p = .int .i64 k ∧ k ≤ md ∧ l.Perm ns ∧ StrRow W base v l ∧ Below w5.heap.size w5 W
set_option maxRecDepth 100000 in
set_option maxHeartbeats 4000000 in
theorem order_off (w : World) (m : Int) (x y : Option Addr) (n c k d : Nat) (ns : List ByteArray) (hr : RdS w x ns) (hn : ns.length = n) (h : 30 < k ∨ m < 1 ∨ 6 < m ∨ m = 3) :
    Calls Tryz.prog 3 #[.int .i64 m, .slice x n c, .slice y k d] w fun e w' => e = .returned (.bool true) ∧ Below w.heap.size w w' := by
  have HS := Lib.hid (short_any (c := c) 20 800 (by decide) (by decide) hr hn)
  clear hr hn
  by_cases h1 : 30 < k
  · have h1I : (30 : Int) < (k : Int) := by omega
    clear h
    go_enter Tryz.func3, Tryz.ntmps3
    go_wp2_with fail
    refine HS.out.mono ?_
    rintro e w1 ⟨q, rfl, -, hB1⟩
    have HB1 := Lib.hid hB1
    clear HS hB1
    cases q
    all_goals
      go_wp2_with fail
      refine (alive_any _).mono ?_
      rintro e w2 ⟨rfl, hB2⟩
      go_wp2
      go_ret
      exact ⟨rfl, HB1.out.trans (hB2.mono HB1.out.size)⟩
  have h1I : (k : Int) ≤ 30 := by omega
  by_cases h2 : m < 1
  · clear h
    go_enter Tryz.func3, Tryz.ntmps3
    go_wp2_with fail
    refine HS.out.mono ?_
    rintro e w1 ⟨q, rfl, -, hB1⟩
    have HB1 := Lib.hid hB1
    clear HS hB1
    cases q
    all_goals
      go_wp2_with fail
      refine (alive_any _).mono ?_
      rintro e w2 ⟨rfl, hB2⟩
      go_wp2
      go_ret
      exact ⟨rfl, HB1.out.trans (hB2.mono HB1.out.size)⟩
  have h2I : 1 ≤ m := by omega
  by_cases h3 : 6 < m
  · clear h h2
    go_enter Tryz.func3, Tryz.ntmps3
    go_wp2_with fail
    refine HS.out.mono ?_
    rintro e w1 ⟨q, rfl, -, hB1⟩
    have HB1 := Lib.hid hB1
    clear HS hB1
    cases q
    all_goals
      go_wp2_with fail
      refine (alive_any _).mono ?_
      rintro e w2 ⟨rfl, hB2⟩
      go_wp2
      go_ret
      exact ⟨rfl, HB1.out.trans (hB2.mono HB1.out.size)⟩
  obtain rfl : m = 3 := by omega
  clear h h2 h3 h2I
  go_enter Tryz.func3, Tryz.ntmps3
  go_wp2_with fail
  refine HS.out.mono ?_
  rintro e w1 ⟨q, rfl, -, hB1⟩
  have HB1 := Lib.hid hB1
  clear HS hB1
  cases q
  all_goals
    go_wp2_with fail
    refine (alive_any _).mono ?_
    rintro e w2 ⟨rfl, hB2⟩
    go_wp2
    go_ret
    exact ⟨rfl, HB1.out.trans (hB2.mono HB1.out.size)⟩
theorem swap_own {w : World} {base g n c a b : Nat} {l : List ByteArray} {s t : ByteArray} (h : w.ownsRow base 9 1 (.slice (some ⟨g, 0, none⟩) n c) n (l.map sv)) (q : Nat) (ha : a < l.length) (hb : b < l.length) (hl : l.length = n) (hs : l[a] = s) (ht : l[b] = t) :
    StrRow (((w.drewN q).setCell ⟨g, a, none⟩ (.string t)).setCell ⟨g, b, none⟩ (.string s)) base (.slice (some ⟨g, 0, none⟩) n c) (swapL l a b ha hb) := by
  unfold StrRow
  have e : (swapL l a b ha hb).length = n := (swapL_perm l a b ha hb).length_eq.trans hl
  rw [e]
  have h0 : (w.drewN q).ownsRow base 9 1 (.slice (some ⟨g, 0, none⟩) n c) n (l.map sv) := h
  have h2 := ((h0.stored a (.string t)).1.stored b (.string s)).1
  unfold swapL
  rw [List.map_set, List.map_set, hs, ht]
  exact h2
theorem below_two {w W : World} {B g a b q : Nat} {u v : Value} (h : Below B w W) (hg : B ≤ g) : Below B w (((W.drewN q).setCell ⟨g, a, none⟩ u).setCell ⟨g, b, none⟩ v) :=
  ((below_drewN' h q).setCell (p := ⟨g, a, none⟩) hg _).setCell (p := ⟨g, b, none⟩) hg _
set_option maxRecDepth 100000 in
set_option maxHeartbeats 8000000 in
theorem order_on (w : World) (m : Int) (x y : Option Addr) (n c k d : Nat) (ns : List ByteArray) (os : List Int) (hr : RdS w x ns) (hn : ns.length = n) (hx : RdX w (.slice x n c) ns) (ho : RdN w y os) (hol : os.length = k) (hkd : k ≤ d) (hk : k ≤ 30) (h1 : 1 ≤ m) (h6 : m ≤ 6) (h3 : m ≠ 3) :
    Calls Tryz.prog 3 #[.int .i64 m, .slice x n c, .slice y k d] w fun e w' => e = .returned (.bool true) ∧ Below w.heap.size w w' := by
  have hm3 : (m == 3) = false := beq_eq_false_iff_ne.2 h3
  have HM := Lib.hid (show m = 1 ∨ m = 2 ∨ m = 4 ∨ m = 5 ∨ m = 6 by omega)
  have HS := Lib.hid (short_any (c := c) 20 800 (by decide) (by decide) hr hn)
  have HR := Lib.hid hr
  have HX := Lib.hid hx
  have HO := Lib.hid ho
  have HN := Lib.hid hn
  have HOl := Lib.hid hol
  clear hr hn hx ho hol h3
  go_enter Tryz.func3, Tryz.ntmps3
  go_wp2_with fail
  refine HS.out.mono ?_
  rintro e w1 ⟨q, rfl, hq, hB1⟩
  have HB1 := Lib.hid hB1
  clear HS hB1
  cases q with
  | false =>
    clear hq
    go_wp2_with fail
    refine (alive_any _).mono ?_
    rintro e w2 ⟨rfl, hB2⟩
    go_wp2
    go_ret
    exact ⟨rfl, HB1.out.trans (hB2.mono HB1.out.size)⟩
  | true =>
  obtain ⟨hn20, hsz⟩ := hq rfl
  have HSz := Lib.hid hsz
  clear hq hsz
  go_wp2_with fail
  refine (alive_any _).mono ?_
  rintro e w2 ⟨rfl, hB2⟩
  have HB2 := Lib.hid (HB1.out.trans (hB2.mono HB1.out.size))
  clear hB2 HB1
  have HLn := Lib.hid (show ([] : List ByteArray).length + ns.length ≤ 1000000 by rw [HN.out]; simp; omega)
  go_wp2_with (at_builtin; refine wpList_appS rfl _ _ rfl rfl _ (.slice none 0 0) (.slice x n c) [] ns rfl rfl (strRow_nil _ _) (HX.out.below HB2.out) HLn.out (Nat.le_refl _) ?_; intro v3 w3 ho3 hB3)
  rw [List.nil_append] at ho3
  obtain ⟨vb, vc, rfl⟩ := ownsRow_slice' ho3
  rw [HN.out] at ho3 ⊢
  have HB3 := Lib.hid (HB2.out.trans (hB3.mono HB2.out.size))
  have HO3 := Lib.hid ho3
  have HB3' := Lib.hid hB3
  clear ho3 hB3
  go_wp2
  go_loopw [8] (fun p W => OrdL w2 w2.heap.size ns k (.slice vb n vc) p W) (fun p W => k - (intOf p).toNat)
  case atStart => exact ⟨0, ns, rfl, Nat.zero_le _, .refl _, HO3.out, HB3'.out⟩
  case round =>
    obtain ⟨j, l, rfl, hj, hp, ho, hB⟩ := hrel
    have hll : l.length = n := by rw [hp.length_eq, HN.out]
    have HB := Lib.hid hB
    have HP := Lib.hid hp
    have HLl := Lib.hid hll
    have HOw := Lib.hid ho
    have hjI : ((j : Int) + 1) ≤ 31 := by omega
    clear hB hp ho
    by_cases hgo : j + 1 < k ∧ 0 < n
    · obtain ⟨hg1, hg2⟩ := hgo
      have hg1I : (j : Int) + 1 < (k : Int) := by omega
      have hg2I : (0 : Int) < (n : Int) := by omega
      obtain ⟨g, cap, hge, hgb, hgl⟩ := World.ownsRow.form HOw.out (by rw [hll]; exact hg2)
      simp only [Value.slice.injEq] at hge
      obtain ⟨rfl, -, rfl⟩ := hge
      obtain ⟨z, rfl, hzb, hz0⟩ := (HO.out.below (HB2.out.trans (HB.out.mono HB2.out.size))) j (by rw [HOl.out]; omega)
      obtain ⟨z', hze, -, hz1⟩ := (HO.out.below (HB2.out.trans (HB.out.mono HB2.out.size))) (j + 1) (by rw [HOl.out]; omega)
      cases hze
      obtain ⟨u, hu⟩ : ∃ u, os[j]'(by rw [HOl.out]; omega) = u := ⟨_, rfl⟩
      obtain ⟨v, hv⟩ : ∃ v, os[j + 1]'(by rw [HOl.out]; omega) = v := ⟨_, rfl⟩
      rw [hu] at hz0
      rw [hv] at hz1
      obtain ⟨hu1, hu2⟩ := idx_lt u n hg2
      obtain ⟨hv1, hv2⟩ := idx_lt v n hg2
      obtain ⟨a, hp⟩ : ∃ a : Nat, (u.tmod (n : Int) + (n : Int)) % (n : Int) = (a : Int) := ⟨((u.tmod (n : Int) + (n : Int)) % (n : Int)).toNat, by rw [Int.toNat_of_nonneg (Int.emod_nonneg _ (by omega))]⟩
      obtain ⟨b, hq⟩ : ∃ b : Nat, (v.tmod (n : Int) + (n : Int)) % (n : Int) = (b : Int) := ⟨((v.tmod (n : Int) + (n : Int)) % (n : Int)).toNat, by rw [Int.toNat_of_nonneg (Int.emod_nonneg _ (by omega))]⟩
      have ha : a < n := by have := Int.emod_lt_of_pos (u.tmod (n : Int) + (n : Int)) (b := (n : Int)) (by omega); omega
      have hb : b < n := by have := Int.emod_lt_of_pos (v.tmod (n : Int) + (n : Int)) (b := (n : Int)) (by omega); omega
      clear hu hv hll
      go_wp2
      have hw1 : IntKind.i64.wrap ((j : Int) + 1) = (j : Int) + 1 := IntWalk.i64_in _ (by omega)
      have hw2 : ((j : Int) + 1).toNat = j + 1 := by omega
      have hw3 : (0 : Int) ≤ (j : Int) + 1 := by omega
      have hz1' : wr.cell? ⟨z.block, z.off + (j + 1), none⟩ = some (.int .i64 v) := by simpa [Addr.add] using hz1
      go_quiet (fail)
      rw [hp, hq]
      clear hp hq hw1 hw2 hw3 hz0 hz1 hz1' hu1 hu2 hv1 hv2
      have hpi : (a : Int) < (n : Int) := by omega
      have hqi : (b : Int) < (n : Int) := by omega
      have HOn := Lib.hid (show wr.ownsRow w2.heap.size 9 1 (.slice (some ⟨g, 0, none⟩) n vc) n (l.map sv) by have := HOw.out; unfold StrRow at this; rwa [HLl.out] at this)
      have c1 := cells_own HOn.out (i := a) (by rw [HLl.out]; exact ha)
      have c2 := cells_own HOn.out (i := b) (by rw [HLl.out]; exact hb)
      obtain ⟨s, hs⟩ : ∃ s, l[a]'(by rw [HLl.out]; exact ha) = s := ⟨_, rfl⟩
      obtain ⟨t, ht⟩ : ∃ t, l[b]'(by rw [HLl.out]; exact hb) = t := ⟨_, rfl⟩
      rw [hs] at c1
      rw [ht] at c2
      have HSt := Lib.hid hs
      have HTt := Lib.hid ht
      have f1 := World.ownsRow.frozenAt HOn.out
      clear hs ht
      by_cases hab : a = b
      · subst hab
        go_wp2
        go_region
        go_wp2
        refine ⟨⟨j + 1, swapL l a a (by rw [HLl.out]; exact ha) (by rw [HLl.out]; exact ha), by go_num, by omega, (swapL_perm l a a _ _).trans HP.out, ?_, below_two HB.out hgb⟩, by simp only [intOf]; omega⟩
        exact swap_own HOn.out _ _ _ HLl.out HSt.out HSt.out
      · have hba : b ≠ a := Ne.symm hab
        go_wp2
        go_region
        go_wp2
        refine ⟨⟨j + 1, swapL l a b (by rw [HLl.out]; exact ha) (by rw [HLl.out]; exact hb), by go_num, by omega, (swapL_perm l a b _ _).trans HP.out, ?_, below_two HB.out hgb⟩, by simp only [intOf]; omega⟩
        exact swap_own HOn.out _ _ _ HLl.out HSt.out HTt.out
    · have HBw := Lib.hid (HB2.out.trans (HB.out.mono HB2.out.size))
      have HSl := Lib.hid (show ∀ s ∈ l, s.size ≤ 100000 from fun s hs => Nat.le_trans (HSz.out s (HP.out.mem_iff.1 hs)) (by decide))
      have HSn := Lib.hid (show ∀ s ∈ ns, s.size ≤ 100000 from fun s hs => Nat.le_trans (HSz.out s hs) (by decide))
      have HJ1 := Lib.hid (join_any (w := wr) (c := c) m (.slice none 0 0) HM.out (HR.out.below HBw.out) HN.out (by omega) HSn.out)
      have HJ2 := Lib.hid (fun (W : World) (hW : Below wr.heap.size wr W) => join_any (w := W) (c := vc) m (.slice none 0 0) HM.out ((rdS_own HOw.out).below hW) HLl.out (by omega) HSl.out)
      clear hll
      have hg : (k : Int) ≤ (j : Int) + 1 ∨ (j : Int) + 1 < (k : Int) ∧ n = 0 := by omega
      clear hgo
      rcases hg with hg | ⟨hg, rfl⟩
      all_goals
        go_wp2_with fail
        refine HJ1.out.mono ?_
        rintro e w6 ⟨t1, hj1, g6, rfl, hb6, hg6, hB6⟩
        have HR1 := Lib.hid hj1
        have HB6 := Lib.hid hB6
        have HK6 := Lib.hid hb6
        clear hj1 hB6 hb6 hg6 HJ1
        go_wp2_with fail
        refine (HJ2.out _ HB6.out).mono ?_
        rintro e w7 ⟨t2, hj2, g7, rfl, hb7, hg7, hB7⟩
        obtain rfl : t1 = t2 := joinR_same HR1.out hj2 HP.out.symm
        have HB7 := Lib.hid (HBw.out.trans ((HB6.out.trans (hB7.mono HB6.out.size)).mono HBw.out.size))
        have HK6' := Lib.hid (HK6.out.below hB7 HK6.out.lt)
        have HK7 := Lib.hid hb7
        clear hj2 hB7 hb7 hg7 HJ2
        go_wp2_with fail
        obtain ⟨W8, hW8⟩ : ∃ W8, ((w7.alloc (.cells #[.slice (some ⟨g6, 0, none⟩) 1 1] 27)).alloc (.cells #[.slice (some ⟨g7, 0, none⟩) 1 1] 27)) = W8 := ⟨_, rfl⟩
        have hB8 : Below w.heap.size w W8 := by rw [← hW8]; exact (HB7.out.alloc HB7.out.size _).alloc (by have := HB7.out.size; simp; omega) _
        have k8 : BlkAt W8 w7.heap.size 27 #[.slice (some ⟨g6, 0, none⟩) 1 1] := by rw [← hW8]; exact (BlkAt.new w7 _ _).alloc _
        have k6 : BlkAt W8 g6 9 #[.string t1] := by rw [← hW8]; exact (HK6'.out.alloc _).alloc _
        have k7 : BlkAt W8 g7 9 #[.string t1] := by rw [← hW8]; exact (HK7.out.alloc _).alloc _
        rw [hW8]
        have HS8 := Lib.hid (sameTexts_any (l := [t1]) (r := [t1]) (c := 1) (d := 1) (RdS.blk (l := [t1]) k6) rfl (RdS.blk (l := [t1]) k7) rfl (by simp) (by simp))
        have HK8 := Lib.hid k8
        have HB8 := Lib.hid hB8
        clear hW8 k6 k7 k8 hB8
        refine HS8.out.mono ?_
        rintro e w9 ⟨rfl, hB9⟩
        have e0 := (HK8.out.below hB9 HK8.out.lt).cell 0
        have HB9 := Lib.hid (HB8.out.trans (hB9.mono HB8.out.size))
        rw [decide_eq_true rfl]
        clear hB9
        go_wp2
        go_ret
        exact ⟨rfl, HB9.out⟩
end Go.Proofs.YtjcpfmndkeiegaaGreatDoor
