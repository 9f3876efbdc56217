/- What the law's alive asks: plain facts, and its walk. The walks of hornbeambook's Room (at one size) and Short. -/
import Derived.Test.YtjcpfmndkeiegaaGreatDoorFoI
import Derived.Test.YtjcpfmndkeiegaaGreatDoorFoFG
namespace Go.Proofs.YtjcpfmndkeiegaaGreatDoor
open Go.RowKit
set_option linter.unusedVariables false

theorem textN_dig (d : Nat) (h : 0 < d) (h2 : d < 10) : textN d = [UInt8.ofNat (48 + d)] := by
  unfold textN
  rw [if_neg (by omega), decS_pos (by omega), Nat.div_eq_of_lt h2, decS_zero, Nat.mod_eq_of_lt h2]; rfl
theorem val1 : valQ [49] = 1 := by decide +kernel
theorem val2 : valQ [50] = 2 := by decide +kernel
theorem val5 : valQ [53] = 5 := by decide +kernel
theorem val9 : valQ [57] = 9 := by decide +kernel
theorem textQ_dig (d : Nat) (h : 0 < d) (h2 : d < 10) : textQ (d : Rat) = [UInt8.ofNat (48 + d)] := by
  unfold textQ
  have e1 : negQ (d : Rat) = false := decide_eq_false (by simp)
  have e2 : numQ (d : Rat) = d := by unfold numQ; simp
  have e3 : ((d : Rat)).den = 1 := by simp
  rw [e1, e2, e3, textN_dig d h h2]; rfl
theorem good1 : parseRC [49] = 0 := by
  unfold parseRC
  rw [if_neg (by decide), if_neg (by decide), if_neg]
  rw [val1, show (1 : Rat) = ((1 : Nat) : Rat) from rfl, textQ_dig 1 (by decide) (by decide)]
  decide
theorem good2 : parseRC [50] = 0 := by
  unfold parseRC
  rw [if_neg (by decide), if_neg (by decide), if_neg]
  rw [val2, show (2 : Rat) = ((2 : Nat) : Rat) from rfl, textQ_dig 2 (by decide) (by decide)]
  decide
theorem good5 : parseRC [53] = 0 := by
  unfold parseRC
  rw [if_neg (by decide), if_neg (by decide), if_neg]
  rw [val5, show (5 : Rat) = ((5 : Nat) : Rat) from rfl, textQ_dig 5 (by decide) (by decide)]
  decide
theorem good9 : parseRC [57] = 0 := by
  unfold parseRC
  rw [if_neg (by decide), if_neg (by decide), if_neg]
  rw [val9, show (9 : Rat) = ((9 : Nat) : Rat) from rfl, textQ_dig 9 (by decide) (by decide)]
  decide
theorem bad0 : parseRC [] ≠ 0 := by
  unfold parseRC
  rw [if_pos (by decide)]; decide
theorem clean0 : cleanS ⟨#[]⟩ = ⟨#[]⟩ := if_neg bad0
theorem SortedQ.pairwise {qs : List Rat} (h : SortedQ qs) : qs.Pairwise (fun a b => a ≤ b) := by
  rw [List.pairwise_iff_getElem]
  intro i j hi hj hij
  have := h i j hij hj
  rw [List.getD, List.getD, List.getElem?_eq_getElem hi, List.getElem?_eq_getElem hj] at this
  exact Rat.not_lt.1 this
theorem mid_alive {qs : List Rat} (hp : qs.Perm [1, 5, 2, 9]) (hs : SortedQ qs) : textQ (midQ qs) = [55, 47, 50] := by
  obtain rfl : qs = [1, 2, 5, 9] := List.Perm.eq_of_pairwise (le := fun a b => a ≤ b) (fun a b _ _ h1 h2 => Rat.le_antisymm h1 h2) hs.pairwise (by decide) (hp.trans (.cons _ (.swap _ _ _)))
  rw [show midQ [1, 2, 5, 9] = mkRat 7 2 by decide +kernel]
  have e1 : negQ (mkRat 7 2) = false := by decide +kernel
  have e2 : numQ (mkRat 7 2) = 7 := by decide +kernel
  have e3 : (mkRat 7 2).den = 2 := by decide +kernel
  unfold textQ
  rw [e1, e2, e3, textN_dig 7 (by decide) (by decide), textN_dig 2 (by decide) (by decide)]; rfl
theorem join_alive (g : Nat) (w : World) (h : BlkAt w g 9 #[.string ⟨#[49]⟩, .string ⟨#[53]⟩, .string ⟨#[50]⟩, .string ⟨#[57]⟩]) :
    Calls Tryz.prog 8 #[.int .i64 4, .slice (some ⟨g, 0, none⟩) 4 4, .slice none 0 0] w fun e w' => OneAt w w' e ⟨#[55, 47, 50]⟩ := by
  refine (joinMed_any (ns := [⟨#[49]⟩, ⟨#[53]⟩, ⟨#[50]⟩, ⟨#[57]⟩]) _ (RdS.blk h) rfl (by decide) (by decide) ?_ (by decide)).mono ?_
  · intro s hs
    simp only [List.mem_cons, List.not_mem_nil, or_false] at hs
    rcases hs with rfl | rfl | rfl | rfl
    · exact good1
    · exact good5
    · exact good2
    · exact good9
  · rintro e w' ⟨qs, hp, hs, h1⟩
    have e : ([⟨#[49]⟩, ⟨#[53]⟩, ⟨#[50]⟩, ⟨#[57]⟩] : List ByteArray).map (fun s => parseRQ s.data.toList) = [1, 5, 2, 9] := by
      simp only [List.map_cons, List.map_nil]
      unfold parseRQ
      rw [if_pos good1, if_pos good5, if_pos good2, if_pos good9]
      have h1 := val1; have h2 := val2; have h5 := val5; have h9 := val9
      simp_all
    rw [e] at hp
    rw [mid_alive hp hs] at h1
    exact h1
theorem join_bad (g : Nat) (w : World) (h : BlkAt w g 9 #[.string ⟨#[49]⟩, .string ⟨#[]⟩]) :
    Calls Tryz.prog 8 #[.int .i64 1, .slice (some ⟨g, 0, none⟩) 2 2, .slice none 0 0] w fun e w' => OneAt w w' e ⟨#[]⟩ :=
  joinNum_any (ns := [⟨#[49]⟩, ⟨#[]⟩]) 1 _ (by decide) (by decide) (RdS.blk h) rfl (by decide) (by decide) (.inr ⟨⟨#[]⟩, by simp, bad0⟩)
set_option maxRecDepth 100000 in
set_option maxHeartbeats 8000000 in
theorem alive_any (w : World) :
    Calls Tryz.prog 7 #[] w fun e w' => e = .returned (.bool true) ∧ Below w.heap.size w w' := by
  obtain ⟨w0, h0⟩ : ∃ w0, w.alloc (Obj.cells #[.string ⟨#[49]⟩, .string ⟨#[53]⟩, .string ⟨#[50]⟩, .string ⟨#[57]⟩] 9) = w0 := ⟨_, rfl⟩
  have HA := Lib.hid (show Calls Tryz.prog 8 #[.int .i64 4, .slice (some ⟨w.heap.size, 0, none⟩) 4 4, .slice none 0 0] (w.alloc (Obj.cells #[.string ⟨#[49]⟩, .string ⟨#[53]⟩, .string ⟨#[50]⟩, .string ⟨#[57]⟩] 9)) fun e w' => OneAt w0 w' e ⟨#[55, 47, 50]⟩ by rw [h0]; exact join_alive _ _ (by rw [← h0]; exact BlkAt.new w _ _))
  have HB0 := Lib.hid (show Below w.heap.size w w0 by rw [← h0]; exact (Below.refl _ _).alloc (Nat.le_refl _) _)
  clear h0
  go_enter Tryz.func7, Tryz.ntmps7
  go_wp2_with fail
  trace "X1"
  all_goals refine HA.out.mono ?_
  all_goals rintro e w1 ⟨g, rfl, hb, hg, hB⟩
  all_goals have HB1 := Lib.hid (HB0.out.trans (hB.mono HB0.out.size))
  all_goals clear HA HB0 hg hB
  all_goals go_wp2_with fail
  all_goals have hn := BlkAt.new (w1.alloc (Obj.cells #[.slice (some ⟨g, 0, none⟩) 1 1] 27)) 9 #[.string ⟨#[49]⟩, .string ⟨#[]⟩]
  all_goals rw [World.size_alloc] at hn
  all_goals refine (join_bad _ _ hn).mono ?_
  all_goals clear hn
  all_goals rintro e w2 ⟨g2, rfl, hb2, hg2, hB2⟩
  all_goals have hr0 := BlkAt.new w1 27 #[.slice (some ⟨g, 0, none⟩) 1 1]
  all_goals have hr1 := (hr0.alloc (Obj.cells #[.string ⟨#[49]⟩, .string ⟨#[]⟩] 9)).below hB2 (Nat.lt_of_lt_of_le (hr0.alloc (Obj.cells #[.string ⟨#[49]⟩, .string ⟨#[]⟩] 9)).lt (Nat.le_refl _))
  all_goals have hbg := ((hb.alloc (Obj.cells #[.slice (some ⟨g, 0, none⟩) 1 1] 27)).alloc (Obj.cells #[.string ⟨#[49]⟩, .string ⟨#[]⟩] 9)).below hB2 ((hb.alloc (Obj.cells #[.slice (some ⟨g, 0, none⟩) 1 1] 27)).alloc (Obj.cells #[.string ⟨#[49]⟩, .string ⟨#[]⟩] 9)).lt
  all_goals have HB2 := Lib.hid (((HB1.out.alloc HB1.out.size (Obj.cells #[.slice (some ⟨g, 0, none⟩) 1 1] 27)).alloc (by have := HB1.out.size; rw [World.size_alloc]; omega) (Obj.cells #[.string ⟨#[49]⟩, .string ⟨#[]⟩] 9)).trans (hB2.mono (by have := HB1.out.size; rw [World.size_alloc, World.size_alloc]; omega)))
  all_goals have e0 := (hr1.alloc (Obj.cells #[.slice (some ⟨g2, 0, none⟩) 1 1] 27)).cell 0
  all_goals have e1 := (hbg.alloc (Obj.cells #[.slice (some ⟨g2, 0, none⟩) 1 1] 27)).cell 0
  all_goals have e2 := (hb2.alloc (Obj.cells #[.slice (some ⟨g2, 0, none⟩) 1 1] 27)).cell 0
  all_goals have e3 := (BlkAt.new w2 27 #[.slice (some ⟨g2, 0, none⟩) 1 1]).cell 0
  all_goals have HBl := Lib.hid (HB2.out.alloc HB2.out.size (Obj.cells #[.slice (some ⟨g2, 0, none⟩) 1 1] 27))
  all_goals clear hb hb2 hg2 hB2 hr0 hr1 hbg HB1 HB2
  all_goals go_wp2_with fail
  all_goals go_ret
  all_goals exact ⟨rfl, HBl.out⟩
end Go.Proofs.YtjcpfmndkeiegaaGreatDoor
namespace Go.Proofs.YtjcpfmndkeiegaaGreatDoor
open Go.RowKit
set_option linter.unusedVariables false

/-- How much room is left behind one size. -/
def roomQ (a m : Int) : Int := if a < 0 ∨ m > a then -1 else a - m
set_option maxRecDepth 100000 in
set_option maxHeartbeats 4000000 in
theorem room_any {w : World} {g c : Nat} {a m : Int} (ha : -1 ≤ a) (ha2 : a ≤ 100000) (hm : 0 ≤ m) (hg : w.cell? ⟨g, 0, none⟩ = some (.int .i64 m)) :
    Calls Tryz.prog 16 #[.int .i64 a, .slice (some ⟨g, 0, none⟩) 1 c] w fun e w' => e = .returned (.int .i64 (roomQ a m)) ∧ w' = w := by
  have hgl := block_lt' hg
  go_enter Tryz.func16, Tryz.ntmps16
  go_wp2_with fail
  go_loopw [5, 0] (fun v p W => W = w ∧ ((v = .int .i64 0 ∧ p = .int .i64 a) ∨ (v = .int .i64 1 ∧ p = .int .i64 (a - m) ∧ roomQ a m = a - m))) (fun v p W => 1 - (intOf v).toNat)
  case atStart => exact ⟨rfl, .inl ⟨rfl, rfl⟩⟩
  case round =>
    obtain ⟨rfl, ⟨rfl, rfl⟩ | ⟨rfl, rfl, hr⟩⟩ := hrel
    · by_cases h1 : a < 0
      · have hr := Lib.hid (show roomQ a m = -1 from if_pos (.inl h1))
        go_wp2_with fail
        go_ret
        exact ⟨by rw [hr.out]; rfl, rfl⟩
      · by_cases h2 : a < m
        · have hr := Lib.hid (show roomQ a m = -1 from if_pos (.inr h2))
          go_wp2_with fail
          go_ret
          exact ⟨by rw [hr.out]; rfl, rfl⟩
        · have hr := Lib.hid (show roomQ a m = a - m from if_neg (by omega))
          go_wp2_with fail
          exact ⟨⟨trivial, .inr ⟨rfl, rfl, hr.out⟩⟩, by decide⟩
    · have hr := Lib.hid hr
      go_wp2_with fail
      go_ret
      exact ⟨by rw [hr.out]; rfl, rfl⟩
theorem roomQ_le {a m : Int} (ha : -1 ≤ a) (hm : 0 ≤ m) : -1 ≤ roomQ a m ∧ roomQ a m ≤ a ∧ (0 ≤ roomQ a m → m ≤ a ∧ 0 ≤ a) := by
  unfold roomQ
  split
  · omega
  · omega
/-- What Short tells. -/
def ShortR (few b n : Nat) (ns : List ByteArray) (w : World) (e : Ending) (w' : World) : Prop := ∃ q, e = .returned (.bool q) ∧ (q = true → n ≤ few ∧ ∀ s ∈ ns, s.size ≤ b) ∧ Below w.heap.size w w'
/-- The loop of Short. -/
def ShortL (b : Nat) (ns : List ByteArray) (w : World) (v p : Value) (W : World) : Prop :=
  ∃ (k : Nat) (r : Int), v = .int .i64 k ∧ p = .int .i64 r ∧ k ≤ ns.length ∧ -1 ≤ r ∧ r ≤ b ∧ (0 ≤ r → ∀ i, i < k → (ns.getD i ⟨#[]⟩).size ≤ b) ∧ Below w.heap.size w W
set_option maxRecDepth 100000 in
set_option maxHeartbeats 4000000 in
theorem short_any {w : World} {x : Option Addr} {n c : Nat} {ns : List ByteArray} (few b : Nat) (hf : few ≤ 1000) (hb : b ≤ 100000) (hr : RdS w x ns) (hn : ns.length = n) :
    Calls Tryz.prog 6 #[.int .i64 few, .int .i64 b, .slice x n c] w (ShortR few b n ns w) := by
  have HR := Lib.hid hr
  have HN := Lib.hid hn
  clear hr hn
  by_cases hfew : n ≤ few
  · have hfi : ¬ ((few : Int) < (n : Int)) := by omega
    go_enter Tryz.func6, Tryz.ntmps6
    go_wp2_with fail
    trace "X1"
    go_loopw [7, 1] (fun v p W => ShortL b ns w v p W) (fun v p W => n - (intOf v).toNat)
    case atStart => exact ⟨0, b, rfl, rfl, Nat.zero_le _, by omega, by omega, fun _ i hi => by omega, Below.refl _ _⟩
    case round =>
      obtain ⟨k, r, rfl, rfl, hk, hr1, hr2, hok, hB⟩ := hrel
      rw [HN.out] at hk
      have HB := Lib.hid hB
      have HOk := Lib.hid hok
      clear hB hok
      by_cases hlt : k < n
      · by_cases hr0 : 0 ≤ r
        · obtain ⟨y, rfl, hyb, hyc⟩ := (HR.out.below HB.out) k (by rw [HN.out]; exact hlt)
          obtain ⟨s, hs⟩ : ∃ s, ns[k]'(by rw [HN.out]; exact hlt) = s := ⟨_, rfl⟩
          rw [hs] at hyc
          have HSg := Lib.hid (show ns.getD k ⟨#[]⟩ = s by rw [List.getD, List.getElem?_eq_getElem (by rw [HN.out]; exact hlt), hs]; rfl)
          have hq := roomQ_le (a := r) (m := (s.size : Int)) hr1 (by omega)
          obtain ⟨q, hqq⟩ : ∃ q, roomQ r (s.size : Int) = q := ⟨_, rfl⟩
          have HM := Lib.hid (fun (W : World) (g c : Nat) (hg : W.cell? ⟨g, 0, none⟩ = some (.int .i64 (s.size : Nat))) => room_any (c := c) hr1 (by omega) (by omega) hg)
          rw [hqq] at hq HM
          clear hs hqq HR
          go_wp2_with fail
          refine (HM.out _ _ _ ((BlkAt.new wr 3 #[.int .i64 (s.size : Nat)]).cell 0)).mono ?_
          rintro e w' ⟨rfl, rfl⟩
          have HBn := Lib.hid (HB.out.alloc HB.out.size (Obj.cells #[.int .i64 (s.size : Nat)] 3))
          go_wp2_with fail
          refine ⟨⟨k + 1, q, by go_num, rfl, by rw [HN.out]; omega, hq.1, by omega, fun h0 i hi => ?_, HBn.out⟩, by simp only [intOf]; omega⟩
          by_cases h : i = k
          · rw [h, HSg.out]; have := hq.2.2 h0; omega
          · exact HOk.out hr0 i (by omega)
        · clear HR
          go_wp2_with fail
          go_ret
          exact ⟨false, rfl, (fun h => Bool.noConfusion h), HB.out⟩
      · obtain rfl : k = n := by omega
        clear HR
        go_wp2_with fail
        go_ret
        refine ⟨decide (0 ≤ r), rfl, fun h => ⟨hfew, fun s hs => ?_⟩, HB.out⟩
        obtain ⟨i, hi, rfl⟩ := List.mem_iff_getElem.1 hs
        have := HOk.out (of_decide_eq_true h) i (by rw [← HN.out]; exact hi)
        rwa [List.getD, List.getElem?_eq_getElem hi] at this
  · have hfi : ((few : Int) < (n : Int)) := by omega
    clear HR
    go_enter Tryz.func6, Tryz.ntmps6
    go_wp2_with fail
    go_ret
    exact ⟨false, rfl, (fun h => Bool.noConfusion h), Below.refl _ _⟩
end Go.Proofs.YtjcpfmndkeiegaaGreatDoor
