/- The document's Mul, Cmp and Sub of numbers of one digit at most (base 10,000). -/
import Derived.Test.YtgdnibdahldekabDoorNmA
import Derived.Test.YtgdnibdahldekabDoorSmM
namespace Go.Proofs.YtgdnibdahldekabDoor
open Go.RowKit
set_option linter.unusedVariables false

theorem cells_ns {W : World} {g : Nat} {t : TypeId} (xs : List Int) (h : BlkAt W g t (xs.map (Value.int .i64)).toArray) : NS W (.slice (some ⟨g, 0, none⟩) xs.length xs.length) xs :=
  ⟨some ⟨g, 0, none⟩, xs.length, rfl, Nat.le_refl _, .inr ⟨g, rfl⟩, fun i hi => ⟨g, rfl, h.lt, by rw [h.cell]; simp [List.getD, List.getElem?_eq_getElem hi]⟩⟩
theorem NS.one {W : World} {v : Value} {x : Int} (h : NS W v [x]) : ∃ g c, v = .slice (some ⟨g, 0, none⟩) 1 c ∧ 1 ≤ c ∧ g < W.heap.size ∧ W.cell? ⟨g, 0, none⟩ = some (.int .i64 x) := by
  obtain ⟨a, c, rfl, hc, ha, hr⟩ := h
  obtain ⟨g, rfl, hg, h1⟩ := hr 0 (by simp)
  exact ⟨g, c, rfl, hc, hg, h1⟩
theorem NS.none {W : World} {v : Value} (h : NS W v []) : ∃ a c, v = .slice a 0 c := by
  obtain ⟨a, c, rfl, hc, ha, hr⟩ := h
  exact ⟨a, c, rfl⟩
theorem mk3 (w : World) : (Instr.makeSlice 76 (.int .i64 3) (.int .i64 3)).run Tryd.prog w = .ok (.slice (some ⟨w.heap.size, 0, none⟩) 3 3) (w.alloc (.cells #[.int .i64 0, .int .i64 0, .int .i64 0] 3)) := by kernel_rfl
theorem mk2 (w : World) : (Instr.makeSlice 76 (.int .i64 2) (.int .i64 2)).run Tryd.prog w = .ok (.slice (some ⟨w.heap.size, 0, none⟩) 2 2) (w.alloc (.cells #[.int .i64 0, .int .i64 0] 3)) := by kernel_rfl

/-- What a product answers. -/
def MulD (w : World) (m : Int) (e : Ending) (W' : World) : Prop := ∃ u, e = .returned u ∧ NS W' u (dig m) ∧ Below w.heap.size w W'
set_option maxRecDepth 100000 in
set_option maxHeartbeats 1600000 in
theorem mul_one (b y : Value) (m : Int) (h0 : 0 ≤ m) (h1 : m < 10000) (w : World) (hb : NS w b [1]) (hy : NS w y [m]) :
    Calls Tryd.prog 91 #[b, y] w fun e W' => MulD w m e W' := by
  obtain ⟨g, c, rfl, hc, hg, hb0⟩ := hb.one
  obtain ⟨g', c', rfl, hc', hg', hy0⟩ := hy.one
  clear hb hy
  have K3 := mk3
  have hm1 : m % 10000 = m := Int.emod_eq_of_lt h0 h1
  have hm2 : m / 10000 = 0 := Int.ediv_eq_zero_of_lt h0 h1
  go_enter Tryd.func91, Tryd.ntmps91
  go_wp2
  have hB : Below w.heap.size w (w.alloc (.cells #[.int .i64 0, .int .i64 0, .int .i64 0] 3)) := (Below.refl _ w).alloc (Nat.le_refl _) _
  have hK : BlkAt (w.alloc (.cells #[.int .i64 0, .int .i64 0, .int .i64 0] 3)) w.heap.size 3 #[.int .i64 0, .int .i64 0, .int .i64 0] := BlkAt.new _ _ _
  have hb1 := (hB.cell (p := ⟨g, 0, none⟩) hg).trans hb0
  have hy1 := (hB.cell (p := ⟨g', 0, none⟩) hg').trans hy0
  have k0 : (w.alloc (.cells #[.int .i64 0, .int .i64 0, .int .i64 0] 3)).cell? ⟨w.heap.size, 0, none⟩ = some (.int .i64 0) := (hK.cell 0).trans rfl
  have kf := hK.frozen
  have HB := Lib.hid hB
  have HK := Lib.hid hK
  clear hB hK
  generalize w.alloc (.cells #[.int .i64 0, .int .i64 0, .int .i64 0] 3) = W3 at *
  refine wp_loop_rounds 2 ?_
  rw [rounds_succ]
  go_wp2_with fail
  refine wp_loop_rounds 2 ?_
  rw [rounds_succ]
  go_wp2_with fail
  go_region
  all_goals go_wp2_with fail
  rw [hm1, hm2]
  have HW : ∃ W4, Below w.heap.size w W4 ∧ NS W4 (.slice (some ⟨w.heap.size, 0, none⟩) 3 3) (m :: List.replicate 2 0) ∧ W4 = (W3.setCell ⟨w.heap.size, 0, none⟩ (.int .i64 m)).drew :=
    ⟨_, (HB.out.setCell (Nat.le_refl _) _).drew, cells_ns (m :: List.replicate 2 0) (HK.out.set 0 (.int .i64 m)).drew, rfl⟩
  obtain ⟨W4, hB4, hN4, e4⟩ := HW
  rw [← e4]
  clear e4 hb0 hy0 hb1 hy1 k0 kf K3
  have HT := Lib.hid (trim_dig hN4 (by omega))
  clear hN4
  rw [rounds_succ]
  go_wp2_with fail
  rw [rounds_succ]
  go_wp2_with fail
  refine HT.out.mono ?_
  rintro e w' ⟨u, rfl, hu, rfl⟩
  go_wp2
  go_ret
  exact ⟨_, rfl, hu, hB4⟩

set_option maxRecDepth 100000 in
set_option maxHeartbeats 1600000 in
theorem mul_nil (b y : Value) (w : World) (hb : NS w b [1]) (hy : NS w y []) :
    Calls Tryd.prog 91 #[b, y] w fun e W' => MulD w 0 e W' := by
  obtain ⟨g, c, rfl, hc, hg, hb0⟩ := hb.one
  obtain ⟨a', c', rfl⟩ := hy.none
  clear hb hy
  have K3 := mk2
  go_enter Tryd.func91, Tryd.ntmps91
  go_wp2
  have hB : Below w.heap.size w (w.alloc (.cells #[.int .i64 0, .int .i64 0] 3)) := (Below.refl _ w).alloc (Nat.le_refl _) _
  have hK : BlkAt (w.alloc (.cells #[.int .i64 0, .int .i64 0] 3)) w.heap.size 3 #[.int .i64 0, .int .i64 0] := BlkAt.new _ _ _
  have HT := Lib.hid (trim_dig (x := 0) (n := 1) (cells_ns (0 :: List.replicate 1 0) hK) (by omega))
  have HB := Lib.hid hB
  clear hB hK
  generalize w.alloc (.cells #[.int .i64 0, .int .i64 0] 3) = W3 at *
  refine wp_loop_rounds 2 ?_
  rw [rounds_succ]
  go_wp2_with fail
  refine wp_loop_rounds 1 ?_
  rw [rounds_succ]
  go_wp2_with fail
  rw [rounds_succ]
  go_wp2_with fail
  refine HT.out.mono ?_
  rintro e w' ⟨u, rfl, hu, rfl⟩
  go_wp2
  go_ret
  exact ⟨_, rfl, hu, HB.out⟩
theorem dig_nz {x : Int} : 0 < (dig x).length → (dig x).getD ((dig x).length - 1) 0 ≠ 0 := by
  unfold dig
  by_cases h : x = 0
  · rw [if_pos h]; intro h; cases h
  · rw [if_neg h]; intro _; exact h
theorem dig_le (x : Int) : (dig x).length ≤ 1000 := by rw [dig_len]; split <;> omega
theorem mul_dig (b y : Value) (m : Int) (h0 : 0 ≤ m) (h1 : m < 10000) (w : World) (hb : NS w b [1]) (hy : NS w y (dig m)) :
    Calls Tryd.prog 91 #[b, y] w fun e W' => MulD w m e W' := by
  by_cases h : m = 0
  · subst h
    exact mul_nil b y w hb hy
  · unfold dig at hy
    rw [if_neg h] at hy
    exact mul_one b y m h0 h1 w hb hy

/-- What a comparison of two numbers answers. -/
def CmpD (w : World) (x y : Int) (e : Ending) (W' : World) : Prop := e = .returned (.int .i64 (cmpZ x y)) ∧ Below w.heap.size w W'
set_option maxRecDepth 100000 in
set_option maxHeartbeats 1600000 in
theorem cmp_dig (a b : Value) (x y : Int) (hx0 : 0 ≤ x) (hy0 : 0 ≤ y) (w : World) (ha : NS w a (dig x)) (hb : NS w b (dig y)) :
    Calls Tryd.prog 72 #[a, b] w fun e W' => CmpD w x y e W' := by
  have T1 := Lib.hid (trim_same ha (dig_le x) dig_nz)
  have T2 := Lib.hid (trim_same hb (dig_le y) dig_nz)
  by_cases hx : x = 0
  · subst hx
    obtain ⟨a1, c1, rfl⟩ := NS.none (v := a) (W := w) (by simpa [dig] using ha)
    by_cases hy : y = 0
    · subst hy
      obtain ⟨a2, c2, rfl⟩ := NS.none (v := b) (W := w) (by simpa [dig] using hb)
      clear ha hb
      go_enter Tryd.func72, Tryd.ntmps72
      go_wp2_with fail
      refine T1.out.mono ?_
      rintro e w1 ⟨rfl, rfl⟩
      go_wp2_with fail
      refine T2.out.mono ?_
      rintro e w2 ⟨rfl, rfl⟩
      go_wp2_with fail
      refine wp_loop_rounds 1 ?_
      rw [rounds_succ]
      go_wp2
      go_ret
      exact ⟨rfl, Below.refl _ _⟩
    · have hz : cmpZ 0 y = -1 := by unfold cmpZ; rw [if_pos (by omega)]
      have HZ := Lib.hid hz
      obtain ⟨g2, c2, rfl, hc2, hg2, hb0⟩ := NS.one (v := b) (W := w) (x := y) (by simpa [dig, hy] using hb)
      clear ha hb hz
      go_enter Tryd.func72, Tryd.ntmps72
      go_wp2_with fail
      refine T1.out.mono ?_
      rintro e w1 ⟨rfl, rfl⟩
      go_wp2_with fail
      refine T2.out.mono ?_
      rintro e w2 ⟨rfl, rfl⟩
      go_wp2
      go_ret
      exact ⟨by rw [HZ.out]; rfl, Below.refl _ _⟩
  · obtain ⟨g1, c1, rfl, hc1, hg1, ha0⟩ := NS.one (v := a) (W := w) (x := x) (by simpa [dig, hx] using ha)
    by_cases hy : y = 0
    · subst hy
      have hz : cmpZ x 0 = 1 := by unfold cmpZ; rw [if_neg (by omega), if_pos (by omega)]
      have HZ := Lib.hid hz
      obtain ⟨a2, c2, rfl⟩ := NS.none (v := b) (W := w) (by simpa [dig] using hb)
      clear ha hb hz
      go_enter Tryd.func72, Tryd.ntmps72
      go_wp2_with fail
      refine T1.out.mono ?_
      rintro e w1 ⟨rfl, rfl⟩
      go_wp2_with fail
      refine T2.out.mono ?_
      rintro e w2 ⟨rfl, rfl⟩
      go_wp2
      go_ret
      exact ⟨by rw [HZ.out]; rfl, Below.refl _ _⟩
    · obtain ⟨g2, c2, rfl, hc2, hg2, hb0⟩ := NS.one (v := b) (W := w) (x := y) (by simpa [dig, hy] using hb)
      clear ha hb hx hy
      by_cases hlt : x < y
      · have HZ := Lib.hid (show cmpZ x y = -1 by unfold cmpZ; rw [if_pos hlt])
        have hne : (x == y) = false := beq_eq_false_iff_ne.2 (by omega)
        have hne2 : ¬ x = y := by omega
        go_enter Tryd.func72, Tryd.ntmps72
        go_wp2_with fail
        refine T1.out.mono ?_
        rintro e w1 ⟨rfl, rfl⟩
        go_wp2_with fail
        refine T2.out.mono ?_
        rintro e w2 ⟨rfl, rfl⟩
        go_wp2_with fail
        refine wp_loop_rounds 1 ?_
        rw [rounds_succ]
        go_wp2_with fail
        go_region
        all_goals go_wp2_with fail
        go_region
        all_goals go_wp2
        go_ret
        exact ⟨by rw [HZ.out]; rfl, (Below.refl _ _).drew.drew⟩
      · by_cases hgt : y < x
        · have HZ := Lib.hid (show cmpZ x y = 1 by unfold cmpZ; rw [if_neg hlt, if_pos hgt])
          have hne : (x == y) = false := beq_eq_false_iff_ne.2 (by omega)
          have hne2 : ¬ x = y := by omega
          go_enter Tryd.func72, Tryd.ntmps72
          go_wp2_with fail
          refine T1.out.mono ?_
          rintro e w1 ⟨rfl, rfl⟩
          go_wp2_with fail
          refine T2.out.mono ?_
          rintro e w2 ⟨rfl, rfl⟩
          go_wp2_with fail
          refine wp_loop_rounds 1 ?_
          rw [rounds_succ]
          go_wp2_with fail
          go_region
          all_goals go_wp2_with fail
          go_region
          all_goals go_wp2
          go_ret
          exact ⟨by rw [HZ.out]; rfl, (Below.refl _ _).drew.drew⟩
        · obtain rfl : x = y := by omega
          have HZ := Lib.hid (show cmpZ x x = 0 by unfold cmpZ; rw [if_neg hlt, if_neg hlt])
          have hne : (x == x) = true := by simp
          clear hgt hlt
          go_enter Tryd.func72, Tryd.ntmps72
          go_wp2_with fail
          refine T1.out.mono ?_
          rintro e w1 ⟨rfl, rfl⟩
          go_wp2_with fail
          refine T2.out.mono ?_
          rintro e w2 ⟨rfl, rfl⟩
          go_wp2_with fail
          refine wp_loop_rounds 2 ?_
          rw [rounds_succ]
          go_wp2_with fail
          go_region
          all_goals go_wp2_with fail
          rw [rounds_succ]
          go_wp2
          go_ret
          exact ⟨by rw [HZ.out]; rfl, (Below.refl _ _).drew⟩

/-- What a difference of a number and itself answers. -/
def SubD (w : World) (e : Ending) (W' : World) : Prop := ∃ u, e = .returned u ∧ NS W' u [] ∧ Below w.heap.size w W'
set_option maxRecDepth 100000 in
set_option maxHeartbeats 1600000 in
theorem sub_dig (a b : Value) (x : Int) (hx0 : 0 ≤ x) (hx1 : x < 10000) (w : World) (ha : NS w a (dig x)) (hb : NS w b (dig x)) :
    Calls Tryd.prog 92 #[a, b] w fun e W' => SubD w e W' := by
  by_cases hx : x = 0
  · subst hx
    obtain ⟨a1, c1, rfl⟩ := NS.none (v := a) (W := w) (by simpa [dig] using ha)
    obtain ⟨a2, c2, rfl⟩ := NS.none (v := b) (W := w) (by simpa [dig] using hb)
    have HT := Lib.hid (trim_none 0 none w)
    clear ha hb
    go_enter Tryd.func92, Tryd.ntmps92
    go_wp2
    refine wp_loop_rounds 1 ?_
    rw [rounds_succ]
    go_wp2_with fail
    refine HT.out.mono ?_
    rintro e w1 ⟨rfl, rfl⟩
    go_wp2
    go_ret
    exact ⟨_, rfl, ns_nil _, Below.refl _ _⟩
  · obtain ⟨g1, c1, rfl, hc1, hg1, ha0⟩ := NS.one (v := a) (W := w) (x := x) (by simpa [dig, hx] using ha)
    obtain ⟨g2, c2, rfl, hc2, hg2, hb0⟩ := NS.one (v := b) (W := w) (x := x) (by simpa [dig, hx] using hb)
    clear ha hb
    go_enter Tryd.func92, Tryd.ntmps92
    go_wp2
    refine wp_loop_rounds 2 ?_
    rw [rounds_succ]
    go_wp2_with (at_builtin; refine wpList_app _ rfl _ _ _ _ _ _ slN rfl w.heap.size w ((Below.refl _ w).alloc (Nat.le_refl _) _) (by simp) _ _ _ rfl ((World.ownsRow_nil _ _ _ _).alloc _) ⟨w.heap.size, 0, none⟩ _ rfl rfl (cell_one_new _ _ _) ?c1 ?c2 ?_)
    case c1 => intro x hx; simp at hx; subst hx; rfl
    case c2 => omega
    intro v' w1 hown1 hB1 hsz1 _
    have hN := ns_own (xs := [0]) (by simpa using hown1)
    have HT := Lib.hid (trim_dig (x := 0) (n := 0) hN (by omega))
    clear hN hown1
    go_wp2_with fail
    rw [rounds_succ]
    go_wp2_with fail
    refine HT.out.mono ?_
    rintro e w2 ⟨u, rfl, hu, rfl⟩
    go_wp2
    go_ret
    exact ⟨_, rfl, hu, hB1⟩
end Go.Proofs.YtgdnibdahldekabDoor
