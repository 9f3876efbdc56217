/- The walks of the library's stable sort's parts over a row of reasons: swapRange and rotate, and the program's comparison. -/
import Derived.Test.YtgdnibdahldekabDoorSmT
import Derived.Test.YtgdnibdahldekabDoorDgB
import Derived.Maps.AppendAt
import Derived.Maps.RangeWalk
import Derived.Lib.HexFns
import Derived.Lib.HexFns2
import Derived.BigRegion
import Derived.RegionTactic
import Derived.Deep.QuietTactic
import Derived.BigQuiet
import Derived.WalkKit
import Derived.ProofKit
import Derived.LoopTactic
import Derived.WalkSpells
import Derived.Lib.Hide
import Derived.Outline
import Derived.Handy
namespace Go.Proofs.YtgdnibdahldekabDoor
open Go.RowKit
set_option linter.unusedVariables false

/-- A row in which the reasons o stand as f says. -/
def DR (W : World) (g cap n : Nat) (o : Nat → Di) (f : Nat → Nat) : Prop := ∃ cur : Array Value, BlkAt W g 31 cur ∧ cur.size = cap * 3 ∧ ∀ i, i < n → ∀ j, j < 3 → cur[i * 3 + j]? = (diCells (o (f i)))[j]?
theorem DR.cells {W : World} {g cap n : Nat} {o : Nat → Di} {f : Nat → Nat} (h : DR W g cap n o f) {i : Nat} (hi : i < n) :
    W.cell? ⟨g, i * 3, none⟩ = some (.int .i64 (o (f i)).code) ∧ W.cell? ⟨g, i * 3 + 1, none⟩ = some (.int .i64 (o (f i)).at_) ∧ W.cell? ⟨g, i * 3 + 2, none⟩ = some (.string ⟨(o (f i)).what.toArray⟩) := by
  obtain ⟨cur, hb, hs, hc⟩ := h
  exact ⟨(hb.cell _).trans (hc i hi 0 (by omega)), (hb.cell _).trans (hc i hi 1 (by omega)), (hb.cell _).trans (hc i hi 2 (by omega))⟩
theorem DR.frozen {W : World} {g cap n : Nat} {o : Nat → Di} {f : Nat → Nat} (h : DR W g cap n o f) (k : Nat) : W.frozen? ⟨g, k, none⟩ = false := by
  obtain ⟨cur, hb, hs, hc⟩ := h
  exact hb.frozen k
theorem DR.lt {W : World} {g cap n : Nat} {o : Nat → Di} {f : Nat → Nat} (h : DR W g cap n o f) : g < W.heap.size := by
  obtain ⟨cur, hb, hs, hc⟩ := h
  exact hb.lt
theorem DR.drew {W : World} {g cap n : Nat} {o : Nat → Di} {f : Nat → Nat} (h : DR W g cap n o f) : DR W.drew g cap n o f := h
theorem DR.below {W W' : World} {g cap n : Nat} {o : Nat → Di} {f : Nat → Nat} (h : DR W g cap n o f) (hB : Below W.heap.size W W') : DR W' g cap n o f := by
  have hl := h.lt
  obtain ⟨cur, hb, hs, hc⟩ := h
  exact ⟨cur, hb.below hB hl, hs, hc⟩
theorem GB_set {w w' : World} {b : Nat} (h : w.grownBy w' (some b)) (a : Addr) (ha : a.block = b) (v : Value) : w.grownBy (w'.setCell a v) (some b) :=
  ⟨h.os, h.tape, h.output, by rw [World.size_setCell]; exact h.size, fun k hk hne => (Below.heap_setCell w' a v k (fun e => hne (by rw [e, ha]))).trans (h.block k hk hne)⟩
theorem GB_drew {w w' : World} {row : Option Nat} (h : w.grownBy w' row) : w.grownBy w'.drew row := ⟨h.os, h.tape, h.output, h.size, h.block⟩
/-- One reason is laid over another. -/
theorem DR.put {W : World} {g cap n : Nat} {o : Nat → Di} {f : Nat → Nat} (h : DR W g cap n o f) (hn : n ≤ cap) {i v : Nat} (hi : i < n) :
    DR (((W.setCell ⟨g, i * 3, none⟩ (.int .i64 (o v).code)).setCell ⟨g, i * 3 + 1, none⟩ (.int .i64 (o v).at_)).setCell ⟨g, i * 3 + 2, none⟩ (.string ⟨(o v).what.toArray⟩)) g cap n o (fun k => if k = i then v else f k) ∧
    W.grownBy (((W.setCell ⟨g, i * 3, none⟩ (.int .i64 (o v).code)).setCell ⟨g, i * 3 + 1, none⟩ (.int .i64 (o v).at_)).setCell ⟨g, i * 3 + 2, none⟩ (.string ⟨(o v).what.toArray⟩)) (some g) := by
  obtain ⟨cur, hb, hs, hc⟩ := h
  refine ⟨⟨_, ((hb.set (i * 3) _).set (i * 3 + 1) _).set (i * 3 + 2) _, by simp [hs], fun k hk j hj => ?_⟩, ?_⟩
  · by_cases hki : k = i
    · subst hki
      simp only [if_true]
      have e0 : k * 3 < cur.size := by omega
      have e1 : k * 3 + 1 < (cur.setIfInBounds (k * 3) (.int .i64 (o v).code)).size := by simp; omega
      have e2 : k * 3 + 2 < ((cur.setIfInBounds (k * 3) (.int .i64 (o v).code)).setIfInBounds (k * 3 + 1) (.int .i64 (o v).at_)).size := by simp; omega
      match j, hj with
      | 0, _ =>
        rw [Nat.add_zero, Array.getElem?_setIfInBounds_ne (by omega), Array.getElem?_setIfInBounds_ne (by omega)]
        exact Array.getElem?_setIfInBounds_self_of_lt e0
      | 1, _ =>
        rw [Array.getElem?_setIfInBounds_ne (by omega)]
        exact Array.getElem?_setIfInBounds_self_of_lt e1
      | 2, _ => exact Array.getElem?_setIfInBounds_self_of_lt e2
    · simp only [if_neg hki]
      rw [Array.getElem?_setIfInBounds_ne (by omega), Array.getElem?_setIfInBounds_ne (by omega), Array.getElem?_setIfInBounds_ne (by omega)]
      exact hc k hk j hj
  · exact GB_set (GB_set (GB_set (World.grownBy.refl W (some g)) ⟨g, i * 3, none⟩ rfl _) ⟨g, i * 3 + 1, none⟩ rfl _) ⟨g, i * 3 + 2, none⟩ rfl _
theorem DR.congr {W : World} {g cap n : Nat} {o : Nat → Di} {f f' : Nat → Nat} (h : DR W g cap n o f) (hf : ∀ k, f' k = f k) : DR W g cap n o f' := by
  obtain rfl : f' = f := funext hf
  exact h
/-- Two are changed. -/
theorem DR.swap {W : World} {g cap n : Nat} {o : Nat → Di} {f : Nat → Nat} (h : DR W g cap n o f) (hn : n ≤ cap) {i j : Nat} (hi : i < n) (hj : j < n) (hij : i ≠ j) :
    ∃ W', ((((((W.setCell ⟨g, i * 3, none⟩ (.int .i64 (o (f j)).code)).setCell ⟨g, i * 3 + 1, none⟩ (.int .i64 (o (f j)).at_)).setCell ⟨g, i * 3 + 2, none⟩ (.string ⟨(o (f j)).what.toArray⟩)).setCell ⟨g, j * 3, none⟩ (.int .i64 (o (f i)).code)).setCell ⟨g, j * 3 + 1, none⟩ (.int .i64 (o (f i)).at_)).setCell ⟨g, j * 3 + 2, none⟩ (.string ⟨(o (f i)).what.toArray⟩)) = W' ∧
      DR W' g cap n o (swp f i j) ∧ W.grownBy W' (some g) := by
  obtain ⟨h1, h2⟩ := h.put hn (v := f j) hi
  obtain ⟨W1, hW1⟩ : ∃ W1, ((W.setCell ⟨g, i * 3, none⟩ (.int .i64 (o (f j)).code)).setCell ⟨g, i * 3 + 1, none⟩ (.int .i64 (o (f j)).at_)).setCell ⟨g, i * 3 + 2, none⟩ (.string ⟨(o (f j)).what.toArray⟩) = W1 := ⟨_, rfl⟩
  rw [hW1] at h1 h2 ⊢
  clear hW1
  obtain ⟨h3, h4⟩ := h1.put hn (v := f i) hj
  refine ⟨_, rfl, h3.congr fun k => ?_, h2.trans h4⟩
  unfold swp
  by_cases e1 : k = i
  · rw [if_pos e1, if_neg (by omega), if_pos e1]
  · by_cases e2 : k = j
    · rw [if_neg e1, if_pos e2, if_pos e2]
    · rw [if_neg e1, if_neg e2, if_neg e2, if_neg e1]
theorem swp_comm (f : Nat → Nat) (i j : Nat) (k : Nat) : swp f i j k = swp f j i k := by
  unfold swp
  by_cases e1 : k = i
  · by_cases e2 : k = j
    · rw [if_pos e1, if_pos e2, ← e1, e2]
    · rw [if_pos e1, if_neg e2, if_pos e1]
  · by_cases e2 : k = j
    · rw [if_neg e1, if_pos e2, if_pos e2]
    · rw [if_neg e1, if_neg e2, if_neg e2, if_neg e1]
abbrev cmpV : Value := .func (.func 29) #[] #[]

set_option maxRecDepth 100000 in
set_option maxHeartbeats 1600000 in
theorem swapR_any (g cap n a b m : Nat) (o : Nat → Di) (f : Nat → Nat) (h1 : a + m ≤ b) (h2 : b + m ≤ n) (hn : n ≤ cap) (hm : n ≤ 1000) (w : World) (h : DR w g cap n o f) :
    Calls Tryd.prog 93 #[.slice (some ⟨g, 0, none⟩) n cap, .int .i64 a, .int .i64 b, .int .i64 m, cmpV] w fun e W' =>
      (∃ v, e = .returned v) ∧ DR W' g cap n o (swR f a b m) ∧ w.grownBy W' (some g) := by
  go_enter Tryd.func93, Tryd.ntmps93
  go_wp2
  go_loopw [10] (fun p wr => ∃ i : Nat, p = .int .i64 i ∧ i ≤ m ∧ DR wr g cap n o (swR f a b i) ∧ w.grownBy wr (some g)) (fun p _ => m - (intOf p).toNat)
  case atStart => exact ⟨0, rfl, Nat.zero_le _, h.congr fun k => by rw [swR_zero], World.grownBy.refl _ _⟩
  case round =>
    obtain ⟨i, rfl, hi, hD, hG⟩ := hrel
    by_cases hlt : i < m
    · obtain ⟨p0, p1, p2⟩ := hD.cells (i := a + i) (by omega)
      obtain ⟨q0, q1, q2⟩ := hD.cells (i := b + i) (by omega)
      have fz := hD.frozen
      have hs := swR_succ f a b i (by omega)
      have HS := Lib.hid hs
      have HD := Lib.hid hD
      clear hs hD
      generalize swR f a b i = f' at *
      go_wp2_with fail
      go_region
      all_goals
        obtain ⟨W', hW', hD2, hG2⟩ := HD.out.swap hn (i := a + i) (j := b + i) (by omega) (by omega) (by omega)
        rw [hW']
        go_wp2
        go_roundw
        case rel => exact ⟨i + 1, by go_num, by omega, by rw [← HS.out]; exact hD2, GB_drew (hG.trans hG2)⟩
        case measure => simp [intOf]; omega
    · obtain rfl : i = m := by omega
      go_wp2
      go_end0
      exact ⟨⟨_, rfl⟩, hD, hG⟩

set_option maxRecDepth 100000 in
set_option maxHeartbeats 1600000 in
theorem rotate_any (g cap n a m b : Nat) (o : Nat → Di) (f : Nat → Nat) (h1 : a < m) (h2 : m < b) (h3 : b ≤ n) (hn : n ≤ cap) (hm : n ≤ 1000) (w : World) (h : DR w g cap n o f) :
    Calls Tryd.prog 85 #[.slice (some ⟨g, 0, none⟩) n cap, .int .i64 a, .int .i64 m, .int .i64 b, cmpV] w fun e W' =>
      (∃ v, e = .returned v) ∧ DR W' g cap n o (rotR f a m b) ∧ w.grownBy W' (some g) := by
  go_enter Tryd.func85, Tryd.ntmps85
  go_wp2
  go_loopw [10, 11] (fun p q wr => ∃ (i j : Nat) (f' : Nat → Nat), p = .int .i64 i ∧ q = .int .i64 j ∧ 0 < i ∧ 0 < j ∧ a + i ≤ m ∧ m + j ≤ b ∧ rotR f' (m - i) m (m + j) = rotR f a m b ∧ DR wr g cap n o f' ∧ w.grownBy wr (some g)) (fun p q _ => (intOf p).toNat + (intOf q).toNat)
  case atStart => exact ⟨m - a, b - m, f, by go_num, by go_num, by omega, by omega, by omega, by omega, rot_start f a m b (by omega) (by omega), h, World.grownBy.refl _ _⟩
  case round =>
    obtain ⟨i, j, f', rfl, rfl, hi, hj, hai, hjb, hR, hD, hG⟩ := hrel
    have HR := Lib.hid hR
    clear hR
    by_cases heq : i = j
    · subst heq
      have hE := rot_end f' m i (by omega)
      have K := swapR_any g cap n (m - i) m i o f' (by omega) (by omega) hn hm wr hD
      rw [← hE, HR.out, show (((m - i : Nat)) : Int) = (m : Int) - (i : Int) by omega] at K
      have HK := Lib.hid K
      clear K hE
      go_wp2_with fail
      refine HK.out.mono ?_
      rintro e w1 ⟨⟨v1, rfl⟩, hD1, hG1⟩
      go_wp2_with fail
      go_end0
      exact ⟨⟨_, rfl⟩, hD1, hG.trans hG1⟩
    · have hne : ¬ (i : Int) = (j : Int) := by omega
      by_cases hgt : j < i
      · have K := swapR_any g cap n (m - i) m j o f' (by omega) (by omega) hn hm wr hD
        rw [show (((m - i : Nat)) : Int) = (m : Int) - (i : Int) by omega] at K
        have HK := Lib.hid K
        have HS := Lib.hid (rot_left f' m i j (by omega) hgt)
        clear K
        go_wp2_with fail
        refine HK.out.mono ?_
        rintro e w1 ⟨⟨v1, rfl⟩, hD1, hG1⟩
        go_wp2_with fail
        go_roundw
        case rel => exact ⟨i - j, j, _, by go_num, rfl, by omega, hj, by omega, hjb, by rw [HS.out, HR.out], hD1, hG.trans hG1⟩
        case measure => simp [intOf]; omega
      · have hgt2 : ¬ (j : Int) < (i : Int) := by omega
        have K := swapR_any g cap n (m - i) (m + j - i) i o f' (by omega) (by omega) hn hm wr hD
        rw [show (((m - i : Nat)) : Int) = (m : Int) - (i : Int) by omega, show (((m + j - i : Nat)) : Int) = (m : Int) + (j : Int) - (i : Int) by omega] at K
        have HK := Lib.hid K
        have HS := Lib.hid (rot_right f' m i j (by omega) (by omega))
        clear K
        go_wp2_with fail
        refine HK.out.mono ?_
        rintro e w1 ⟨⟨v1, rfl⟩, hD1, hG1⟩
        go_wp2_with fail
        go_roundw
        case rel => exact ⟨i, j - i, _, rfl, by go_num, hi, by omega, hai, by omega, by rw [HS.out, HR.out], hD1, hG.trans hG1⟩
        case measure => simp [intOf]; omega

/-- What a comparison answers. -/
def CmpR (a b z : Int) : Prop := (a < b → z < 0) ∧ (¬ a < b → 0 ≤ z)
set_option maxRecDepth 100000 in
theorem cmp_any (d e : Di) (w : World) :
    Calls Tryd.prog 29 #[diV d, diV e] w fun r w' => ∃ z : Int, r = .returned (.int .i64 z) ∧ CmpR d.at_ e.at_ z ∧ Below w.heap.size w w' := by
  obtain ⟨d0, d1, d2⟩ := d
  obtain ⟨e0, e1, e2⟩ := e
  simp only
  have hB : Below w.heap.size w ((w.alloc (.cells #[.int .i64 d0, .int .i64 d1, .string ⟨d2.toArray⟩] 31)).alloc (.cells #[.int .i64 e0, .int .i64 e1, .string ⟨e2.toArray⟩] 31)) :=
    ((Below.refl _ w).alloc (Nat.le_refl _) _).alloc (by simp) _
  by_cases h1 : d1 < e1
  · go_enter Tryd.func29, Tryd.ntmps29
    go_wp2
    go_ret
    exact ⟨-1, rfl, by unfold CmpR; omega, hB⟩
  · by_cases h2 : e1 < d1
    · go_enter Tryd.func29, Tryd.ntmps29
      go_wp2
      go_ret
      exact ⟨1, rfl, by unfold CmpR; omega, hB⟩
    · go_enter Tryd.func29, Tryd.ntmps29
      go_wp2
      go_ret
      exact ⟨0, rfl, by unfold CmpR; omega, hB⟩
end Go.Proofs.YtgdnibdahldekabDoor
