/- The walk of the library's merge in place over a row of reasons, where one side is a single one. -/
import Derived.Test.YtgdnibdahldekabDoorSmI
import Derived.Shelf.SlSortCmp.QuietGrown
namespace Go.Proofs.YtgdnibdahldekabDoor
open Go.RowKit Go.Sort
set_option linter.unusedVariables false

/-- What the program's comparison answers. -/
def cmpZ (a b : Int) : Int := if a < b then -1 else if b < a then 1 else 0
theorem cmpZ_lt {a b : Int} (h : a < b) : cmpZ a b < 0 := by unfold cmpZ; rw [if_pos h]; omega
theorem cmpZ_ge {a b : Int} (h : ¬ a < b) : ¬ cmpZ a b < 0 := by unfold cmpZ; rw [if_neg h]; split <;> omega
def CmpG (d e : Di) (w : World) (r : Ending) (w' : World) : Prop := r = .returned (.int .i64 (cmpZ d.at_ e.at_)) ∧ ∃ q os', w' = grow (w.drewN q) os'
set_option maxRecDepth 100000 in
theorem cmp_grow (d e : Di) (w : World) :
    Calls Tryd.prog 29 #[diV d, diV e] w fun r w' => CmpG d e w r w' := by
  obtain ⟨d0, d1, d2⟩ := d
  obtain ⟨e0, e1, e2⟩ := e
  have hB : ((w.alloc (.cells #[.int .i64 d0, .int .i64 d1, .string ⟨d2.toArray⟩] 31)).alloc (.cells #[.int .i64 e0, .int .i64 e1, .string ⟨e2.toArray⟩] 31)) = grow (w.drewN 0) #[.cells #[.int .i64 d0, .int .i64 d1, .string ⟨d2.toArray⟩] 31, .cells #[.int .i64 e0, .int .i64 e1, .string ⟨e2.toArray⟩] 31] := by
    rw [alloc_eq_grow, alloc_eq_grow, grow_grow]
    rfl
  have HB := Lib.hid hB
  clear hB
  by_cases h1 : d1 < e1
  · have HZ := Lib.hid (show cmpZ d1 e1 = -1 by unfold cmpZ; rw [if_pos h1])
    go_enter Tryd.func29, Tryd.ntmps29
    go_wp2
    go_ret
    exact ⟨by show _ = Ending.returned (.int .i64 (cmpZ d1 e1)); rw [HZ.out]; rfl, 0, _, HB.out⟩
  · by_cases h2 : e1 < d1
    · have HZ := Lib.hid (show cmpZ d1 e1 = 1 by unfold cmpZ; rw [if_neg h1, if_pos h2])
      go_enter Tryd.func29, Tryd.ntmps29
      go_wp2
      go_ret
      exact ⟨by show _ = Ending.returned (.int .i64 (cmpZ d1 e1)); rw [HZ.out]; rfl, 0, _, HB.out⟩
    · have HZ := Lib.hid (show cmpZ d1 e1 = 0 by unfold cmpZ; rw [if_neg h1, if_neg h2])
      go_enter Tryd.func29, Tryd.ntmps29
      go_wp2
      go_ret
      exact ⟨by show _ = Ending.returned (.int .i64 (cmpZ d1 e1)); rw [HZ.out]; rfl, 0, _, HB.out⟩
theorem below_grown (w : World) (n : Nat) (os : Array Obj) : Below w.heap.size w (grow (w.drewN n) os) :=
  ⟨rfl, rfl, rfl, by simp [grow, World.drewN], fun k hk => heap_grow_old (w.drewN n) os hk⟩

/-- The search for the one on the left's place. -/
def SL (o : Nat → Di) (f : Nat → Nat) (g cap n a b : Nat) (w : World) (p q : Value) (wr : World) : Prop :=
  ∃ (i j : Nat), p = .int .i64 i ∧ q = .int .i64 j ∧ a + 1 ≤ i ∧ i ≤ j ∧ j ≤ b ∧ (∀ k, a + 1 ≤ k → k < i → keyO o (f k) < keyO o (f a)) ∧ (∀ k, j ≤ k → k < b → keyO o (f a) ≤ keyO o (f k)) ∧ DR wr g cap n o f ∧ w.grownBy wr (some g)
/-- The one on the left goes to its place. -/
def KL (o : Nat → Di) (f : Nat → Nat) (g cap n a i : Nat) (w : World) (p : Value) (wr : World) : Prop :=
  ∃ k : Nat, p = .int .i64 k ∧ a ≤ k ∧ k + 1 ≤ i ∧ DR wr g cap n o (mvL f a k) ∧ w.grownBy wr (some g)
set_option maxRecDepth 100000 in
set_option maxHeartbeats 3200000 in
theorem sym_left (g cap n a b : Nat) (o : Nat → Di) (f : Nat → Nat) (hab : a + 1 < b) (hb : b ≤ n) (hn : n ≤ cap) (hm : n ≤ 1000) (ht : Mrg (keyO o) f a (a + 1) b) (w : World) (h : DR w g cap n o f) :
    Calls Tryd.prog 76 #[.slice (some ⟨g, 0, none⟩) n cap, .int .i64 a, .int .i64 ((a : Int) + 1), .int .i64 b, cmpV] w fun e W' =>
      (∃ v, e = .returned v) ∧ ∃ f', Srt (keyO o) f' a b ∧ Moves f f' a b ∧ DR W' g cap n o f' ∧ w.grownBy W' (some g) := by
  have mixed : Tryd.prog.follows .mixedOrders = true := by kernel_rfl
  have HT := Lib.hid ht
  clear ht
  go_enter Tryd.func76, Tryd.ntmps76
  have e27 : (a : Int) + 1 - (a : Int) = 1 := by omega
  go_wp2
  go_loopw [10, 11] (fun p q wr => SL o f g cap n a b w p q wr) (fun p q _ => (intOf q).toNat - (intOf p).toNat)
  case atStart => exact ⟨a + 1, b, by go_num, rfl, Nat.le_refl _, by omega, Nat.le_refl _, fun k h1 h2 => by omega, fun k h1 h2 => by omega, h, World.grownBy.refl _ _⟩
  case round =>
    obtain ⟨i, j, rfl, rfl, hai, hij, hjb, hlo, hhi, hD, hG⟩ := hrel
    have HL := Lib.hid hlo
    have HH := Lib.hid hhi
    clear hlo hhi
    by_cases hlt : i < j
    · obtain ⟨m, hm1, hm2, em⟩ : ∃ m : Nat, i ≤ m ∧ m < j ∧ ((i : Int) + (j : Int)) / 2 = (m : Int) := ⟨(i + j) / 2, by omega, by omega, by omega⟩
      have hd := hD
      obtain ⟨p0, p1, p2⟩ := hd.cells (i := m) (by omega)
      obtain ⟨q0, q1, q2⟩ := hd.cells (i := a) (by omega)
      have hl := hd.lt
      have P0 := cell_grown (a := ⟨g, m * 3, none⟩) hl p0
      have P1 := cell_grown (a := ⟨g, m * 3 + 1, none⟩) hl p1
      have P2 := cell_grown (a := ⟨g, m * 3 + 2, none⟩) hl p2
      have Q0 := cell_grown (a := ⟨g, a * 3, none⟩) hl q0
      have Q1 := cell_grown (a := ⟨g, a * 3 + 1, none⟩) hl q1
      have Q2 := cell_grown (a := ⟨g, a * 3 + 2, none⟩) hl q2
      have hb1 : (m : Int) < (n : Int) := by omega
      have hb2 : (a : Int) < (n : Int) := by omega
      have hltz : (i : Int) < (j : Int) := by omega
      have HC := Lib.hid fun W => cmp_grow (o (f m)) (o (f a)) W
      clear p0 p1 p2 q0 q1 q2 hl hD
      have HD := Lib.hid hd
      clear hd
      go_wp2_with fail
      go_quiet_grown (first | (go_at_call 29; refine Calls.grown_of (HC.out _)))
      have hD1 := HD.out.below (below_grown wr nq osq)
      have hG1 := hG.trans (Below.grownN (below_grown wr nq osq) (some g))
      clear P0 P1 P2 Q0 Q1 Q2
      generalize grow (wr.drewN nq) osq = w2 at *
      by_cases hk : (o (f m)).at_ < (o (f a)).at_
      · have hz := cmpZ_lt hk
        have HK := Lib.hid hk
        clear hk
        go_wp2
        go_roundw
        case rel => exact ⟨m + 1, j, by go_num, rfl, by omega, by omega, by omega, (fun k h1 h2 => by
          by_cases e : k = m
          · rw [e]; exact HK.out
          · have := (HT.out.right k m h1 (show k < m by omega) (by omega)).le
            have h5 : (o (f m)).at_ < (o (f a)).at_ := HK.out
            have t' : (o (f k)).at_ ≤ (o (f m)).at_ := this
            show (o (f k)).at_ < (o (f a)).at_
            omega), HH.out, hD1, hG1⟩
        case measure => simp [intOf]; omega
      · have hz := cmpZ_ge hk
        have HK := Lib.hid (Int.not_lt.1 hk)
        clear hk
        go_wp2
        go_roundw
        case rel => exact ⟨i, m, rfl, by go_num, by omega, by omega, by omega, HL.out, (fun k h1 h2 => by
          by_cases e : k = m
          · rw [e]; exact HK.out
          · have := (HT.out.right m k (by omega) (by omega) h2).le
            have h5 : (o (f a)).at_ ≤ (o (f m)).at_ := HK.out
            have t' : (o (f m)).at_ ≤ (o (f k)).at_ := this
            show (o (f a)).at_ ≤ (o (f k)).at_
            omega), hD1, hG1⟩
        case measure => simp [intOf]; omega
    · obtain rfl : i = j := by omega
      have hltz : ¬ (i : Int) < (i : Int) := by omega
      have HE := Lib.hid hD
      go_wp2_with fail
      go_loopw [13] (fun p wr => KL o f g cap n a i w p wr) (fun p _ => b - (intOf p).toNat)
      case atStart => exact ⟨a, rfl, Nat.le_refl _, by omega, HE.out.congr fun k => mvL_self _ _ _, hG⟩
      case round =>
        obtain ⟨k, rfl, hak, hki, hD, hG⟩ := hrel
        by_cases hk : k + 1 < i
        · obtain ⟨p0, p1, p2⟩ := hD.cells (i := k) (by omega)
          obtain ⟨q0, q1, q2⟩ := hD.cells (i := k + 1) (by omega)
          have fz := hD.frozen
          have HD := Lib.hid hD
          have HS := Lib.hid (mvL_step f a k hak)
          clear hD
          have hb1 : (k : Int) + 1 < (n : Int) := by omega
          have hb2 : (k : Int) < (n : Int) := by omega
          have hb3 : (0 : Int) ≤ (k : Int) + 1 := by omega
          have hkz : (k : Int) < (i : Int) - 1 := by omega
          generalize mvL f a k = f' at *
          go_wp2_with fail
          go_region
          all_goals
            obtain ⟨W', hW', hD2, hG2⟩ := HD.out.swap hn (i := k) (j := k + 1) (by omega) (by omega) (by omega)
            rw [hW']
            go_wp2
            go_roundw
            case rel => exact ⟨k + 1, by go_num, by omega, by omega, hD2.congr fun x => (HS.out x).symm, GB_drew (hG.trans hG2)⟩
            case measure => simp [intOf]; omega
        · have hkz : ¬ (k : Int) < (i : Int) - 1 := by omega
          have HI := Lib.hid (show i = k + 1 by omega)
          go_wp2
          go_returns
          obtain rfl : i = k + 1 := HI.out
          have hm := merge_one_left (g := mvL f a k) (i := k + 1) HT.out (by omega) (by omega) HL.out (fun x h1 h2 => Int.not_lt.2 (HH.out x h1 h2)) (fun x => rfl)
          exact ⟨⟨_, rfl⟩, _, hm.1, hm.2, hD, hG⟩

/-- The search for the one on the right's place. -/
def SR (o : Nat → Di) (f : Nat → Nat) (g cap n a m : Nat) (w : World) (p q : Value) (wr : World) : Prop :=
  ∃ (i j : Nat), p = .int .i64 i ∧ q = .int .i64 j ∧ a ≤ i ∧ i ≤ j ∧ j ≤ m ∧ (∀ k, a ≤ k → k < i → keyO o (f k) ≤ keyO o (f m)) ∧ (∀ k, j ≤ k → k < m → keyO o (f m) < keyO o (f k)) ∧ DR wr g cap n o f ∧ w.grownBy wr (some g)
/-- The one on the right goes to its place. -/
def KR (o : Nat → Di) (f : Nat → Nat) (g cap n i m : Nat) (w : World) (p : Value) (wr : World) : Prop :=
  ∃ k : Nat, p = .int .i64 k ∧ i ≤ k ∧ k ≤ m ∧ DR wr g cap n o (mvR f k m) ∧ w.grownBy wr (some g)
set_option maxRecDepth 100000 in
set_option maxHeartbeats 3200000 in
theorem sym_right (g cap n a m : Nat) (o : Nat → Di) (f : Nat → Nat) (hab : a + 1 < m) (hb : m + 1 ≤ n) (hn : n ≤ cap) (hm : n ≤ 1000) (ht : Mrg (keyO o) f a m (m + 1)) (w : World) (h : DR w g cap n o f) :
    Calls Tryd.prog 76 #[.slice (some ⟨g, 0, none⟩) n cap, .int .i64 a, .int .i64 m, .int .i64 ((m : Int) + 1), cmpV] w fun e W' =>
      (∃ v, e = .returned v) ∧ ∃ f', Srt (keyO o) f' a (m + 1) ∧ Moves f f' a (m + 1) ∧ DR W' g cap n o f' ∧ w.grownBy W' (some g) := by
  have mixed : Tryd.prog.follows .mixedOrders = true := by kernel_rfl
  have HT := Lib.hid ht
  clear ht
  go_enter Tryd.func76, Tryd.ntmps76
  have e28 : ¬ (m : Int) - (a : Int) = 1 := by omega
  have e28b : ((m : Int) - (a : Int) == 1) = false := beq_eq_false_iff_ne.2 e28
  have e79 : (m : Int) + 1 - (m : Int) = 1 := by omega
  go_wp2
  go_loopw [14, 15] (fun p q wr => SR o f g cap n a m w p q wr) (fun p q _ => (intOf q).toNat - (intOf p).toNat)
  case atStart => exact ⟨a, m, rfl, rfl, Nat.le_refl _, by omega, Nat.le_refl _, fun k h1 h2 => by omega, fun k h1 h2 => by omega, h, World.grownBy.refl _ _⟩
  case round =>
    obtain ⟨i, j, rfl, rfl, hai, hij, hjb, hlo, hhi, hD, hG⟩ := hrel
    have HL := Lib.hid hlo
    have HH := Lib.hid hhi
    clear hlo hhi
    by_cases hlt : i < j
    · obtain ⟨c, hm1, hm2, em⟩ : ∃ c : Nat, i ≤ c ∧ c < j ∧ ((i : Int) + (j : Int)) / 2 = (c : Int) := ⟨(i + j) / 2, by omega, by omega, by omega⟩
      have hd := hD
      obtain ⟨p0, p1, p2⟩ := hd.cells (i := m) (by omega)
      obtain ⟨q0, q1, q2⟩ := hd.cells (i := c) (by omega)
      have hl := hd.lt
      have P0 := cell_grown (a := ⟨g, m * 3, none⟩) hl p0
      have P1 := cell_grown (a := ⟨g, m * 3 + 1, none⟩) hl p1
      have P2 := cell_grown (a := ⟨g, m * 3 + 2, none⟩) hl p2
      have Q0 := cell_grown (a := ⟨g, c * 3, none⟩) hl q0
      have Q1 := cell_grown (a := ⟨g, c * 3 + 1, none⟩) hl q1
      have Q2 := cell_grown (a := ⟨g, c * 3 + 2, none⟩) hl q2
      have hb1 : (m : Int) < (n : Int) := by omega
      have hb2 : (c : Int) < (n : Int) := by omega
      have hltz : (i : Int) < (j : Int) := by omega
      have HC := Lib.hid fun W => cmp_grow (o (f m)) (o (f c)) W
      clear p0 p1 p2 q0 q1 q2 hl hD
      have HD := Lib.hid hd
      clear hd
      by_cases hk : (o (f m)).at_ < (o (f c)).at_
      · have hz := cmpZ_lt hk
        have hz2 := Int.not_le.2 hz
        have HK := Lib.hid hk
        clear hk
        go_wp2_with fail
        go_quiet_grown (first | (go_at_call 29; refine Calls.grown_of (HC.out _)))
        have hD1 := HD.out.below (below_grown wr nq osq)
        have hG1 := hG.trans (Below.grownN (below_grown wr nq osq) (some g))
        clear P0 P1 P2 Q0 Q1 Q2
        generalize grow (wr.drewN nq) osq = w2 at *
        go_wp2
        go_roundw
        case rel => exact ⟨i, c, rfl, by go_num, by omega, by omega, by omega, HL.out, (fun k h1 h2 => by
          by_cases e : k = c
          · rw [e]; exact HK.out
          · have := (HT.out.left c k (by omega) (by omega) h2).le
            have h5 : (o (f m)).at_ < (o (f c)).at_ := HK.out
            have t' : (o (f c)).at_ ≤ (o (f k)).at_ := this
            show (o (f m)).at_ < (o (f k)).at_
            omega), hD1, hG1⟩
        case measure => simp [intOf]; omega
      · have hz2 := Int.not_lt.1 (cmpZ_ge hk)
        have hz3 : decide (cmpZ (o (f m)).at_ (o (f c)).at_ < 0) = false := decide_eq_false (cmpZ_ge hk)
        have HK := Lib.hid (Int.not_lt.1 hk)
        clear hk
        go_wp2_with fail
        go_quiet_grown (first | (go_at_call 29; refine Calls.grown_of (HC.out _)))
        have hD1 := HD.out.below (below_grown wr nq osq)
        have hG1 := hG.trans (Below.grownN (below_grown wr nq osq) (some g))
        clear P0 P1 P2 Q0 Q1 Q2
        generalize grow (wr.drewN nq) osq = w2 at *
        go_wp2
        go_roundw
        case rel => exact ⟨c + 1, j, by go_num, rfl, by omega, by omega, by omega, (fun k h1 h2 => by
          by_cases e : k = c
          · rw [e]; exact HK.out
          · have := (HT.out.left k c h1 (show k < c by omega) (by omega)).le
            have h5 : (o (f c)).at_ ≤ (o (f m)).at_ := HK.out
            have t' : (o (f k)).at_ ≤ (o (f c)).at_ := this
            show (o (f k)).at_ ≤ (o (f m)).at_
            omega), HH.out, hD1, hG1⟩
        case measure => simp [intOf]; omega
    · obtain rfl : i = j := by omega
      have hltz : ¬ (i : Int) < (i : Int) := by omega
      have HE := Lib.hid hD
      go_wp2_with fail
      go_loopw [17] (fun p wr => KR o f g cap n i m w p wr) (fun p _ => (intOf p).toNat)
      case atStart => exact ⟨m, rfl, hjb, Nat.le_refl _, HE.out.congr fun k => mvR_self _ _ _, hG⟩
      case round =>
        obtain ⟨k, rfl, hik, hkm, hD, hG⟩ := hrel
        by_cases hk : i < k
        · obtain ⟨k, rfl⟩ : ∃ k', k = k' + 1 := ⟨k - 1, by omega⟩
          obtain ⟨p0, p1, p2⟩ := hD.cells (i := k + 1) (by omega)
          obtain ⟨q0, q1, q2⟩ := hD.cells (i := k) (by omega)
          have fz := hD.frozen
          have HD := Lib.hid hD
          have HS := Lib.hid (mvR_step f k m (by omega))
          clear hD
          have hb1 : (k : Int) + 1 < (n : Int) := by omega
          have hb2 : (k : Int) < (n : Int) := by omega
          have hb3 : (0 : Int) ≤ (k : Int) + 1 := by omega
          have hkz : (k : Int) + 1 > (i : Int) := by omega
          generalize mvR f (k + 1) m = f' at *
          go_wp2_with fail
          go_region
          all_goals
            obtain ⟨W', hW', hD2, hG2⟩ := HD.out.swap hn (i := k + 1) (j := k) (by omega) (by omega) (by omega)
            rw [hW']
            go_wp2
            go_roundw
            case rel => exact ⟨k, by go_num, by omega, by omega, hD2.congr fun x => (HS.out x).symm, GB_drew (hG.trans hG2)⟩
            case measure => simp [intOf]
        · have hkz : ¬ (k : Int) > (i : Int) := by omega
          have HI := Lib.hid (show i = k by omega)
          go_wp2
          go_returns
          obtain rfl : i = k := HI.out
          have hm := merge_one_right (g := mvR f i m) (i := i) HT.out (by omega) (by omega) (fun x h1 h2 => Int.not_lt.2 (HL.out x h1 h2)) HH.out (fun x => rfl)
          exact ⟨⟨_, rfl⟩, _, hm.1, hm.2, hD, hG⟩
end Go.Proofs.YtgdnibdahldekabDoor
