/- The document's DivMod of a number by one. -/
import Derived.Test.YtgdnibdahldekabDoorNmM
import Derived.Laws.OwnMore
namespace Go.Proofs.YtgdnibdahldekabDoor
open Go.RowKit
set_option linter.unusedVariables false

theorem app0 (ad : Addr) (b : Option Addr) (c : Nat) (w : World) : (Builtin.append_ #[76, 76] 76 #[.slice (some ad) 1 1, .slice b 0 c]).run Tryd.prog w = .ok (.slice (some ad) 1 1) w := by
  cases b <;> kernel_rfl
/-- 'append(s, x...)', s of one element, x of none. -/
theorem wpList_app0 {w : World} {ops : Array Oper} {rest : List Oper} {o : Oper} {a : Act} {Q : Exit → Act → World → Prop} (hgd : o.guard = none) (s x : Operand) (hty : o.type = 76)
    (ho : o.op = .call { callee := .builtin .append, args := #[s, x], argTypes := #[76, 76] }) (ad : Addr) (b : Option Addr) (c : Nat) (hs : a.eval s = .slice (some ad) 1 1) (hx : a.eval x = .slice b 0 c)
    (h : wpList Tryd.prog ops Q rest (a.put o.dst (.slice (some ad) 1 1)) w) : wpList Tryd.prog ops Q (o :: rest) a w := by
  refine wpList_plain hgd fun K hK => ?_
  have hr := app0 ad b c w
  unfold Oper.wp execOp
  simp only [ho, hty, resolve, invoke, builtin, Sem.run_bind, Sem.run_pure, Result.andThen_ok, List.map_toArray, List.map_cons, List.map_nil, hs, hx, hr]
  exact hK _ _ h
theorem mkN (n : Nat) (hn : n ≤ 1000) (w : World) : ∃ cur : Array Value, cur.size = n ∧ (Instr.makeSlice 76 (.int .i64 (n : Int)) (.int .i64 (n : Int))).run Tryd.prog w = .ok (.slice (some ⟨w.heap.size, 0, none⟩) n n) (w.alloc (.cells cur 3)) := by
  obtain ⟨i, hi, hz, hs, hb⟩ := info_parts (P := Tryd.prog) (show (Tryd.prog.info? 3).map (fun i => (i.zero, i.size, i.bytes)) = some (some (.int .i64 0), 1, 8) by kernel_rfl)
  have h := run_makeSlice (P := Tryd.prog) (w := w) 76 3 i (.int .i64 0) Tryd.underlying76 hi hz .i64 .i64 n n (by omega) (Int.le_refl _) (by rw [hs]; simp; omega) (by rw [hb]; omega) (by omega)
  simp only [Int.toNat_natCast] at h
  exact ⟨_, by rw [size_madeCells, hs]; simp, h⟩

/-- One digit is trimmed: it lies where it lay. -/
theorem trim_dig1 {g c : Nat} {x : Int} {w : World} (h : NS w (.slice (some ⟨g, 0, none⟩) 1 c) [x]) :
    Calls Tryd.prog 82 #[.slice (some ⟨g, 0, none⟩) 1 c] w fun e W' => ∃ m, e = .returned (.slice (some ⟨g, 0, none⟩) m c) ∧ NS w (.slice (some ⟨g, 0, none⟩) m c) (dig x) ∧ W' = w := by
  obtain ⟨g', c', he, hc, hg, h1⟩ := h.one
  cases he
  refine (trim_walk 1 [x] g c rfl (by omega) hc w fun i hi => ?_).mono ?_
  · obtain rfl : i = 0 := by omega
    exact h1
  · rintro e W' ⟨m, rfl, k1, k2, k3, rfl⟩
    have k1' : m ≤ 1 := k1
    by_cases hx : x = 0
    · have hm : m = 0 := by
        apply Decidable.byContradiction
        intro hn
        obtain rfl : m = 1 := by omega
        exact k3 (by omega) hx
      subst hm
      exact ⟨0, rfl, ⟨_, c, by rw [dig_len, if_pos hx], by rw [dig_len, if_pos hx]; omega, .inr ⟨g, rfl⟩, fun i hi => by rw [dig_len, if_pos hx] at hi; omega⟩, rfl⟩
    · have hm : m = 1 := by
        apply Decidable.byContradiction
        intro hn
        obtain rfl : m = 0 := by omega
        exact hx (k2 0 (by omega) (by simp))
      subst hm
      refine ⟨1, rfl, ?_, rfl⟩
      unfold dig
      rw [if_neg hx]
      exact h
theorem NS.far {W : World} {g m c : Nat} {xs : List Int} (h : NS W (.slice (some ⟨g, 0, Option.none⟩) m c) xs) {p : Addr} (hp : g ≠ p.block) (u : Value) : NS (W.setCell p u) (.slice (some ⟨g, 0, Option.none⟩) m c) xs := by
  obtain ⟨a, c', he, h1, h2, h3⟩ := h
  cases he
  refine ⟨_, _, rfl, h1, .inr ⟨g, rfl⟩, fun i hi => ?_⟩
  obtain ⟨g', e, h4, h5⟩ := h3 i hi
  cases e
  refine ⟨g, rfl, by rw [World.size_setCell]; exact h4, ?_⟩
  rw [← h5]
  simp only [World.cell?, Below.heap_setCell W p u g hp]
/-- How far a division has come. -/
def DvR (w : World) (n : Nat) (xs : List Int) (p q : Value) (wr : World) : Prop :=
  ∃ (k : Nat) (z : Int) (cur : Array Value), NS wr p [] ∧ q = .int .i64 z ∧ z + 1 = k ∧ k ≤ n ∧ BlkAt wr w.heap.size 3 cur ∧ cur.size = n ∧ (∀ j, k ≤ j → j < n → cur[j]? = some (.int .i64 (xs.getD j 0))) ∧ Below w.heap.size w wr ∧ w.heap.size ≤ wr.heap.size
/-- The search for a digit. -/
def DvB (w : World) (x : Int) (p q : Value) (wr : World) : Prop :=
  ∃ lo hi : Int, p = .int .i64 lo ∧ q = .int .i64 hi ∧ 0 ≤ lo ∧ lo ≤ x ∧ x ≤ hi ∧ hi ≤ 9999 ∧ Below w.heap.size w wr
/-- What a division by one answers. -/
def DvD (w : World) (xs : List Int) (e : Ending) (W' : World) : Prop := ∃ q r, e = .returned (.tuple #[q, r]) ∧ NS W' q xs ∧ NS W' r [] ∧ Below w.heap.size w W'
theorem cmpZ_le {m x : Int} (h : m ≤ x) : cmpZ m x ≤ 0 := by
  unfold cmpZ
  split
  · omega
  · rw [if_neg (by omega)]
    omega
theorem cmpZ_gt {m x : Int} (h : x < m) : cmpZ m x = 1 := by unfold cmpZ; rw [if_neg (by omega), if_pos h]
theorem ns_new1 (w : World) (x : Int) : NS (w.alloc (.cells #[.int .i64 x] 3)) (.slice (some ⟨w.heap.size, 0, none⟩) 1 1) [x] := cells_ns [x] (BlkAt.new w _ _)

set_option maxRecDepth 100000 in
set_option maxHeartbeats 3200000 in
theorem divmod_one (a b : Value) (xs : List Int) (hm : xs.length ≤ 100) (hxs : ∀ x ∈ xs, 0 ≤ x ∧ x < 10000) (hl : 0 < xs.length → xs.getD (xs.length - 1) 0 ≠ 0) (w : World) (ha : NS w a xs) (hb : NS w b [1]) :
    Calls Tryd.prog 84 #[a, b] w fun e W' => DvD w xs e W' := by
  obtain ⟨a, c, rfl, hc, _, hr⟩ := ha
  obtain ⟨n, hn⟩ : ∃ n, xs.length = n := ⟨_, rfl⟩
  have hget : ∀ j, j < n → 0 ≤ xs.getD j 0 ∧ xs.getD j 0 < 10000 := fun j hj => by
    have hj' : j < xs.length := by omega
    have : xs.getD j 0 = xs[j] := by simp [List.getD, List.getElem?_eq_getElem hj']
    rw [this]
    exact hxs _ (List.getElem_mem hj')
  have HG := Lib.hid hget
  have HL := Lib.hid hl
  have HR := Lib.hid hr
  have HN := Lib.hid hn
  obtain ⟨cur0, hcs, hmk⟩ := mkN n (by omega) w
  rw [hn] at hm hc ⊢
  clear hr hl hxs hget hn
  go_enter Tryd.func84, Tryd.ntmps84
  go_wp2
  have hB1 : Below w.heap.size w (w.alloc (.cells cur0 3)) := (Below.refl _ w).alloc (Nat.le_refl _) _
  have hK1 : BlkAt (w.alloc (.cells cur0 3)) w.heap.size 3 cur0 := BlkAt.new _ _ _
  have hS1 : w.heap.size ≤ (w.alloc (.cells cur0 3)).heap.size := by simp
  generalize w.alloc (.cells cur0 3) = w1 at *
  clear hmk
  go_loopw [7, 8] (fun p q wr => DvR w n xs p q wr) (fun _ q _ => (intOf q + 1).toNat)
  case atStart => exact ⟨n, (n : Int) - 1, cur0, ns_nil _, by go_num, by omega, Nat.le_refl _, hK1, hcs, fun j h1 h2 => by omega, hB1, hS1⟩
  case round =>
    obtain ⟨k, z, cur, hr0, rfl, hz, hk, hK, hcs, hcur, hB, hsz⟩ := hrel
    have HR0 := Lib.hid hr0
    obtain ⟨a1, c1, rfl⟩ := hr0.none
    have HC := Lib.hid hcur
    clear hcur hK1 hB1 hS1 hr0
    by_cases h0 : k = 0
    · subst h0
      obtain rfl : z = -1 := by omega
      have hNq : NS wr (.slice (some ⟨w.heap.size, 0, none⟩) n n) xs := ⟨_, _, by rw [HN.out], by rw [HN.out]; exact Nat.le_refl _, .inr ⟨_, rfl⟩, fun i hi => ⟨_, rfl, hK.lt, by rw [hK.cell]; exact HC.out i (Nat.zero_le _) (by rw [HN.out] at hi; exact hi)⟩⟩
      have HT := Lib.hid (trim_same hNq (by rw [HN.out]; omega) HL.out)
      have HQ := Lib.hid hNq
      clear hNq
      go_wp2_with fail
      refine HT.out.mono ?_
      rintro e w2 ⟨rfl, rfl⟩
      go_wp2
      go_ret2
      exact ⟨_, _, rfl, HQ.out, HR0.out, hB⟩
    · obtain ⟨k, rfl⟩ : ∃ k', k = k' + 1 := ⟨k - 1, by omega⟩
      obtain rfl : z = (k : Int) := by omega
      have hkn : k < n := by omega
      obtain ⟨x, hx⟩ : ∃ x, xs.getD k 0 = x := ⟨_, rfl⟩
      have hx01 := HG.out k hkn
      rw [hx] at hx01
      obtain ⟨hx0, hx1⟩ := hx01
      obtain ⟨g, rfl, hg, hcell⟩ := HR.out k (by rw [HN.out]; exact hkn)
      have hc0 := (hB.cell (p := ⟨g, k, none⟩) hg).trans hcell
      rw [hx] at hc0
      have hkz : (k : Int) ≥ 0 := by omega
      have hknz : (k : Int) < (n : Int) := by omega
      have HX := Lib.hid hx
      clear hx hcell
      -- the digit is taken, and trimmed
      have hB2 : Below w.heap.size w (wr.alloc (.cells #[.int .i64 x] 3)) := hB.alloc hsz _
      have HT := Lib.hid (trim_dig1 (ns_new1 wr x))
      have HGne := Lib.hid (show wr.heap.size ≠ w.heap.size from fun e => by have := hK.lt; omega)
      generalize hgu : wr.heap.size = gu at HT HGne
      have hK2 := hK.alloc (.cells #[.int .i64 x] 3)
      have HB2 := Lib.hid hB2
      have HK2 := Lib.hid hK2
      have hs2 : w.heap.size ≤ (wr.alloc (.cells #[.int .i64 x] 3)).heap.size := by simp; omega
      have HS2 := Lib.hid hs2
      clear hB2 hK2 hs2
      go_wp2_with (at_builtin; refine wpList_app0 rfl _ _ rfl rfl ⟨gu, 0, none⟩ a1 c1 rfl rfl ?_)
      clear hgu
      go_wp2_with fail
      refine HT.out.mono ?_
      rintro e w2 ⟨mu, rfl, hu, e2⟩
      have hB2 := HB2.out
      have hK2 := HK2.out
      have hs2 := HS2.out
      rw [← e2] at hB2 hK2 hs2 hu
      have HU := Lib.hid hu
      have HK3 := Lib.hid hK2
      clear e2 HB2 HK2 HS2 HT hc0 hK hu hK2
      go_wp2_with fail
      go_loopw [9, 10] (fun p q wr => DvB w2 x p q wr) (fun p q _ => (intOf q - intOf p).toNat)
      case atStart => exact ⟨0, 9999, rfl, rfl, Int.le_refl _, hx0, by omega, Int.le_refl _, Below.refl _ _⟩
      case round =>
        obtain ⟨lo, hi, rfl, rfl, hl0, hlx, hxh, hh, hBi⟩ := hrel
        have HBi := Lib.hid hBi
        clear hBi
        by_cases hlt : lo < hi
        · obtain ⟨m, hm1, hm2, em⟩ : ∃ m : Int, lo < m ∧ m ≤ hi ∧ (lo + hi + 1) / 2 = m := ⟨(lo + hi + 1) / 2, by omega, by omega, rfl⟩
          have hbw : Below w.heap.size w (wr.alloc (.cells #[.int .i64 m] 3)) := (hB2.trans (HBi.out.mono hs2)).alloc (Nat.le_trans hs2 HBi.out.size) _
          have HM := Lib.hid (mul_one b (.slice (some ⟨wr.heap.size, 0, none⟩) 1 1) m (by omega) (by omega) (wr.alloc (.cells #[.int .i64 m] 3)) (hb.below (hbw.mono (Nat.le_refl _))) (ns_new1 wr m))
          have HBa := Lib.hid (show Below w2.heap.size w2 (wr.alloc (.cells #[.int .i64 m] 3)) from HBi.out.alloc HBi.out.size _)
          clear hbw
          by_cases hmx : m ≤ x
          · have hz1 := cmpZ_le hmx
            go_wp2_with fail
            refine HM.out.mono ?_
            rintro e w3 ⟨v3, rfl, hv3, hB3⟩
            have HCm := Lib.hid (cmp_dig v3 (.slice (some ⟨gu, 0, none⟩) mu 1) m x (by omega) hx0 w3 hv3 (HU.out.below (HBa.out.trans (hB3.mono HBa.out.size))))
            have HB3 := Lib.hid hB3
            clear hv3 hB3
            go_wp2_with fail
            refine HCm.out.mono ?_
            rintro e w4 ⟨rfl, hB4⟩
            have HB4 := Lib.hid hB4
            clear hB4
            go_wp2
            go_roundw
            case rel => exact ⟨m, hi, rfl, rfl, by omega, hmx, hxh, hh, (HBa.out.trans (HB3.out.mono HBa.out.size)).trans (HB4.out.mono (Nat.le_trans HBa.out.size HB3.out.size))⟩
            case measure => simp [intOf]; omega
          · have hz1 := cmpZ_gt (show x < m by omega)
            have HCz := Lib.hid hz1
            go_wp2_with fail
            refine HM.out.mono ?_
            rintro e w3 ⟨v3, rfl, hv3, hB3⟩
            have HCm := Lib.hid (cmp_dig v3 (.slice (some ⟨gu, 0, none⟩) mu 1) m x (by omega) hx0 w3 hv3 (HU.out.below (HBa.out.trans (hB3.mono HBa.out.size))))
            have HB3 := Lib.hid hB3
            clear hv3 hB3
            go_wp2_with fail
            refine HCm.out.mono ?_
            rintro e w4 ⟨rfl, hB4⟩
            have HB4 := Lib.hid hB4
            clear hB4
            go_wp2
            go_roundw
            case rel => exact ⟨lo, m - 1, rfl, rfl, hl0, hlx, by omega, by omega, (HBa.out.trans (HB3.out.mono HBa.out.size)).trans (HB4.out.mono (Nat.le_trans HBa.out.size HB3.out.size))⟩
            case measure => simp [intOf]; omega
        · obtain rfl : lo = x := by omega
          obtain rfl : hi = lo := by omega
          have hK4 := HK3.out.below HBi.out HK3.out.lt
          have hsz4 : w.heap.size ≤ wr.heap.size := Nat.le_trans hs2 HBi.out.size
          have fz := hK4.frozen
          have hcc : ∃ u0, wr.cell? ⟨w.heap.size, k, none⟩ = some u0 := by
            rw [hK4.cell]
            exact ⟨_, Array.getElem?_eq_getElem (by rw [hcs]; exact hkn)⟩
          obtain ⟨u0, hu0⟩ := hcc
          have hB4 := hB2.trans (HBi.out.mono hs2)
          -- the world in which the digit is laid, and one more row
          have hB6 : Below w.heap.size w ((wr.setCell ⟨w.heap.size, k, none⟩ (.int .i64 hi)).alloc (.cells #[.int .i64 hi] 3)) := (hB4.setCell (Nat.le_refl _) _).alloc (by rw [World.size_setCell]; exact hsz4) _
          have hK6 : BlkAt ((wr.setCell ⟨w.heap.size, k, none⟩ (.int .i64 hi)).alloc (.cells #[.int .i64 hi] 3)) w.heap.size 3 (cur.setIfInBounds k (.int .i64 hi)) := (hK4.set k (.int .i64 hi)).alloc _
          have hU6 : NS ((wr.setCell ⟨w.heap.size, k, none⟩ (.int .i64 hi)).alloc (.cells #[.int .i64 hi] 3)) (.slice (some ⟨gu, 0, none⟩) mu 1) (dig hi) := ((HU.out.below HBi.out).far (p := ⟨w.heap.size, k, none⟩) HGne.out _).below ((Below.refl _ _).alloc (Nat.le_refl _) _)
          have hT6 := trim_dig1 (ns_new1 (wr.setCell ⟨w.heap.size, k, none⟩ (.int .i64 hi)) hi)
          have hs6 : w.heap.size ≤ ((wr.setCell ⟨w.heap.size, k, none⟩ (.int .i64 hi)).alloc (.cells #[.int .i64 hi] 3)).heap.size := by simp; omega
          have hz6 : (wr.setCell ⟨w.heap.size, k, none⟩ (.int .i64 hi)).heap.size = wr.heap.size := World.size_setCell _ _ _
          rw [hz6] at hT6
          clear hK4 hz6
          obtain ⟨W6, e6⟩ : ∃ W6, (wr.setCell ⟨w.heap.size, k, none⟩ (.int .i64 hi)).alloc (.cells #[.int .i64 hi] 3) = W6 := ⟨_, rfl⟩
          rw [e6] at hB6 hK6 hU6 hT6 hs6
          have HT6 := Lib.hid hT6
          have HU6 := Lib.hid hU6
          have HK6 := Lib.hid hK6
          have HB6 := Lib.hid hB6
          have E6 := Lib.hid e6
          clear hT6 hU6 hK6 hB6 e6
          go_wp2_with fail
          rw [E6.out]
          refine HT6.out.mono ?_
          rintro e w7 ⟨mv, rfl, hv, rfl⟩
          have HM := Lib.hid (mul_dig b _ hi hx0 hx1 _ (hb.below (HB6.out.mono (Nat.le_refl _))) hv)
          clear hv
          go_wp2_with fail
          refine HM.out.mono ?_
          rintro e w8 ⟨v8, rfl, hv8, hB8⟩
          have HS := Lib.hid (sub_dig (.slice (some ⟨gu, 0, none⟩) mu 1) v8 hi hx0 hx1 w8 (HU6.out.below hB8) hv8)
          have HB8 := Lib.hid hB8
          clear hv8 hB8
          go_wp2_with fail
          refine HS.out.mono ?_
          rintro e w9 ⟨v9, rfl, hv9, hB9⟩
          have HV9 := Lib.hid hv9
          have HB9 := Lib.hid hB9
          clear hv9 hB9
          go_wp2
          go_roundw
          case rel =>
            have hBB := HB8.out.trans (HB9.out.mono HB8.out.size)
            refine ⟨k, (k : Int) - 1, cur.setIfInBounds k (.int .i64 hi), HV9.out, by go_num, by omega, by omega, HK6.out.below hBB HK6.out.lt, by simp [hcs], fun j h1 h2 => ?_, HB6.out.trans (hBB.mono hs6), Nat.le_trans hs6 hBB.size⟩
            by_cases e : j = k
            · subst e
              rw [Array.getElem?_setIfInBounds_self_of_lt (by rw [hcs]; exact h2), HX.out]
            · rw [Array.getElem?_setIfInBounds_ne (by omega)]
              exact HC.out j (by omega) h2
          case measure => simp [intOf]
end Go.Proofs.YtgdnibdahldekabDoor
