/- The walk of forest's median. -/
import Derived.Test.YtjcpfmndkeiegaaGreatDoorFoCD
import Derived.Test.YtjcpfmndkeiegaaGreatDoorRtE
import Derived.Test.YtjcpfmndkeiegaaGreatDoorFoA
import Derived.Deep.RegionHeld3
import Derived.IntWalk
namespace Go.Proofs.YtjcpfmndkeiegaaGreatDoor
open Go.RowKit
set_option linter.unusedVariables false

instance : Inhabited RatC := ⟨⟨0, none, 0, none, 0⟩⟩
/-- A row of fractions that is not empty, as it lies. -/
theorem RatRow.form {w : World} {base : Nat} {v : Value} {qs : List Rat} (h : RatRow w base v qs) (hn : 0 < qs.length) : ∃ g c cur rs, v = .slice (some ⟨g, 0, none⟩) qs.length c ∧ base ≤ g ∧ BlkAt w g 59 cur ∧ RowR cur rs ∧ rs.map (·.q) = qs ∧ rs.length = qs.length ∧ (∀ r ∈ rs, RatIn w r) ∧ qs.length ≤ c := by
  obtain ⟨rs, rfl, ho, hin⟩ := h
  rw [List.length_map] at hn ⊢
  rcases ho.2 with ⟨_, h0⟩ | ⟨g, c, cur, rfl, hb, hg, h1, h2, h3, h4⟩
  · omega
  refine ⟨g, c, cur, rs, rfl, hb, hg, ?_, rfl, rfl, hin, h1⟩
  intro k hk
  have key : ∀ i, i < 3 → cur[k * 3 + i]? = some ((cellsC rs[k])[i]!) := fun i hi => by
    have ht : k * 3 + i < rs.length * 3 := by omega
    have := flat_at cellsC 3 cellsC_len rs (k * 3 + i) ht
    rw [← h4, List.getElem?_take_of_lt ht] at this
    rw [show (k * 3 + i) / 3 = k by omega, show (k * 3 + i) % 3 = i by omega] at this
    rw [getElem!_pos _ k (by simpa using hk)] at this
    simpa using this
  exact ⟨key 0 (by decide), key 1 (by decide), key 2 (by decide)⟩
theorem RowR.at {cur : Array Value} {rs : List RatC} (h : RowR cur rs) {k : Nat} (hk : k < rs.length) : ∃ r, rs[k]? = some r ∧ cur[k * 3]? = some (.bool (negQ r.q)) ∧ cur[k * 3 + 1]? = some (.slice r.a (szN (numQ r.q)) r.c) ∧ cur[k * 3 + 2]? = some (.slice r.b (szN (denQ r.q)) r.d) :=
  ⟨rs[k], List.getElem?_eq_getElem hk, h k hk⟩
theorem getD_q {rs : List RatC} {k : Nat} {r : RatC} (h : rs[k]? = some r) : (rs.map (·.q)).getD k 0 = r.q := by
  rw [List.getD, List.getElem?_map, h]; rfl
theorem newBlk_of {w W w' : World} {cs : Array Value} {t : TypeId} (hB : Below W.heap.size W w') (hh : W.heap = (w.alloc (.cells cs t)).heap) : BlkAt w' w.heap.size t cs := by
  have h : BlkAt W w.heap.size t cs := by
    unfold BlkAt
    rw [hh]
    exact BlkAt.new w t cs
  exact h.below hB h.lt
theorem two_any (w : World) : Calls Tryz.prog 63 #[.int .i64 2] w fun e w' => ∃ v, e = .returned v ∧ RatAt w' v 2 ∧ Below w.heap.size w w' := by
  have h := ratOf_any 2 (by decide) w
  rw [show lowQ false 2 1 = 2 by decide +kernel] at h
  exact h
theorem two_sz : szN (numQ 2) ≤ 400000 ∧ szN (2 : Rat).den ≤ 400000 := ⟨Nat.le_trans (szN_small (by decide)) (by decide), Nat.le_trans (szN_small (by decide)) (by decide)⟩
theorem divC_two : ((divC 2 : Nat) : Int) = 0 := by unfold divC; rw [if_neg (by decide)]; rfl
def tinyQ (q : Rat) : Prop := szN (numQ q) ≤ 100000 ∧ szN q.den ≤ 100000
theorem tinyQ.small {q : Rat} (h : tinyQ q) : smallQ q := ⟨Nat.le_trans h.1 (by decide), Nat.le_trans h.2 (by decide)⟩
theorem lowQ_le {neg : Bool} {n d : Nat} (hd : d ≠ 0) : numQ (lowQ neg n d) ≤ n ∧ (lowQ neg n d).den ≤ d := by
  by_cases hn : n = 0
  · rw [hn, lowQ_zero]
    exact ⟨Nat.le_refl _, Nat.pos_of_ne_zero hd⟩
  · obtain ⟨z1, -, -, z4⟩ := lowQ_parts (neg := neg) hn hd
    rw [z1, z4]
    exact ⟨Nat.div_le_self _ _, Nat.div_le_self _ _⟩
/-- A sum is not much greater than its parts. -/
theorem addQ_le (a b : Rat) : numQ (a + b) ≤ numQ a * b.den + numQ b * a.den ∧ (a + b).den ≤ a.den * b.den := by
  have hd : a.den * b.den ≠ 0 := Nat.mul_ne_zero a.den_nz b.den_nz
  by_cases h : negQ a = negQ b
  · rw [← addQ_same h]
    exact lowQ_le hd
  · by_cases hle : numQ b * a.den ≤ numQ a * b.den
    · rw [← addQ_ge h hle]
      exact ⟨Nat.le_trans (lowQ_le hd).1 (by omega), (lowQ_le hd).2⟩
    · rw [← addQ_lt h (by omega)]
      exact ⟨Nat.le_trans (lowQ_le hd).1 (by omega), (lowQ_le hd).2⟩
theorem addQ_small {a b : Rat} (ha : tinyQ a) (hb : tinyQ b) : smallQ (a + b) := by
  obtain ⟨h1, h2⟩ := addQ_le a b
  refine ⟨Nat.le_trans (szN_mono h1) (Nat.le_trans (szN_add _ _) ?_), Nat.le_trans (szN_mono h2) (Nat.le_trans (szN_mul _ _) (by have := ha.2; have := hb.2; omega))⟩
  have e1 := szN_mul (numQ a) b.den
  have e2 := szN_mul (numQ b) a.den
  have := ha.1; have := ha.2; have := hb.1; have := hb.2
  omega
/-- The middle one of numbers in order. -/
def midQ (qs : List Rat) : Rat := if qs.length % 2 = 1 then qs.getD (qs.length / 2) 0 else divP (qs.getD (qs.length / 2 - 1) 0 + qs.getD (qs.length / 2) 0) 2
theorem each_any (a : Option Addr) (n c : Nat) (w : World) :
    Calls Tryz.prog 61 #[.slice a n c] w fun e w' => e = .returned (.func (.func 119) #[] #[.pointer (some ⟨w.heap.size, 0, none⟩)]) ∧ w.alloc (.cells #[.slice a n c] 54) = w' := by
  go_enter Tryz.func61, Tryz.ntmps61
  go_wp2_with (go_at_call 98; refine (values_any a n c _).mono ?_; rintro e w' ⟨rfl, rfl⟩)
  go_ret
  exact ⟨rfl, rfl⟩
set_option maxRecDepth 100000 in
set_option maxHeartbeats 4000000 in
theorem median_any {w : World} {base : Nat} {v : Value} {qs : List Rat} (h : RatRow w base v qs) (hs : ∀ q ∈ qs, tinyQ q) (hn : 0 < qs.length) (hl : qs.length ≤ 1000000) :
    Calls Tryz.prog 65 #[v] w fun e w' => ∃ v' qs', e = .returned v' ∧ qs'.Perm qs ∧ SortedQ qs' ∧ RatAt w' v' (midQ qs') ∧ Below w.heap.size w w' := by
  obtain ⟨g, c, cur, rs, rfl, hb, hg, hrow, rfl, hrl, hin, hc⟩ := h.form hn
  have HS := Lib.hid hs
  obtain ⟨m, hm⟩ : ∃ m, rs.length = m := ⟨_, rfl⟩
  rw [List.length_map] at hn hl hc ⊢
  rw [hm] at hn hl hc ⊢
  obtain ⟨W1, hW1⟩ : ∃ W1, w.alloc rat0 = W1 := ⟨_, rfl⟩
  have hB1 : Below w.heap.size w W1 := by rw [← hW1]; exact (Below.refl _ w).alloc (Nat.le_refl _) _
  have HSo := Lib.hid (fun (Bx : Nat) (W : World) (hW : Below w.heap.size w W) (hbx : Boxed W Bx 54 (.slice (some ⟨g, 0, none⟩) m c)) => sorted_any W Bx g m c cur rs hm hc hl hn hrow hbx (hg.below hW hg.lt) (fun r hr => (hin r hr).keep (KeepT.of_below hW)) (fun r hr => (hs _ (List.mem_map_of_mem hr)).small))
  clear hg hrow hin hrl h hs hb
  have HB1 := Lib.hid hB1
  have HKR := Lib.hid (show BlkAt W1 w.heap.size 59 #[.bool false, .slice none 0 0, .slice none 0 0] by rw [← hW1]; exact BlkAt.new w _ _)
  have HM := Lib.hid hm
  clear hB1 hm
  by_cases hodd : m % 2 = 1
  · obtain ⟨k, hk⟩ : ∃ k, m = 2 * k + 1 := ⟨m / 2, by omega⟩
    have hkI : (m : Int) / 2 = (k : Int) := by omega
    have hoI : (m : Int) % 2 = 1 := by omega
    have hkm : k < m := by omega
    have HK := Lib.hid hk
    clear hodd hk
    go_enter Tryz.func65, Tryz.ntmps65
    go_wp2_with (first
      | (go_at_call 61; refine (each_any _ _ _ _).mono ?_; rintro e w2 ⟨rfl, hw2⟩; have hB2 : Below w.heap.size w w2 := (by rw [← hw2]; exact HB1.out.alloc HB1.out.size _); have hbx : Boxed w2 W1.heap.size 54 (.slice (some ⟨g, 0, none⟩) m c) := (by rw [← hw2]; exact Boxed.new W1 _ _); have HK2 := Lib.hid (show BlkAt w2 w.heap.size 59 #[.bool false, .slice none 0 0, .slice none 0 0] from (by rw [← hw2]; exact HKR.out.alloc _)); have HSo2 := Lib.hid (HSo.out _ _ hB2 hbx); have HB12 := Lib.hid (show W1.heap.size ≤ w2.heap.size from (by rw [← hw2]; simp)); have HB2 := Lib.hid hB2; clear hw2 hB2 hbx HSo)
      | (go_at_call 103; refine HSo2.out.mono ?_; clear HSo2; rintro e w3 ⟨v3, qs, rfl, hp, hso, hr, hB3⟩; have hql : qs.length = m := (by rw [hp.length_eq, List.length_map, HM.out]); obtain ⟨g3, c3, cur3, rs3, rfl, hb3, hg3, hrow3, hrq, hrl, hin3, hc3⟩ := hr.form (by rw [hql]; exact hn); rw [hql] at hc3 hrl ⊢; have HP := Lib.hid hp; have HSq := Lib.hid hso; have HRq := Lib.hid hrq; have HRl := Lib.hid hrl; have HIn := Lib.hid hin3; have HQl := Lib.hid hql; have HK3 := Lib.hid (HK2.out.below hB3 HK2.out.lt); have HB3 := Lib.hid (HB2.out.trans (hB3.mono HB2.out.size)); have f0 := HK3.out.frozen 0; have f1 := HK3.out.frozen 1; have f2 := HK3.out.frozen 2; have e0 := HK3.out.cell 0; have e1 := HK3.out.cell 1; have e2 := HK3.out.cell 2; obtain ⟨r, hrk, y0, y1, y2⟩ := hrow3.at (k := k) (by omega); have HRk := Lib.hid hrk; clear hrk; have i0 := (hg3.cell (k * 3)).trans y0; have i1 := (hg3.cell (k * 3 + 1)).trans y1; have i2 := (hg3.cell (k * 3 + 2)).trans y2; clear y0 y1 y2; clear hp hso hrq hrl hin3 hql hr hB3 hrow3 hb3))
    obtain ⟨r1, r2, r3⟩ := res_rat HK3.out rfl (Nat.le_refl _) HB3.out (HIn.out r (List.mem_of_getElem? HRk.out)).rat
    refine bodyPost_ret (r_c rfl rfl (aggRat.load rfl r1)) rfl ⟨_, qs, rfl, HP.out, HSq.out, ?_, r3⟩
    have hmid : midQ qs = r.q := by
      unfold midQ
      rw [HQl.out, if_pos (by rw [HK.out]; omega), show m / 2 = k by rw [HK.out]; omega, ← HRq.out, getD_q HRk.out]
    rw [hmid]
    exact r2
  · obtain ⟨j, hk0⟩ : ∃ j, m = 2 * (j + 1) := ⟨m / 2 - 1, by omega⟩
    obtain ⟨k, hkj⟩ : ∃ k, k = j + 1 := ⟨_, rfl⟩
    have hk : m = 2 * k := by omega
    have hkI : (m : Int) / 2 = (k : Int) := by omega
    have hoI : (m : Int) % 2 = 0 := by omega
    have hjm : j < m := by omega
    have hkm : k < m := by omega
    have HK := Lib.hid hk
    have HKJ := Lib.hid hkj
    clear hodd hk hk0 hkj
    go_enter Tryz.func65, Tryz.ntmps65
    go_wp2_with (first
      | (go_at_call 61; refine (each_any _ _ _ _).mono ?_; rintro e w2 ⟨rfl, hw2⟩; have hB2 : Below w.heap.size w w2 := (by rw [← hw2]; exact HB1.out.alloc HB1.out.size _); have hbx : Boxed w2 W1.heap.size 54 (.slice (some ⟨g, 0, none⟩) m c) := (by rw [← hw2]; exact Boxed.new W1 _ _); have HK2 := Lib.hid (show BlkAt w2 w.heap.size 59 #[.bool false, .slice none 0 0, .slice none 0 0] from (by rw [← hw2]; exact HKR.out.alloc _)); have HSo2 := Lib.hid (HSo.out _ _ hB2 hbx); have HB12 := Lib.hid (show W1.heap.size ≤ w2.heap.size from (by rw [← hw2]; simp)); have HB2 := Lib.hid hB2; clear hw2 hB2 hbx HSo)
      | (go_at_call 103; refine HSo2.out.mono ?_; clear HSo2; rintro e w3 ⟨v3, qs, rfl, hp, hso, hr, hB3⟩; have hql : qs.length = m := (by rw [hp.length_eq, List.length_map, HM.out]); obtain ⟨g3, c3, cur3, rs3, rfl, hb3, hg3, hrow3, hrq, hrl, hin3, hc3⟩ := hr.form (by rw [hql]; exact hn); rw [hql] at hc3 hrl ⊢; have HP := Lib.hid hp; have HSq := Lib.hid hso; have HRq := Lib.hid hrq; have HRl := Lib.hid hrl; have HIn := Lib.hid hin3; have HQl := Lib.hid hql; have HK3 := Lib.hid (HK2.out.below hB3 HK2.out.lt); have HB3 := Lib.hid (HB2.out.trans (hB3.mono HB2.out.size)); have f0 := HK3.out.frozen 0; have f1 := HK3.out.frozen 1; have f2 := HK3.out.frozen 2; have e0 := HK3.out.cell 0; have e1 := HK3.out.cell 1; have e2 := HK3.out.cell 2; obtain ⟨r, hrk, y0, y1, y2⟩ := hrow3.at (k := j) (by omega); obtain ⟨r', hrk', z0, z1, z2⟩ := hrow3.at (k := k) (by omega); have HRk := Lib.hid hrk; have HRk' := Lib.hid hrk'; clear hrk hrk'; have i0 := (hg3.cell (j * 3)).trans y0; have i1 := (hg3.cell (j * 3 + 1)).trans y1; have i2 := (hg3.cell (j * 3 + 2)).trans y2; have i3 := (hg3.cell (k * 3)).trans z0; have i4 := (hg3.cell (k * 3 + 1)).trans z1; have i5 := (hg3.cell (k * 3 + 2)).trans z2; have HG3 := Lib.hid hg3; have HGb := Lib.hid (Nat.le_trans (Nat.lt_of_lt_of_le HKR.out.lt (by have := HB12.out; omega)) hb3); clear y0 y1 y2 z0 z1 z2; clear hp hso hrq hrl hin3 hql hr hB3 hrow3 hb3))
    have hq1 : tinyQ r.q := HS.out _ (HP.out.mem_iff.1 (by rw [← HRq.out]; exact List.mem_map_of_mem (List.mem_of_getElem? HRk.out)))
    have hq2 : tinyQ r'.q := HS.out _ (HP.out.mem_iff.1 (by rw [← HRq.out]; exact List.mem_map_of_mem (List.mem_of_getElem? HRk'.out)))
    have HSm := Lib.hid (addQ_small hq1 hq2)
    have ha1 := (HIn.out r (List.mem_of_getElem? HRk.out)).rat
    have ha2 := (HIn.out r' (List.mem_of_getElem? HRk'.out)).rat
    have HAd := Lib.hid (fun (W : World) (hW : Below w3.heap.size w3 W) => ratAdd_any (ha1.below hW) (ha2.below hW) hq1.small.1 hq1.small.2 hq2.small.1 hq2.small.2)
    have HMid := Lib.hid (show midQ qs = divP (r.q + r'.q) 2 by
      unfold midQ
      rw [HQl.out, if_neg (by rw [HK.out]; omega), show m / 2 = k by rw [HK.out]; omega, show k - 1 = j by rw [HKJ.out]; omega, ← HRq.out, getD_q HRk.out, getD_q HRk'.out])
    have I0 := Lib.hid i0
    have I1 := Lib.hid i1
    have I2 := Lib.hid i2
    have I3 := Lib.hid i3
    have I4 := Lib.hid i4
    have I5 := Lib.hid i5
    have hg3w : w.heap.size ≠ g3 := by
      intro e
      have h1 := HG3.out
      have h2 := HK3.out
      have h3 := HGb.out
      omega
    have hg3w' : g3 ≠ w.heap.size := Ne.symm hg3w
    have hgn : w3.heap.size ≠ g3 := by have := HG3.out.lt; omega
    have hw3 : (k : Int) - 1 = (j : Int) := by have := HKJ.out; omega
    have hx1 : (0 : Int) ≤ (j : Int) := by omega
    have hx2 : (j : Int) < (m : Int) := by omega
    have hx3 : (0 : Int) ≤ (k : Int) := by omega
    have hx4 : (k : Int) < (m : Int) := by omega
    clear hq1 hq2 ha1 ha2
    have hw1 : IntKind.i64.wrap (j : Int) = (j : Int) := IntWalk.i64_in _ (by omega)
    go_region_held3 (fun W => W.cell? ⟨g3, j * 3, none⟩ = some (.bool (negQ r.q)) ∧ W.cell? ⟨g3, j * 3 + 1, none⟩ = some (.slice r.a (szN (numQ r.q)) r.c) ∧ W.cell? ⟨g3, j * 3 + 2, none⟩ = some (.slice r.b (szN (denQ r.q)) r.d) ∧ W.cell? ⟨g3, k * 3, none⟩ = some (.bool (negQ r'.q)) ∧ W.cell? ⟨g3, k * 3 + 1, none⟩ = some (.slice r'.a (szN (numQ r'.q)) r'.c) ∧ W.cell? ⟨g3, k * 3 + 2, none⟩ = some (.slice r'.b (szN (denQ r'.q)) r'.d)) (go_keep)
      (first
        | (go_at_call 97; (try clear hw1); refine (HAd.out _ (by first | exact Below.refl _ _ | exact (Below.refl _ _).drew | exact (Below.refl _ _).alloc (Nat.le_refl _) _ | exact ((Below.refl _ _).drew).alloc (Nat.le_refl _) _ | exact ((Below.refl _ _).alloc (Nat.le_refl _) _).drew)).mono ?_; clear HAd; rintro e w4 ⟨v4, rfl, hN, hB⟩; obtain ⟨a4, c4, b4, d4, rfl, hr, hs2⟩ := hN; have HV4 := Lib.hid (ratAt_mk (c := c4) (d := d4) hr hs2); (try have kb := newBlk_of (w := w3) (cs := #[.bool false, .slice none 0 0, .slice none 0 0]) (t := 59) hB rfl); replace hB := chainB (a := w3) (by first | exact Below.refl _ _ | exact (Below.refl _ _).drew | exact (Below.refl _ _).alloc (Nat.le_refl _) _ | exact ((Below.refl _ _).drew).alloc (Nat.le_refl _) _ | exact ((Below.refl _ _).alloc (Nat.le_refl _) _).drew) hB; (try have kb := HKb.out.below hB HKb.out.lt); (try have eb0 := kb.cell 0); (try have eb1 := kb.cell 1); (try have eb2 := kb.cell 2); (try have fb0 := kb.frozen 0); (try have fb1 := kb.frozen 1); (try have fb2 := kb.frozen 2); (try have HKb := Lib.hid kb); (try clear kb); have HW4 := Lib.hid (show Below w3.heap.size w3 w4 from hB); have i0 := (HW4.out.cell (p := ⟨g3, j * 3, none⟩) HG3.out.lt).trans I0.out; have i1 := (HW4.out.cell (p := ⟨g3, j * 3 + 1, none⟩) HG3.out.lt).trans I1.out; have i2 := (HW4.out.cell (p := ⟨g3, j * 3 + 2, none⟩) HG3.out.lt).trans I2.out; have i3 := (HW4.out.cell (p := ⟨g3, k * 3, none⟩) HG3.out.lt).trans I3.out; have i4 := (HW4.out.cell (p := ⟨g3, k * 3 + 1, none⟩) HG3.out.lt).trans I4.out; have i5 := (HW4.out.cell (p := ⟨g3, k * 3 + 2, none⟩) HG3.out.lt).trans I5.out; have hd4 : w4.heap.size ≠ g3 := (by have h1 := HG3.out.lt; have h2 := HW4.out.size; omega); have HOf := Lib.hid (fun (W : World) (hW : Below w4.heap.size w4 W) => two_any W); clear hB hr hs2)
        | (go_at_call 63; (try clear hw1); refine (HOf.out _ (by first | exact Below.refl _ _ | exact (Below.refl _ _).drew | exact (Below.refl _ _).alloc (Nat.le_refl _) _ | exact ((Below.refl _ _).drew).alloc (Nat.le_refl _) _ | exact ((Below.refl _ _).alloc (Nat.le_refl _) _).drew)).mono ?_; clear HOf; rintro e w5 ⟨v5, rfl, hN, hB⟩; obtain ⟨a5, c5, b5, d5, rfl, hr, hs2⟩ := hN; have HV5 := Lib.hid (ratAt_mk (c := c5) (d := d5) hr hs2); (try have kb := newBlk_of (w := w4) (cs := #[.bool false, .slice none 0 0, .slice none 0 0]) (t := 59) hB rfl); replace hB := chainB (a := w4) (by first | exact Below.refl _ _ | exact (Below.refl _ _).drew | exact (Below.refl _ _).alloc (Nat.le_refl _) _ | exact ((Below.refl _ _).drew).alloc (Nat.le_refl _) _ | exact ((Below.refl _ _).alloc (Nat.le_refl _) _).drew) hB; (try have kb := HKb.out.below hB HKb.out.lt); (try have eb0 := kb.cell 0); (try have eb1 := kb.cell 1); (try have eb2 := kb.cell 2); (try have fb0 := kb.frozen 0); (try have fb1 := kb.frozen 1); (try have fb2 := kb.frozen 2); (try have HKb := Lib.hid kb); (try clear kb); have HW5 := Lib.hid (show Below w3.heap.size w3 w5 from (HW4.out.trans (hB.mono HW4.out.size))); have i0 := (HW5.out.cell (p := ⟨g3, j * 3, none⟩) HG3.out.lt).trans I0.out; have i1 := (HW5.out.cell (p := ⟨g3, j * 3 + 1, none⟩) HG3.out.lt).trans I1.out; have i2 := (HW5.out.cell (p := ⟨g3, j * 3 + 2, none⟩) HG3.out.lt).trans I2.out; have i3 := (HW5.out.cell (p := ⟨g3, k * 3, none⟩) HG3.out.lt).trans I3.out; have i4 := (HW5.out.cell (p := ⟨g3, k * 3 + 1, none⟩) HG3.out.lt).trans I4.out; have i5 := (HW5.out.cell (p := ⟨g3, k * 3 + 2, none⟩) HG3.out.lt).trans I5.out; have hd5 : w5.heap.size ≠ g3 := (by have h1 := HG3.out.lt; have h2 := HW5.out.size; omega); have HDv := Lib.hid (fun (W : World) (hW : Below w5.heap.size w5 W) => ratDiv_any ((HV4.out.below hB).below hW) (HV5.out.below hW) HSm.out.1 HSm.out.2 two_sz.1 two_sz.2); clear hB hr hs2)
        | (go_at_call 62; (try clear hw1); refine (HDv.out _ (by first | exact Below.refl _ _ | exact (Below.refl _ _).drew | exact (Below.refl _ _).alloc (Nat.le_refl _) _ | exact ((Below.refl _ _).drew).alloc (Nat.le_refl _) _ | exact ((Below.refl _ _).alloc (Nat.le_refl _) _).drew)).mono ?_; clear HDv; rintro e w6 ⟨v6, rfl, hN, hB⟩; rw [divC_two]; obtain ⟨a6, c6, b6, d6, rfl, hr, hs2⟩ := hN; have HV6 := Lib.hid (ratAt_mk (c := c6) (d := d6) hr hs2); (try have kb := newBlk_of (w := w5) (cs := #[.bool false, .slice none 0 0, .slice none 0 0]) (t := 59) hB rfl); replace hB := chainB (a := w5) (by first | exact Below.refl _ _ | exact (Below.refl _ _).drew | exact (Below.refl _ _).alloc (Nat.le_refl _) _ | exact ((Below.refl _ _).drew).alloc (Nat.le_refl _) _ | exact ((Below.refl _ _).alloc (Nat.le_refl _) _).drew) hB; (try have kb := HKb.out.below hB HKb.out.lt); (try have eb0 := kb.cell 0); (try have eb1 := kb.cell 1); (try have eb2 := kb.cell 2); (try have fb0 := kb.frozen 0); (try have fb1 := kb.frozen 1); (try have fb2 := kb.frozen 2); (try have HKb := Lib.hid kb); (try clear kb); have HW6 := Lib.hid (show Below w3.heap.size w3 w6 from (HW5.out.trans (hB.mono HW5.out.size))); have i0 := (HW6.out.cell (p := ⟨g3, j * 3, none⟩) HG3.out.lt).trans I0.out; have i1 := (HW6.out.cell (p := ⟨g3, j * 3 + 1, none⟩) HG3.out.lt).trans I1.out; have i2 := (HW6.out.cell (p := ⟨g3, j * 3 + 2, none⟩) HG3.out.lt).trans I2.out; have i3 := (HW6.out.cell (p := ⟨g3, k * 3, none⟩) HG3.out.lt).trans I3.out; have i4 := (HW6.out.cell (p := ⟨g3, k * 3 + 1, none⟩) HG3.out.lt).trans I4.out; have i5 := (HW6.out.cell (p := ⟨g3, k * 3 + 2, none⟩) HG3.out.lt).trans I5.out; have hd6 : w6.heap.size ≠ g3 := (by have h1 := HG3.out.lt; have h2 := HW6.out.size; omega); clear hB hr hs2))
    · have kd := BlkAt.new w6 59 #[.bool (negQ (divP (r.q + r'.q) 2)), .slice a6 (szN (numQ (divP (r.q + r'.q) 2))) c6, .slice b6 (szN (denQ (divP (r.q + r'.q) 2))) d6]
      have hvd := HV6.out.below ((Below.refl _ w6).alloc (Nat.le_refl _) (.cells #[.bool (negQ (divP (r.q + r'.q) 2)), .slice a6 (szN (numQ (divP (r.q + r'.q) 2))) c6, .slice b6 (szN (denQ (divP (r.q + r'.q) 2))) d6] 59))
      have hbf := HW6.out.alloc HW6.out.size (.cells #[.bool (negQ (divP (r.q + r'.q) 2)), .slice a6 (szN (numQ (divP (r.q + r'.q) 2))) c6, .slice b6 (szN (denQ (divP (r.q + r'.q) 2))) d6] 59)
      obtain ⟨Wf, hWf⟩ : ∃ Wf, w6.alloc (.cells #[.bool (negQ (divP (r.q + r'.q) 2)), .slice a6 (szN (numQ (divP (r.q + r'.q) 2))) c6, .slice b6 (szN (denQ (divP (r.q + r'.q) 2))) d6] 59) = Wf := ⟨_, rfl⟩
      rw [hWf] at kd hvd hbf ⊢
      clear hWf
      have hK := HK3.out.below hbf HK3.out.lt
      have f0 := hK.frozen 0
      have f1 := hK.frozen 1
      have f2 := hK.frozen 2
      have e0 := hK.cell 0
      have e1 := hK.cell 1
      have e2 := hK.cell 2
      have c0 := kd.cell 0
      have c1 := kd.cell 1
      have c2 := kd.cell 2
      have HKf := Lib.hid hK
      have HVf := Lib.hid hvd
      have HBf := Lib.hid (HB3.out.trans (hbf.mono HB3.out.size))
      clear hK kd hvd hbf i0 i1 i2 i3 i4 i5
      go_wp2
      obtain ⟨r1, r2, r3⟩ := res_rat HKf.out rfl (Nat.le_refl _) HBf.out HVf.out
      refine bodyPost_ret (r_c rfl rfl (aggRat.load rfl r1)) rfl ⟨_, qs, rfl, HP.out, HSq.out, ?_, r3⟩
      rw [HMid.out]
      exact r2
    · obtain ⟨kd, hvd, hbf⟩ := res_rat HKb.out rfl HW5.out.size HW6.out HV6.out
      clear HKb eb0 eb1 eb2 fb0 fb1 fb2
      obtain ⟨Wf, hWf⟩ : ∃ Wf, ((w6.setCell ⟨w5.heap.size, 0, none⟩ (.bool (negQ (divP (r.q + r'.q) 2)))).setCell ⟨w5.heap.size, 1, none⟩ (.slice a6 (szN (numQ (divP (r.q + r'.q) 2))) c6)).setCell ⟨w5.heap.size, 2, none⟩ (.slice b6 (szN (denQ (divP (r.q + r'.q) 2))) d6) = Wf := ⟨_, rfl⟩
      rw [hWf] at kd hvd hbf ⊢
      clear hWf
      have hK := HK3.out.below hbf HK3.out.lt
      have f0 := hK.frozen 0
      have f1 := hK.frozen 1
      have f2 := hK.frozen 2
      have e0 := hK.cell 0
      have e1 := hK.cell 1
      have e2 := hK.cell 2
      have c0 := kd.cell 0
      have c1 := kd.cell 1
      have c2 := kd.cell 2
      have HKf := Lib.hid hK
      have HVf := Lib.hid hvd
      have HBf := Lib.hid (HB3.out.trans (hbf.mono HB3.out.size))
      clear hK kd hvd hbf i0 i1 i2 i3 i4 i5
      go_wp2
      obtain ⟨r1, r2, r3⟩ := res_rat HKf.out rfl (Nat.le_refl _) HBf.out HVf.out
      refine bodyPost_ret (r_c rfl rfl (aggRat.load rfl r1)) rfl ⟨_, qs, rfl, HP.out, HSq.out, ?_, r3⟩
      rw [HMid.out]
      exact r2
    · obtain ⟨kd, hvd, hbf⟩ := res_rat HKb.out rfl HW4.out.size HW6.out HV6.out
      clear HKb eb0 eb1 eb2 fb0 fb1 fb2
      obtain ⟨Wf, hWf⟩ : ∃ Wf, ((w6.setCell ⟨w4.heap.size, 0, none⟩ (.bool (negQ (divP (r.q + r'.q) 2)))).setCell ⟨w4.heap.size, 1, none⟩ (.slice a6 (szN (numQ (divP (r.q + r'.q) 2))) c6)).setCell ⟨w4.heap.size, 2, none⟩ (.slice b6 (szN (denQ (divP (r.q + r'.q) 2))) d6) = Wf := ⟨_, rfl⟩
      rw [hWf] at kd hvd hbf ⊢
      clear hWf
      have hK := HK3.out.below hbf HK3.out.lt
      have f0 := hK.frozen 0
      have f1 := hK.frozen 1
      have f2 := hK.frozen 2
      have e0 := hK.cell 0
      have e1 := hK.cell 1
      have e2 := hK.cell 2
      have c0 := kd.cell 0
      have c1 := kd.cell 1
      have c2 := kd.cell 2
      have HKf := Lib.hid hK
      have HVf := Lib.hid hvd
      have HBf := Lib.hid (HB3.out.trans (hbf.mono HB3.out.size))
      clear hK kd hvd hbf i0 i1 i2 i3 i4 i5
      go_wp2
      obtain ⟨r1, r2, r3⟩ := res_rat HKf.out rfl (Nat.le_refl _) HBf.out HVf.out
      refine bodyPost_ret (r_c rfl rfl (aggRat.load rfl r1)) rfl ⟨_, qs, rfl, HP.out, HSq.out, ?_, r3⟩
      rw [HMid.out]
      exact r2
    · obtain ⟨kd, hvd, hbf⟩ := res_rat HKb.out rfl (Nat.le_refl _) HW6.out HV6.out
      clear HKb eb0 eb1 eb2 fb0 fb1 fb2
      obtain ⟨Wf, hWf⟩ : ∃ Wf, ((w6.setCell ⟨w3.heap.size, 0, none⟩ (.bool (negQ (divP (r.q + r'.q) 2)))).setCell ⟨w3.heap.size, 1, none⟩ (.slice a6 (szN (numQ (divP (r.q + r'.q) 2))) c6)).setCell ⟨w3.heap.size, 2, none⟩ (.slice b6 (szN (denQ (divP (r.q + r'.q) 2))) d6) = Wf := ⟨_, rfl⟩
      rw [hWf] at kd hvd hbf ⊢
      clear hWf
      have hK := HK3.out.below hbf HK3.out.lt
      have f0 := hK.frozen 0
      have f1 := hK.frozen 1
      have f2 := hK.frozen 2
      have e0 := hK.cell 0
      have e1 := hK.cell 1
      have e2 := hK.cell 2
      have c0 := kd.cell 0
      have c1 := kd.cell 1
      have c2 := kd.cell 2
      have HKf := Lib.hid hK
      have HVf := Lib.hid hvd
      have HBf := Lib.hid (HB3.out.trans (hbf.mono HB3.out.size))
      clear hK kd hvd hbf i0 i1 i2 i3 i4 i5
      go_wp2
      obtain ⟨r1, r2, r3⟩ := res_rat HKf.out rfl (Nat.le_refl _) HBf.out HVf.out
      refine bodyPost_ret (r_c rfl rfl (aggRat.load rfl r1)) rfl ⟨_, qs, rfl, HP.out, HSq.out, ?_, r3⟩
      rw [HMid.out]
      exact r2
end Go.Proofs.YtjcpfmndkeiegaaGreatDoor
