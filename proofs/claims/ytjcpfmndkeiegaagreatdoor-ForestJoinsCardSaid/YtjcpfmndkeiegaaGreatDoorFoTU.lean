/- The walks of forest.together at the sum, the average, the median, the greatest and the least. The walk of forest's Join, where numbers that are all good are put together. -/
import Derived.Test.YtjcpfmndkeiegaaGreatDoorFoS
import Derived.Test.YtjcpfmndkeiegaaGreatDoorFoI
namespace Go.Proofs.YtjcpfmndkeiegaaGreatDoor
open Go.RowKit Go.Shelf
set_option linter.unusedVariables false

/-- What numbers come to together. -/
def TogR (m : Int) (qs : List Rat) (q : Rat) : Prop :=
  m = 1 ∧ q = sumQ qs ∨ m = 2 ∧ q = divP (sumQ qs) ((qs.length : Int) : Rat) ∨ m = 4 ∧ (∃ qs', qs'.Perm qs ∧ SortedQ qs' ∧ q = midQ qs') ∨ m = 5 ∧ IsPick 1 qs q ∨ m = 6 ∧ IsPick (-1) qs q
theorem togR_same {m : Int} {a b : List Rat} {x y : Rat} (hx : TogR m a x) (hy : TogR m b y) (h : a.Perm b) : x = y := by
  rcases hx with ⟨rfl, rfl⟩ | ⟨rfl, rfl⟩ | ⟨rfl, a', hp, hs, rfl⟩ | ⟨rfl, hp⟩ | ⟨rfl, hp⟩
  · rcases hy with ⟨-, rfl⟩ | ⟨h1, -⟩ | ⟨h1, -⟩ | ⟨h1, -⟩ | ⟨h1, -⟩ <;> first | exact sumQ_perm h | omega
  · rcases hy with ⟨h1, -⟩ | ⟨-, rfl⟩ | ⟨h1, -⟩ | ⟨h1, -⟩ | ⟨h1, -⟩ <;> first | omega | (rw [sumQ_perm h, h.length_eq])
  · rcases hy with ⟨h1, -⟩ | ⟨h1, -⟩ | ⟨-, b', hp', hs', rfl⟩ | ⟨h1, -⟩ | ⟨h1, -⟩ <;> first | omega | (rw [inOrder_same ((hp.trans h).trans hp'.symm) hs hs'])
  · rcases hy with ⟨h1, -⟩ | ⟨h1, -⟩ | ⟨h1, -⟩ | ⟨-, hp'⟩ | ⟨h1, -⟩ <;> first | exact isPick_same (.inl rfl) hp hp' h | omega
  · rcases hy with ⟨h1, -⟩ | ⟨h1, -⟩ | ⟨h1, -⟩ | ⟨h1, -⟩ | ⟨-, hp'⟩ <;> first | exact isPick_same (.inr rfl) hp hp' h | omega
theorem weeQ.tiny {q : Rat} (h : weeQ q) : tinyQ q := ⟨Nat.le_trans h.1 (by decide), Nat.le_trans h.2 (by decide)⟩
theorem intQ_sz {n : Nat} (h : n < 4294967296) : szN (numQ ((n : Int) : Rat)) ≤ 1 ∧ szN ((n : Int) : Rat).den ≤ 1 := by
  have e : lowQ false n 1 = ((n : Int) : Rat) := by
    have := ofQ (n : Int)
    rw [decide_eq_false (by omega), Int.natAbs_natCast] at this
    exact this
  obtain ⟨h1, h2⟩ := lowQ_le (neg := false) (n := n) (d := 1) (by decide)
  rw [e] at h1 h2
  exact ⟨Nat.le_trans (szN_mono h1) (szN_small h), Nat.le_trans (szN_mono h2) szN_one⟩
theorem divP_sz {x y : Rat} (hy : y ≠ 0) : szN (numQ (divP x y)) ≤ szN (numQ x) + szN y.den ∧ szN (divP x y).den ≤ szN x.den + szN (numQ y) := by
  have e : divP x y = x / y := by unfold divP; rw [if_neg hy]
  rw [e, ← divQ hy]
  obtain ⟨l1, l2⟩ := lowQ_le (neg := negQ x != negQ y) (n := numQ x * y.den) (d := x.den * numQ y) (Nat.mul_ne_zero x.den_nz (fun h => hy (numQ_zero.1 h)))
  exact ⟨Nat.le_trans (szN_mono l1) (szN_mul _ _), Nat.le_trans (szN_mono l2) (szN_mul _ _)⟩
theorem intQ_ne {n : Nat} (h : 0 < n) : ((n : Int) : Rat) ≠ 0 := by
  intro e
  have := (Rat.intCast_inj (a := (n : Int)) (b := 0)).1 e
  omega
theorem togR_sz {m : Int} {qs : List Rat} {q : Rat} (h : TogR m qs q) (hs : ∀ q ∈ qs, weeQ q) (hl : qs.length ≤ 200) (h0 : 0 < qs.length) : szN (numQ q) ≤ 1000000 ∧ szN q.den ≤ 1000000 := by
  have hsum := sumQ_sz qs hs
  rcases h with ⟨-, rfl⟩ | ⟨-, rfl⟩ | ⟨-, a', hp, -, rfl⟩ | ⟨-, hp⟩ | ⟨-, hp⟩
  · exact ⟨by omega, by omega⟩
  · have h1 := divP_sz (x := sumQ qs) (intQ_ne h0)
    have h2 := intQ_sz (n := qs.length) (by omega)
    exact ⟨by omega, by omega⟩
  · exact midQ_sz (fun q hq => (hs q (hp.mem_iff.1 hq)).tiny)
  · have := hs q hp.1; exact ⟨Nat.le_trans this.1 (by decide), Nat.le_trans this.2 (by decide)⟩
  · have := hs q hp.1; exact ⟨Nat.le_trans this.1 (by decide), Nat.le_trans this.2 (by decide)⟩
theorem ratInt_any (n : Nat) (h : n < 9223372036854775808) (w : World) : Calls Tryz.prog 63 #[.int .i64 n] w fun e w' => ∃ v, e = .returned v ∧ RatAt w' v ((n : Int) : Rat) ∧ Below w.heap.size w w' := by
  have e : lowQ false n 1 = ((n : Int) : Rat) := by
    have := ofQ (n : Int)
    rw [decide_eq_false (by omega), Int.natAbs_natCast] at this
    exact this
  have := ratOf_any n h w
  rwa [e] at this
set_option maxRecDepth 100000 in
set_option maxHeartbeats 4000000 in
theorem tog1_any {w : World} {base : Nat} {v : Value} {qs : List Rat} (wt : Value) (h : RatRow w base v qs) (hs : ∀ q ∈ qs, weeQ q) (hn : 0 < qs.length) (hl : qs.length ≤ 200) :
    Calls Tryz.prog 20 #[.int .i64 1, v, wt] w fun e w' => ∃ v' q, e = .returned (.tuple #[v', .bool true]) ∧ TogR 1 qs q ∧ RatAt w' v' q ∧ Below w.heap.size w w' := by
  obtain ⟨g, c, cur, rs, rfl, hb, hg, hrow, rfl, hrl, hin, hc⟩ := h.form hn
  obtain ⟨m, hm⟩ : ∃ m, rs.length = m := ⟨_, rfl⟩
  rw [List.length_map] at hn hl hc ⊢
  rw [hm] at hn hl hc ⊢
  have hwee : ∀ r ∈ rs, weeQ r.q := fun r hr => hs _ (List.mem_map_of_mem hr)
  have HSz := Lib.hid (sumQ_sz _ hs)
  have HM := Lib.hid hm
  have HB0 := Lib.hid (show Below (w.heap.size + 1) (w.alloc rat0) (w.alloc rat0) from Below.refl _ _)
  have HBw := Lib.hid (show Below w.heap.size w (w.alloc rat0) from (Below.refl _ w).alloc (Nat.le_refl _) _)
  have HS := Lib.hid (fun (Bx : Nat) (W : World) (hW : Below w.heap.size w W) (hbx : Boxed W Bx 54 (.slice (some ⟨g, 0, none⟩) m c)) => sum_any W Bx g m c cur rs hm hc hl hrow hbx (hg.below hW hg.lt) (fun r hr => (hin r hr).keep (KeepT.of_below hW)) hwee)
  clear hg hrow hin hrl h hs hb hm hwee
  go_enter Tryz.func20, Tryz.ntmps20
  go_wp2_with (first
    | (go_at_call 61; refine (each_any _ _ _ _).mono ?_; rintro e w2 ⟨rfl, hw2⟩; have hB2 : Below (w.heap.size + 1) (w.alloc rat0) w2 := (by rw [← hw2]; exact HB0.out.alloc (by simp) _); have hbx : Boxed w2 (w.heap.size + 1) 54 (.slice (some ⟨g, 0, none⟩) m c) := (by rw [← hw2]; have hbn := Boxed.new (w.alloc rat0) 54 (.slice (some ⟨g, 0, none⟩) m c); rwa [World.size_alloc] at hbn); have HS2 := Lib.hid (HS.out _ _ (below_in hB2) hbx); have HB2 := Lib.hid hB2; clear hw2 hB2 hbx HS)
    | (go_at_call 60; refine HS2.out.mono ?_; clear HS2; rintro e w3 ⟨v3, rfl, hN3, hB3⟩; obtain ⟨a3, c3, b3, d3, rfl, hr, hs⟩ := hN3; have HV := Lib.hid (ratAt_mk (c := c3) (d := d3) hr hs); have HB3 := Lib.hid (HB2.out.trans (hB3.mono (by have := HB2.out.size; simpa using this))); have k := rat_free HB3.out; have c0 := k.cell 0; have c1 := k.cell 1; have c2 := k.cell 2; have f0 := k.frozen 0; have f1 := k.frozen 1; have f2 := k.frozen 2; have HK := Lib.hid k; clear k; clear hr hs hB3))
  obtain ⟨r1, r2, r3⟩ := res_rat HK.out rfl (Nat.le_refl _) (below_in HB3.out) HV.out
  exact bodyPost_ret (r_ct rfl rfl (aggRat.load rfl r1)) rfl ⟨_, _, rfl, .inl ⟨rfl, rfl⟩, r2, r3⟩
set_option maxRecDepth 100000 in
set_option maxHeartbeats 4000000 in
theorem tog5_any {w : World} {base : Nat} {v : Value} {qs : List Rat} (wt : Value) (h : RatRow w base v qs) (hs : ∀ q ∈ qs, weeQ q) (hn : 0 < qs.length) (hl : qs.length ≤ 200) :
    Calls Tryz.prog 20 #[.int .i64 5, v, wt] w fun e w' => ∃ v' q, e = .returned (.tuple #[v', .bool true]) ∧ TogR 5 qs q ∧ RatAt w' v' q ∧ Below w.heap.size w w' := by
  obtain ⟨g, c, cur, rs, rfl, hb, hg, hrow, rfl, hrl, hin, hc⟩ := h.form hn
  obtain ⟨m, hm⟩ : ∃ m, rs.length = m := ⟨_, rfl⟩
  rw [List.length_map] at hn hl hc ⊢
  rw [hm] at hn hl hc ⊢
  have hwee : ∀ r ∈ rs, weeQ r.q := fun r hr => hs _ (List.mem_map_of_mem hr)
  have HSz := Lib.hid (sumQ_sz _ hs)
  have HM := Lib.hid hm
  have HB0 := Lib.hid (show Below (w.heap.size + 1) (w.alloc rat0) (w.alloc rat0) from Below.refl _ _)
  have HBw := Lib.hid (show Below w.heap.size w (w.alloc rat0) from (Below.refl _ w).alloc (Nat.le_refl _) _)
  have HS := Lib.hid (fun (Bx : Nat) (W : World) (hW : Below w.heap.size w W) (hbx : Boxed W Bx 54 (.slice (some ⟨g, 0, none⟩) m c)) => most_any W Bx g m c cur rs hm hn hc hl hrow hbx (hg.below hW hg.lt) (fun r hr => (hin r hr).keep (KeepT.of_below hW)) hwee)
  clear hg hrow hin hrl h hs hb hm hwee
  go_enter Tryz.func20, Tryz.ntmps20
  go_wp2_with (first
    | (go_at_call 61; refine (each_any _ _ _ _).mono ?_; rintro e w2 ⟨rfl, hw2⟩; have hB2 : Below (w.heap.size + 1) (w.alloc rat0) w2 := (by rw [← hw2]; exact HB0.out.alloc (by simp) _); have hbx : Boxed w2 (w.heap.size + 1) 54 (.slice (some ⟨g, 0, none⟩) m c) := (by rw [← hw2]; have hbn := Boxed.new (w.alloc rat0) 54 (.slice (some ⟨g, 0, none⟩) m c); rwa [World.size_alloc] at hbn); have HS2 := Lib.hid (HS.out _ _ (below_in hB2) hbx); have HB2 := Lib.hid hB2; clear hw2 hB2 hbx HS)
    | (go_at_call 66; refine HS2.out.mono ?_; clear HS2; rintro e w3 ⟨v3, x, rfl, hp, hN3, hB3⟩; obtain ⟨a3, c3, b3, d3, rfl, hr, hs⟩ := hN3; have HPk := Lib.hid hp; have HV := Lib.hid (ratAt_mk (c := c3) (d := d3) hr hs); have HB3 := Lib.hid (HB2.out.trans (hB3.mono (by have := HB2.out.size; simpa using this))); have k := rat_free HB3.out; have c0 := k.cell 0; have c1 := k.cell 1; have c2 := k.cell 2; have f0 := k.frozen 0; have f1 := k.frozen 1; have f2 := k.frozen 2; have HK := Lib.hid k; clear k; clear hr hs hB3 hp))
  obtain ⟨r1, r2, r3⟩ := res_rat HK.out rfl (Nat.le_refl _) (below_in HB3.out) HV.out
  exact bodyPost_ret (r_ct rfl rfl (aggRat.load rfl r1)) rfl ⟨_, x, rfl, .inr (.inr (.inr (.inl ⟨rfl, HPk.out⟩))), r2, r3⟩
set_option maxRecDepth 100000 in
set_option maxHeartbeats 4000000 in
theorem tog6_any {w : World} {base : Nat} {v : Value} {qs : List Rat} (wt : Value) (h : RatRow w base v qs) (hs : ∀ q ∈ qs, weeQ q) (hn : 0 < qs.length) (hl : qs.length ≤ 200) :
    Calls Tryz.prog 20 #[.int .i64 6, v, wt] w fun e w' => ∃ v' q, e = .returned (.tuple #[v', .bool true]) ∧ TogR 6 qs q ∧ RatAt w' v' q ∧ Below w.heap.size w w' := by
  obtain ⟨g, c, cur, rs, rfl, hb, hg, hrow, rfl, hrl, hin, hc⟩ := h.form hn
  obtain ⟨m, hm⟩ : ∃ m, rs.length = m := ⟨_, rfl⟩
  rw [List.length_map] at hn hl hc ⊢
  rw [hm] at hn hl hc ⊢
  have hwee : ∀ r ∈ rs, weeQ r.q := fun r hr => hs _ (List.mem_map_of_mem hr)
  have HSz := Lib.hid (sumQ_sz _ hs)
  have HM := Lib.hid hm
  have HB0 := Lib.hid (show Below (w.heap.size + 1) (w.alloc rat0) (w.alloc rat0) from Below.refl _ _)
  have HBw := Lib.hid (show Below w.heap.size w (w.alloc rat0) from (Below.refl _ w).alloc (Nat.le_refl _) _)
  have HS := Lib.hid (fun (Bx : Nat) (W : World) (hW : Below w.heap.size w W) (hbx : Boxed W Bx 54 (.slice (some ⟨g, 0, none⟩) m c)) => least_any W Bx g m c cur rs hm hn hc hl hrow hbx (hg.below hW hg.lt) (fun r hr => (hin r hr).keep (KeepT.of_below hW)) hwee)
  clear hg hrow hin hrl h hs hb hm hwee
  go_enter Tryz.func20, Tryz.ntmps20
  go_wp2_with (first
    | (go_at_call 61; refine (each_any _ _ _ _).mono ?_; rintro e w2 ⟨rfl, hw2⟩; have hB2 : Below (w.heap.size + 1) (w.alloc rat0) w2 := (by rw [← hw2]; exact HB0.out.alloc (by simp) _); have hbx : Boxed w2 (w.heap.size + 1) 54 (.slice (some ⟨g, 0, none⟩) m c) := (by rw [← hw2]; have hbn := Boxed.new (w.alloc rat0) 54 (.slice (some ⟨g, 0, none⟩) m c); rwa [World.size_alloc] at hbn); have HS2 := Lib.hid (HS.out _ _ (below_in hB2) hbx); have HB2 := Lib.hid hB2; clear hw2 hB2 hbx HS)
    | (go_at_call 67; refine HS2.out.mono ?_; clear HS2; rintro e w3 ⟨v3, x, rfl, hp, hN3, hB3⟩; obtain ⟨a3, c3, b3, d3, rfl, hr, hs⟩ := hN3; have HPk := Lib.hid hp; have HV := Lib.hid (ratAt_mk (c := c3) (d := d3) hr hs); have HB3 := Lib.hid (HB2.out.trans (hB3.mono (by have := HB2.out.size; simpa using this))); have k := rat_free HB3.out; have c0 := k.cell 0; have c1 := k.cell 1; have c2 := k.cell 2; have f0 := k.frozen 0; have f1 := k.frozen 1; have f2 := k.frozen 2; have HK := Lib.hid k; clear k; clear hr hs hB3 hp))
  obtain ⟨r1, r2, r3⟩ := res_rat HK.out rfl (Nat.le_refl _) (below_in HB3.out) HV.out
  exact bodyPost_ret (r_ct rfl rfl (aggRat.load rfl r1)) rfl ⟨_, x, rfl, .inr (.inr (.inr (.inr ⟨rfl, HPk.out⟩))), r2, r3⟩
set_option maxRecDepth 100000 in
set_option maxHeartbeats 4000000 in
theorem tog2_any {w : World} {base : Nat} {v : Value} {qs : List Rat} (wt : Value) (h : RatRow w base v qs) (hs : ∀ q ∈ qs, weeQ q) (hn : 0 < qs.length) (hl : qs.length ≤ 200) :
    Calls Tryz.prog 20 #[.int .i64 2, v, wt] w fun e w' => ∃ v' q, e = .returned (.tuple #[v', .bool true]) ∧ TogR 2 qs q ∧ RatAt w' v' q ∧ Below w.heap.size w w' := by
  obtain ⟨g, c, cur, rs, rfl, hb, hg, hrow, rfl, hrl, hin, hc⟩ := h.form hn
  obtain ⟨m, hm⟩ : ∃ m, rs.length = m := ⟨_, rfl⟩
  rw [List.length_map] at hn hl hc ⊢
  rw [hm] at hn hl hc ⊢
  have hwee : ∀ r ∈ rs, weeQ r.q := fun r hr => hs _ (List.mem_map_of_mem hr)
  have HSz := Lib.hid (sumQ_sz _ hs)
  have HM := Lib.hid hm
  have HB0 := Lib.hid (show Below (w.heap.size + 1) (w.alloc rat0) (w.alloc rat0) from Below.refl _ _)
  have HBw := Lib.hid (show Below w.heap.size w (w.alloc rat0) from (Below.refl _ w).alloc (Nat.le_refl _) _)
  have HS := Lib.hid (fun (Bx : Nat) (W : World) (hW : Below w.heap.size w W) (hbx : Boxed W Bx 54 (.slice (some ⟨g, 0, none⟩) m c)) => sum_any W Bx g m c cur rs hm hc hl hrow hbx (hg.below hW hg.lt) (fun r hr => (hin r hr).keep (KeepT.of_below hW)) hwee)
  clear hg hrow hin hrl h hs hb hm hwee
  rw [List.length_map, HM.out] at HSz
  have HLen := Lib.hid (show (rs.map (·.q)).length = m by rw [List.length_map]; exact HM.out)
  obtain ⟨S, hS⟩ : ∃ S, sumQ (rs.map (·.q)) = S := ⟨_, rfl⟩
  rw [hS] at HSz HS
  have HSe := Lib.hid hS
  have HIs := Lib.hid (intQ_sz (n := m) (by omega))
  have HI := Lib.hid (fun W => ratInt_any m (by omega) W)
  have HIn := Lib.hid (intQ_ne hn)
  obtain ⟨q, hq⟩ : ∃ q, ((m : Int) : Rat) = q := ⟨_, rfl⟩
  rw [hq] at HIs HI HIn
  have HQ := Lib.hid hq
  have HDc := Lib.hid (show ((divC q : Nat) : Int) = 0 by unfold divC; rw [if_neg HIn.out]; rfl)
  clear hS hq
  go_enter Tryz.func20, Tryz.ntmps20
  go_wp2_with (first
    | (go_at_call 61; refine (each_any _ _ _ _).mono ?_; rintro e w2 ⟨rfl, hw2⟩; have hB2 : Below (w.heap.size + 1) (w.alloc rat0) w2 := (by rw [← hw2]; exact HB0.out.alloc (by simp) _); have hbx : Boxed w2 (w.heap.size + 1) 54 (.slice (some ⟨g, 0, none⟩) m c) := (by rw [← hw2]; have hbn := Boxed.new (w.alloc rat0) 54 (.slice (some ⟨g, 0, none⟩) m c); rwa [World.size_alloc] at hbn); have HS2 := Lib.hid (HS.out _ _ (below_in hB2) hbx); have HB2 := Lib.hid hB2; clear hw2 hB2 hbx HS)
    | (go_at_call 60; refine HS2.out.mono ?_; clear HS2; rintro e w3 ⟨v3, rfl, hN3, hB3⟩; obtain ⟨a3, c3, b3, d3, rfl, hr, hs⟩ := hN3; have HV3 := Lib.hid (ratAt_mk (c := c3) (d := d3) hr hs); have HB3 := Lib.hid (HB2.out.trans (hB3.mono (by have := HB2.out.size; simpa using this))); clear hr hs hB3)
    | (go_at_call 63; refine (HI.out _).mono ?_; clear HI; rintro e w4 ⟨v4, rfl, hN4, hB4⟩; have HDv := Lib.hid (ratDiv_any (HV3.out.below hB4) hN4 (by have := HSz.out.1; omega) (by have := HSz.out.2; omega) (Nat.le_trans HIs.out.1 (by decide)) (Nat.le_trans HIs.out.2 (by decide))); rw [HDc.out] at HDv; have HB4 := Lib.hid (HB3.out.trans (hB4.mono (by have := HB3.out.size; simpa using this))); obtain ⟨a4, c4, b4, d4, rfl, hr, hs⟩ := hN4; clear hr hs hB4)
    | (go_at_call 62; refine HDv.out.mono ?_; clear HDv; rintro e w5 ⟨v5, rfl, hN5, hB5⟩; obtain ⟨a5, c5, b5, d5, rfl, hr, hs⟩ := hN5; have HB5 := Lib.hid (HB4.out.trans (hB5.mono (by have := HB4.out.size; simpa using this))); have HB3 := Lib.hid (HB5.out.alloc (by have := HB5.out.size; simpa using this) (.cells #[.bool (negQ (divP S q)), .slice a5 (szN (numQ (divP S q))) c5, .slice b5 (szN (denQ (divP S q))) d5] 59)); have HV := Lib.hid ((ratAt_mk (c := c5) (d := d5) hr hs).below ((Below.refl _ w5).alloc (Nat.le_refl _) (.cells #[.bool (negQ (divP S q)), .slice a5 (szN (numQ (divP S q))) c5, .slice b5 (szN (denQ (divP S q))) d5] 59))); have kn := BlkAt.new w5 59 #[.bool (negQ (divP S q)), .slice a5 (szN (numQ (divP S q))) c5, .slice b5 (szN (denQ (divP S q))) d5]; have n0 := kn.cell 0; have n1 := kn.cell 1; have n2 := kn.cell 2; have k := rat_free HB3.out; have c0 := k.cell 0; have c1 := k.cell 1; have c2 := k.cell 2; have f0 := k.frozen 0; have f1 := k.frozen 1; have f2 := k.frozen 2; have HK := Lib.hid k; clear k; clear hr hs hB5 kn))
  obtain ⟨r1, r2, r3⟩ := res_rat HK.out rfl (Nat.le_refl _) (below_in HB3.out) HV.out
  exact bodyPost_ret (r_ct rfl rfl (aggRat.load rfl r1)) rfl ⟨_, _, rfl, .inr (.inl ⟨rfl, by rw [HLen.out, HSe.out, HQ.out]⟩), r2, r3⟩
theorem tog_any {w : World} {base : Nat} {v : Value} {qs : List Rat} (m : Int) (wt : Value) (hm : m = 1 ∨ m = 2 ∨ m = 4 ∨ m = 5 ∨ m = 6) (h : RatRow w base v qs) (hs : ∀ q ∈ qs, weeQ q) (hn : 0 < qs.length) (hl : qs.length ≤ 200) :
    Calls Tryz.prog 20 #[.int .i64 m, v, wt] w fun e w' => ∃ v' q, e = .returned (.tuple #[v', .bool true]) ∧ TogR m qs q ∧ RatAt w' v' q ∧ Below w.heap.size w w' := by
  rcases hm with rfl | rfl | rfl | rfl | rfl
  · exact tog1_any wt h hs hn hl
  · exact tog2_any wt h hs hn hl
  · refine (together_med wt h (fun q hq => (hs q hq).tiny) hn (by omega)).mono ?_
    rintro e w' ⟨v', qs', rfl, hp, hso, hr, hB⟩
    exact ⟨v', _, rfl, .inr (.inr (.inl ⟨rfl, qs', hp, hso, rfl⟩)), hr, hB⟩
  · exact tog5_any wt h hs hn hl
  · exact tog6_any wt h hs hn hl
end Go.Proofs.YtjcpfmndkeiegaaGreatDoor
namespace Go.Proofs.YtjcpfmndkeiegaaGreatDoor
open Go.RowKit
set_option linter.unusedVariables false

set_option maxRecDepth 100000 in
set_option maxHeartbeats 4000000 in
theorem joinNums_any {w : World} {a : Option Addr} {n c : Nat} {ns : List ByteArray} (m : Int) (wt : Value) (R : Rat → Bool → Prop) (hm1 : m ≠ 7) (hm2 : m ≠ 8 ∧ m ≠ 9) (hr : RdS w a ns) (hn : ns.length = n) (hlim : n ≤ 100000) (hs : ∀ s ∈ ns, s.size ≤ 100000)
    (hall : ∀ s ∈ ns, parseRC s.data.toList = 0) (h0 : 0 < n)
    (hT : ∀ (W : World) (base : Nat) (v : Value), Below w.heap.size w W → RatRow W base v (ns.map fun s => parseRQ s.data.toList) → Calls Tryz.prog 20 #[.int .i64 m, v, wt] W fun e w' => ∃ v' q b, e = .returned (.tuple #[v', .bool b]) ∧ R q b ∧ RatAt w' v' q ∧ (szN (numQ q) ≤ 1000000 ∧ szN q.den ≤ 1000000) ∧ Below W.heap.size W w') :
    Calls Tryz.prog 8 #[.int .i64 m, .slice a n c, wt] w fun e w' => ∃ q b, R q b ∧ OneAt w w' e (if b then ⟨(textQ q).toArray⟩ else ⟨#[]⟩) := by
  have hm7 : (m == 7) = false := beq_eq_false_iff_ne.2 (by omega)
  have hm8 : (m == 8) = false := beq_eq_false_iff_ne.2 (by omega)
  have hm9 : (m == 9) = false := beq_eq_false_iff_ne.2 (by omega)
  have HT0 := Lib.hid hT
  clear hT
  obtain ⟨W1, hW1⟩ : ∃ W1, w.alloc (.cells #[.slice none 0 0] 27) = W1 := ⟨_, rfl⟩
  have hB1 : Below w.heap.size w W1 := by rw [← hW1]; exact (Below.refl _ w).alloc (Nat.le_refl _) _
  have hz1 : W1.heap.size = w.heap.size + 1 := by rw [← hW1]; simp
  have HK1 := Lib.hid (show BlkAt W1 w.heap.size 27 #[.slice none 0 0] by rw [← hW1]; exact BlkAt.new w _ _)
  obtain ⟨w2, hmk, hrow, hB2⟩ := makeR_none W1 n (by omega)
  have H0 := Lib.hid (show JoinL ns W1 W1.heap.size (.slice (some ⟨W1.heap.size, 0, none⟩) 0 n) (.int .i64 0) w2 from ⟨0, rfl, Nat.zero_le _, fun i hi => by omega, hrow, hB2⟩)
  have HR := Lib.hid (hr.below hB1)
  have HS := Lib.hid hs
  have HAll := Lib.hid hall
  have HN := Lib.hid hn
  have HB1 := Lib.hid hB1
  have HB2 := Lib.hid hB2
  have HZ1 := Lib.hid hz1
  clear hr hs hall hn hB1 hrow hB2 hz1
  go_enter Tryz.func8, Tryz.ntmps8
  go_wp2
  go_step3
  go_wp2
  go_step3
  go_wp2
  clear hmk
  go_loopw [10, 62] (fun v p W => JoinL ns W1 W1.heap.size v p W) (fun v p W => n - (intOf p).toNat)
  case atStart => exact H0.out
  case round =>
    obtain ⟨k, rfl, hk, hok, hrow, hB⟩ := hrel
    obtain ⟨rs, hrq, ho, hin⟩ := hrow
    obtain ⟨vb, vc, rfl⟩ := ownsRow_slice' ho
    have hrl : rs.length = k := by
      have := congrArg List.length hrq
      rw [List.length_map, List.length_map, List.length_take] at this
      omega
    rw [HN.out] at hk
    rw [hrl] at ho ⊢
    have HB := Lib.hid hB
    have HO := Lib.hid ho
    have HRq := Lib.hid hrq
    have HIn := Lib.hid hin
    have HOk := Lib.hid hok
    have HRl := Lib.hid hrl
    have HKw := Lib.hid (HK1.out.below hB HK1.out.lt)
    have HBw := Lib.hid (HB1.out.trans (hB.mono HB1.out.size))
    clear hB ho hrq hin hok hrl
    by_cases hlt : k < n
    · obtain ⟨x, rfl, hxb, hxc⟩ := (HR.out.below HB.out) k (by rw [HN.out]; exact hlt)
      obtain ⟨s, hs⟩ : ∃ s, ns[k]'(by rw [HN.out]; exact hlt) = s := ⟨_, rfl⟩
      rw [hs] at hxc
      have hsm : s ∈ ns := by rw [← hs]; exact List.getElem_mem _
      have hsg : ns.getD k ⟨#[]⟩ = s := by rw [List.getD, List.getElem?_eq_getElem (by rw [HN.out]; exact hlt), hs]; rfl
      have HP := Lib.hid (fun W => ratParse_any s (HS.out s hsm) W)
      have HSg := Lib.hid hsg
      have HSk := Lib.hid (show ns[k]? = some s by rw [List.getElem?_eq_getElem (by rw [HN.out]; exact hlt), hs])
      by_cases hz : parseRC s.data.toList = 0
      · rw [hz] at HP
        have HZ := Lib.hid hz
        clear hz hs hsm hsg hxb
        go_wp2_with (first
          | (go_at_call 19; refine (HP.out _).mono ?_; clear HP; rintro e w3 ⟨v3, rfl, hN3, hB3⟩; obtain ⟨a3, c3, b3, d3, rfl, hr3, hs3⟩ := hN3; have HR3 := Lib.hid hr3; have HS3 := Lib.hid hs3; have HB3 := Lib.hid hB3; have HO3 := Lib.hid ((rowKept HO.out hB3).alloc (.cells #[.bool (negQ (parseRQ s.data.toList)), .slice a3 (szN (numQ (parseRQ s.data.toList))) c3, .slice b3 (szN (denQ (parseRQ s.data.toList))) d3] 59)); have HB13 := Lib.hid ((HB.out.trans (hB3.mono HB.out.size)).alloc (Nat.le_trans HB.out.size hB3.size) (.cells #[.bool (negQ (parseRQ s.data.toList)), .slice a3 (szN (numQ (parseRQ s.data.toList))) c3, .slice b3 (szN (denQ (parseRQ s.data.toList))) d3] 59)); clear hr3 hs3 hB3)
          | (at_builtin; refine wpList_app _ rfl _ _ _ _ _ _ slR rfl W1.heap.size W1 (HB13.out.alloc HB13.out.size _) (by have := HB13.out.size; rw [World.size_alloc]; omega) _ _ _ rfl (HO3.out.alloc _) ⟨w3.heap.size + 1, 0, none⟩ #[.bool (negQ (parseRQ s.data.toList)), .slice a3 (szN (numQ (parseRQ s.data.toList))) c3, .slice b3 (szN (denQ (parseRQ s.data.toList))) d3].toList rfl rfl (news_blk (two_more w3 (.cells #[.bool (negQ (parseRQ s.data.toList)), .slice a3 (szN (numQ (parseRQ s.data.toList))) c3, .slice b3 (szN (denQ (parseRQ s.data.toList))) d3] 59) 59 #[.bool (negQ (parseRQ s.data.toList)), .slice a3 (szN (numQ (parseRQ s.data.toList))) c3, .slice b3 (szN (denQ (parseRQ s.data.toList))) d3])) (by intro u hu; simp at hu; rcases hu with rfl | rfl | rfl <;> rfl) (by omega) ?_; intro v6 w6 ho6 hB6 hb6 hg6))
        have hk3 : KeepT 133 wr w6 := ((KeepT.of_below HB3.out).trans ((KeepT.of_below ((Below.refl _ w3).alloc (Nat.le_refl _) _)).trans (KeepT.of_below ((Below.refl _ (w3.alloc (.cells #[.bool (negQ (parseRQ s.data.toList)), .slice a3 (szN (numQ (parseRQ s.data.toList))) c3, .slice b3 (szN (denQ (parseRQ s.data.toList))) d3] 59))).alloc (Nat.le_refl _) _)))).trans (KeepT.grown (HO3.out.alloc _) (show 133 ≠ 59 by decide) hg6)
        have hk4 : KeepT 133 w3 w6 := ((KeepT.of_below ((Below.refl _ w3).alloc (Nat.le_refl _) _)).trans (KeepT.of_below ((Below.refl _ (w3.alloc (.cells #[.bool (negQ (parseRQ s.data.toList)), .slice a3 (szN (numQ (parseRQ s.data.toList))) c3, .slice b3 (szN (denQ (parseRQ s.data.toList))) d3] 59))).alloc (Nat.le_refl _) _))).trans (KeepT.grown (HO3.out.alloc _) (show 133 ≠ 59 by decide) hg6)
        refine ⟨⟨k + 1, by go_num, by rw [HN.out]; omega, ?_, ⟨rs ++ [⟨parseRQ s.data.toList, a3, c3, b3, d3⟩], ?_, ?_, ?_⟩, hB6⟩, ?_⟩
        · intro i hi
          by_cases h : i = k
          · rw [h, HSg.out]; exact HZ.out
          · exact HOk.out i (by omega)
        · rw [List.map_append, HRq.out, List.take_add_one, HSk.out]; simp
        · rw [List.length_append, HRl.out, List.flatMap_append]
          simpa [cellsC] using ho6
        · intro r hr
          rcases List.mem_append.1 hr with hr | hr
          · exact (HIn.out r hr).keep hk3
          · obtain rfl : r = _ := by simpa using hr
            exact RatIn.keep (w := w3) ⟨HR3.out, HS3.out⟩ hk4
        · simp only [intOf]; omega
      · exact absurd (HAll.out s hsm) hz
    · obtain rfl : k = n := by omega
      have hq : (ns.take k).map (fun s => parseRQ s.data.toList) = ns.map fun s => parseRQ s.data.toList := by rw [List.take_of_length_le (by rw [HN.out]; exact Nat.le_refl _)]
      have hrr : RatRow wr W1.heap.size (.slice vb k vc) (ns.map fun s => parseRQ s.data.toList) := ⟨rs, by rw [HRq.out, hq], by rw [HRl.out]; exact HO.out, HIn.out⟩
      have HTg := Lib.hid (HT0.out wr W1.heap.size _ HBw.out hrr)
      have h0I : (0 : Int) < (k : Int) := by omega
      have hnz : ((k : Int) == 0) = false := beq_eq_false_iff_ne.2 (by omega)
      clear HR H0 hq hrr HT0
      go_wp2_with fail
      refine HTg.out.mono ?_
      rintro e w3 ⟨v3, q, t3, rfl, hp, hN3, hsz, hB3⟩
      obtain ⟨a3, c3, b3, d3, rfl, hr3, hs3⟩ := hN3
      have HP := Lib.hid hp
      have HSz := Lib.hid hsz
      have HV := Lib.hid ((ratAt_mk (c := c3) (d := d3) hr3 hs3).below ((Below.refl _ w3).alloc (Nat.le_refl _) (.cells #[.bool (negQ q), .slice a3 (szN (numQ q)) c3, .slice b3 (szN (denQ q)) d3] 59)))
      have kq := BlkAt.new w3 59 #[.bool (negQ q), .slice a3 (szN (numQ q)) c3, .slice b3 (szN (denQ q)) d3]
      have i0 := kq.cell 0
      have i1 := kq.cell 1
      have i2 := kq.cell 2
      have HB3 := Lib.hid (hB3.alloc hB3.size (.cells #[.bool (negQ q), .slice a3 (szN (numQ q)) c3, .slice b3 (szN (denQ q)) d3] 59))
      clear hp hr3 hs3 hB3 kq hsz HTg
      cases t3
      · go_wp2_with (first
          | (go_at_call 18; refine (one_any _ _).mono ?_; rintro e w5 ⟨g5, rfl, hb5, hg5, hB5⟩; have HB5 := Lib.hid hB5; have HG5 := Lib.hid hb5; have HL5 := Lib.hid hg5; have HKw4 := Lib.hid (HKw.out.below HB3.out HKw.out.lt); have HBw4 := Lib.hid (HBw.out.trans (HB3.out.mono HBw.out.size)); have kR := HKw4.out.below hB5 HKw4.out.lt; have e0 := kR.cell 0; have f0 := kR.frozen 0; have HKR := Lib.hid kR; clear hb5 hg5 hB5 kR))
        rw [Exit.noGoto_ret]
        exact bodyPost_ret (r_c rfl rfl (aggRes.load rfl (HKR.out.set 0 _))) rfl ⟨q, false, HP.out, one_end HBw4.out HB5.out HG5.out HL5.out HKw4.out.lt⟩
      · go_wp2_with (first
          | (go_at_call 21; refine (ratText_any HV.out HSz.out.1 HSz.out.2).mono ?_; rintro e w4 ⟨rfl, hB4⟩; have HB4 := Lib.hid (HB3.out.trans (hB4.mono HB3.out.size)); have HKw4 := Lib.hid (HKw.out.below HB4.out HKw.out.lt); have HBw4 := Lib.hid (HBw.out.trans (HB4.out.mono HBw.out.size)); clear hB4)
          | (go_at_call 18; refine (one_any _ _).mono ?_; rintro e w5 ⟨g5, rfl, hb5, hg5, hB5⟩; have HB5 := Lib.hid hB5; have HG5 := Lib.hid hb5; have HL5 := Lib.hid hg5; have kR := HKw4.out.below hB5 HKw4.out.lt; have e0 := kR.cell 0; have f0 := kR.frozen 0; have HKR := Lib.hid kR; clear hb5 hg5 hB5 kR))
        rw [Exit.noGoto_ret]
        exact bodyPost_ret (r_c rfl rfl (aggRes.load rfl (HKR.out.set 0 _))) rfl ⟨q, true, HP.out, one_end HBw4.out HB5.out HG5.out HL5.out HKw4.out.lt⟩
/-- What Join tells of a method that is one of sum, average, median, greatest, least. -/
def JoinR (m : Int) (ns : List ByteArray) (t : ByteArray) : Prop :=
  (ns = [] ∨ ∃ s ∈ ns, parseRC s.data.toList ≠ 0) ∧ t = ⟨#[]⟩ ∨ (ns ≠ [] ∧ ∀ s ∈ ns, parseRC s.data.toList = 0) ∧ ∃ q, TogR m (ns.map fun s => parseRQ s.data.toList) q ∧ t = ⟨(textQ q).toArray⟩
theorem joinR_same {m : Int} {a b : List ByteArray} {x y : ByteArray} (hx : JoinR m a x) (hy : JoinR m b y) (h : a.Perm b) : x = y := by
  rcases hx with ⟨h1, rfl⟩ | ⟨h1, q, hq, rfl⟩
  · rcases hy with ⟨-, rfl⟩ | ⟨h2, -⟩
    · rfl
    · exfalso
      rcases h1 with rfl | ⟨s, hs, hn⟩
      · exact h2.1 h.nil_eq.symm
      · exact hn (h2.2 s (h.mem_iff.1 hs))
  · rcases hy with ⟨h2, rfl⟩ | ⟨-, p, hp, rfl⟩
    · exfalso
      rcases h2 with rfl | ⟨s, hs, hn⟩
      · exact h1.1 h.eq_nil
      · exact hn (h1.2 s (h.mem_iff.2 hs))
    · rw [togR_same hq hp (h.map _)]
theorem parse_wee (ns : List ByteArray) : ∀ q ∈ ns.map (fun s => parseRQ s.data.toList), weeQ q := fun q hq => by
  obtain ⟨s, _, rfl⟩ := List.mem_map.1 hq
  exact parseRQ_sz _
theorem join_any {w : World} {a : Option Addr} {n c : Nat} {ns : List ByteArray} (m : Int) (wt : Value) (hm : m = 1 ∨ m = 2 ∨ m = 4 ∨ m = 5 ∨ m = 6) (hr : RdS w a ns) (hn : ns.length = n) (hlim : n ≤ 200) (hs : ∀ s ∈ ns, s.size ≤ 100000) :
    Calls Tryz.prog 8 #[.int .i64 m, .slice a n c, wt] w fun e w' => ∃ t, JoinR m ns t ∧ OneAt w w' e t := by
  by_cases hbad : ns = [] ∨ ∃ s ∈ ns, parseRC s.data.toList ≠ 0
  · refine (joinNum_any m wt (by omega) (by omega) hr hn (by omega) hs hbad).mono ?_
    intro e w' h
    exact ⟨_, .inl ⟨hbad, rfl⟩, h⟩
  · have h1 : ns ≠ [] := fun h => hbad (.inl h)
    have h2 : ∀ s ∈ ns, parseRC s.data.toList = 0 := fun s hs => Classical.byContradiction fun h => hbad (.inr ⟨s, hs, h⟩)
    have h0 : 0 < n := by rw [← hn]; exact List.length_pos_iff.2 h1
    have hl : (ns.map fun s => parseRQ s.data.toList).length = n := by rw [List.length_map, hn]
    refine (joinNums_any m wt (fun q b => b = true ∧ TogR m (ns.map fun s => parseRQ s.data.toList) q) (by omega) (by omega) hr hn (by omega) hs h2 h0 ?_).mono ?_
    · intro W base v hW hrow
      refine (tog_any m wt hm hrow (parse_wee ns) (by omega) (by omega)).mono ?_
      rintro e w' ⟨v', q, rfl, ht, hv, hB⟩
      exact ⟨v', q, true, rfl, ⟨rfl, ht⟩, hv, togR_sz ht (parse_wee ns) (by omega) (by omega), hB⟩
    · rintro e w' ⟨q, b, ⟨rfl, ht⟩, ho⟩
      exact ⟨_, .inr ⟨⟨h1, h2⟩, q, ht, rfl⟩, ho⟩
end Go.Proofs.YtjcpfmndkeiegaaGreatDoor
