/- The walks of forest.together at the sum, the average, the median, the greatest and the least. -/
import Derived.Test.YtjcpfmndkeiegaaGreatDoorFoS
import Derived.Test.YtjcpfmndkeiegaaGreatDoorFoI
namespace Go.Proofs.YtjcpfmndkeiegaaGreatDoor
open Go.RowKit Go.Shelf
set_option linter.unusedVariables false

/-- What numbers come to together. -/
def TogR (m : Int) (qs : List Rat) (q : Rat) : Prop :=
  m = 1 ∧ q = sumQ qs ∨ m = 2 ∧ q = divP (sumQ qs) ((qs.length : Int) : Rat) ∨ m = 4 ∧ (∃ qs', qs'.Perm qs ∧ SortedQ qs' ∧ q = midQ qs') ∨ m = 5 ∧ IsPick 1 qs q ∨ m = 6 ∧ IsPick (-1) qs q
theorem togR_same {m : Int} {a b : List Rat} {x y : Rat} (hx : TogR m a x) (hy : TogR m b y) (h : a.Perm b) : x = y := by
  rcases hx with ⟨rfl, rfl⟩ | ⟨rfl, rfl⟩ | ⟨rfl, a', hp, hs, rfl⟩ | ⟨rfl, hp⟩ | ⟨rfl, hp⟩
  · rcases hy with ⟨-, rfl⟩ | ⟨h1, -⟩ | ⟨h1, -⟩ | ⟨h1, -⟩ | ⟨h1, -⟩ <;> first | exact sumQ_perm h | omega
  · rcases hy with ⟨h1, -⟩ | ⟨-, rfl⟩ | ⟨h1, -⟩ | ⟨h1, -⟩ | ⟨h1, -⟩ <;> first | omega | (rw [sumQ_perm h, h.length_eq])
  · rcases hy with ⟨h1, -⟩ | ⟨h1, -⟩ | ⟨-, b', hp', hs', rfl⟩ | ⟨h1, -⟩ | ⟨h1, -⟩ <;> first | omega | (rw [inOrder_same ((hp.trans h).trans hp'.symm) hs hs'])
  · rcases hy with ⟨h1, -⟩ | ⟨h1, -⟩ | ⟨h1, -⟩ | ⟨-, hp'⟩ | ⟨h1, -⟩ <;> first | exact isPick_same (.inl rfl) hp hp' h | omega
  · rcases hy with ⟨h1, -⟩ | ⟨h1, -⟩ | ⟨h1, -⟩ | ⟨h1, -⟩ | ⟨-, hp'⟩ <;> first | exact isPick_same (.inr rfl) hp hp' h | omega
theorem weeQ.tiny {q : Rat} (h : weeQ q) : tinyQ q := ⟨Nat.le_trans h.1 (by decide), Nat.le_trans h.2 (by decide)⟩
theorem intQ_sz {n : Nat} (h : n < 4294967296) : szN (numQ ((n : Int) : Rat)) ≤ 1 ∧ szN ((n : Int) : Rat).den ≤ 1 := by
  have e : lowQ false n 1 = ((n : Int) : Rat) := by
    have := ofQ (n : Int)
    rw [decide_eq_false (by omega), Int.natAbs_natCast] at this
    exact this
  obtain ⟨h1, h2⟩ := lowQ_le (neg := false) (n := n) (d := 1) (by decide)
  rw [e] at h1 h2
  exact ⟨Nat.le_trans (szN_mono h1) (szN_small h), Nat.le_trans (szN_mono h2) szN_one⟩
theorem divP_sz {x y : Rat} (hy : y ≠ 0) : szN (numQ (divP x y)) ≤ szN (numQ x) + szN y.den ∧ szN (divP x y).den ≤ szN x.den + szN (numQ y) := by
  have e : divP x y = x / y := by unfold divP; rw [if_neg hy]
  rw [e, ← divQ hy]
  obtain ⟨l1, l2⟩ := lowQ_le (neg := negQ x != negQ y) (n := numQ x * y.den) (d := x.den * numQ y) (Nat.mul_ne_zero x.den_nz (fun h => hy (numQ_zero.1 h)))
  exact ⟨Nat.le_trans (szN_mono l1) (szN_mul _ _), Nat.le_trans (szN_mono l2) (szN_mul _ _)⟩
theorem intQ_ne {n : Nat} (h : 0 < n) : ((n : Int) : Rat) ≠ 0 := by
  intro e
  have := (Rat.intCast_inj (a := (n : Int)) (b := 0)).1 e
  omega
theorem togR_sz {m : Int} {qs : List Rat} {q : Rat} (h : TogR m qs q) (hs : ∀ q ∈ qs, weeQ q) (hl : qs.length ≤ 200) (h0 : 0 < qs.length) : szN (numQ q) ≤ 1000000 ∧ szN q.den ≤ 1000000 := by
  have hsum := sumQ_sz qs hs
  rcases h with ⟨-, rfl⟩ | ⟨-, rfl⟩ | ⟨-, a', hp, -, rfl⟩ | ⟨-, hp⟩ | ⟨-, hp⟩
  · exact ⟨by omega, by omega⟩
  · have h1 := divP_sz (x := sumQ qs) (intQ_ne h0)
    have h2 := intQ_sz (n := qs.length) (by omega)
    exact ⟨by omega, by omega⟩
  · exact midQ_sz (fun q hq => (hs q (hp.mem_iff.1 hq)).tiny)
  · have := hs q hp.1; exact ⟨Nat.le_trans this.1 (by decide), Nat.le_trans this.2 (by decide)⟩
  · have := hs q hp.1; exact ⟨Nat.le_trans this.1 (by decide), Nat.le_trans this.2 (by decide)⟩
theorem ratInt_any (n : Nat) (h : n < 9223372036854775808) (w : World) : Calls Tryz.prog 63 #[.int .i64 n] w fun e w' => ∃ v, e = .returned v ∧ RatAt w' v ((n : Int) : Rat) ∧ Below w.heap.size w w' := by
  have e : lowQ false n 1 = ((n : Int) : Rat) := by
    have := ofQ (n : Int)
    rw [decide_eq_false (by omega), Int.natAbs_natCast] at this
    exact this
  have := ratOf_any n h w
  rwa [e] at this
set_option maxRecDepth 100000 in
set_option maxHeartbeats 4000000 in
theorem tog1_any {w : World} {base : Nat} {v : Value} {qs : List Rat} (wt : Value) (h : RatRow w base v qs) (hs : ∀ q ∈ qs, weeQ q) (hn : 0 < qs.length) (hl : qs.length ≤ 200) :
    Calls Tryz.prog 20 #[.int .i64 1, v, wt] w fun e w' => ∃ v' q, e = .returned (.tuple #[v', .bool true]) ∧ TogR 1 qs q ∧ RatAt w' v' q ∧ Below w.heap.size w w' := by
  obtain ⟨g, c, cur, rs, rfl, hb, hg, hrow, rfl, hrl, hin, hc⟩ := h.form hn
  obtain ⟨m, hm⟩ : ∃ m, rs.length = m := ⟨_, rfl⟩
  rw [List.length_map] at hn hl hc ⊢
  rw [hm] at hn hl hc ⊢
  have hwee : ∀ r ∈ rs, weeQ r.q := fun r hr => hs _ (List.mem_map_of_mem hr)
  have HSz := Lib.hid (sumQ_sz _ hs)
  have HM := Lib.hid hm
  have HB0 := Lib.hid (show Below (w.heap.size + 1) (w.alloc rat0) (w.alloc rat0) from Below.refl _ _)
  have HBw := Lib.hid (show Below w.heap.size w (w.alloc rat0) from (Below.refl _ w).alloc (Nat.le_refl _) _)
  have HS := Lib.hid (fun (Bx : Nat) (W : World) (hW : Below w.heap.size w W) (hbx : Boxed W Bx 54 (.slice (some ⟨g, 0, none⟩) m c)) => sum_any W Bx g m c cur rs hm hc hl hrow hbx (hg.below hW hg.lt) (fun r hr => (hin r hr).keep (KeepT.of_below hW)) hwee)
  clear hg hrow hin hrl h hs hb hm hwee
  go_enter Tryz.func20, Tryz.ntmps20
  go_wp2_with (first
    | (go_at_call 61; refine (each_any _ _ _ _).mono ?_; rintro e w2 ⟨rfl, hw2⟩; have hB2 : Below (w.heap.size + 1) (w.alloc rat0) w2 := (by rw [← hw2]; exact HB0.out.alloc (by simp) _); have hbx : Boxed w2 (w.heap.size + 1) 54 (.slice (some ⟨g, 0, none⟩) m c) := (by rw [← hw2]; have hbn := Boxed.new (w.alloc rat0) 54 (.slice (some ⟨g, 0, none⟩) m c); rwa [World.size_alloc] at hbn); have HS2 := Lib.hid (HS.out _ _ (below_in hB2) hbx); have HB2 := Lib.hid hB2; clear hw2 hB2 hbx HS)
    | (go_at_call 60; refine HS2.out.mono ?_; clear HS2; rintro e w3 ⟨v3, rfl, hN3, hB3⟩; obtain ⟨a3, c3, b3, d3, rfl, hr, hs⟩ := hN3; have HV := Lib.hid (ratAt_mk (c := c3) (d := d3) hr hs); have HB3 := Lib.hid (HB2.out.trans (hB3.mono (by have := HB2.out.size; simpa using this))); have k := rat_free HB3.out; have c0 := k.cell 0; have c1 := k.cell 1; have c2 := k.cell 2; have f0 := k.frozen 0; have f1 := k.frozen 1; have f2 := k.frozen 2; have HK := Lib.hid k; clear k; clear hr hs hB3))
  obtain ⟨r1, r2, r3⟩ := res_rat HK.out rfl (Nat.le_refl _) (below_in HB3.out) HV.out
  exact bodyPost_ret (r_ct rfl rfl (aggRat.load rfl r1)) rfl ⟨_, _, rfl, .inl ⟨rfl, rfl⟩, r2, r3⟩
set_option maxRecDepth 100000 in
set_option maxHeartbeats 4000000 in
theorem tog5_any {w : World} {base : Nat} {v : Value} {qs : List Rat} (wt : Value) (h : RatRow w base v qs) (hs : ∀ q ∈ qs, weeQ q) (hn : 0 < qs.length) (hl : qs.length ≤ 200) :
    Calls Tryz.prog 20 #[.int .i64 5, v, wt] w fun e w' => ∃ v' q, e = .returned (.tuple #[v', .bool true]) ∧ TogR 5 qs q ∧ RatAt w' v' q ∧ Below w.heap.size w w' := by
  obtain ⟨g, c, cur, rs, rfl, hb, hg, hrow, rfl, hrl, hin, hc⟩ := h.form hn
  obtain ⟨m, hm⟩ : ∃ m, rs.length = m := ⟨_, rfl⟩
  rw [List.length_map] at hn hl hc ⊢
  rw [hm] at hn hl hc ⊢
  have hwee : ∀ r ∈ rs, weeQ r.q := fun r hr => hs _ (List.mem_map_of_mem hr)
  have HSz := Lib.hid (sumQ_sz _ hs)
  have HM := Lib.hid hm
  have HB0 := Lib.hid (show Below (w.heap.size + 1) (w.alloc rat0) (w.alloc rat0) from Below.refl _ _)
  have HBw := Lib.hid (show Below w.heap.size w (w.alloc rat0) from (Below.refl _ w).alloc (Nat.le_refl _) _)
  have HS := Lib.hid (fun (Bx : Nat) (W : World) (hW : Below w.heap.size w W) (hbx : Boxed W Bx 54 (.slice (some ⟨g, 0, none⟩) m c)) => most_any W Bx g m c cur rs hm hn hc hl hrow hbx (hg.below hW hg.lt) (fun r hr => (hin r hr).keep (KeepT.of_below hW)) hwee)
  clear hg hrow hin hrl h hs hb hm hwee
  go_enter Tryz.func20, Tryz.ntmps20
  go_wp2_with (first
    | (go_at_call 61; refine (each_any _ _ _ _).mono ?_; rintro e w2 ⟨rfl, hw2⟩; have hB2 : Below (w.heap.size + 1) (w.alloc rat0) w2 := (by rw [← hw2]; exact HB0.out.alloc (by simp) _); have hbx : Boxed w2 (w.heap.size + 1) 54 (.slice (some ⟨g, 0, none⟩) m c) := (by rw [← hw2]; have hbn := Boxed.new (w.alloc rat0) 54 (.slice (some ⟨g, 0, none⟩) m c); rwa [World.size_alloc] at hbn); have HS2 := Lib.hid (HS.out _ _ (below_in hB2) hbx); have HB2 := Lib.hid hB2; clear hw2 hB2 hbx HS)
    | (go_at_call 66; refine HS2.out.mono ?_; clear HS2; rintro e w3 ⟨v3, x, rfl, hp, hN3, hB3⟩; obtain ⟨a3, c3, b3, d3, rfl, hr, hs⟩ := hN3; have HPk := Lib.hid hp; have HV := Lib.hid (ratAt_mk (c := c3) (d := d3) hr hs); have HB3 := Lib.hid (HB2.out.trans (hB3.mono (by have := HB2.out.size; simpa using this))); have k := rat_free HB3.out; have c0 := k.cell 0; have c1 := k.cell 1; have c2 := k.cell 2; have f0 := k.frozen 0; have f1 := k.frozen 1; have f2 := k.frozen 2; have HK := Lib.hid k; clear k; clear hr hs hB3 hp))
  obtain ⟨r1, r2, r3⟩ := res_rat HK.out rfl (Nat.le_refl _) (below_in HB3.out) HV.out
  exact bodyPost_ret (r_ct rfl rfl (aggRat.load rfl r1)) rfl ⟨_, x, rfl, .inr (.inr (.inr (.inl ⟨rfl, HPk.out⟩))), r2, r3⟩
set_option maxRecDepth 100000 in
set_option maxHeartbeats 4000000 in
theorem tog6_any {w : World} {base : Nat} {v : Value} {qs : List Rat} (wt : Value) (h : RatRow w base v qs) (hs : ∀ q ∈ qs, weeQ q) (hn : 0 < qs.length) (hl : qs.length ≤ 200) :
    Calls Tryz.prog 20 #[.int .i64 6, v, wt] w fun e w' => ∃ v' q, e = .returned (.tuple #[v', .bool true]) ∧ TogR 6 qs q ∧ RatAt w' v' q ∧ Below w.heap.size w w' := by
  obtain ⟨g, c, cur, rs, rfl, hb, hg, hrow, rfl, hrl, hin, hc⟩ := h.form hn
  obtain ⟨m, hm⟩ : ∃ m, rs.length = m := ⟨_, rfl⟩
  rw [List.length_map] at hn hl hc ⊢
  rw [hm] at hn hl hc ⊢
  have hwee : ∀ r ∈ rs, weeQ r.q := fun r hr => hs _ (List.mem_map_of_mem hr)
  have HSz := Lib.hid (sumQ_sz _ hs)
  have HM := Lib.hid hm
  have HB0 := Lib.hid (show Below (w.heap.size + 1) (w.alloc rat0) (w.alloc rat0) from Below.refl _ _)
  have HBw := Lib.hid (show Below w.heap.size w (w.alloc rat0) from (Below.refl _ w).alloc (Nat.le_refl _) _)
  have HS := Lib.hid (fun (Bx : Nat) (W : World) (hW : Below w.heap.size w W) (hbx : Boxed W Bx 54 (.slice (some ⟨g, 0, none⟩) m c)) => least_any W Bx g m c cur rs hm hn hc hl hrow hbx (hg.below hW hg.lt) (fun r hr => (hin r hr).keep (KeepT.of_below hW)) hwee)
  clear hg hrow hin hrl h hs hb hm hwee
  go_enter Tryz.func20, Tryz.ntmps20
  go_wp2_with (first
    | (go_at_call 61; refine (each_any _ _ _ _).mono ?_; rintro e w2 ⟨rfl, hw2⟩; have hB2 : Below (w.heap.size + 1) (w.alloc rat0) w2 := (by rw [← hw2]; exact HB0.out.alloc (by simp) _); have hbx : Boxed w2 (w.heap.size + 1) 54 (.slice (some ⟨g, 0, none⟩) m c) := (by rw [← hw2]; have hbn := Boxed.new (w.alloc rat0) 54 (.slice (some ⟨g, 0, none⟩) m c); rwa [World.size_alloc] at hbn); have HS2 := Lib.hid (HS.out _ _ (below_in hB2) hbx); have HB2 := Lib.hid hB2; clear hw2 hB2 hbx HS)
    | (go_at_call 67; refine HS2.out.mono ?_; clear HS2; rintro e w3 ⟨v3, x, rfl, hp, hN3, hB3⟩; obtain ⟨a3, c3, b3, d3, rfl, hr, hs⟩ := hN3; have HPk := Lib.hid hp; have HV := Lib.hid (ratAt_mk (c := c3) (d := d3) hr hs); have HB3 := Lib.hid (HB2.out.trans (hB3.mono (by have := HB2.out.size; simpa using this))); have k := rat_free HB3.out; have c0 := k.cell 0; have c1 := k.cell 1; have c2 := k.cell 2; have f0 := k.frozen 0; have f1 := k.frozen 1; have f2 := k.frozen 2; have HK := Lib.hid k; clear k; clear hr hs hB3 hp))
  obtain ⟨r1, r2, r3⟩ := res_rat HK.out rfl (Nat.le_refl _) (below_in HB3.out) HV.out
  exact bodyPost_ret (r_ct rfl rfl (aggRat.load rfl r1)) rfl ⟨_, x, rfl, .inr (.inr (.inr (.inr ⟨rfl, HPk.out⟩))), r2, r3⟩
set_option maxRecDepth 100000 in
set_option maxHeartbeats 4000000 in
theorem tog2_any {w : World} {base : Nat} {v : Value} {qs : List Rat} (wt : Value) (h : RatRow w base v qs) (hs : ∀ q ∈ qs, weeQ q) (hn : 0 < qs.length) (hl : qs.length ≤ 200) :
    Calls Tryz.prog 20 #[.int .i64 2, v, wt] w fun e w' => ∃ v' q, e = .returned (.tuple #[v', .bool true]) ∧ TogR 2 qs q ∧ RatAt w' v' q ∧ Below w.heap.size w w' := by
  obtain ⟨g, c, cur, rs, rfl, hb, hg, hrow, rfl, hrl, hin, hc⟩ := h.form hn
  obtain ⟨m, hm⟩ : ∃ m, rs.length = m := ⟨_, rfl⟩
  rw [List.length_map] at hn hl hc ⊢
  rw [hm] at hn hl hc ⊢
  have hwee : ∀ r ∈ rs, weeQ r.q := fun r hr => hs _ (List.mem_map_of_mem hr)
  have HSz := Lib.hid (sumQ_sz _ hs)
  have HM := Lib.hid hm
  have HB0 := Lib.hid (show Below (w.heap.size + 1) (w.alloc rat0) (w.alloc rat0) from Below.refl _ _)
  have HBw := Lib.hid (show Below w.heap.size w (w.alloc rat0) from (Below.refl _ w).alloc (Nat.le_refl _) _)
  have HS := Lib.hid (fun (Bx : Nat) (W : World) (hW : Below w.heap.size w W) (hbx : Boxed W Bx 54 (.slice (some ⟨g, 0, none⟩) m c)) => sum_any W Bx g m c cur rs hm hc hl hrow hbx (hg.below hW hg.lt) (fun r hr => (hin r hr).keep (KeepT.of_below hW)) hwee)
  clear hg hrow hin hrl h hs hb hm hwee
  rw [List.length_map, HM.out] at HSz
  have HLen := Lib.hid (show (rs.map (·.q)).length = m by rw [List.length_map]; exact HM.out)
  obtain ⟨S, hS⟩ : ∃ S, sumQ (rs.map (·.q)) = S := ⟨_, rfl⟩
  rw [hS] at HSz HS
  have HSe := Lib.hid hS
  have HIs := Lib.hid (intQ_sz (n := m) (by omega))
  have HI := Lib.hid (fun W => ratInt_any m (by omega) W)
  have HIn := Lib.hid (intQ_ne hn)
  obtain ⟨q, hq⟩ : ∃ q, ((m : Int) : Rat) = q := ⟨_, rfl⟩
  rw [hq] at HIs HI HIn
  have HQ := Lib.hid hq
  have HDc := Lib.hid (show ((divC q : Nat) : Int) = 0 by unfold divC; rw [if_neg HIn.out]; rfl)
  clear hS hq
  go_enter Tryz.func20, Tryz.ntmps20
  go_wp2_with (first
    | (go_at_call 61; refine (each_any _ _ _ _).mono ?_; rintro e w2 ⟨rfl, hw2⟩; have hB2 : Below (w.heap.size + 1) (w.alloc rat0) w2 := (by rw [← hw2]; exact HB0.out.alloc (by simp) _); have hbx : Boxed w2 (w.heap.size + 1) 54 (.slice (some ⟨g, 0, none⟩) m c) := (by rw [← hw2]; have hbn := Boxed.new (w.alloc rat0) 54 (.slice (some ⟨g, 0, none⟩) m c); rwa [World.size_alloc] at hbn); have HS2 := Lib.hid (HS.out _ _ (below_in hB2) hbx); have HB2 := Lib.hid hB2; clear hw2 hB2 hbx HS)
    | (go_at_call 60; refine HS2.out.mono ?_; clear HS2; rintro e w3 ⟨v3, rfl, hN3, hB3⟩; obtain ⟨a3, c3, b3, d3, rfl, hr, hs⟩ := hN3; have HV3 := Lib.hid (ratAt_mk (c := c3) (d := d3) hr hs); have HB3 := Lib.hid (HB2.out.trans (hB3.mono (by have := HB2.out.size; simpa using this))); clear hr hs hB3)
    | (go_at_call 63; refine (HI.out _).mono ?_; clear HI; rintro e w4 ⟨v4, rfl, hN4, hB4⟩; have HDv := Lib.hid (ratDiv_any (HV3.out.below hB4) hN4 (by have := HSz.out.1; omega) (by have := HSz.out.2; omega) (Nat.le_trans HIs.out.1 (by decide)) (Nat.le_trans HIs.out.2 (by decide))); rw [HDc.out] at HDv; have HB4 := Lib.hid (HB3.out.trans (hB4.mono (by have := HB3.out.size; simpa using this))); obtain ⟨a4, c4, b4, d4, rfl, hr, hs⟩ := hN4; clear hr hs hB4)
    | (go_at_call 62; refine HDv.out.mono ?_; clear HDv; rintro e w5 ⟨v5, rfl, hN5, hB5⟩; obtain ⟨a5, c5, b5, d5, rfl, hr, hs⟩ := hN5; have HB5 := Lib.hid (HB4.out.trans (hB5.mono (by have := HB4.out.size; simpa using this))); have HB3 := Lib.hid (HB5.out.alloc (by have := HB5.out.size; simpa using this) (.cells #[.bool (negQ (divP S q)), .slice a5 (szN (numQ (divP S q))) c5, .slice b5 (szN (denQ (divP S q))) d5] 59)); have HV := Lib.hid ((ratAt_mk (c := c5) (d := d5) hr hs).below ((Below.refl _ w5).alloc (Nat.le_refl _) (.cells #[.bool (negQ (divP S q)), .slice a5 (szN (numQ (divP S q))) c5, .slice b5 (szN (denQ (divP S q))) d5] 59))); have kn := BlkAt.new w5 59 #[.bool (negQ (divP S q)), .slice a5 (szN (numQ (divP S q))) c5, .slice b5 (szN (denQ (divP S q))) d5]; have n0 := kn.cell 0; have n1 := kn.cell 1; have n2 := kn.cell 2; have k := rat_free HB3.out; have c0 := k.cell 0; have c1 := k.cell 1; have c2 := k.cell 2; have f0 := k.frozen 0; have f1 := k.frozen 1; have f2 := k.frozen 2; have HK := Lib.hid k; clear k; clear hr hs hB5 kn))
  obtain ⟨r1, r2, r3⟩ := res_rat HK.out rfl (Nat.le_refl _) (below_in HB3.out) HV.out
  exact bodyPost_ret (r_ct rfl rfl (aggRat.load rfl r1)) rfl ⟨_, _, rfl, .inr (.inl ⟨rfl, by rw [HLen.out, HSe.out, HQ.out]⟩), r2, r3⟩
theorem tog_any {w : World} {base : Nat} {v : Value} {qs : List Rat} (m : Int) (wt : Value) (hm : m = 1 ∨ m = 2 ∨ m = 4 ∨ m = 5 ∨ m = 6) (h : RatRow w base v qs) (hs : ∀ q ∈ qs, weeQ q) (hn : 0 < qs.length) (hl : qs.length ≤ 200) :
    Calls Tryz.prog 20 #[.int .i64 m, v, wt] w fun e w' => ∃ v' q, e = .returned (.tuple #[v', .bool true]) ∧ TogR m qs q ∧ RatAt w' v' q ∧ Below w.heap.size w w' := by
  rcases hm with rfl | rfl | rfl | rfl | rfl
  · exact tog1_any wt h hs hn hl
  · exact tog2_any wt h hs hn hl
  · refine (together_med wt h (fun q hq => (hs q hq).tiny) hn (by omega)).mono ?_
    rintro e w' ⟨v', qs', rfl, hp, hso, hr, hB⟩
    exact ⟨v', _, rfl, .inr (.inr (.inl ⟨rfl, qs', hp, hso, rfl⟩)), hr, hB⟩
  · exact tog5_any wt h hs hn hl
  · exact tog6_any wt h hs hn hl
end Go.Proofs.YtjcpfmndkeiegaaGreatDoor
