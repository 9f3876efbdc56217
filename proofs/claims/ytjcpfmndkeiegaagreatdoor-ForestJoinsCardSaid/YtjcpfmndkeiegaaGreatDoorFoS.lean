/- The walks of rat.pick, Most, Least over a row of fractions. -/
import Derived.Test.YtjcpfmndkeiegaaGreatDoorFoR
import Derived.Deep.QuietTactic
import Derived.BigQuiet
namespace Go.Proofs.YtjcpfmndkeiegaaGreatDoor
open Go.RowKit Go.Shelf
set_option linter.unusedVariables false
attribute [local go_sem] Oper.semAt_some

theorem blk_far3 {W : World} {g B : Nat} {t : TypeId} {cs : Array Value} (h : BlkAt W g t cs) (hne : g ≠ B) (u0 u1 u2 : Value) : BlkAt (((W.setCell ⟨B, 0, none⟩ u0).setCell ⟨B, 1, none⟩ u1).setCell ⟨B, 2, none⟩ u2) g t cs :=
  ((h.far (p := ⟨B, 0, none⟩) hne _).far (p := ⟨B, 1, none⟩) hne _).far (p := ⟨B, 2, none⟩) hne _
theorem keeps3 (W : World) (B : Nat) (u0 u1 u2 : Value) : KeepsOthers W (((W.setCell ⟨B, 0, none⟩ u0).setCell ⟨B, 1, none⟩ u1).setCell ⟨B, 2, none⟩ u2) :=
  ((KeepsOthers.setCell _ _ _).trans (KeepsOthers.setCell _ _ _)).trans (KeepsOthers.setCell _ _ _)
/-- What pick holds. -/
def PickI (w0 : World) (way : Int) (qs : List Rat) (W : World) : Prop := ∃ (f : Bool) (x : Rat), RatBox W (w0.heap.size + 2) x ∧ BlkAt W (w0.heap.size + 3) 4 #[.bool f] ∧ (f = false ∧ qs = [] ∧ x = 0 ∨ f = true ∧ IsPick way qs x) ∧
  BlkAt W w0.heap.size 3 #[.int .i64 way] ∧ BlkAt W (w0.heap.size + 1) 59 #[.bool false, .slice none 0 0, .slice none 0 0] ∧ Below w0.heap.size w0 W
theorem PickI.drew {w0 : World} {way : Int} {qs : List Rat} {W : World} (h : PickI w0 way qs W) : PickI w0 way qs W.drew := by
  obtain ⟨f, x, h1, h2, h3, h4, h5, h6⟩ := h
  exact ⟨f, x, h1, h2, h3, h4, h5, h6.drew⟩
/-- One was taken. -/
theorem pick_took {w w1 : World} {way : Int} {qs : List Rat} {f : Bool} {cs : Array Value} {x : RatC} (hbx : BlkAt w1 (w.heap.size + 2) 59 cs) (hcs : cs.size = 3) (h2 : BlkAt w1 (w.heap.size + 3) 4 #[.bool f])
    (h4 : BlkAt w1 w.heap.size 3 #[.int .i64 way]) (h5 : BlkAt w1 (w.heap.size + 1) 59 #[.bool false, .slice none 0 0, .slice none 0 0]) (hB : Below w.heap.size w w1) (hx : RatIn w1 x) (hp : IsPick way (qs ++ [x.q]) x.q) :
    PickI w way (qs ++ [x.q]) ((((w1.setCell ⟨w.heap.size + 2, 0, none⟩ (.bool (negQ x.q))).setCell ⟨w.heap.size + 2, 1, none⟩ (.slice x.a (szN (numQ x.q)) x.c)).setCell ⟨w.heap.size + 2, 2, none⟩ (.slice x.b (szN (denQ x.q)) x.d)).setCell ⟨w.heap.size + 3, 0, none⟩ (.bool true)) ∧
    KeepsOthers w1 ((((w1.setCell ⟨w.heap.size + 2, 0, none⟩ (.bool (negQ x.q))).setCell ⟨w.heap.size + 2, 1, none⟩ (.slice x.a (szN (numQ x.q)) x.c)).setCell ⟨w.heap.size + 2, 2, none⟩ (.slice x.b (szN (denQ x.q)) x.d)).setCell ⟨w.heap.size + 3, 0, none⟩ (.bool true)) ∧
    Below w.heap.size w1 ((((w1.setCell ⟨w.heap.size + 2, 0, none⟩ (.bool (negQ x.q))).setCell ⟨w.heap.size + 2, 1, none⟩ (.slice x.a (szN (numQ x.q)) x.c)).setCell ⟨w.heap.size + 2, 2, none⟩ (.slice x.b (szN (denQ x.q)) x.d)).setCell ⟨w.heap.size + 3, 0, none⟩ (.bool true)) := by
  obtain ⟨r1, r2, r3⟩ := res_rat hbx hcs (by omega : w.heap.size ≤ w.heap.size + 2) (Below.refl w.heap.size w1) (ratAt_mk (c := x.c) (d := x.d) hx.1 hx.2)
  have k2 := blk_far3 h2 (B := w.heap.size + 2) (by omega) (.bool (negQ x.q)) (.slice x.a (szN (numQ x.q)) x.c) (.slice x.b (szN (denQ x.q)) x.d)
  have k4 := blk_far3 h4 (B := w.heap.size + 2) (by omega) (.bool (negQ x.q)) (.slice x.a (szN (numQ x.q)) x.c) (.slice x.b (szN (denQ x.q)) x.d)
  have k5 := blk_far3 h5 (B := w.heap.size + 2) (by omega) (.bool (negQ x.q)) (.slice x.a (szN (numQ x.q)) x.c) (.slice x.b (szN (denQ x.q)) x.d)
  have ko := keeps3 w1 (w.heap.size + 2) (.bool (negQ x.q)) (.slice x.a (szN (numQ x.q)) x.c) (.slice x.b (szN (denQ x.q)) x.d)
  obtain ⟨Y, hY⟩ : ∃ Y, ((w1.setCell ⟨w.heap.size + 2, 0, none⟩ (.bool (negQ x.q))).setCell ⟨w.heap.size + 2, 1, none⟩ (.slice x.a (szN (numQ x.q)) x.c)).setCell ⟨w.heap.size + 2, 2, none⟩ (.slice x.b (szN (denQ x.q)) x.d) = Y := ⟨_, rfl⟩
  rw [hY] at r1 r2 r3 k2 k4 k5 ko ⊢
  have hk := KeepT.blk k2 (show 133 ≠ 4 by decide) (grow_set Y (w.heap.size + 3) 0 (.bool true))
  have h3 := r3.setCell (p := ⟨w.heap.size + 3, 0, none⟩) (show w.heap.size ≤ w.heap.size + 3 by omega) (.bool true)
  exact ⟨⟨true, x.q, RatBox.mk (r1.far (p := ⟨w.heap.size + 3, 0, none⟩) (by simp) _) (r2.keep hk), k2.set 0 _, .inr ⟨rfl, hp⟩, k4.far (p := ⟨w.heap.size + 3, 0, none⟩) (by simp) _, k5.far (p := ⟨w.heap.size + 3, 0, none⟩) (by simp) _, hB.trans h3⟩,
    ko.trans (KeepsOthers.setCell _ _ _), h3⟩
set_option maxRecDepth 100000 in
set_option maxHeartbeats 4000000 in
theorem pick_any (w : World) (Bx g m cap : Nat) (cur : Array Value) (rs : List RatC) (way : Int) (hw : way = 1 ∨ way = -1) (hm : rs.length = m) (h0 : 0 < m) (hml : m ≤ cap) (hlim : m ≤ 200) (hcur : RowR cur rs)
    (hb : Boxed w Bx 54 (.slice (some ⟨g, 0, none⟩) m cap)) (hg : BlkAt w g 59 cur) (hin : ∀ r ∈ rs, RatIn w r) (hwee : ∀ r ∈ rs, weeQ r.q) :
    Calls Tryz.prog 105 #[.func (.func 119) #[] #[.pointer (some ⟨Bx, 0, none⟩)], .int .i64 way] w fun e W' =>
      ∃ v x, e = .returned (.tuple #[v, .bool true]) ∧ IsPick way (rs.map (·.q)) x ∧ RatAt W' v x ∧ Below w.heap.size w W' := by
  have hall : ∀ r ∈ rs, RatIn w r ∧ weeQ r.q := fun r hr => ⟨hin r hr, hwee r hr⟩
  obtain ⟨ps, hps⟩ : ∃ ps, rin w rs hall = ps := ⟨_, rfl⟩
  have hpl : ps.length = m := by rw [← hps, rin_len, hm]
  have hpm : ps.map (fun x => x.1) = rs := by rw [← hps, rin_map]
  have hpq : rs.map (·.q) = ps.map (fun x => x.1.q) := by rw [← hps, rin_q]
  rw [hpq]
  rw [← hpm] at hcur
  clear hin hwee hm hall hps hpm hpq
  refine (callsIn_wide (n := 3)).1 ?_
  refine callsIn_of_wp_marks Tryz.func105 rfl trivial ?_ rfl
  simp only [Tryz.ntmps105, List.size_toArray, List.length_cons, List.length_nil, Nat.reduceAdd, Nat.reduceSub, Array.replicate_succ, Array.replicate_zero, List.push_toArray, List.append_toArray, List.nil_append, List.cons_append]
  have hnf : ∀ w : World, (binOp .eql 95 (.func (.func 119) #[] #[.pointer (some ⟨Bx, 0, none⟩)]) .nilFunc).run Tryz.prog w = .ok (.bool false) w := fun _ => by kernel_rfl
  have HW := Lib.hid hw
  clear hw
  gi_wp2
  obtain ⟨W0, hW0⟩ : ∃ W0, (((w.alloc (.cells #[.int .i64 way] 3)).alloc rat0).alloc rat0).alloc (.cells #[.bool false] 4) = W0 := ⟨_, rfl⟩
  have hB0 : Below w.heap.size w W0 := by rw [← hW0]; exact ((((Below.refl _ w).alloc (Nat.le_refl _) _).alloc (by simp) _).alloc (by simp; omega) _).alloc (by simp; omega) _
  have kw : BlkAt W0 w.heap.size 3 #[.int .i64 way] := by rw [← hW0]; exact (((BlkAt.new w _ _).alloc _).alloc _).alloc _
  have kr : BlkAt W0 (w.heap.size + 1) 59 #[.bool false, .slice none 0 0, .slice none 0 0] := by
    rw [← hW0]
    have := BlkAt.new (w.alloc (.cells #[.int .i64 way] 3)) 59 #[.bool false, .slice none 0 0, .slice none 0 0]
    rw [World.size_alloc] at this
    exact (this.alloc _).alloc _
  have ko : BlkAt W0 (w.heap.size + 2) 59 #[.bool false, .slice none 0 0, .slice none 0 0] := by
    rw [← hW0]
    have := BlkAt.new ((w.alloc (.cells #[.int .i64 way] 3)).alloc rat0) 59 #[.bool false, .slice none 0 0, .slice none 0 0]
    rw [World.size_alloc, World.size_alloc] at this
    exact this.alloc _
  have kf : BlkAt W0 (w.heap.size + 3) 4 #[.bool false] := by
    rw [← hW0]
    have := BlkAt.new (((w.alloc (.cells #[.int .i64 way] 3)).alloc rat0).alloc rat0) 4 #[.bool false]
    rw [World.size_alloc, World.size_alloc, World.size_alloc] at this
    exact this
  have hz0 : W0.heap.size = w.heap.size + 4 := by rw [← hW0]; simp
  have hbl := hb.lt
  have hgl := hg.lt
  have hb0 : Boxed W0 Bx 54 (.slice (some ⟨g, 0, none⟩) m cap) := (hB0.block Bx hbl).trans hb
  have hg0 : BlkAt W0 g 59 cur := hg.below hB0 hgl
  rw [hW0]
  clear hW0 hnf
  have hkg : ∀ {A B : World}, Below w.heap.size A B → KeepG Bx g A B := fun h => ⟨h.block _ hbl, h.block _ hgl, h.size⟩
  refine wpIn_rangeFunc_ownH rfl (by omega) (gf := 119) (lb := #[.pointer (some ⟨Bx, 0, none⟩)]) rfl trivial (enters_of Tryz.func119 (by kernel_rfl) rfl)
    (values2_stops (fun x : RIn w => x.1) 2 (by omega) Bx g m cap cur ps hpl hml (by omega) hcur W0 hb0 hg0) keepG_t (keepG_b (by omega) (by omega)) (Below.refl _ _) (fun _ => rfl)
    (fun pre W => PickI w way (pre.map (fun x => x.1.q)) W)
    (fun c pre W => False)
    ?hI ?hIx ⟨false, 0, RatBox.zero ko, kf, .inl ⟨rfl, rfl, rfl⟩, kw, kr, hB0⟩
    (fun x a' W => ∃ Bd, BlkAt W Bd 59 #[.bool (negQ x.1.q), .slice x.1.a (szN (numQ x.1.q)) x.1.c, .slice x.1.b (szN (denQ x.1.q)) x.1.d] ∧ w.heap.size + 4 ≤ Bd ∧
      a' = { tmps := #[.func (.func 119) #[] #[.pointer (some ⟨Bx, 0, none⟩)], .int .i64 way, undef, .pointer (some ⟨w.heap.size, 0, none⟩), .pointer (some ⟨w.heap.size + 1, 0, none⟩), .bool false, .pointer (some ⟨w.heap.size + 1 + 1, 0, none⟩), .pointer (some ⟨w.heap.size + 1 + 1 + 1, 0, none⟩), .pointer (some ⟨Bd, 0, none⟩), .func (.func 119) #[] #[.pointer (some ⟨Bx, 0, none⟩)], .bool false, undef, .func (.func 119) #[] #[.pointer (some ⟨Bx, 0, none⟩)], .agg #[.bool (negQ x.1.q), .slice x.1.a (szN (numQ x.1.q)) x.1.c, .slice x.1.b (szN (denQ x.1.q)) x.1.d], undef, undef, undef, undef, undef, undef, undef, undef, undef, undef, undef, undef], defers := [] })
    ?hAx ?assign ?body ?done ?stop
  case hI =>
    intro pre W W' row hs hg hr
    obtain ⟨f, x, h1, h2, h3, h4, h5, h6⟩ := hs
    exact ⟨f, x, h1.own hg (fun r e => (hr r e).2), blk_own _ _ (fun (_ : Unit) => _) () W W' row h2 hg (fun r e => (hr r e).2), h3, blk_own _ _ (fun (_ : Unit) => _) () W W' row h4 hg (fun r e => (hr r e).2), blk_own _ _ (fun (_ : Unit) => _) () W W' row h5 hg (fun r e => (hr r e).2), h6.grown hg h6.size (fun k e => by have := (hr k e).1; omega)⟩
  case hIx =>
    intro c pre W W' row hs hg hr
    exact hs
  case hAx =>
    intro x a' u W W' row hs hg hr
    obtain ⟨Bd, h1, h2, h3⟩ := hs
    exact ⟨Bd, blk_own (β := Unit) _ _ (fun _ => _) () W W' row h1 hg (fun r e => (hr r e).2), h2, h3⟩
  case assign =>
    rintro l pre x W K ⟨f, y, h1, h2, h3, h4, h5, h6⟩ hK
    have hsz := h2.lt
    simp only [encR]
    gi_wp2
    exact hK _ _ ((KeepsOthers.alloc W _).from _) (hkg ((Below.refl _ W).alloc h6.size _)) ⟨f, y, h1.below ((Below.refl _ W).alloc (Nat.le_refl _) _), h2.alloc _, h3, h4.alloc _, h5.alloc _, h6.alloc h6.size _⟩ ⟨W.heap.size, BlkAt.new _ _ _, by omega, rfl⟩
  case body =>
    rintro l pre y a' W hl hpre ⟨f, S, h1, h2, h3, h4, h5, hB⟩ ⟨Bd, hd, hBd, rfl⟩ hlt
    obtain ⟨a, c, b, d, hbx, hra, hrb⟩ := h1
    have hap : (pre ++ [y]).map (fun x => x.1.q) = pre.map (fun x => x.1.q) ++ [y.1.q] := by rw [List.map_append]; rfl
    have hxi := y.2.1
    have hxw := y.2.2
    have hwp := wee_pre pre
    obtain ⟨x, hx⟩ : ∃ x, y.1 = x := ⟨_, rfl⟩
    rw [hx] at hd hxi hxw hap ⊢
    have HAp := Lib.hid hap
    have HXI := Lib.hid (hxi.keep (KeepT.of_below hB))
    have e0 := hbx.cell 0
    have e1 := hbx.cell 1
    have e2 := hbx.cell 2
    have g0 := hbx.frozen 0
    have g1 := hbx.frozen 1
    have g2 := hbx.frozen 2
    have d0 := hd.cell 0
    have d1 := hd.cell 1
    have d2 := hd.cell 2
    have f0 := h2.cell 0
    have f1 := h2.frozen 0
    have w0 := h4.cell 0
    have HD := Lib.hid hd
    have H1 := Lib.hid hbx
    have H2 := Lib.hid h2
    have H4 := Lib.hid h4
    have H5 := Lib.hid h5
    have HB := Lib.hid hB
    have HRA := Lib.hid hra
    have HRB := Lib.hid hrb
    have hmx : Tryz.prog.follows .mixedOrders = true := by kernel_rfl
    clear hbx h2 h4 h5 hB hb hg hb0 hg0 hcur hd hra hrb kr ko kw kf hxi hx hap hB0
    rcases h3 with ⟨rfl, hpn, rfl⟩ | ⟨rfl, hpk⟩
    · have HPn := Lib.hid hpn
      clear hpn hwp
      gi_wp2
      gi_region_with_o (refine ⟨trivial, ?_⟩)
      gi_wp2
      all_goals
        have hT := pick_took (way := way) (qs := pre.map fun x => x.1.q) H1.out rfl H2.out H4.out H5.out HB.out HXI.out (by rw [HPn.out]; exact isPick_one HW.out x.q)
        exact ⟨(hT.2.1.trans (KeepsOthers.drew _)).from _, hkg hT.2.2.drew, by show PickI w way ((pre ++ [y]).map fun x => x.1.q) _; rw [HAp.out]; exact hT.1.drew⟩
    · have hSw : weeQ S := hwp S hpk.1
      have HPk := Lib.hid hpk
      have HC := Lib.hid (fun (W1 : World) (hW : Below W.heap.size W W1) => ratCmp_any (w := W1) (HXI.out.rat.below hW) ((ratAt_mk (c := c) (d := d) HRA.out HRB.out).below hW) (Nat.le_trans hxw.1 (by decide)) (Nat.le_trans hxw.2 (by decide)) (Nat.le_trans hSw.1 (by decide)) (Nat.le_trans hSw.2 (by decide)))
      obtain ⟨z, hz⟩ : ∃ z, cmpQ x.q S = z := ⟨_, rfl⟩
      rw [hz] at HC
      have HZ := Lib.hid hz
      clear hpk hz hSw hwp
      by_cases hzw : z = way
      · have hzb : (z == way) = true := beq_iff_eq.2 hzw
        have HZw := Lib.hid hzw
        clear hzw
        gi_wp2
        gi_region_with_o (refine ⟨trivial, ?_⟩; gi_at_call 104; refine (callsIn_wide.2 (HC.out _ (by first | exact Below.refl _ _ | exact (Below.refl _ _).drew | exact (Below.refl _ _).drewN _))).mono ?_; rintro e w1 ⟨rfl, hB1⟩; have w0 := (H4.out.drew.below hB1 H4.out.lt).cell 0; have k1 := H1.out.drew.below hB1 H1.out.lt; have e0 := k1.cell 0; have e1 := k1.cell 1; have e2 := k1.cell 2; have g0 := k1.frozen 0; have g1 := k1.frozen 1; have g2 := k1.frozen 2; have kd := HD.out.drew.below hB1 HD.out.lt; have d0 := kd.cell 0; have d1 := kd.cell 1; have d2 := kd.cell 2; have kf := H2.out.drew.below hB1 H2.out.lt; have f0 := kf.cell 0; have f1 := kf.frozen 0; have K1 := Lib.hid k1; have KF := Lib.hid kf; have HB1 := Lib.hid hB1; clear k1 kd kf hB1)
        all_goals gi_wp2
        all_goals
          have hB2 : Below W.heap.size W w1 := ((Below.refl _ W).drew).trans HB1.out
          have hT := pick_took (way := way) (qs := pre.map fun x => x.1.q) K1.out rfl KF.out (H4.out.below hB2 H4.out.lt) (H5.out.below hB2 H5.out.lt) (HB.out.trans (hB2.mono HB.out.size)) (HXI.out.keep (KeepT.of_below hB2)) (isPick_take HW.out HPk.out (by rw [HZ.out, HZw.out]))
          exact ⟨((KeepsOthers.of_grownBy (grown_none hB2) (fun j o e => by cases e)).trans hT.2.1).from _, hkg ((hB2.mono HB.out.size).trans hT.2.2), by show PickI w way ((pre ++ [y]).map fun x => x.1.q) _; rw [HAp.out]; exact hT.1⟩
      · have hzb : (z == way) = false := beq_eq_false_iff_ne.2 hzw
        have HZw := Lib.hid hzw
        clear hzw
        gi_wp2
        gi_region_with_o (refine ⟨trivial, ?_⟩; gi_at_call 104; refine (callsIn_wide.2 (HC.out _ (by first | exact Below.refl _ _ | exact (Below.refl _ _).drew | exact (Below.refl _ _).drewN _))).mono ?_; rintro e w1 ⟨rfl, hB1⟩; have w0 := (H4.out.drew.below hB1 H4.out.lt).cell 0; have k1 := H1.out.drew.below hB1 H1.out.lt; have e0 := k1.cell 0; have e1 := k1.cell 1; have e2 := k1.cell 2; have g0 := k1.frozen 0; have g1 := k1.frozen 1; have g2 := k1.frozen 2; have kd := HD.out.drew.below hB1 HD.out.lt; have d0 := kd.cell 0; have d1 := kd.cell 1; have d2 := kd.cell 2; have kf := H2.out.drew.below hB1 H2.out.lt; have f0 := kf.cell 0; have f1 := kf.frozen 0; have K1 := Lib.hid k1; have KF := Lib.hid kf; have HB1 := Lib.hid hB1; clear k1 kd kf hB1)
        all_goals gi_wp2
        all_goals
          have hB2 : Below W.heap.size W w1 := ((Below.refl _ W).drew).trans HB1.out
          exact ⟨(KeepsOthers.of_grownBy (grown_none hB2) (fun j o e => by cases e)).from _, hkg (hB2.mono HB.out.size), by
            show PickI w way ((pre ++ [y]).map fun x => x.1.q) _
            rw [HAp.out]
            exact ⟨true, S, RatBox.mk K1.out ((ratAt_mk (c := c) (d := d) HRA.out HRB.out).below hB2), KF.out, .inr ⟨rfl, isPick_keep HPk.out (by rw [HZ.out]; exact HZw.out)⟩, H4.out.below hB2 H4.out.lt, H5.out.below hB2 H5.out.lt, HB.out.trans (hB2.mono HB.out.size)⟩⟩
  case done =>
    rintro D ys W hD rfl ⟨f, S, h1, h2, h3, h4, h5, hB⟩ hK
    obtain ⟨rfl, hpk⟩ : f = true ∧ IsPick way (ys.map fun x => x.1.q) S := by
      rcases h3 with ⟨-, hn, -⟩ | h
      · have := congrArg List.length hn
        rw [List.length_map, hpl] at this
        simp at this
        omega
      · exact h
    obtain ⟨a, c, b, d, hbx, hra, hrb⟩ := h1
    have e0 := hbx.cell 0
    have e1 := hbx.cell 1
    have e2 := hbx.cell 2
    have f0 := h5.frozen 0
    have f1 := h5.frozen 1
    have f2 := h5.frozen 2
    have c0 := h5.cell 0
    have c1 := h5.cell 1
    have c2 := h5.cell 2
    have b0 := h2.cell 0
    obtain ⟨r1, r2, r3⟩ := res_rat h5 rfl (by omega : w.heap.size ≤ w.heap.size + 1) hB (ratAt_mk (c := c) (d := d) hra hrb)
    have HPk := Lib.hid hpk
    clear hpk hcur h3 h0
    gi_wp2
    gi_region
    all_goals gi_wp2
    all_goals
      obtain ⟨Y, hY⟩ : ∃ Y, (((W.setCell ⟨w.heap.size + 1, 0, none⟩ (.bool (negQ S))).setCell ⟨w.heap.size + 1, 1, none⟩ (.slice a (szN (numQ S)) c)).setCell ⟨w.heap.size + 1, 2, none⟩ (.slice b (szN (denQ S)) d)).drew = Y := ⟨_, rfl⟩
      have r1 : BlkAt Y (w.heap.size + 1) 59 #[.bool (negQ S), .slice a (szN (numQ S)) c, .slice b (szN (denQ S)) d] := by rw [← hY]; exact r1
      have r2 : RatAt Y (.agg #[.bool (negQ S), .slice a (szN (numQ S)) c, .slice b (szN (denQ S)) d]) S := by rw [← hY]; exact r2
      have r3 : Below w.heap.size w Y := by rw [← hY]; exact r3.drew
      have hYD : Y.heap[D]? = some (.deferred (some [])) := by
        rw [← hY]
        show (((W.setCell ⟨w.heap.size + 1, 0, none⟩ (.bool (negQ S))).setCell ⟨w.heap.size + 1, 1, none⟩ (.slice a (szN (numQ S)) c)).setCell ⟨w.heap.size + 1, 2, none⟩ (.slice b (szN (denQ S)) d)).heap[D]? = _
        rw [Below.heap_setCell _ _ _ _ (by simp; omega), Below.heap_setCell _ _ _ _ (by simp; omega), Below.heap_setCell _ _ _ _ (by simp; omega)]
        exact hK
      rw [hY]
      have hBD : Below W0.heap.size Y (Y.putObj D (.deferred none)) := belowK_b (w := W0) (Nat.le_refl _) Y D _ _ hD hYD rfl rfl
      refine ⟨by simp, .inl ⟨_, _, rfl, run_takeDeferred hYD, ?_⟩⟩
      refine ⟨_, r_ct rfl rfl (aggRat.load rfl (r1.below hBD (by omega))), _, S, rfl, HPk.out, ?_, r3.trans (hBD.mono (by omega))⟩
      exact r2.keep (KeepT.own (grownBy_putObj' Y D _) (fun r e => ⟨_, by cases e; exact hYD, rfl⟩))
  case stop =>
    rintro D c pre W hD hpre h hK
    exact h.elim
set_option maxRecDepth 100000 in
set_option maxHeartbeats 4000000 in
theorem most_any (w : World) (Bx g m cap : Nat) (cur : Array Value) (rs : List RatC) (hm : rs.length = m) (h0 : 0 < m) (hml : m ≤ cap) (hlim : m ≤ 200) (hcur : RowR cur rs)
    (hb : Boxed w Bx 54 (.slice (some ⟨g, 0, none⟩) m cap)) (hg : BlkAt w g 59 cur) (hin : ∀ r ∈ rs, RatIn w r) (hwee : ∀ r ∈ rs, weeQ r.q) :
    Calls Tryz.prog 66 #[.func (.func 119) #[] #[.pointer (some ⟨Bx, 0, none⟩)]] w fun e W' =>
      ∃ v x, e = .returned (.tuple #[v, .bool true]) ∧ IsPick (1) (rs.map (·.q)) x ∧ RatAt W' v x ∧ Below w.heap.size w W' := by
  have HB0 := Lib.hid (show Below (w.heap.size + 1) (w.alloc rat0) (w.alloc rat0) from Below.refl _ _)
  have hB1 : Below w.heap.size w (w.alloc rat0) := (Below.refl _ w).alloc (Nat.le_refl _) _
  have HP := Lib.hid (pick_any (w.alloc rat0) Bx g m cap cur rs (1) (by decide) hm h0 hml hlim hcur ((hB1.block Bx hb.lt).trans hb) (hg.below hB1 hg.lt) (fun r hr => (hin r hr).keep (KeepT.of_below hB1)) hwee)
  clear hb hg hin hwee hcur hB1 hm h0
  go_enter Tryz.func66, Tryz.ntmps66
  go_wp2_with (go_at_call 105; refine HP.out.mono ?_; clear HP; rintro e w3 ⟨v3, x, rfl, hp, hN3, hB3⟩; obtain ⟨a3, c3, b3, d3, rfl, hr, hs⟩ := hN3; have HV := Lib.hid (ratAt_mk (c := c3) (d := d3) hr hs); have HPk := Lib.hid hp; have HB3 := Lib.hid (HB0.out.trans (hB3.mono (by simp))); have k := rat_free HB3.out; have c0 := k.cell 0; have c1 := k.cell 1; have c2 := k.cell 2; have f0 := k.frozen 0; have f1 := k.frozen 1; have f2 := k.frozen 2; have HK := Lib.hid k; clear hp hr hs hB3 k)
  obtain ⟨r1, r2, r3⟩ := res_rat HK.out rfl (Nat.le_refl _) (below_in HB3.out) HV.out
  exact bodyPost_ret (r_ct rfl rfl (aggRat.load rfl r1)) rfl ⟨_, x, rfl, HPk.out, r2, r3⟩
set_option maxRecDepth 100000 in
set_option maxHeartbeats 4000000 in
theorem least_any (w : World) (Bx g m cap : Nat) (cur : Array Value) (rs : List RatC) (hm : rs.length = m) (h0 : 0 < m) (hml : m ≤ cap) (hlim : m ≤ 200) (hcur : RowR cur rs)
    (hb : Boxed w Bx 54 (.slice (some ⟨g, 0, none⟩) m cap)) (hg : BlkAt w g 59 cur) (hin : ∀ r ∈ rs, RatIn w r) (hwee : ∀ r ∈ rs, weeQ r.q) :
    Calls Tryz.prog 67 #[.func (.func 119) #[] #[.pointer (some ⟨Bx, 0, none⟩)]] w fun e W' =>
      ∃ v x, e = .returned (.tuple #[v, .bool true]) ∧ IsPick (-1) (rs.map (·.q)) x ∧ RatAt W' v x ∧ Below w.heap.size w W' := by
  have HB0 := Lib.hid (show Below (w.heap.size + 1) (w.alloc rat0) (w.alloc rat0) from Below.refl _ _)
  have hB1 : Below w.heap.size w (w.alloc rat0) := (Below.refl _ w).alloc (Nat.le_refl _) _
  have HP := Lib.hid (pick_any (w.alloc rat0) Bx g m cap cur rs (-1) (by decide) hm h0 hml hlim hcur ((hB1.block Bx hb.lt).trans hb) (hg.below hB1 hg.lt) (fun r hr => (hin r hr).keep (KeepT.of_below hB1)) hwee)
  clear hb hg hin hwee hcur hB1 hm h0
  go_enter Tryz.func67, Tryz.ntmps67
  go_wp2_with (go_at_call 105; refine HP.out.mono ?_; clear HP; rintro e w3 ⟨v3, x, rfl, hp, hN3, hB3⟩; obtain ⟨a3, c3, b3, d3, rfl, hr, hs⟩ := hN3; have HV := Lib.hid (ratAt_mk (c := c3) (d := d3) hr hs); have HPk := Lib.hid hp; have HB3 := Lib.hid (HB0.out.trans (hB3.mono (by simp))); have k := rat_free HB3.out; have c0 := k.cell 0; have c1 := k.cell 1; have c2 := k.cell 2; have f0 := k.frozen 0; have f1 := k.frozen 1; have f2 := k.frozen 2; have HK := Lib.hid k; clear hp hr hs hB3 k)
  obtain ⟨r1, r2, r3⟩ := res_rat HK.out rfl (Nat.le_refl _) (below_in HB3.out) HV.out
  exact bodyPost_ret (r_ct rfl rfl (aggRat.load rfl r1)) rfl ⟨_, x, rfl, HPk.out, r2, r3⟩
end Go.Proofs.YtjcpfmndkeiegaaGreatDoor
