/- The walk of rat.Sum over a row of fractions. -/
import Derived.Test.YtjcpfmndkeiegaaGreatDoorFoE
import Derived.Test.YtjcpfmndkeiegaaGreatDoorFoQ
namespace Go.Proofs.YtjcpfmndkeiegaaGreatDoor
open Go.RowKit Go.Shelf
set_option linter.unusedVariables false
attribute [local go_sem] Oper.semAt_some

set_option maxRecDepth 100000 in
set_option maxHeartbeats 2000000 in
theorem values2_in {α : Type} (f : α → RatC) (n : Nat) (hn : 1 ≤ n) (l Bx g m cap : Nat) (cur : Array Value) (rs : List α) (hm : rs.length = m) (hml : m ≤ cap) (hlim : m ≤ 1000000) (hcur : RowR cur (rs.map f)) (J Jx : List α → World → Prop)
    (W : World) (hJ : AbidesFrom W.heap.size J) (hJx : AbidesFrom W.heap.size Jx)
    (hY : ∀ pre x W, J pre W → pre.length < rs.length → YieldAt Fence.wide (n - 1) Tryz.prog l (encR (f x)) W fun e W' =>
      (e = .returned (.bool true) ∧ J (pre ++ [x]) W' ∧ KeepG Bx g W W') ∨ (e = .returned (.bool false) ∧ Jx (pre ++ [x]) W'))
    (hb : Boxed W Bx 54 (.slice (some ⟨g, 0, none⟩) m cap)) (hg : BlkAt W g 59 cur) (h0 : J [] W) :
    CallsIn Fence.wide n Tryz.prog 119 #[.func (.yield l) #[] #[], .pointer (some ⟨Bx, 0, none⟩)] W fun e W' => (∃ v, e = .returned v) ∧
      ((∃ ys, ys = rs ∧ J ys W') ∨ (∃ pre, pre <+: rs ∧ Jx pre W')) := by
  have HY := Lib.hid hY
  have HM := Lib.hid hm
  have HC := Lib.hid hcur
  have hc := hb.cell
  have HJ := Lib.hid hJ
  clear hY hm hcur hJ
  refine callsIn_of_wp Tryz.func119 rfl trivial ?_ rfl
  simp only [Tryz.ntmps119, List.size_toArray, List.length_cons, List.length_nil, Nat.reduceAdd, Nat.reduceSub, Array.replicate_succ, Array.replicate_zero, List.push_toArray, List.append_toArray, List.nil_append, List.cons_append]
  have hsz0 := hg.lt
  have hblt := hb.lt
  gi_wp2
  gi_loopw [7] (fun p wr => ∃ k : Nat, p = .int .i64 k ∧ k ≤ m ∧ J (rs.take k) wr ∧ KeepG Bx g W wr) (fun p wr => m - (intOf p).toNat)
  case atStart => exact ⟨0, rfl, by omega, h0, KeepG.refl _ _ _⟩
  case round =>
    obtain ⟨k, rfl, hk, hJr, hkp⟩ := hrel
    have hgr : BlkAt wr g 59 cur := hkp.2.1.trans hg
    by_cases hlt : k < m
    · have hkl : k < rs.length := by have := HM.out; omega
      obtain ⟨p0, p1, p2⟩ := HC.out k (by rw [List.length_map]; exact hkl)
      rw [List.getElem_map] at p0 p1 p2
      have hst : rs.take (k + 1) = rs.take k ++ [rs[k]] := List.take_succ_eq_append_getElem hkl
      obtain ⟨y, hy0⟩ : ∃ y, rs[k] = y := ⟨_, rfl⟩
      rw [hy0] at p0 p1 p2 hst
      obtain ⟨x, hx⟩ : ∃ x, f y = x := ⟨_, rfl⟩
      rw [hx] at p0 p1 p2
      have hlen : (rs.take k).length < rs.length := by simp; omega
      obtain ⟨x0, hx0⟩ : ∃ z, negQ x.q = z := ⟨_, rfl⟩
      obtain ⟨x1, hx1⟩ : ∃ z, szN (numQ x.q) = z := ⟨_, rfl⟩
      obtain ⟨x2, hx2⟩ : ∃ z, szN (denQ x.q) = z := ⟨_, rfl⟩
      obtain ⟨W4, hW4⟩ : ∃ W4, wr.alloc (.cells #[.bool x0, .slice x.a x1 x.c, .slice x.b x2 x.d] 59) = W4 := ⟨_, rfl⟩
      have bd : BlkAt W4 wr.heap.size 59 #[.bool x0, .slice x.a x1 x.c, .slice x.b x2 x.d] := by rw [← hW4]; exact BlkAt.new _ _ _
      have e0 := bd.cell 0
      have e1 := bd.cell 1
      have e2 := bd.cell 2
      have hJ4 : J (rs.take k) W4 := HJ.out _ wr _ none hJr (by rw [← hW4]; exact World.grownBy_alloc wr _ none) (fun r e => by cases e)
      have hk4 : KeepG Bx g W W4 := keepG_t hkp (by
        rw [← hW4]
        exact ⟨Below.heap_alloc wr _ _ (Nat.lt_of_lt_of_le hblt hkp.2.2), Below.heap_alloc wr _ _ (Nat.lt_of_lt_of_le hsz0 hkp.2.2), by simp⟩)
      obtain ⟨fn, tmps, assign, body, hy, hR⟩ := HY.out (rs.take k) y W4 hJ4 hlen
      have HR := Lib.hid hR
      have HS := Lib.hid hst
      have HK4 := Lib.hid hk4
      simp only [encR] at hy
      rw [hx, hx0, hx1, hx2] at hy
      rw [hx0] at p0
      rw [hx1] at p1
      rw [hx2] at p2
      have q0 : wr.cell? ⟨g, k * 3, none⟩ = some (.bool x0) := (hgr.cell _).trans p0
      have q1 : wr.cell? ⟨g, k * 3 + 1, none⟩ = some (.slice x.a x1 x.c) := (hgr.cell _).trans p1
      have q2 : wr.cell? ⟨g, k * 3 + 2, none⟩ = some (.slice x.b x2 x.d) := (hgr.cell _).trans p2
      clear hR hst hlen p0 p1 p2 hy0 hx hx0 hx1 hx2 hJr hkp hk4 hgr
      gi_wp2
      refine HR.out.mono ?_
      rintro e W3 (⟨rfl, hJ3, hk3⟩ | ⟨rfl, hJx3⟩)
      · have hk5 := keepG_t HK4.out hk3
        gi_wp2
        go_roundw
        case rel => exact ⟨k + 1, by go_num, by omega, by rw [HS.out]; exact hJ3, hk5⟩
        case measure => simp [intOf]; omega
      · gi_wp2
        refine bodyPost_ret (results_none rfl _ _ _) rfl ?_
        exact ⟨⟨_, rfl⟩, .inr ⟨_, ⟨_, by rw [← HS.out]; exact List.take_append_drop _ _⟩, hJx3⟩⟩
    · obtain rfl : k = m := by omega
      have hfin : rs.take k = rs := List.take_of_length_le (by have := HM.out; omega)
      have HF := Lib.hid hfin
      clear hfin
      gi_wp2
      go_end0
      exact ⟨⟨_, rfl⟩, .inl ⟨_, HF.out, hJr⟩⟩
theorem values2_stops {α : Type} (f : α → RatC) (n : Nat) (hn : 1 ≤ n) (Bx g m cap : Nat) (cur : Array Value) (rs : List α) (hm : rs.length = m) (hml : m ≤ cap) (hlim : m ≤ 1000000) (hcur : RowR cur (rs.map f)) (w : World)
    (hb : Boxed w Bx 54 (.slice (some ⟨g, 0, none⟩) m cap)) (hg : BlkAt w g 59 cur) :
    SeqStopsK Fence.wide n Tryz.prog 119 #[.pointer (some ⟨Bx, 0, none⟩)] (fun x => encR (f x)) (KeepG Bx g) (fun ys => ys = rs) (fun pre => pre <+: rs) rs.length w :=
  fun l J Jx W hW hJ hJx hY h0 => values2_in f n hn l Bx g m cap cur rs hm hml hlim hcur J Jx W hJ hJx hY ((hW.block Bx hb.lt).trans hb) (hg.below hW hg.lt) h0
theorem KeepT.own {e : TypeId} {W W' : World} {row : Option Nat} (hg : W.grownBy W' row) (hr : ∀ r, row = some r → ∃ o : Obj, W.heap[r]? = some o ∧ o.isCells = false) : KeepT e W W' := fun k cur h1 =>
  (hg.block k (Array.getElem?_eq_some_iff.1 h1).1 (fun e' => by
    obtain ⟨o, ho, hc⟩ := hr k e'.symm
    rw [h1] at ho
    cases ho
    cases hc)).trans h1
/-- A box that holds a fraction. -/
def RatBox (w : World) (B : Nat) (q : Rat) : Prop := ∃ a c b d, BlkAt w B 59 #[.bool (negQ q), .slice a (szN (numQ q)) c, .slice b (szN (denQ q)) d] ∧ RdL w a (limbs (numQ q)) ∧ RdL w b (limbs (denQ q))
theorem RatBox.zero {w : World} {B : Nat} (h : BlkAt w B 59 #[.bool false, .slice none 0 0, .slice none 0 0]) : RatBox w B 0 :=
  ⟨none, 0, none, 0, by rw [num_zero, den_zero, szN_zero, neg_zero]; exact h, by rw [num_zero, limbs_zero]; exact RdL.nil w, by rw [den_zero, limbs_zero]; exact RdL.nil w⟩
theorem RatBox.own {W W' : World} {B : Nat} {q : Rat} {row : Option Nat} (h : RatBox W B q) (hg : W.grownBy W' row) (hr : ∀ r, row = some r → ∃ o : Obj, W.heap[r]? = some o ∧ o.isCells = false) : RatBox W' B q := by
  obtain ⟨a, c, b, d, h1, h2, h3⟩ := h
  exact ⟨a, c, b, d, blk_own B _ (fun (_ : Unit) => _) () W W' row h1 hg hr, h2.keep (KeepT.own hg hr), h3.keep (KeepT.own hg hr)⟩
theorem RatBox.below {W W' : World} {B : Nat} {q : Rat} (h : RatBox W B q) (hB : Below W.heap.size W W') : RatBox W' B q := by
  obtain ⟨a, c, b, d, h1, h2, h3⟩ := h
  exact ⟨a, c, b, d, h1.below hB h1.lt, h2.below hB, h3.below hB⟩
theorem RatBox.mk {w : World} {B : Nat} {v0 v1 v2 : Value} {q : Rat} (h : BlkAt w B 59 #[v0, v1, v2]) (h2 : RatAt w (.agg #[v0, v1, v2]) q) : RatBox w B q := by
  obtain ⟨a, c, b, d, he, h3, h4⟩ := h2
  simp only [Value.agg.injEq, Array.mk.injEq, List.cons.injEq, and_true] at he
  obtain ⟨rfl, rfl, rfl⟩ := he
  exact ⟨a, c, b, d, h, h3, h4⟩
theorem RatBox.lt {W : World} {B : Nat} {q : Rat} (h : RatBox W B q) : B < W.heap.size := by
  obtain ⟨a, c, b, d, h1, h2, h3⟩ := h
  exact h1.lt
/-- The sum of some is not too great. -/
theorem sumQ_sz (qs : List Rat) : (∀ q ∈ qs, weeQ q) → szN (numQ (sumQ qs)) ≤ 1202 * (qs.length + 1) ∧ szN (sumQ qs).den ≤ 1200 * qs.length + 1 := by
  refine snoc_ind (P := fun qs => (∀ q ∈ qs, weeQ q) → szN (numQ (sumQ qs)) ≤ 1202 * (qs.length + 1) ∧ szN (sumQ qs).den ≤ 1200 * qs.length + 1) ?_ ?_ qs
  · intro _
    exact ⟨by show szN (numQ 0) ≤ _; rw [num_zero, szN_zero]; omega, by show szN (0 : Rat).den ≤ _; exact Nat.le_trans szN_one (by simp)⟩
  · intro l a ih h
    have ih := ih (fun q hq => h q (List.mem_append.2 (.inl hq)))
    have ha := h a (by simp)
    rw [sumQ_snoc, List.length_append, List.length_singleton]
    obtain ⟨h1, h2⟩ := addQ_le (sumQ l) a
    have e1 := szN_mul (numQ (sumQ l)) a.den
    have e2 := szN_mul (numQ a) (sumQ l).den
    have e3 := szN_mul (sumQ l).den a.den
    have e4 := szN_add (numQ (sumQ l) * a.den) (numQ a * (sumQ l).den)
    have e5 := szN_mono h1
    have e6 := szN_mono h2
    obtain ⟨i1, i2⟩ := ih
    obtain ⟨a1, a2⟩ := ha
    exact ⟨by omega, by omega⟩
/-- A fraction as it lay in w. -/
abbrev RIn (w : World) := { r : RatC // RatIn w r ∧ weeQ r.q }
def rin (w : World) (rs : List RatC) (h : ∀ r ∈ rs, RatIn w r ∧ weeQ r.q) : List (RIn w) := rs.pmap (fun r hr => ⟨r, hr⟩) h
theorem rin_map (w : World) (rs : List RatC) (h : ∀ r ∈ rs, RatIn w r ∧ weeQ r.q) : (rin w rs h).map (fun x => x.1) = rs := by
  unfold rin
  rw [List.map_pmap]
  simp
theorem rin_len (w : World) (rs : List RatC) (h : ∀ r ∈ rs, RatIn w r ∧ weeQ r.q) : (rin w rs h).length = rs.length := by
  unfold rin; simp
theorem rin_q (w : World) (rs : List RatC) (h : ∀ r ∈ rs, RatIn w r ∧ weeQ r.q) : (rin w rs h).map (fun x => x.1.q) = rs.map (·.q) := by
  conv => rhs; rw [← rin_map w rs h]
  rw [List.map_map]
  rfl
theorem wee_pre {w : World} (pre : List (RIn w)) : ∀ q ∈ pre.map (fun x => x.1.q), weeQ q := fun q hq => by
  obtain ⟨x, -, rfl⟩ := List.mem_map.1 hq
  exact x.2.2
set_option maxRecDepth 100000 in
set_option maxHeartbeats 4000000 in
theorem sum_any (w : World) (Bx g m cap : Nat) (cur : Array Value) (rs : List RatC) (hm : rs.length = m) (hml : m ≤ cap) (hlim : m ≤ 200) (hcur : RowR cur rs)
    (hb : Boxed w Bx 54 (.slice (some ⟨g, 0, none⟩) m cap)) (hg : BlkAt w g 59 cur) (hin : ∀ r ∈ rs, RatIn w r) (hwee : ∀ r ∈ rs, weeQ r.q) :
    Calls Tryz.prog 60 #[.func (.func 119) #[] #[.pointer (some ⟨Bx, 0, none⟩)]] w fun e W' =>
      ∃ v, e = .returned v ∧ RatAt W' v (sumQ (rs.map (·.q))) ∧ Below w.heap.size w W' := by
  have hall : ∀ r ∈ rs, RatIn w r ∧ weeQ r.q := fun r hr => ⟨hin r hr, hwee r hr⟩
  obtain ⟨ps, hps⟩ : ∃ ps, rin w rs hall = ps := ⟨_, rfl⟩
  have hpl : ps.length = m := by rw [← hps, rin_len, hm]
  have hpm : ps.map (fun x => x.1) = rs := by rw [← hps, rin_map]
  have hpq : rs.map (·.q) = ps.map (fun x => x.1.q) := by rw [← hps, rin_q]
  rw [hpq]
  rw [← hpm] at hcur
  clear hin hwee hm hall hps hpm hpq
  refine (callsIn_wide (n := 3)).1 ?_
  refine callsIn_of_wp_marks Tryz.func60 rfl trivial ?_ rfl
  simp only [Tryz.ntmps60, List.size_toArray, List.length_cons, List.length_nil, Nat.reduceAdd, Nat.reduceSub, Array.replicate_succ, Array.replicate_zero, List.push_toArray, List.append_toArray, List.nil_append, List.cons_append]
  have hnf : ∀ w : World, (binOp .eql 95 (.func (.func 119) #[] #[.pointer (some ⟨Bx, 0, none⟩)]) .nilFunc).run Tryz.prog w = .ok (.bool false) w := fun _ => by kernel_rfl
  gi_wp2
  obtain ⟨W0, hW0⟩ : ∃ W0, (w.alloc rat0).alloc rat0 = W0 := ⟨_, rfl⟩
  have hB0 : Below w.heap.size w W0 := by rw [← hW0]; exact ((Below.refl _ w).alloc (Nat.le_refl _) _).alloc (by simp) _
  have kr : BlkAt W0 w.heap.size 59 #[.bool false, .slice none 0 0, .slice none 0 0] := by rw [← hW0]; exact (BlkAt.new w _ _).alloc _
  have ko : BlkAt W0 (w.heap.size + 1) 59 #[.bool false, .slice none 0 0, .slice none 0 0] := by
    rw [← hW0]
    have := BlkAt.new (w.alloc rat0) 59 #[.bool false, .slice none 0 0, .slice none 0 0]
    simpa using this
  have hz0 : W0.heap.size = w.heap.size + 2 := by rw [← hW0]; simp
  have hbl := hb.lt
  have hgl := hg.lt
  have hb0 : Boxed W0 Bx 54 (.slice (some ⟨g, 0, none⟩) m cap) := (hB0.block Bx hbl).trans hb
  have hg0 : BlkAt W0 g 59 cur := hg.below hB0 hgl
  rw [hW0]
  clear hW0 hnf
  have hkg : ∀ {A B : World}, Below w.heap.size A B → KeepG Bx g A B := fun h => ⟨h.block _ hbl, h.block _ hgl, h.size⟩
  refine wpIn_rangeFunc_ownH rfl (by omega) (gf := 119) (lb := #[.pointer (some ⟨Bx, 0, none⟩)]) rfl trivial (enters_of Tryz.func119 (by kernel_rfl) rfl)
    (values2_stops (fun x : RIn w => x.1) 2 (by omega) Bx g m cap cur ps hpl hml (by omega) hcur W0 hb0 hg0) keepG_t (keepG_b (by omega) (by omega)) (Below.refl _ _) (fun _ => rfl)
    (fun pre W => RatBox W (w.heap.size + 1) (sumQ (pre.map (fun x => x.1.q))) ∧ BlkAt W w.heap.size 59 #[.bool false, .slice none 0 0, .slice none 0 0] ∧ Below w.heap.size w W)
    (fun c pre W => False)
    ?hI ?hIx ⟨RatBox.zero ko, kr, hB0⟩
    (fun x a' W => ∃ Bd, BlkAt W Bd 59 #[.bool (negQ x.1.q), .slice x.1.a (szN (numQ x.1.q)) x.1.c, .slice x.1.b (szN (denQ x.1.q)) x.1.d] ∧
      a' = { tmps := #[.func (.func 119) #[] #[.pointer (some ⟨Bx, 0, none⟩)], undef, .pointer (some ⟨w.heap.size, 0, none⟩), .pointer (some ⟨w.heap.size + 1, 0, none⟩), .pointer (some ⟨Bd, 0, none⟩), .func (.func 119) #[] #[.pointer (some ⟨Bx, 0, none⟩)], .bool false, undef, .func (.func 119) #[] #[.pointer (some ⟨Bx, 0, none⟩)], .agg #[.bool (negQ x.1.q), .slice x.1.a (szN (numQ x.1.q)) x.1.c, .slice x.1.b (szN (denQ x.1.q)) x.1.d], undef, undef, undef, undef], defers := [] })
    ?hAx ?assign ?body ?done ?stop
  case hI =>
    intro pre W W' row hs hg hr
    obtain ⟨h1, h2, h3⟩ := hs
    exact ⟨h1.own hg (fun r e => (hr r e).2), blk_own _ _ (fun (_ : Unit) => _) () W W' row h2 hg (fun r e => (hr r e).2), h3.grown hg h3.size (fun k e => by have := (hr k e).1; omega)⟩
  case hIx =>
    intro c pre W W' row hs hg hr
    exact hs
  case hAx =>
    intro x a' u W W' row hs hg hr
    obtain ⟨Bd, h1, h2⟩ := hs
    exact ⟨Bd, blk_own (β := Unit) _ _ (fun _ => _) () W W' row h1 hg (fun r e => (hr r e).2), h2⟩
  case assign =>
    rintro l pre x W K ⟨h1, h2, hB⟩ hK
    simp only [encR]
    gi_wp2
    exact hK _ _ ((KeepsOthers.alloc W _).from _) (hkg ((Below.refl _ W).alloc hB.size _)) ⟨h1.below ((Below.refl _ W).alloc (Nat.le_refl _) _), h2.alloc _, hB.alloc hB.size _⟩ ⟨W.heap.size, BlkAt.new _ _ _, rfl⟩
  case body =>
    rintro l pre y a' W hl hpre ⟨h1, h2, hB⟩ ⟨Bd, hd, rfl⟩ hlt
    obtain ⟨a, c, b, d, hbx, hra, hrb⟩ := h1
    have hsz := sumQ_sz _ (wee_pre pre)
    have hsn : sumQ ((pre ++ [y]).map fun x => x.1.q) = sumQ (pre.map fun x => x.1.q) + y.1.q := by rw [List.map_append]; exact sumQ_snoc _ _
    have hxi := y.2.1
    have hxw := y.2.2
    obtain ⟨x, hx⟩ : ∃ x, y.1 = x := ⟨_, rfl⟩
    rw [hx] at hd hxi hxw hsn ⊢
    obtain ⟨S, hS⟩ : ∃ S, sumQ (pre.map fun x => x.1.q) = S := ⟨_, rfl⟩
    rw [hS] at hbx hra hrb hsz hsn
    have HSn := Lib.hid hsn
    rw [List.length_map] at hsz
    rw [hpl] at hlt
    have HA := Lib.hid (ratAdd_any (ratAt_mk (c := c) (d := d) hra hrb) (hxi.keep (KeepT.of_below hB)).rat (by omega) (by omega) (Nat.le_trans hxw.1 (by decide)) (Nat.le_trans hxw.2 (by decide)))
    have e0 := hbx.cell 0
    have e1 := hbx.cell 1
    have e2 := hbx.cell 2
    have d0 := hd.cell 0
    have d1 := hd.cell 1
    have d2 := hd.cell 2
    have H1 := Lib.hid hbx
    have H2 := Lib.hid h2
    have HB := Lib.hid hB
    clear hbx h2 hB hb hg hb0 hg0 hcur hd hra hrb hS hsz kr ko hxi hxw hx hsn hB0
    gi_wp2_with (refine ⟨trivial, ?_⟩; gi_at_call 97; refine (callsIn_wide.2 HA.out).mono ?_; clear HA; rintro e w1 ⟨v1, rfl, hN, hB1⟩; obtain ⟨a1, c1, b1, d1, rfl, hr1, hs1⟩ := hN; have k1 := H1.out.below hB1 H1.out.lt; have f0 := k1.frozen 0; have f1 := k1.frozen 1; have f2 := k1.frozen 2; have e0 := k1.cell 0; have e1 := k1.cell 1; have e2 := k1.cell 2; have HK1 := Lib.hid k1; have HR := Lib.hid (ratAt_mk (c := c1) (d := d1) hr1 hs1); have HB1 := Lib.hid hB1; clear k1 hr1 hs1 hB1)
    obtain ⟨r1, r2, r3⟩ := res_rat HK1.out rfl (by omega : w.heap.size ≤ w.heap.size + 1) (HB1.out.mono HB.out.size) HR.out
    refine ⟨((KeepsOthers.of_grownBy (grown_none HB1.out) (fun j o e => by cases e)).trans (((KeepsOthers.setCell _ _ _).trans (KeepsOthers.setCell _ _ _)).trans (KeepsOthers.setCell _ _ _))).from _, hkg r3, RatBox.mk r1 (by rw [HSn.out]; exact r2), ?_, HB.out.trans r3⟩
    exact (((H2.out.below HB1.out H2.out.lt).far (p := ⟨w.heap.size + 1, 0, none⟩) (by simp) _).far (p := ⟨w.heap.size + 1, 1, none⟩) (by simp) _).far (p := ⟨w.heap.size + 1, 2, none⟩) (by simp) _
  case done =>
    rintro D ys W hD rfl ⟨h1, h2, hB⟩ hK
    obtain ⟨a, c, b, d, hbx, hra, hrb⟩ := h1
    obtain ⟨S, hS⟩ : ∃ S, sumQ (ys.map fun x => x.1.q) = S := ⟨_, rfl⟩
    rw [hS] at hbx hra hrb
    have HS := Lib.hid hS
    have e0 := hbx.cell 0
    have e1 := hbx.cell 1
    have e2 := hbx.cell 2
    have f0 := h2.frozen 0
    have f1 := h2.frozen 1
    have f2 := h2.frozen 2
    have c0 := h2.cell 0
    have c1 := h2.cell 1
    have c2 := h2.cell 2
    obtain ⟨r1, r2, r3⟩ := res_rat h2 rfl (Nat.le_refl _) hB (ratAt_mk (c := c) (d := d) hra hrb)
    clear hS hcur
    gi_wp2
    obtain ⟨Y, hY⟩ : ∃ Y, ((W.setCell ⟨w.heap.size, 0, none⟩ (.bool (negQ S))).setCell ⟨w.heap.size, 1, none⟩ (.slice a (szN (numQ S)) c)).setCell ⟨w.heap.size, 2, none⟩ (.slice b (szN (denQ S)) d) = Y := ⟨_, rfl⟩
    rw [hY] at r1 r2 r3 ⊢
    have hlD := (Array.getElem?_eq_some_iff.1 hK).1
    have hYD : Y.heap[D]? = some (.deferred (some [])) := by
      rw [← hY, Below.heap_setCell _ _ _ _ (by simp; omega), Below.heap_setCell _ _ _ _ (by simp; omega), Below.heap_setCell _ _ _ _ (by simp; omega)]
      exact hK
    have hBD : Below W0.heap.size Y (Y.putObj D (.deferred none)) := belowK_b (w := W0) (Nat.le_refl _) Y D _ _ hD hYD rfl rfl
    refine ⟨by simp, .inl ⟨_, _, rfl, run_takeDeferred hYD, ?_⟩⟩
    refine ⟨_, r_c rfl rfl (aggRat.load rfl (r1.below hBD (by omega))), _, rfl, ?_, r3.trans (hBD.mono (by omega))⟩
    rw [HS.out]
    exact r2.keep (KeepT.own (grownBy_putObj' Y D _) (fun r e => ⟨_, by cases e; exact hYD, rfl⟩))
  case stop =>
    rintro D c pre W hD hpre h hK
    exact h.elim
end Go.Proofs.YtjcpfmndkeiegaaGreatDoor
