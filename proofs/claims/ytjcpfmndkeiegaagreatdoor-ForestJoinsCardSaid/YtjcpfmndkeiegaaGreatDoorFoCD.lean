/- The iterator slices.Values over fractions: its contract, at the wide fence. The walks of slices.AppendSeq, Collect, SortedFunc over fractions. -/
import Derived.RangeFuncNested
import Derived.RangeFuncBound
import Derived.RangeFuncCalls
import Derived.RangeFuncLeaves
import Derived.RangeFuncBox
import Derived.Shelf.Abstract
import Derived.Shelf.RegionOpen
import Derived.OwnWalk
import Derived.OwnWalkIn
import Derived.TacticsInMore
import Derived.LoopNIn
import Derived.LoopIn
import Derived.Maps.AppendAt
import Derived.Test.YtjcpfmndkeiegaaGreatDoorFoB
import Derived.Test.YtjcpfmndkeiegaaGreatDoorIt
import Derived.RegionIn
import Derived.BigRegionIn
namespace Go.Proofs.YtjcpfmndkeiegaaGreatDoor
open Go.RowKit Go.Shelf
set_option linter.unusedVariables false
attribute [local go_sem] Oper.semAt_some

/-- Two blocks lie as they lay. -/
def KeepG (B g : Nat) (W W' : World) : Prop := KeepB B W W' ∧ KeepB g W W' ∧ W.heap.size ≤ W'.heap.size
theorem keepG_t {B g : Nat} {a b c : World} (h : KeepG B g a b) (k : KeepG B g b c) : KeepG B g a c := ⟨keepB_t h.1 k.1, keepB_t h.2.1 k.2.1, Nat.le_trans h.2.2 k.2.2⟩
theorem keepG_b {B g : Nat} {w : World} (hB : B < w.heap.size) (hg : g < w.heap.size) (W : World) (l : Nat) (o o' : Obj) (hl : w.heap.size ≤ l) (h : W.heap[l]? = some o) (h1 : o.isCells = false) (h2 : o.isWalk = false) : KeepG B g W (W.putObj l o') :=
  ⟨keepB_b hB W l o o' hl h h1 h2, keepB_b hg W l o o' hl h h1 h2, (grownBy_putObj' W l o').size⟩
theorem KeepG.refl (B g : Nat) (W : World) : KeepG B g W W := ⟨rfl, rfl, Nat.le_refl _⟩
abbrev encR (x : RatC) : Array Value := #[.agg #[.bool (negQ x.q), .slice x.a (szN (numQ x.q)) x.c, .slice x.b (szN (denQ x.q)) x.d]]
/-- A block's cells are those of fractions. -/
def RowR (cur : Array Value) (rs : List RatC) : Prop := ∀ k (h : k < rs.length), cur[k * 3]? = some (.bool (negQ rs[k].q)) ∧ cur[k * 3 + 1]? = some (.slice rs[k].a (szN (numQ rs[k].q)) rs[k].c) ∧ cur[k * 3 + 2]? = some (.slice rs[k].b (szN (denQ rs[k].q)) rs[k].d)
set_option maxRecDepth 100000 in
set_option maxHeartbeats 2000000 in
theorem values1_in (n : Nat) (hn : 1 ≤ n) (l Bx g m cap : Nat) (cur : Array Value) (rs : List RatC) (hm : rs.length = m) (hml : m ≤ cap) (hlim : m ≤ 1000000) (hcur : RowR cur rs) (J Jx : List RatC → World → Prop)
    (W : World) (hJ : AbidesFrom W.heap.size J) (hJx : AbidesFrom W.heap.size Jx)
    (hY : ∀ pre x W, J pre W → pre.length < rs.length → YieldAt Fence.wide (n - 1) Tryz.prog l (encR x) W fun e W' =>
      (e = .returned (.bool true) ∧ J (pre ++ [x]) W' ∧ KeepG Bx g W W') ∨ (e = .returned (.bool false) ∧ Jx (pre ++ [x]) W'))
    (hb : Boxed W Bx 54 (.slice (some ⟨g, 0, none⟩) m cap)) (hg : BlkAt W g 59 cur) (h0 : J [] W) :
    CallsIn Fence.wide n Tryz.prog 119 #[.func (.yield l) #[] #[], .pointer (some ⟨Bx, 0, none⟩)] W fun e W' => (∃ v, e = .returned v) ∧
      ((∃ ys, ys = rs ∧ J ys W') ∨ (∃ pre, pre <+: rs ∧ Jx pre W')) := by
  have HY := Lib.hid hY
  have HM := Lib.hid hm
  have HC := Lib.hid hcur
  have hc := hb.cell
  have HJ := Lib.hid hJ
  clear hY hm hcur hJ
  refine callsIn_of_wp Tryz.func119 rfl trivial ?_ rfl
  simp only [Tryz.ntmps119, List.size_toArray, List.length_cons, List.length_nil, Nat.reduceAdd, Nat.reduceSub, Array.replicate_succ, Array.replicate_zero, List.push_toArray, List.append_toArray, List.nil_append, List.cons_append]
  have hsz0 := hg.lt
  have hblt := hb.lt
  gi_wp2
  gi_loopw [7] (fun p wr => ∃ k : Nat, p = .int .i64 k ∧ k ≤ m ∧ J (rs.take k) wr ∧ KeepG Bx g W wr) (fun p wr => m - (intOf p).toNat)
  case atStart => exact ⟨0, rfl, by omega, h0, KeepG.refl _ _ _⟩
  case round =>
    obtain ⟨k, rfl, hk, hJr, hkp⟩ := hrel
    have hgr : BlkAt wr g 59 cur := hkp.2.1.trans hg
    by_cases hlt : k < m
    · have hkl : k < rs.length := by have := HM.out; omega
      obtain ⟨p0, p1, p2⟩ := HC.out k hkl
      have hst : rs.take (k + 1) = rs.take k ++ [rs[k]] := List.take_succ_eq_append_getElem hkl
      obtain ⟨x, hx⟩ : ∃ x, rs[k] = x := ⟨_, rfl⟩
      rw [hx] at p0 p1 p2 hst
      have hlen : (rs.take k).length < rs.length := by simp; omega
      obtain ⟨x0, hx0⟩ : ∃ z, negQ x.q = z := ⟨_, rfl⟩
      obtain ⟨x1, hx1⟩ : ∃ z, szN (numQ x.q) = z := ⟨_, rfl⟩
      obtain ⟨x2, hx2⟩ : ∃ z, szN (denQ x.q) = z := ⟨_, rfl⟩
      obtain ⟨W4, hW4⟩ : ∃ W4, wr.alloc (.cells #[.bool x0, .slice x.a x1 x.c, .slice x.b x2 x.d] 59) = W4 := ⟨_, rfl⟩
      have bd : BlkAt W4 wr.heap.size 59 #[.bool x0, .slice x.a x1 x.c, .slice x.b x2 x.d] := by rw [← hW4]; exact BlkAt.new _ _ _
      have e0 := bd.cell 0
      have e1 := bd.cell 1
      have e2 := bd.cell 2
      have hJ4 : J (rs.take k) W4 := HJ.out _ wr _ none hJr (by rw [← hW4]; exact World.grownBy_alloc wr _ none) (fun r e => by cases e)
      have hk4 : KeepG Bx g W W4 := keepG_t hkp (by
        rw [← hW4]
        exact ⟨Below.heap_alloc wr _ _ (Nat.lt_of_lt_of_le hblt hkp.2.2), Below.heap_alloc wr _ _ (Nat.lt_of_lt_of_le hsz0 hkp.2.2), by simp⟩)
      obtain ⟨fn, tmps, assign, body, hy, hR⟩ := HY.out (rs.take k) x W4 hJ4 hlen
      have HR := Lib.hid hR
      have HS := Lib.hid hst
      have HK4 := Lib.hid hk4
      simp only [encR] at hy
      rw [hx0, hx1, hx2] at hy
      rw [hx0] at p0
      rw [hx1] at p1
      rw [hx2] at p2
      have q0 : wr.cell? ⟨g, k * 3, none⟩ = some (.bool x0) := (hgr.cell _).trans p0
      have q1 : wr.cell? ⟨g, k * 3 + 1, none⟩ = some (.slice x.a x1 x.c) := (hgr.cell _).trans p1
      have q2 : wr.cell? ⟨g, k * 3 + 2, none⟩ = some (.slice x.b x2 x.d) := (hgr.cell _).trans p2
      clear hR hst hlen p0 p1 p2 hx hx0 hx1 hx2 hJr hkp hk4 hgr
      gi_wp2
      refine HR.out.mono ?_
      rintro e W3 (⟨rfl, hJ3, hk3⟩ | ⟨rfl, hJx3⟩)
      · have hk5 := keepG_t HK4.out hk3
        gi_wp2
        go_roundw
        case rel => exact ⟨k + 1, by go_num, by omega, by rw [HS.out]; exact hJ3, hk5⟩
        case measure => simp [intOf]; omega
      · gi_wp2
        refine bodyPost_ret (results_none rfl _ _ _) rfl ?_
        exact ⟨⟨_, rfl⟩, .inr ⟨_, ⟨_, by rw [← HS.out]; exact List.take_append_drop _ _⟩, hJx3⟩⟩
    · obtain rfl : k = m := by omega
      have hfin : rs.take k = rs := List.take_of_length_le (by have := HM.out; omega)
      have HF := Lib.hid hfin
      clear hfin
      gi_wp2
      go_end0
      exact ⟨⟨_, rfl⟩, .inl ⟨_, HF.out, hJr⟩⟩
theorem values_any (a : Option Addr) (n c : Nat) (w : World) :
    Calls Tryz.prog 98 #[.slice a n c] w fun e w' => e = .returned (.func (.func 119) #[] #[.pointer (some ⟨w.heap.size, 0, none⟩)]) ∧ w.alloc (.cells #[.slice a n c] 54) = w' := by
  go_enter Tryz.func98, Tryz.ntmps98
  go_wp2
  go_ret
  exact ⟨rfl, rfl⟩
theorem values_stops (n : Nat) (hn : 1 ≤ n) (Bx g m cap : Nat) (cur : Array Value) (rs : List RatC) (hm : rs.length = m) (hml : m ≤ cap) (hlim : m ≤ 1000000) (hcur : RowR cur rs) (w : World)
    (hb : Boxed w Bx 54 (.slice (some ⟨g, 0, none⟩) m cap)) (hg : BlkAt w g 59 cur) :
    SeqStopsK Fence.wide n Tryz.prog 119 #[.pointer (some ⟨Bx, 0, none⟩)] encR (KeepG Bx g) (fun ys => ys = rs) (fun pre => pre <+: rs) rs.length w :=
  fun l J Jx W hW hJ hJx hY h0 => values1_in n hn l Bx g m cap cur rs hm hml hlim hcur J Jx W hJ hJx hY ((hW.block Bx hb.lt).trans hb) (hg.below hW hg.lt) h0
end Go.Proofs.YtjcpfmndkeiegaaGreatDoor
namespace Go.Proofs.YtjcpfmndkeiegaaGreatDoor
open Go.RowKit Go.Shelf
set_option linter.unusedVariables false
attribute [local go_sem] Oper.semAt_some

set_option maxRecDepth 100000 in
theorem slR : SlT Tryz.prog 54 59 3 56 := SlT.mk Tryz.underlying54 (z := .agg #[.bool false, .slice none 0 0, .slice none 0 0]) (by kernel_rfl) rfl (by decide) (by decide)
set_option maxRecDepth 100000 in
set_option maxHeartbeats 4000000 in
theorem appendSeq_any (w : World) (Bx g m cap : Nat) (cur : Array Value) (rs : List RatC) (hm : rs.length = m) (hml : m ≤ cap) (hlim : m ≤ 1000000) (hcur : RowR cur rs)
    (hb : Boxed w Bx 54 (.slice (some ⟨g, 0, none⟩) m cap)) (hg : BlkAt w g 59 cur) :
    Calls Tryz.prog 132 #[.slice none 0 0, .func (.func 119) #[] #[.pointer (some ⟨Bx, 0, none⟩)]] w fun e W' =>
      ∃ v, e = .returned v ∧ W'.ownsRow w.heap.size 59 3 v rs.length (rs.flatMap cellsC) ∧ Below w.heap.size w W' := by
  refine (callsIn_wide (n := 3)).1 ?_
  refine callsIn_of_wp_marks Tryz.func132 rfl trivial ?_ rfl
  simp only [Tryz.ntmps132, List.size_toArray, List.length_cons, List.length_nil, Nat.reduceAdd, Nat.reduceSub, Array.replicate_succ, Array.replicate_zero, List.push_toArray, List.append_toArray, List.nil_append, List.cons_append]
  gi_wp2
  obtain ⟨W0, hW0⟩ : ∃ W0, w.alloc (.cells #[.slice none 0 0] 54) = W0 := ⟨_, rfl⟩
  have hB0 : Below w.heap.size w W0 := by rw [← hW0]; exact (Below.refl _ w).alloc (Nat.le_refl _) _
  have k0 : Boxed W0 w.heap.size 54 (.slice none 0 0) := by rw [← hW0]; exact Boxed.new w _ _
  have hz0 : W0.heap.size = w.heap.size + 1 := by rw [← hW0]; simp
  have hbl := hb.lt
  have hgl := hg.lt
  have hb0 : Boxed W0 Bx 54 (.slice (some ⟨g, 0, none⟩) m cap) := (hB0.block Bx hbl).trans hb
  have hg0 : BlkAt W0 g 59 cur := hg.below hB0 hgl
  rw [hW0]
  clear hW0
  have hkg : ∀ {A B : World}, Below w.heap.size A B → KeepG Bx g A B := fun h => ⟨h.block _ hbl, h.block _ hgl, h.size⟩
  refine wpIn_rangeFunc_ownH rfl (by omega) (gf := 119) (lb := #[.pointer (some ⟨Bx, 0, none⟩)]) rfl trivial (enters_of Tryz.func119 (by kernel_rfl) rfl)
    (values_stops 2 (by omega) Bx g m cap cur rs hm hml hlim hcur W0 hb0 hg0) keepG_t (keepG_b (by omega) (by omega)) (Below.refl _ _) (fun _ => rfl)
    (fun pre W => (∃ v, Boxed W w.heap.size 54 v ∧ W.ownsRow w.heap.size 59 3 v pre.length (pre.flatMap cellsC)) ∧ Below w.heap.size w W)
    (fun c pre W => False)
    ?hI ?hIx ⟨⟨_, k0, World.ownsRow_nil _ _ _ _⟩, hB0⟩
    (fun x a' W => ∃ Bd, BlkAt W Bd 59 #[.bool (negQ x.q), .slice x.a (szN (numQ x.q)) x.c, .slice x.b (szN (denQ x.q)) x.d] ∧
      a' = { tmps := #[.slice none 0 0, .func (.func 119) #[] #[.pointer (some ⟨Bx, 0, none⟩)], .pointer (some ⟨w.heap.size, 0, none⟩), undef, .slice none 0 0, .pointer (some ⟨Bd, 0, none⟩), .func (.func 119) #[] #[.pointer (some ⟨Bx, 0, none⟩)], .agg #[.bool (negQ x.q), .slice x.a (szN (numQ x.q)) x.c, .slice x.b (szN (denQ x.q)) x.d], undef, undef, undef, undef, undef], defers := [] })
    ?hAx ?assign ?body ?done ?stop
  case hI =>
    intro pre W W' row hs hg hr
    obtain ⟨⟨v, h1, h2⟩, h3⟩ := hs
    exact ⟨⟨v, boxed_own (β := Unit) _ _ (fun _ => v) () W W' row h1 hg (fun r e => (hr r e).2), row_own (β := Unit) _ _ _ v (fun _ => pre.length) (fun _ => pre.flatMap cellsC) () W W' row h2 hg (fun r e => (hr r e).2)⟩, h3.grown hg h3.size (fun k e => by have := (hr k e).1; omega)⟩
  case hIx =>
    intro c pre W W' row hs hg hr
    exact hs
  case hAx =>
    intro x a' u W W' row hs hg hr
    obtain ⟨Bd, h1, h2⟩ := hs
    exact ⟨Bd, blk_own (β := Unit) _ _ (fun _ => _) () W W' row h1 hg (fun r e => (hr r e).2), h2⟩
  case assign =>
    rintro l pre x W K ⟨⟨v, h1, h2⟩, hB⟩ hK
    simp only [encR]
    gi_wp2
    exact hK _ _ ((KeepsOthers.alloc W _).from _) (hkg ((Below.refl _ W).alloc hB.size _)) ⟨⟨v, h1.alloc _, h2.alloc _⟩, hB.alloc hB.size _⟩ ⟨W.heap.size, BlkAt.new _ _ _, rfl⟩
  case body =>
    rintro l pre x a' W hl hpre ⟨⟨v, h1, h2⟩, hB⟩ ⟨Bd, hd, rfl⟩ hlt
    have hc := h1.cell
    have hf := h1.frozen
    have d0 := hd.cell 0
    have d1 := hd.cell 1
    have d2 := hd.cell 2
    have hkl : (pre.length + 1) * 56 ≤ 140737488355328 := by omega
    have H1 := Lib.hid h1
    have H2 := Lib.hid h2
    have HB := Lib.hid hB
    clear h1 h2 hB hb hg hb0 hg0 hcur hd k0
    gi_wp2_with (gi_at_builtin; refine wpListIn_app _ rfl _ _ _ _ _ _ slR rfl w.heap.size (by have := HB.out.size; simp; omega) _ _ _ rfl (H2.out.alloc _) ⟨W.heap.size, 0, none⟩ [.bool (negQ x.q), .slice x.a (szN (numQ x.q)) x.c, .slice x.b (szN (denQ x.q)) x.d] rfl rfl ?c1 ?c2 ?c3 ?_)
    case c1 => exact news_blk (BlkAt.new W 59 #[.bool (negQ x.q), .slice x.a (szN (numQ x.q)) x.c, .slice x.b (szN (denQ x.q)) x.d])
    case c2 => intro u hu; simp at hu; rcases hu with rfl | rfl | rfl <;> rfl
    case c3 => exact hkl
    intro g6 c6 w6 ho6 hg6
    obtain ⟨j1, j2, j3, j4, j5⟩ := Boxed.appended H1.out (by decide) H2.out HB.out.size (Nat.le_refl _) ho6 hg6
    have jc := j1.cell
    have jf := j1.frozen
    gi_wp2
    exact ⟨j4.from _, hkg j5, ⟨_, j2, by simpa [cellsC] using j3⟩, HB.out.trans j5⟩
  case done =>
    rintro D ys W hD rfl ⟨⟨v, h1, h2⟩, hB⟩ hK
    have hc := h1.cell
    gi_wp2
    refine ⟨by simp, .inl ⟨_, _, rfl, run_takeDeferred hK, ?_⟩⟩
    exact ⟨_, results_tmp rfl _ _ _, v, rfl, ownsRow_putObj h2 _ hK rfl, hB.trans (belowK_b (w := w) (Nat.le_refl _) W D _ _ (by omega) hK rfl rfl)⟩
  case stop =>
    rintro D c pre W hD hpre h hK
    exact h.elim
set_option maxRecDepth 100000 in
set_option maxHeartbeats 2000000 in
theorem collect_any (w : World) (Bx g m cap : Nat) (cur : Array Value) (rs : List RatC) (hm : rs.length = m) (hml : m ≤ cap) (hlim : m ≤ 1000000) (hcur : RowR cur rs)
    (hb : Boxed w Bx 54 (.slice (some ⟨g, 0, none⟩) m cap)) (hg : BlkAt w g 59 cur) :
    Calls Tryz.prog 120 #[.func (.func 119) #[] #[.pointer (some ⟨Bx, 0, none⟩)]] w fun e W' =>
      ∃ v, e = .returned v ∧ W'.ownsRow w.heap.size 59 3 v rs.length (rs.flatMap cellsC) ∧ Below w.heap.size w W' := by
  have HA := Lib.hid (appendSeq_any w Bx g m cap cur rs hm hml hlim hcur hb hg)
  clear hb hg hcur
  go_enter Tryz.func120, Tryz.ntmps120
  go_wp2_with (go_at_call 132; refine HA.out.mono ?_; clear HA; rintro e w3 ⟨v, rfl, ho, hB⟩; have HO := Lib.hid ho; have HB := Lib.hid hB; clear ho hB)
  go_ret
  exact ⟨_, rfl, HO.out, HB.out⟩
set_option maxRecDepth 100000 in
set_option maxHeartbeats 2000000 in
theorem sorted_any (w : World) (Bx g m cap : Nat) (cur : Array Value) (rs : List RatC) (hm : rs.length = m) (hml : m ≤ cap) (hlim : m ≤ 1000000) (h0 : 0 < m) (hcur : RowR cur rs)
    (hb : Boxed w Bx 54 (.slice (some ⟨g, 0, none⟩) m cap)) (hg : BlkAt w g 59 cur) (hin : ∀ r ∈ rs, RatIn w r) (hs : ∀ r ∈ rs, smallQ r.q) :
    Calls Tryz.prog 103 #[.func (.func 119) #[] #[.pointer (some ⟨Bx, 0, none⟩)], .func (.func 104) #[] #[]] w fun e W' =>
      ∃ v qs, e = .returned v ∧ qs.Perm (rs.map (·.q)) ∧ SortedQ qs ∧ RatRow W' w.heap.size v qs ∧ Below w.heap.size w W' := by
  have HA := Lib.hid (collect_any w Bx g m cap cur rs hm hml hlim hcur hb hg)
  have HI := Lib.hid hin
  have HS := Lib.hid (show ∀ q ∈ rs.map (·.q), smallQ q from fun q hq => by obtain ⟨r, hr, rfl⟩ := List.mem_map.1 hq; exact hs r hr)
  have HM := Lib.hid hm
  clear hb hg hcur hin hs hm
  go_enter Tryz.func103, Tryz.ntmps103
  go_wp2_with (first
    | (go_at_call 120; refine HA.out.mono ?_; clear HA; rintro e w3 ⟨v, rfl, ho, hB⟩; have hr : RatRow w3 w.heap.size v (rs.map (·.q)) := ⟨rs, rfl, ho, fun r hr => (HI.out r hr).keep (KeepT.of_below hB)⟩; have HC := Lib.hid (sortRats_any hr HS.out (by rw [List.length_map, HM.out]; exact h0) (by rw [List.length_map, HM.out]; exact hlim)); have HB := Lib.hid hB; clear ho hB hr)
    | (go_at_call 121; refine HC.out.mono ?_; clear HC; rintro e w4 ⟨rfl, qs, hp, hso, hr, hB⟩; have HP := Lib.hid hp; have HSo := Lib.hid hso; have HR := Lib.hid hr; have HB4 := Lib.hid (HB.out.trans hB); clear hp hso hr hB))
  go_ret
  exact ⟨_, qs, rfl, HP.out, HSo.out, HR.out, HB4.out⟩
end Go.Proofs.YtjcpfmndkeiegaaGreatDoor
