/- The walk of pbuf.Fields. -/
import Derived.RangeFuncNested
import Derived.RangeFuncBound
import Derived.RangeFuncCalls
import Derived.RangeFuncLeaves
import Derived.RangeFuncBox
import Derived.Shelf.Abstract
import Derived.Shelf.RegionOpen
import Derived.WalkKit
import Derived.OwnWalkIn
import Derived.TacticsInMore
import Derived.LoopNIn
import Derived.LoopIn
import Derived.Maps.AppendAt
import Derived.Lib.Hide
import Derived.Outline
import Derived.Test.YtgdnibdahldekabPfI
import Derived.Test.YtgdnibdahldekabIt
import Derived.Test.YtgdnibdahldekabProg
namespace Go.Proofs.Ytgdnibdahldekab
open Go.RowKit Go.Shelf
set_option linter.unusedVariables false
attribute [local go_sem] Oper.semAt_some

theorem slF : SlT Try.prog 45 39 5 48 := SlT.mk Try.underlying45 (z := .agg #[.int .i64 0, .int .i64 0, .int .i64 0, .int .u64 0, .string ⟨#[]⟩]) (by kernel_rfl) rfl (by decide) (by decide)
theorem ownsRow_mono {w : World} {base base' : Nat} {e : TypeId} {size : Nat} {v : Value} {n : Nat} {xs : List Value} (h : w.ownsRow base e size v n xs) (hb : base' ≤ base) : w.ownsRow base' e size v n xs :=
  ⟨h.1, h.2.imp id fun ⟨g, cap, cur, e, hb', r⟩ => ⟨g, cap, cur, e, Nat.le_trans hb hb', r⟩⟩
theorem ownsRow_slice {w : World} {base : Nat} {e : TypeId} {size : Nat} {v : Value} {n : Nat} {xs : List Value} (h : w.ownsRow base e size v n xs) : ∃ b n c, v = .slice b n c := by
  rcases h.2 with ⟨rfl, _⟩ | ⟨g, cap, cur, rfl, _⟩ <;> exact ⟨_, _, _, rfl⟩
theorem four_sets {W : World} {B : Nat} {t t' : TypeId} {a b0 b1 b2 : Value} (u c0 c1 c2 : Value) (h3 : BlkAt W B t #[a]) (h4 : BlkAt W (B + 1) t' #[b0, b1, b2]) :
    ∃ Y, (((W.setCell ⟨B, 0, none⟩ u).setCell ⟨B + 1, 0, none⟩ c0).setCell ⟨B + 1, 1, none⟩ c1).setCell ⟨B + 1, 2, none⟩ c2 = Y ∧
    BlkAt Y B t #[u] ∧ BlkAt Y (B + 1) t' #[c0, c1, c2] ∧ Below B W Y ∧ KeepsOthers W Y ∧ (∀ D, B + 2 ≤ D → Y.heap[D]? = W.heap[D]?) := by
  refine ⟨_, rfl, ?_, ?_, ?_, ?_, ?_⟩
  · exact ((((h3.set 0 u).far (by simp) _).far (by simp) _).far (by simp) _)
  · exact ((((h4.far (p := ⟨B, 0, none⟩) (by simp) u).set 0 c0).set 1 c1).set 2 c2)
  · exact ((((Below.refl B W).setCell (p := ⟨B, 0, none⟩) (Nat.le_refl _) _).setCell (p := ⟨B + 1, 0, none⟩) (by simp) _).setCell (p := ⟨B + 1, 1, none⟩) (by simp) _).setCell (p := ⟨B + 1, 2, none⟩) (by simp) _
  · exact (((KeepsOthers.setCell _ _ _).trans (KeepsOthers.setCell _ _ _)).trans (KeepsOthers.setCell _ _ _)).trans (KeepsOthers.setCell _ _ _)
  · intro D hD
    rw [Below.heap_setCell _ _ _ D (by simp; omega), Below.heap_setCell _ _ _ D (by simp; omega), Below.heap_setCell _ _ _ D (by simp; omega), Below.heap_setCell _ _ _ D (by simp; omega)]
theorem ownsRow_above {W Y : World} {base : Nat} {e : TypeId} {size : Nat} {v : Value} {n : Nat} {xs : List Value} (h : W.ownsRow base e size v n xs) (hY : ∀ D, base ≤ D → Y.heap[D]? = W.heap[D]?) : Y.ownsRow base e size v n xs := by
  refine ⟨h.1, ?_⟩
  rcases h.2 with h' | ⟨g, cap, cur, hv, hb, hg, hr⟩
  · exact .inl h'
  · exact .inr ⟨g, cap, cur, hv, hb, by rw [hY g hb]; exact hg, hr⟩
theorem loadVar_one {P : Program} {w : World} {g : Nat} {t ty e : TypeId} {v : Value} (hu : P.underlying ty = some (.slice e)) (h : BlkAt w g t #[v]) : (loadVar ty ⟨g, 0, none⟩).run P w = .ok v w := by
  have hc : w.cell? ⟨g, 0, none⟩ = some v := h.cell 0
  simp only [loadVar, Sem.run_bind, run_isAgg_plain hu rfl w, Result.andThen_ok, Bool.false_eq_true, if_false]
  rw [run_load, hc]
theorem aggD : AggT Try.prog 47 3 := ⟨_, Try.underlying47, rfl, by kernel_rfl⟩

set_option maxRecDepth 100000 in
set_option maxHeartbeats 2000000 in
theorem fields_any (s : ByteArray) (hs : s.size ≤ 281474976710656) (w : World) :
    Calls Try.prog 28 #[.string s] w fun e W' => ∃ v, e = .returned (.tuple #[v, dgV (fieldsD s.data.toList)]) ∧
      W'.ownsRow w.heap.size 39 5 v (fieldsF s.data.toList).length ((fieldsF s.data.toList).flatMap fldCells) ∧ Below w.heap.size w W' := by
  refine (callsIn_wide (n := 3)).1 ?_
  refine callsIn_of_wp_marks Try.func28 rfl trivial ?_ rfl
  simp only [Try.ntmps28, List.size_toArray, List.length_cons, List.length_nil, Nat.reduceAdd, Nat.reduceSub, Array.replicate_succ, Array.replicate_zero, List.push_toArray, List.append_toArray, List.nil_append, List.cons_append]
  gi_wp2_with (refine ⟨trivial, ?_⟩; gi_at_call 32; refine (callsIn_wide.2 (each_any _ _)).mono ?_; rintro e w' ⟨rfl, rfl⟩)
  have b0 := BlkAt.new w 45 #[.slice none 0 0]
  obtain ⟨W0, hW0⟩ : ∃ W0, (((w.alloc (.cells #[.slice none 0 0] 45)).alloc (.cells #[.int .i64 0, .int .i64 0, .string ⟨#[]⟩] 47)).alloc (.cells #[.slice none 0 0] 45)).alloc (.cells #[.string s] 9) = W0 := ⟨_, rfl⟩
  have hB0 : Below w.heap.size w W0 := by rw [← hW0]; exact ((((Below.refl _ w).alloc (Nat.le_refl _) _).alloc (by simp) _).alloc (by simp; omega) _).alloc (by simp; omega) _
  have hz0 : W0.heap.size = w.heap.size + 4 := by rw [← hW0]; simp
  have k0 : BlkAt W0 w.heap.size 45 #[.slice none 0 0] := by rw [← hW0]; exact ((b0.alloc _).alloc _).alloc _
  have k1 : BlkAt W0 (w.heap.size + 1) 47 #[.int .i64 0, .int .i64 0, .string ⟨#[]⟩] := by
    rw [← hW0]
    have := BlkAt.new (w.alloc (.cells #[.slice none 0 0] 45)) 47 #[.int .i64 0, .int .i64 0, .string ⟨#[]⟩]
    rw [World.size_alloc] at this
    exact (this.alloc _).alloc _
  have k2 : Boxed W0 (w.heap.size + 2) 45 (.slice none 0 0) := by
    rw [← hW0]
    have := Boxed.new ((w.alloc (.cells #[.slice none 0 0] 45)).alloc (.cells #[.int .i64 0, .int .i64 0, .string ⟨#[]⟩] 47)) 45 (.slice none 0 0)
    simp only [World.size_alloc] at this
    exact this.alloc _
  have k3 : Boxed W0 (w.heap.size + 3) 9 (.string s) := by
    rw [← hW0]
    have := Boxed.new (((w.alloc (.cells #[.slice none 0 0] 45)).alloc (.cells #[.int .i64 0, .int .i64 0, .string ⟨#[]⟩] 47)).alloc (.cells #[.slice none 0 0] 45)) 9 (.string s)
    simp only [World.size_alloc] at this
    exact this
  rw [hW0]
  clear hW0 b0
  have hlen := eachL_len s.data.toList
  refine wpIn_rangeFunc_ownH rfl (by omega) (gf := 59) (lb := #[.pointer (some ⟨w.heap.size + 3, 0, none⟩)]) rfl trivial (enters_of Try.func59 (by kernel_rfl) rfl)
    (each_stops 2 (by omega) (w.heap.size + 3) s hs W0 k3) keepB_t (keepB_b (by omega)) (Below.refl _ _) (fun _ => rfl)
    (fun pre W => (∃ v, Boxed W (w.heap.size + 2) 45 v ∧ W.ownsRow (w.heap.size + 4) 39 5 v pre.length ((pre.map (·.1)).flatMap fldCells)) ∧ BlkAt W w.heap.size 45 #[.slice none 0 0] ∧ BlkAt W (w.heap.size + 1) 47 #[.int .i64 0, .int .i64 0, .string ⟨#[]⟩] ∧ (∀ q ∈ pre, q.2.code = 0) ∧ Below w.heap.size w W ∧ w.heap.size + 4 ≤ W.heap.size)
    (fun c pre W => c = .ret ∧ ∃ p x, pre = p ++ [x] ∧ (∀ q ∈ p, q.2.code = 0) ∧ x.2.code ≠ 0 ∧ BlkAt W w.heap.size 45 #[.slice none 0 0] ∧ BlkAt W (w.heap.size + 1) 47 #[.int .i64 x.2.code, .int .i64 x.2.at_, .string ⟨x.2.what.toArray⟩] ∧ Below w.heap.size w W)
    ?hI ?hIx ⟨⟨_, k2, World.ownsRow_nil _ _ _ _⟩, k0, k1, by simp, hB0, by omega⟩
    (fun x a' W => ∃ Bf Bd, w.heap.size + 4 ≤ Bf ∧ w.heap.size + 4 ≤ Bd ∧ BlkAt W Bf 39 (fldCells x.1).toArray ∧ BlkAt W Bd 47 #[.int .i64 x.2.code, .int .i64 x.2.at_, .string ⟨x.2.what.toArray⟩] ∧
      a' = { tmps := #[.string s, undef, .pointer (some ⟨w.heap.size, 0, none⟩), .pointer (some ⟨w.heap.size + 1, 0, none⟩), .pointer (some ⟨w.heap.size + 1 + 1, 0, none⟩), .pointer (some ⟨Bf, 0, none⟩), .pointer (some ⟨Bd, 0, none⟩), .string s, .func (.func 59) #[] #[.pointer (some ⟨w.heap.size + 1 + 1 + 1, 0, none⟩)], fldV x.1, dgV x.2, undef, undef, undef, undef, undef, undef, undef, undef, undef, undef], defers := [] })
    ?hAx ?assign ?body ?done ?stop
  case hI =>
    intro pre W W' row hs hg hr
    obtain ⟨⟨v, h1, h2⟩, h3, h4, h5, h6, h7⟩ := hs
    have hr' : ∀ r, row = some r → ∃ o : Obj, W.heap[r]? = some o ∧ o.isCells = false := fun r e => (hr r e).2
    exact ⟨⟨v, boxed_own _ _ (fun _ => v) () W W' row h1 hg hr', row_own _ _ _ v (fun _ => pre.length) (fun _ => (pre.map (·.1)).flatMap fldCells) () W W' row h2 hg hr'⟩,
      blk_own _ _ (fun _ => #[.slice none 0 0]) () W W' row h3 hg hr', blk_own _ _ (fun _ => #[.int .i64 0, .int .i64 0, .string ⟨#[]⟩]) () W W' row h4 hg hr', h5, h6.grown hg (by omega) (fun k e => by have := (hr k e).1; omega), Nat.le_trans h7 hg.size⟩
  case hIx =>
    intro c pre W W' row hs hg hr
    obtain ⟨hc, p, x, h1, h2, h3, h4, h5, h6⟩ := hs
    have hr' : ∀ r, row = some r → ∃ o : Obj, W.heap[r]? = some o ∧ o.isCells = false := fun r e => (hr r e).2
    exact ⟨hc, p, x, h1, h2, h3, blk_own _ _ (fun _ => #[.slice none 0 0]) () W W' row h4 hg hr', blk_own _ _ (fun _ => #[.int .i64 x.2.code, .int .i64 x.2.at_, .string ⟨x.2.what.toArray⟩]) () W W' row h5 hg hr', h6.grown hg (Nat.le_trans (Nat.le_refl _) h6.size) (fun k e => by have := (hr k e).1; omega)⟩
  case hAx =>
    intro x a' u W W' row hs hg hr
    obtain ⟨Bf, Bd, h1, h2, h3, h4, h5⟩ := hs
    have hr' : ∀ r, row = some r → ∃ o : Obj, W.heap[r]? = some o ∧ o.isCells = false := fun r e => (hr r e).2
    exact ⟨Bf, Bd, h1, h2, blk_own _ _ (fun _ => (fldCells x.1).toArray) () W W' row h3 hg hr', blk_own _ _ (fun _ => #[.int .i64 x.2.code, .int .i64 x.2.at_, .string ⟨x.2.what.toArray⟩]) () W W' row h4 hg hr', h5⟩
  case assign =>
    rintro l pre x W K ⟨⟨v, h1, h2⟩, h3, h4, h5, h6, h7⟩ hK
    simp only [encFD]
    gi_wp2
    have bf := BlkAt.new W 39 (fldCells x.1).toArray
    have bd := BlkAt.new (W.alloc (.cells (fldCells x.1).toArray 39)) 47 #[.int .i64 x.2.code, .int .i64 x.2.at_, .string ⟨x.2.what.toArray⟩]
    rw [World.size_alloc] at bd
    have hb4 : Below (w.heap.size + 4) W ((W.alloc (.cells (fldCells x.1).toArray 39)).alloc (.cells #[.int .i64 x.2.code, .int .i64 x.2.at_, .string ⟨x.2.what.toArray⟩] 47)) := ((Below.refl _ W).alloc h7 _).alloc (by simp; omega) _
    refine hK _ _ (((KeepsOthers.alloc W _).trans (KeepsOthers.alloc _ _)).from _) (KeepB.of_below hb4 (by omega)) ⟨⟨v, (h1.alloc _).alloc _, (h2.alloc _).alloc _⟩, (h3.alloc _).alloc _, (h4.alloc _).alloc _, h5, h6.trans (hb4.mono (by omega)), by simp; omega⟩ ⟨W.heap.size, W.heap.size + 1, h7, by omega, bf.alloc _, bd, rfl⟩
  case body =>
    rintro l pre x a' W hl ⟨r, hr⟩ ⟨⟨v, h1, h2⟩, h3, h4, h5, h6, h7⟩ ⟨Bf, Bd, hf, hd, bf, bd, rfl⟩ hlt
    have c0 := bd.cell 0
    have c1 := h1.cell
    have d0 := bf.cell 0
    have d1 := bf.cell 1
    have d2 := bf.cell 2
    have d3 := bf.cell 3
    have d4 := bf.cell 4
    have hpl : pre.length < 60001 := by omega
    by_cases hx : x.2.code = 0
    · have hx' : (x.2.code : Int) = 0 := by omega
      clear hs hlen hlt k0 k1 k2 k3
      gi_wp2_with (gi_at_builtin; refine wpListIn_app _ rfl _ _ _ _ _ _ slF rfl (w.heap.size + 4) (by simp; omega) _ _ _ rfl (h2.alloc _) ⟨W.heap.size, 0, none⟩ (fldCells x.1) rfl rfl ?c1 ?c2 ?c3 ?_)
      case c1 => exact news_blk (by have := BlkAt.new W 39 (fldCells x.1).toArray; exact this)
      case c2 => intro u hu; simp at hu; rcases hu with rfl | rfl | rfl | rfl | rfl <;> rfl
      case c3 => omega
      intro g cap w1 hown' hgrow
      have hv1 : Boxed w1 (w.heap.size + 2) 45 v := (h1.alloc _).kept hgrow (h1.not_row (by decide) h2)
      have hb1 : Below (w.heap.size + 4) W w1 := ((Below.refl _ W).alloc h7 _).grown hgrow (by simp; omega) (fun j ej => (h2.lt j ej).1)
      have hr1 := hown'.kept (grownBy_setCell' w1 (w.heap.size + 2) (.slice (some ⟨g, 0, none⟩) (pre.length + 1) cap)) (.inr (hv1.not_row (by decide) hown').symm)
      have hko : KeepsOthers W w1 := (KeepsOthers.alloc W _).trans (KeepsOthers.of_grownBy hgrow fun j o ej hj => by
        rcases (h2.alloc _).2 with ⟨rfl, _⟩ | ⟨g, cap, cur, rfl, _, hgb, _⟩
        · simp [Value.ownBlock] at ej
        · obtain rfl : g = j := by simpa [Value.ownBlock] using ej
          rw [hgb] at hj; cases hj; rfl)
      have hc1 := hv1.cell
      have hf1 := hv1.frozen
      clear c0 c1 d0 d1 d2 d3 d4 hgrow hown' bf bd
      gi_wp2
      have hs2 : Boxed (w1.setCell ⟨w.heap.size + 2, 0, none⟩ (.slice (some ⟨g, 0, none⟩) (pre.length + 1) cap)) (w.heap.size + 2) 45 (.slice (some ⟨g, 0, none⟩) (pre.length + 1) cap) := hv1.set _
      refine ⟨(hko.trans (KeepsOthers.setCell _ _ _)).from _, keepB_t (KeepB.of_below hb1 (by omega)) (KeepB.setCell _ _ _ (by simp)), ⟨_, hs2, by simpa using hr1⟩, (h3.below hb1 (by omega)).far (by simp; omega) _, (h4.below hb1 (by omega)).far (by simp) _, ?_, ?_, ?_⟩
      · intro q hq; rw [List.mem_append] at hq; rcases hq with hq | hq
        · exact h5 q hq
        · simp at hq; subst hq; exact hx
      · exact (h6.trans (hb1.mono (by omega))).setCell (p := ⟨w.heap.size + 2, 0, none⟩) (by simp) _
      · rw [World.size_setCell]; have := hb1.size; omega
    · have hx' : ¬ (x.2.code : Int) = 0 := by omega
      have c1 := bd.cell 1
      have c2 := bd.cell 2
      have k0 := h3.cell 0
      have k0f := h3.frozen 0
      have e0 := h4.cell 0
      have e1 := h4.cell 1
      have e2 := h4.cell 2
      have ef := h4.frozen 0
      have ef1 := h4.frozen 1
      have ef2 := h4.frozen 2
      gi_wp2
      gi_region
      all_goals
        gi_wp2
        obtain ⟨Y, hY, y1, y2, y3, y4, y5⟩ := four_sets (.slice none 0 0) (.int .i64 x.2.code) (.int .i64 x.2.at_) (.string ⟨x.2.what.toArray⟩) h3 h4
        rw [hY]
        exact ⟨(y4.trans (KeepsOthers.drew _)).from _, rfl, pre, x, rfl, h5, hx, y1, y2, (h6.trans y3).drew⟩
  case done =>
    rintro D ys W hD rfl ⟨⟨v, h1, h2⟩, h3, h4, h5, h6, h7⟩ hK
    obtain ⟨vb, vn, vc, rfl⟩ := ownsRow_slice h2
    have c1 := h1.cell
    have k0 := h3.cell 0
    have k0f := h3.frozen 0
    have e0 := h4.cell 0
    have e1 := h4.cell 1
    have e2 := h4.cell 2
    have ef := h4.frozen 0
    have ef1 := h4.frozen 1
    have ef2 := h4.frozen 2
    gi_wp2
    obtain ⟨Y, hY, y1, y2, y3, y4, y5⟩ := four_sets (.slice vb vn vc) (.int .i64 0) (.int .i64 0) (.string ⟨#[]⟩) h3 h4
    rw [hY]
    have hYD : Y.heap[D]? = _ := (y5 D (by omega)).trans hK
    obtain ⟨e1, e2⟩ := eachL_done h5
    refine ⟨by simp, .inl ⟨_, _, rfl, run_takeDeferred hYD, ?_⟩⟩
    have z1 : BlkAt (Y.putObj D (.deferred none)) w.heap.size 45 #[.slice vb vn vc] := y1.below (belowK_b (w := W0) (Nat.le_refl _) Y D _ _ hD hYD rfl rfl) (by omega)
    have z2 : BlkAt (Y.putObj D (.deferred none)) (w.heap.size + 1) 47 #[.int .i64 0, .int .i64 0, .string ⟨#[]⟩] := y2.below (belowK_b (w := W0) (Nat.le_refl _) Y D _ _ hD hYD rfl rfl) (by omega)
    refine ⟨_, results_cc rfl rfl rfl (loadVar_one Try.underlying45 z1) (aggD.load rfl z2), .slice vb vn vc, by rw [e2]; rfl, ?_, ?_⟩
    · rw [e1]
      exact ownsRow_mono (ownsRow_putObj (by simpa using ownsRow_above h2 (fun D hD => y5 D (by omega))) _ hYD rfl) (by omega)
    · exact (h6.trans y3).trans (belowK_b (w := w) (Nat.le_refl _) Y D _ _ (by omega) hYD rfl rfl)
  case stop =>
    rintro D c pre W hD hpre ⟨rfl, p, x, rfl, hp, hx, h3, h4, h6⟩ hK
    obtain ⟨e1, e2⟩ := eachL_stop hpre hp hx
    gi_wp2
    refine ⟨by simp, .inl ⟨_, _, rfl, run_takeDeferred hK, ?_⟩⟩
    have z1 : BlkAt (W.putObj D (.deferred none)) w.heap.size 45 #[.slice none 0 0] := h3.below (belowK_b (w := W0) (Nat.le_refl _) W D _ _ hD hK rfl rfl) (by omega)
    have z2 : BlkAt (W.putObj D (.deferred none)) (w.heap.size + 1) 47 #[.int .i64 x.2.code, .int .i64 x.2.at_, .string ⟨x.2.what.toArray⟩] := h4.below (belowK_b (w := W0) (Nat.le_refl _) W D _ _ hD hK rfl rfl) (by omega)
    refine ⟨_, results_cc rfl rfl rfl (loadVar_one Try.underlying45 z1) (aggD.load rfl z2), .slice none 0 0, by rw [e2], ?_, ?_⟩
    · rw [e1]
      exact World.ownsRow_nil _ _ _ _
    · exact h6.trans (belowK_b (w := w) (Nat.le_refl _) W D _ _ (by omega) hK rfl rfl)
end Go.Proofs.Ytgdnibdahldekab
