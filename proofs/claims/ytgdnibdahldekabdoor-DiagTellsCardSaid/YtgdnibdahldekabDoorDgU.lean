/- The walk of diag.List.All: all that Each tells. -/
import Derived.Test.YtgdnibdahldekabDoorDgT
namespace Go.Proofs.YtgdnibdahldekabDoor
open Go.RowKit Go.Shelf
set_option linter.unusedVariables false
attribute [local go_sem] Oper.semAt_some

theorem ownsRow_mono {w : World} {base base' : Nat} {e : TypeId} {size : Nat} {v : Value} {n : Nat} {xs : List Value} (h : w.ownsRow base e size v n xs) (hb : base' ≤ base) : w.ownsRow base' e size v n xs :=
  ⟨h.1, h.2.imp id fun ⟨g, cap, cur, e, hb', r⟩ => ⟨g, cap, cur, e, Nat.le_trans hb hb', r⟩⟩
/-- 'append(s, x)' of one element in a round, s of the call's own; where it lies behind. -/
theorem wpListIn_app_at {F : Fence} {n : Nat} {P : Program} (w : World) {ops : Array Oper} {rest : List Oper} {o : Oper} {a : Act} {Q : Exit → Act → World → Prop} (hgd : o.guard = none) (s x : Operand) (t e : TypeId) (size bytes : Nat)
    (T : SlT P t e size bytes) (ho : o.op = .call { callee := .builtin .append, args := #[s, x], argTypes := #[t, t] })
    (base : Nat) (hbase : base ≤ w.heap.size) (v : Value) (k : Nat) (xs : List Value) (hs : a.eval s = v) (hown : w.ownsRow base e size v k xs)
    (ad : Addr) (news : List Value) (hx : a.eval x = .slice (some ad) 1 1) (hl : news.length = size) (hnews : ∀ j u, news[j]? = some u → w.cell? (ad.add j) = some u) (h1 : ∀ u ∈ news, u.oneCell' = true)
    (hbytes : (k + 1) * bytes ≤ 140737488355328)
    (h : ∀ g cap w', w'.ownsRow base e size (.slice (some ⟨g, 0, none⟩) (k + 1) cap) (k + 1) (xs ++ news) → w.grownBy w' v.ownBlock → (v.ownBlock = some g ∨ g = w.heap.size) → wpListIn F n P ops Q rest (a.put o.dst (.slice (some ⟨g, 0, none⟩) (k + 1) cap)) w') : wpListIn F n P ops Q (o :: rest) a w := by
  refine wpListIn_plain hgd fun K hK => ?_
  refine op_append T ho hs hown hbase hx hl hnews h1 hbytes fun v' w' h2 h3 h4 => ?_
  obtain ⟨g, cap, rfl⟩ := ownsRow_succ h2
  refine hK _ _ (h g cap w' h2 h3 ?_)
  rcases h4 with h4 | h4
  · exact .inl h4.symm
  · simp only [Value.ownBlock, Option.some.injEq] at h4; exact .inr h4

set_option maxRecDepth 100000 in
set_option maxHeartbeats 4000000 in
theorem all_any (base : Nat) (q : Option Addr) (ds : List Di) (w : World) (hl : ListP base w (.pointer q) ds) :
    Calls Tryd.prog 8 #[.pointer q] w fun e W' => ∃ v, e = .returned v ∧ W'.ownsRow w.heap.size 31 3 v ds.length (ds.flatMap diCells) ∧ Below w.heap.size w W' := by
  have hlen : ds.zipIdx.length ≤ 100 := by simpa using hl.len
  have hE := fun W => each_any (.pointer q) hl.shape W
  refine (callsIn_wide (n := 3)).1 ?_
  refine callsIn_of_wp_marks Tryd.func8 rfl trivial ?_ rfl
  simp only [Tryd.ntmps8, List.size_toArray, List.length_cons, List.length_nil, Nat.reduceAdd, Nat.reduceSub, Array.replicate_succ, Array.replicate_zero, List.push_toArray, List.append_toArray, List.nil_append, List.cons_append]
  gi_wp2_with (refine ⟨trivial, ?_⟩; gi_at_call 9; refine (callsIn_wide.2 (hE _)).mono ?_; rintro e w' ⟨rfl, rfl⟩)
  obtain ⟨W0, hW0⟩ : ∃ W0, (w.alloc (.cells #[.slice none 0 0] 22)).alloc (.cells #[.pointer q] 25) = W0 := ⟨_, rfl⟩
  have hB0 : Below w.heap.size w W0 := by rw [← hW0]; exact ((Below.refl _ w).alloc (Nat.le_refl _) _).alloc (by simp) _
  have hz0 : W0.heap.size = w.heap.size + 2 := by rw [← hW0]; simp
  have k2 : Boxed W0 w.heap.size 22 (.slice none 0 0) := by
    rw [← hW0]
    exact (Boxed.new w 22 (.slice none 0 0)).alloc _
  have k3 : Boxed W0 (w.heap.size + 1) 25 (.pointer q) := by
    rw [← hW0]
    have := Boxed.new (w.alloc (.cells #[.slice none 0 0] 22)) 25 (.pointer q)
    simp only [World.size_alloc] at this
    exact this
  rw [hW0]
  clear hW0 hE
  have hBs : ∀ b ∈ [w.heap.size], ∃ t, Boxed W0 b t (.slice none 0 0) := by
    intro b hb
    simp only [List.mem_cons, List.not_mem_nil, or_false] at hb
    subst hb
    exact ⟨_, k2⟩
  have hBs2 : ∀ b ∈ [w.heap.size], b < W0.heap.size := fun b hb => by obtain ⟨t, h⟩ := hBs b hb; exact h.lt
  refine wpIn_rangeFunc_ownH rfl (by omega) (gf := 23) (lb := #[.pointer (some ⟨w.heap.size + 1, 0, none⟩)]) rfl trivial (enters_of Tryd.func23 (by kernel_rfl) rfl)
    (each_stops 2 (by omega) (w.heap.size + 1) base (.pointer q) ds [w.heap.size] W0 k3 (hl.below hB0) hBs) keepsBut_t (keepsBut_b hBs2) (Below.refl _ _) (fun _ => rfl)
    (fun pre W => (∃ v, Boxed W w.heap.size 22 v ∧ W.ownsRow (w.heap.size + 2) 31 3 v pre.length ((pre.map (·.1)).flatMap diCells)) ∧ Below w.heap.size w W ∧ w.heap.size + 2 ≤ W.heap.size)
    (fun c pre W => False)
    ?hI ?hIx ⟨⟨_, k2, World.ownsRow_nil _ _ _ _⟩, hB0, by omega⟩
    (fun x a' W => ∃ Bd, w.heap.size + 2 ≤ Bd ∧ BlkAt W Bd 31 (diCells x.1).toArray ∧
      a' = { tmps := #[.pointer q, undef, .slice none 0 0, .pointer (some ⟨w.heap.size, 0, none⟩), undef, .pointer (some ⟨Bd, 0, none⟩), .pointer q, .func (.func 23) #[] #[.pointer (some ⟨w.heap.size + 1, 0, none⟩)], .int .i64 x.2, diV x.1, undef, undef, undef, undef, undef], defers := [] })
    ?hAx ?assign ?body ?done ?stop
  case hI =>
    intro pre W W' row hs hg hr
    obtain ⟨⟨v, h1, h2⟩, h6, h7⟩ := hs
    have hr' : ∀ r, row = some r → ∃ o : Obj, W.heap[r]? = some o ∧ o.isCells = false := fun r e => (hr r e).2
    exact ⟨⟨v, boxed_own _ _ (fun _ => v) () W W' row h1 hg hr', row_own _ _ _ v (fun _ => pre.length) (fun _ => (pre.map (·.1)).flatMap diCells) () W W' row h2 hg hr'⟩,
      h6.grown hg (by omega) (fun k e => by have := (hr k e).1; omega), Nat.le_trans h7 hg.size⟩
  case hIx =>
    intro c pre W W' row hs hg hr
    exact hs
  case hAx =>
    intro x a' u W W' row hs hg hr
    obtain ⟨Bd, h1, h2, h5⟩ := hs
    have hr' : ∀ r, row = some r → ∃ o : Obj, W.heap[r]? = some o ∧ o.isCells = false := fun r e => (hr r e).2
    exact ⟨Bd, h1, blk_own _ _ (fun _ => (diCells x.1).toArray) () W W' row h2 hg hr', h5⟩
  case assign =>
    rintro l pre x W K ⟨⟨v, h1, h2⟩, h6, h7⟩ hK
    simp only [encID]
    gi_wp2
    have bd := BlkAt.new W 31 (diCells x.1).toArray
    have hb4 : Below (w.heap.size + 2) W (W.alloc (.cells (diCells x.1).toArray 31)) := (Below.refl _ W).alloc h7 _
    refine hK _ _ ((KeepsOthers.alloc W _).from _) (keepsBut_alloc (fun b hb => by simp only [List.mem_cons, List.not_mem_nil, or_false] at hb; subst hb; exact h1.lt) _) ⟨⟨v, h1.alloc _, h2.alloc _⟩, h6.trans (hb4.mono (by omega)), by simp; omega⟩ ⟨W.heap.size, h7, bd, rfl⟩
  case body =>
    rintro l pre x a' W hl ⟨r, hr⟩ ⟨⟨v, h1, h2⟩, h6, h7⟩ ⟨Bd, hd, bd, rfl⟩ hlt
    have c1 := h1.cell
    have d0 := bd.cell 0
    have d1 := bd.cell 1
    have d2 := bd.cell 2
    have hpl : pre.length < 100 := by omega
    gi_wp2_with (gi_at_builtin; refine wpListIn_app_at _ rfl _ _ _ _ _ _ slD rfl (w.heap.size + 2) (by simp; omega) _ _ _ rfl (h2.alloc _) ⟨W.heap.size, 0, none⟩ (diCells x.1) rfl rfl ?c1 ?c2 ?c3 ?_)
    case c1 => exact news_blk (by have := BlkAt.new W 31 (diCells x.1).toArray; exact this)
    case c2 => intro u hu; simp at hu; rcases hu with rfl | rfl | rfl <;> rfl
    case c3 => omega
    intro g cap w1 hown' hgrow hat
    have hv1 : Boxed w1 w.heap.size 22 v := (h1.alloc _).kept hgrow (h1.not_row (by decide) h2)
    have hb1 : Below (w.heap.size + 2) W w1 := ((Below.refl _ W).alloc h7 _).grown hgrow (by simp; omega) (fun j ej => (h2.lt j ej).1)
    have hne : v.ownBlock ≠ some w.heap.size := fun e => by have := (h2.lt _ e).1; omega
    have hr1 := hown'.kept (grownBy_setCell' w1 w.heap.size (.slice (some ⟨g, 0, none⟩) (pre.length + 1) cap)) (.inr (hv1.not_row (by decide) hown').symm)
    have hko : KeepsOthers W w1 := (KeepsOthers.alloc W _).trans (KeepsOthers.of_grownBy hgrow fun j o ej hj => by
      rcases (h2.alloc _).2 with ⟨rfl, _⟩ | ⟨g, cap, cur, rfl, _, hgb, _⟩
      · simp [Value.ownBlock] at ej
      · obtain rfl : g = j := by simpa [Value.ownBlock] using ej
        rw [hgb] at hj; cases hj; rfl)
    have hs2 : Boxed (w1.setCell ⟨w.heap.size, 0, none⟩ (.slice (some ⟨g, 0, none⟩) (pre.length + 1) cap)) w.heap.size 22 (.slice (some ⟨g, 0, none⟩) (pre.length + 1) cap) := hv1.set _
    have hkb : KeepsBut [w.heap.size] W (w1.setCell ⟨w.heap.size, 0, none⟩ (.slice (some ⟨g, 0, none⟩) (pre.length + 1) cap)) := by
      refine ⟨by rw [World.size_setCell]; exact hb1.size, fun g' t cs hb hn => ?_⟩
      have n1 : g' ≠ w.heap.size := fun e => hn ⟨_, by simp, .inl e.symm⟩
      have n2 : v.ownBlock ≠ some g' := fun e => hn ⟨_, List.mem_cons_self .., .inr ⟨_, _, h1, e⟩⟩
      refine ⟨((hb.alloc _).grown hgrow (Ne.symm n2)).far (p := ⟨w.heap.size, 0, none⟩) n1 _, ?_⟩
      rintro ⟨B, hBm, hx⟩
      simp only [List.mem_cons, List.not_mem_nil, or_false] at hBm
      subst hBm
      rcases hx with e | ⟨t', v', q1, q2⟩
      · exact n1 e.symm
      · obtain rfl := boxed_inj hs2 q1
        simp only [Value.ownBlock, Option.some.injEq] at q2
        subst q2
        rcases hat with hat | hat
        · exact n2 hat
        · have := hb.lt; first | omega | (rw [World.size_alloc] at hat; omega)
    have hc1 := hv1.cell
    have hf1 := hv1.frozen
    clear c1 d0 d1 d2 hgrow hown' bd
    gi_wp2
    refine ⟨(hko.trans (KeepsOthers.setCell _ _ _)).from _, hkb, ⟨_, hs2, by simpa using hr1⟩, (h6.trans (hb1.mono (by omega))).setCell (p := ⟨w.heap.size, 0, none⟩) (Nat.le_refl _) _, ?_⟩
    rw [World.size_setCell]; have := hb1.size; omega
  case done =>
    rintro D ys W hD rfl ⟨⟨v, h1, h2⟩, h6, h7⟩ hK
    obtain ⟨vb, vn, vc, rfl⟩ := ownsRow_slice h2
    have c1 := h1.cell
    gi_wp2
    refine ⟨by simp, .inl ⟨_, _, rfl, run_takeDeferred hK, ?_⟩⟩
    refine ⟨_, results_tmp rfl _ _ _, .slice vb vn vc, rfl, ?_, ?_⟩
    · have := ownsRow_mono (ownsRow_putObj h2 (.deferred none) hK rfl) (base' := w.heap.size) (by omega)
      simpa using this
    · exact h6.trans (belowK_b (w := w) (Nat.le_refl _) W D _ _ (by omega) hK rfl rfl)
  case stop =>
    rintro D c pre W hD hpre hf hK
    exact hf.elim
end Go.Proofs.YtgdnibdahldekabDoor
