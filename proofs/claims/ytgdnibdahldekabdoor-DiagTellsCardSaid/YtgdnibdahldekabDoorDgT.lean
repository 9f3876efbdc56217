/- The walks of chapter 5's word told and of diag.List.All: what Each tells, till one has enough; all of it. -/
import Derived.Test.YtgdnibdahldekabDoorTw
import Derived.Test.YtgdnibdahldekabDoorTx
import Derived.Test.YtgdnibdahldekabDoorDgC
import Derived.RegionIn
import Derived.BigRegionIn
import Derived.Outline
import Derived.Test.YtgdnibdahldekabDoorProg
namespace Go.Proofs.YtgdnibdahldekabDoor
open Go.RowKit Go.Shelf
set_option linter.unusedVariables false
attribute [local go_sem] Oper.semAt_some

theorem boxed_inj {w : World} {B : Nat} {t t' : TypeId} {u v : Value} (h : Boxed w B t u) (h' : Boxed w B t' v) : u = v := by
  have h1 := h.cell
  rw [h'.cell] at h1
  exact (Option.some.inj h1).symm
section
variable {base BA BB : Nat} {tA tB eA eB : TypeId} {sA sB : Nat} {L L' : List (Nat × TypeId × Array Value)} {W0 W W' : World} {bA bB vA vA' vB' : Value} {kA : Nat} {xA : List Value} {vB : Value} {kB : Nat} {xB : List Value} {kA' : Nat} {xA' : List Value} {kB' : Nat} {xB' : List Value} {uA uB : Value}
/-- The one tells the rows, the other the blocks that stay. -/
theorem TS.join (h : TS base BA BB tA tB eA eB sA sB L W W vA vB vA kA xA vB kB xB) (h' : TS base BA BB tA tB eA eB sA sB L' W W uA uB uA kA' xA' uB kB' xB') : TS base BA BB tA tB eA eB sA sB L' W W vA vB vA kA xA vB kB xB := by
  obtain rfl := boxed_inj h.boxA h'.boxA
  obtain rfl := boxed_inj h.boxB h'.boxB
  exact { h with stay := h'.stay }
open Classical in
/-- All blocks that the boxes do not hold on to. -/
theorem all_blks (Bs : List Nat) (W : World) : ∃ L : List (Nat × TypeId × Array Value), (∀ p ∈ L, BlkAt W p.1 p.2.1 p.2.2 ∧ ¬ Pts Bs W p.1) ∧ ∀ g t cs, BlkAt W g t cs → ¬ Pts Bs W g → (g, t, cs) ∈ L := by
  refine ⟨(List.range W.heap.size).filterMap fun g => if h : ∃ q : TypeId × Array Value, BlkAt W g q.1 q.2 ∧ ¬ Pts Bs W g then some (g, Classical.choose h) else none, ?_, ?_⟩
  · intro p hp
    rw [List.mem_filterMap] at hp
    obtain ⟨g, _, hg⟩ := hp
    split at hg
    · rename_i h
      cases hg
      exact Classical.choose_spec h
    · cases hg
  · intro g t cs hb hn
    rw [List.mem_filterMap]
    refine ⟨g, List.mem_range.2 hb.lt, ?_⟩
    have h : ∃ q : TypeId × Array Value, BlkAt W g q.1 q.2 ∧ ¬ Pts Bs W g := ⟨(t, cs), hb, hn⟩
    rw [dif_pos h]
    have h2 := (Classical.choose_spec h).1
    have h3 : W.heap[g]? = some (.cells cs t (0, 0)) := hb
    rw [show W.heap[g]? = _ from h2] at h3
    simp only [Option.some.injEq, Obj.cells.injEq] at h3
    obtain ⟨e1, e2, _⟩ := h3
    have e3 : Classical.choose h = (t, cs) := Prod.ext e2 e1
    rw [e3]
theorem TS.wide (h : TS base BA BB tA tB eA eB sA sB L W0 W vA vB vA kA xA vB kB xB) (hL : ∀ p ∈ L', BlkAt W p.1 p.2.1 p.2.2 ∧ ¬ Pts [BA, BB] W p.1) : TS base BA BB tA tB eA eB sA sB (L ++ L') W0 W vA vB vA kA xA vB kB xB := by
  have hs : ∀ p ∈ L ++ L', BlkAt W p.1 p.2.1 p.2.2 ∧ vA.ownBlock ≠ some p.1 ∧ vB.ownBlock ≠ some p.1 ∧ p.1 ≠ BA ∧ p.1 ≠ BB := by
    intro p hp
    rcases List.mem_append.1 hp with hp | hp
    · exact h.stay p hp
    · obtain ⟨h1, h2⟩ := hL p hp
      exact ⟨h1, fun e => h2 ⟨BA, by simp, .inr ⟨_, _, h.boxA, e⟩⟩, fun e => h2 ⟨BB, by simp, .inr ⟨_, _, h.boxB, e⟩⟩, fun e => h2 ⟨BA, by simp, .inl e.symm⟩, fun e => h2 ⟨BB, by simp, .inl e.symm⟩⟩
  exact { h with stay := hs }
theorem TS.keepsBut (h : TS base BA BB tA tB eA eB sA sB L W0 W vA vB vA kA xA vB kB xB) (hL : ∀ g t cs, BlkAt W0 g t cs → ¬ Pts [BA, BB] W0 g → (g, t, cs) ∈ L) : KeepsBut [BA, BB] W0 W :=
  ⟨h.below.size, fun g t cs hb hn => by
    obtain ⟨h1, h2, h3, h4, h5⟩ := h.stay _ (hL g t cs hb hn)
    refine ⟨h1, ?_⟩
    rintro ⟨B, hBm, hx⟩
    simp only [List.mem_cons, List.not_mem_nil, or_false] at hBm
    rcases hBm with rfl | rfl
    · rcases hx with e | ⟨t', v, k1, k2⟩
      · exact h4 e.symm
      · obtain rfl := boxed_inj h.boxA k1
        exact h2 k2
    · rcases hx with e | ⟨t', v, k1, k2⟩
      · exact h5 e.symm
      · obtain rfl := boxed_inj h.boxB k1
        exact h3 k2⟩
end
/-- One operation that loads a struct out of a block that stays. -/
theorem op_loadS {F : Fence} {n : Nat} {P : Program} {Q : Exit → Act → World → Prop} {o : Oper} {a : Act} {w : World} {K : Act → World → Prop} {ty t : TypeId} {x : Operand} {g m : Nat} {cs : Array Value} (T : AggT P ty m) (hm : cs.size = m) (ho : o.op = .load ty x) (hx : a.eval x = .pointer (some ⟨g, 0, none⟩)) (hb : BlkAt w g t cs)
    (hK : K (a.put o.dst (.agg cs)) w) : Oper.wpIn F n P o a w K Q := by
  have hl := T.load hm hb
  unfold Oper.wpIn
  refine ⟨by simp [Oper.about, ho], ?_⟩
  rw [Oper.semAt_plain F _ _ (by rw [ho]; intro c hc'; cases hc')]
  simp only [execOp, ho, hx, Instr.loadAt, Instr.sureAddr, Sem.run_bind, Sem.run_pure, Result.andThen_ok, hl]
  exact hK
theorem slI : SlT Tryd.prog 35 3 1 8 := SlT.mk Tryd.underlying35 (z := .int .i64 0) (by kernel_rfl) rfl (by decide) (by decide)

set_option maxRecDepth 100000 in
set_option maxHeartbeats 4000000 in
theorem told5_any (base Bx : Nat) (p : Value) (ds : List Di) (stop : Int) (w : World) (hb : Boxed w Bx 25 p) (hl : ListP base w p ds) :
    Calls Tryd.prog 10 #[.func (.func 23) #[] #[.pointer (some ⟨Bx, 0, none⟩)], .int .i64 stop] w fun e W' =>
      ∃ vA vB, e = .returned (.tuple #[vA, vB]) ∧ W'.ownsRow w.heap.size 3 1 vA (cutL stop ds.zipIdx).length ((cutL stop ds.zipIdx).map fun x => Value.int .i64 x.2) ∧
        W'.ownsRow w.heap.size 31 3 vB (cutL stop ds.zipIdx).length (((cutL stop ds.zipIdx).map (·.1)).flatMap diCells) ∧ Below w.heap.size w W' := by
  have hlen : ds.zipIdx.length ≤ 100 := by simpa using hl.len
  have hBl := hb.lt
  refine (callsIn_wide (n := 3)).1 ?_
  refine callsIn_of_wp_marks Tryd.func10 rfl trivial ?_ rfl
  simp only [Tryd.ntmps10, List.size_toArray, List.length_cons, List.length_nil, Nat.reduceAdd, Nat.reduceSub, Array.replicate_succ, Array.replicate_zero, List.push_toArray, List.append_toArray, List.nil_append, List.cons_append]
  gi_wp2
  obtain ⟨W0, hW0⟩ : ∃ W0, ((w.alloc (.cells #[.int .i64 stop] 3)).alloc (.cells #[.slice none 0 0] 35)).alloc (.cells #[.slice none 0 0] 22) = W0 := ⟨_, rfl⟩
  have hB0 : Below w.heap.size w W0 := by rw [← hW0]; exact (((Below.refl _ w).alloc (Nat.le_refl _) _).alloc (by simp) _).alloc (by simp; omega) _
  have k0 : BlkAt W0 w.heap.size 3 #[.int .i64 stop] := by rw [← hW0]; exact ((BlkAt.new w _ _).alloc _).alloc _
  have k1 : Boxed W0 (w.heap.size + 1) 35 (.slice none 0 0) := by
    rw [← hW0]
    have := Boxed.new (w.alloc (.cells #[.int .i64 stop] 3)) 35 (.slice none 0 0)
    simp only [World.size_alloc] at this
    exact this.alloc _
  have k2 : Boxed W0 (w.heap.size + 1 + 1) 22 (.slice none 0 0) := by
    rw [← hW0]
    have := Boxed.new ((w.alloc (.cells #[.int .i64 stop] 3)).alloc (.cells #[.slice none 0 0] 35)) 22 (.slice none 0 0)
    simp only [World.size_alloc] at this
    exact this
  have hz0 : W0.heap.size = w.heap.size + 3 := by rw [← hW0]; simp
  rw [hW0]
  clear hW0
  have T0 : TS w.heap.size (w.heap.size + 1) (w.heap.size + 1 + 1) 35 22 3 31 1 3 [(w.heap.size, 3, #[.int .i64 stop])] W0 W0 (.slice none 0 0) (.slice none 0 0) (.slice none 0 0) 0 [] (.slice none 0 0) 0 [] :=
    { boxA := k1, boxB := k2, rowA := World.ownsRow_nil _ _ _ _, rowB := World.ownsRow_nil _ _ _ _, apart := by simp [Value.ownBlock], aA := by simp [Value.ownBlock], aB := by simp [Value.ownBlock], bA' := by simp [Value.ownBlock], bB' := by simp [Value.ownBlock], stay := by
        intro p hp
        simp at hp
        subst hp
        exact ⟨k0, by simp [Value.ownBlock], by simp [Value.ownBlock], by simp, by simp; omega⟩
      keeps := KeepsOthers.refl _, below := Below.refl _ _, room := by omega, ne := by simp, geA := by omega, geB := by omega }
  have hBs : ∀ b ∈ [w.heap.size + 1, w.heap.size + 1 + 1], ∃ t, Boxed W0 b t (.slice none 0 0) := by
    intro b hb
    simp only [List.mem_cons, List.not_mem_nil, or_false] at hb
    rcases hb with rfl | rfl
    · exact ⟨_, k1⟩
    · exact ⟨_, k2⟩
  have hBs2 : ∀ b ∈ [w.heap.size + 1, w.heap.size + 1 + 1], b < W0.heap.size := fun b hb => by obtain ⟨t, h⟩ := hBs b hb; exact h.lt
  have hb0 : Boxed W0 Bx 25 p := (hB0.block Bx hBl).trans hb
  refine wpIn_rangeFunc_ownH rfl (by omega) (gf := 23) (lb := #[.pointer (some ⟨Bx, 0, none⟩)]) rfl trivial (enters_of Tryd.func23 (by kernel_rfl) rfl)
    (each_stops 2 (by omega) Bx base p ds [w.heap.size + 1, w.heap.size + 1 + 1] W0 hb0 (hl.below hB0) hBs) keepsBut_t (keepsBut_b hBs2) (Below.refl _ _) (fun _ => rfl)
    (fun pre W => (∃ vA vB, TS w.heap.size (w.heap.size + 1) (w.heap.size + 1 + 1) 35 22 3 31 1 3 [(w.heap.size, 3, #[.int .i64 stop])] W W vA vB vA pre.length (pre.map fun x => Value.int .i64 x.2) vB pre.length ((pre.map (·.1)).flatMap diCells)) ∧ (1 ≤ stop → (pre.length : Int) < stop) ∧ Below w.heap.size w W)
    (fun c pre W => (∃ vA vB, TS w.heap.size (w.heap.size + 1) (w.heap.size + 1 + 1) 35 22 3 31 1 3 [(w.heap.size, 3, #[.int .i64 stop])] W W vA vB vA pre.length (pre.map fun x => Value.int .i64 x.2) vB pre.length ((pre.map (·.1)).flatMap diCells)) ∧ c = .exit 0 ∧ 1 ≤ stop ∧ (pre.length : Int) = stop ∧ Below w.heap.size w W)
    ?hI ?hIx ⟨⟨_, _, T0⟩, fun h => by simp; omega, hB0⟩
    (fun x a' W => ∃ Bd uA uB kA xA kB xB, TS w.heap.size (w.heap.size + 1) (w.heap.size + 1 + 1) 35 22 3 31 1 3 [(Bd, 31, (diCells x.1).toArray), (w.heap.size, 3, #[.int .i64 stop])] W W uA uB uA kA xA uB kB xB ∧
      a' = { tmps := #[.func (.func 23) #[] #[.pointer (some ⟨Bx, 0, none⟩)], .int .i64 stop, undef, .pointer (some ⟨w.heap.size, 0, none⟩), .slice none 0 0, .slice none 0 0, .pointer (some ⟨w.heap.size + 1, 0, none⟩), .pointer (some ⟨w.heap.size + 1 + 1, 0, none⟩), .int .i64 x.2, .pointer (some ⟨Bd, 0, none⟩), .func (.func 23) #[] #[.pointer (some ⟨Bx, 0, none⟩)], .int .i64 x.2, diV x.1, undef, undef, undef, undef, undef, undef, undef, undef, undef, undef, undef, undef, undef, undef], defers := [] })
    ?hAx ?assign ?body ?done ?stop
  case hI =>
    intro pre W W' row hs hg hr
    obtain ⟨⟨vA, vB, h1⟩, h2, h3⟩ := hs
    exact ⟨⟨vA, vB, h1.owned hg (fun r e => (hr r e).2)⟩, h2, h3.grown hg h3.size (fun k e => by have := (hr k e).1; omega)⟩
  case hIx =>
    intro c pre W W' row hs hg hr
    obtain ⟨⟨vA, vB, h1⟩, h2, h4, h5, h3⟩ := hs
    exact ⟨⟨vA, vB, h1.owned hg (fun r e => (hr r e).2)⟩, h2, h4, h5, h3.grown hg h3.size (fun k e => by have := (hr k e).1; omega)⟩
  case hAx =>
    intro x a' u W W' row hs hg hr
    obtain ⟨Bd, uA, uB, kA, xA, kB, xB, h1, h2⟩ := hs
    exact ⟨Bd, uA, uB, kA, xA, kB, xB, h1.owned hg (fun r e => (hr r e).2), h2⟩
  case assign =>
    rintro l pre x W K ⟨⟨vA, vB, hT⟩, hst, hB⟩ hK
    simp only [encID]
    gi_wp2
    have h2 := hT.alloc 31 (diCells x.1).toArray
    have hb4 : Below W.heap.size W (W.alloc (.cells (diCells x.1).toArray 31)) := (Below.refl _ W).alloc (Nat.le_refl _) _
    have hbs : ∀ b ∈ [w.heap.size + 1, w.heap.size + 1 + 1], b < W.heap.size := by
      intro b hb
      simp only [List.mem_cons, List.not_mem_nil, or_false] at hb
      rcases hb with rfl | rfl
      · exact hT.boxA.lt
      · exact hT.boxB.lt
    refine hK _ _ (h2.keeps.from _) (keepsBut_alloc hbs _) ⟨⟨vA, vB, (h2.sub (L' := [(w.heap.size, 3, #[.int .i64 stop])]) (by intro p hp; simp at hp; subst hp; simp)).rebase⟩, hst, hB.trans (hb4.mono hB.size)⟩ ⟨W.heap.size, vA, vB, _, _, _, _, h2.rebase, rfl⟩
  case body =>
    rintro l pre x a' W hl hpre ⟨⟨vA, vB, hT⟩, hst, hB⟩ ⟨Bd, uA, uB, kA, xA, kB, xB, hU, rfl⟩ hlt
    have hJ := hT.join hU
    obtain ⟨LL, hL1, hL2⟩ := all_blks [w.heap.size + 1, w.heap.size + 1 + 1] W
    have hJ2 := hJ.wide hL1
    clear hT hU hJ
    have hka : (pre.length + 1) * 8 ≤ 140737488355328 := by omega
    have hkb : (pre.length + 1) * 32 ≤ 140737488355328 := by omega
    have hbd : (Bd, 31, (diCells x.1).toArray) ∈ [(Bd, 31, (diCells x.1).toArray), (w.heap.size, 3, #[Value.int .i64 stop])] ++ LL := by simp
    gi_wp2
    refine wpIn_region_any (by kernel_rfl) ?_
    refine two_rows (tA := 35) (tB := 22) (t1 := 3) (t5 := 31) (o1 := .move (.tmp 8)) (o5 := .load 31 (.tmp 9)) (pos := "law.go:79") (x := .int .i64 x.2) (y := diV x.1) (cx := #[.int .i64 x.2]) (cy := (diCells x.1).toArray) _ _ _ _ _ _ _ _ _ _ _
      slI slD rfl rfl (by simp [Value.oneCell']) (by intro u hu; simp at hu; rcases hu with rfl | rfl | rfl <;> rfl) hka hkb ?h1 ?h5 ?h2 ?h6 ?h8 ?h9 hJ2.drew ?_
    case h1 =>
      rintro y0 y1 y2 y3 y4 y5 y6 y7 w K _ hK o ho hd
      unfold Oper.wpIn
      refine ⟨by simp [Oper.about, ho], ?_⟩
      rw [Oper.semAt_plain _ _ _ (by rw [ho]; intro c hc'; cases hc')]
      simp only [execOp, ho]
      go_simp
      exact hK
    case h5 =>
      rintro y0 y1 y2 y3 y4 y5 y6 y7 w K hbs hK o ho hd
      refine op_loadS aggD rfl ho rfl (hbs (Bd, 31, (diCells x.1).toArray) hbd) ?_
      rw [hd]
      exact hK
    case h2 =>
      rintro y0 y2 y3 y4 y5 y6 y7 w K hK o ho hd
      unfold Oper.wpIn
      refine ⟨by simp [Oper.about, ho], ?_⟩
      rw [Oper.semAt_plain _ _ _ (by rw [ho]; intro c hc'; cases hc')]
      simp only [execOp, ho]
      go_simp
      exact hK
    case h6 =>
      rintro y0 y1 y2 y3 y4 y6 y7 w K hK o ho hd
      unfold Oper.wpIn
      refine ⟨by simp [Oper.about, ho], ?_⟩
      rw [Oper.semAt_plain _ _ _ (by rw [ho]; intro c hc'; cases hc')]
      simp only [execOp, ho]
      go_simp
      exact hK
    case h8 =>
      rintro y0 y1 y2 b l c y4 y5 y6 y7 v w K hb hK o ho hd
      have hc := hb.cell
      have hf := hb.frozen
      unfold Oper.wpIn
      refine ⟨by simp [Oper.about, ho], ?_⟩
      rw [Oper.semAt_plain _ _ _ (by rw [ho]; intro c hc'; cases hc')]
      simp only [execOp, ho]
      go_simp
      exact hK
    case h9 =>
      rintro y0 y1 y2 y3 y4 y5 y6 b l c v w K hb hK o ho hd
      have hc := hb.cell
      have hf := hb.frozen
      unfold Oper.wpIn
      refine ⟨by simp [Oper.about, ho], ?_⟩
      rw [Oper.semAt_plain _ _ _ (by rw [ho]; intro c hc'; cases hc')]
      simp only [execOp, ho]
      go_simp
      exact hK
    rintro gA gB vA' vB' W' hT'
    have hc2 := hT'.boxB.cell
    have hs0 : W'.cell? ⟨w.heap.size, 0, none⟩ = some (.int .i64 stop) := (hT'.stay (w.heap.size, 3, #[.int .i64 stop]) (by simp)).1.cell 0
    obtain ⟨vb, vc, rfl⟩ : ∃ b c, vB' = .slice b (pre.length + 1) c := by
      rcases hT'.rowB.2 with ⟨_, e⟩ | ⟨g, cap, cur, e, _⟩
      · omega
      · exact ⟨_, _, e⟩
    have hT2 := hT'.sub (L' := [(w.heap.size, 3, #[.int .i64 stop])]) (by intro p hp; simp at hp; subst hp; simp)
    have hKB : KeepsBut [w.heap.size + 1, w.heap.size + 1 + 1] W W' := hT'.keepsBut fun g t cs h1 h2 => by simp [hL2 g t cs h1 h2]
    by_cases heq : ((pre.length : Int) + 1) = stop
    · gi_wp2
      exact ⟨hT'.keeps.from _, ⟨vA', _, by simpa using hT2.rebase⟩, rfl, by omega, by simp; omega, hB.trans hT'.below⟩
    · gi_wp2
      exact ⟨hT'.keeps.from _, hKB, ⟨vA', _, by simpa using hT2.rebase⟩, fun h => by simp; have := hst h; omega, hB.trans hT'.below⟩
  case done =>
    rintro D ys W hD rfl ⟨⟨vA, vB, hT⟩, hst, hB⟩ hK
    have c1 := hT.boxA.cell
    have c2 := hT.boxB.cell
    have hcut : cutL stop ds.zipIdx = ds.zipIdx := by
      unfold cutL
      split
      · rename_i h; have := hst h; rw [List.take_of_length_le (by omega)]
      · rfl
    have HC := Lib.hid hcut
    clear hcut
    gi_wp2
    gi_region
    all_goals
      gi_wp2
      refine ⟨by simp, .inl ⟨_, _, rfl, run_takeDeferred (w := W.drew) hK, ?_⟩⟩
      refine ⟨_, results_tmp2 rfl _ _ _, vA, vB, rfl, ?_, ?_, ?_⟩
      · rw [HC.out]; exact ownsRow_putObj hT.rowA.drew _ hK rfl
      · rw [HC.out]; exact ownsRow_putObj hT.rowB.drew _ hK rfl
      · exact hB.drew.trans (belowK_b (w := w) (Nat.le_refl _) W.drew D _ _ (by omega) hK rfl rfl)
  case stop =>
    rintro D c pre W hD hpre ⟨⟨vA, vB, hT⟩, rfl, hst, he, hB⟩ hK
    have c1 := hT.boxA.cell
    have c2 := hT.boxB.cell
    have hcut : cutL stop ds.zipIdx = pre := by
      unfold cutL
      rw [if_pos hst]
      obtain ⟨r, hr⟩ := hpre
      rw [← hr, show stop.toNat = pre.length by omega, List.take_left]
    have HC := Lib.hid hcut
    clear hcut
    gi_wp2
    gi_region
    all_goals
      gi_wp2
      refine ⟨by simp, .inl ⟨_, _, rfl, run_takeDeferred (w := W.drew) hK, ?_⟩⟩
      refine ⟨_, results_tmp2 rfl _ _ _, vA, vB, rfl, ?_, ?_, ?_⟩
      · rw [HC.out]; exact ownsRow_putObj hT.rowA.drew _ hK rfl
      · rw [HC.out]; exact ownsRow_putObj hT.rowB.drew _ hK rfl
      · exact hB.drew.trans (belowK_b (w := w) (Nat.le_refl _) W.drew D _ _ (by omega) hK rfl rfl)
end Go.Proofs.YtgdnibdahldekabDoor
