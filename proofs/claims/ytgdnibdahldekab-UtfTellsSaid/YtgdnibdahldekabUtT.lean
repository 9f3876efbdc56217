/- The walk of the law's own word told: what an iterator tells, till one has enough. -/
import Derived.Test.YtgdnibdahldekabTw
import Derived.Test.YtgdnibdahldekabUtI
import Derived.RegionIn
import Derived.BigRegionIn
import Derived.Outline
import Derived.Test.YtgdnibdahldekabProg
namespace Go.Proofs.Ytgdnibdahldekab
open Go.RowKit Go.Shelf
set_option linter.unusedVariables false
attribute [local go_sem] Oper.semAt_some

theorem slI : SlT Try.prog 25 3 1 8 := SlT.mk Try.underlying25 (z := .int .i64 0) (by kernel_rfl) rfl (by decide) (by decide)
abbrev nv (k : Nat) : Value := .int .i64 k
/-- Of a list what is told till one has enough. -/
def cutL {α : Type} (stop : Int) (xs : List α) : List α := if 1 ≤ stop then xs.take stop.toNat else xs

section
variable {base BA BB : Nat} {tA tB eA eB : TypeId} {sA sB : Nat} {L : List (Nat × TypeId × Array Value)} {W0 W W' : World} {bA bB vA : Value} {kA : Nat} {xA : List Value} {vB : Value} {kB : Nat} {xB : List Value}
theorem TS.rebase (h : TS base BA BB tA tB eA eB sA sB L W0 W bA bB vA kA xA vB kB xB) : TS base BA BB tA tB eA eB sA sB L W W bA bB vA kA xA vB kB xB :=
  { h with keeps := KeepsOthers.refl _, below := Below.refl _ _ }
theorem TS.drew (h : TS base BA BB tA tB eA eB sA sB L W0 W bA bB vA kA xA vB kB xB) : TS base BA BB tA tB eA eB sA sB L W0 W.drew bA bB vA kA xA vB kB xB :=
  { boxA := h.boxA, boxB := h.boxB, rowA := h.rowA.drew, rowB := h.rowB.drew, apart := h.apart, aA := h.aA, aB := h.aB, bA' := h.bA', bB' := h.bB', stay := h.stay, keeps := h.keeps.trans (KeepsOthers.drew _), below := h.below.drew, room := h.room, ne := h.ne, geA := h.geA, geB := h.geB }
theorem TS.owned (h : TS base BA BB tA tB eA eB sA sB L W W bA bB vA kA xA vB kB xB) {row : Option Nat} (hg : W.grownBy W' row) (hr : ∀ r, row = some r → ∃ o : Obj, W.heap[r]? = some o ∧ o.isCells = false) :
    TS base BA BB tA tB eA eB sA sB L W' W' bA bB vA kA xA vB kB xB where
  boxA := boxed_own _ _ (fun _ => bA) () W W' row h.boxA hg hr
  boxB := boxed_own _ _ (fun _ => bB) () W W' row h.boxB hg hr
  rowA := row_own _ _ _ vA (fun _ => kA) (fun _ => xA) () W W' row h.rowA hg hr
  rowB := row_own _ _ _ vB (fun _ => kB) (fun _ => xB) () W W' row h.rowB hg hr
  apart := h.apart
  aA := h.aA
  aB := h.aB
  bA' := h.bA'
  bB' := h.bB'
  stay := fun p hp => by
    obtain ⟨h1, h2⟩ := h.stay p hp
    exact ⟨blk_own _ _ (fun _ => p.2.2) () W W' row h1 hg hr, h2⟩
  keeps := KeepsOthers.refl _
  below := Below.refl _ _
  room := Nat.le_trans h.room hg.size
  ne := h.ne
  geA := h.geA
  geB := h.geB
end

set_option maxRecDepth 100000 in
set_option maxHeartbeats 2000000 in
theorem told6_any (B : Nat) (s : ByteArray) (hs : s.size ≤ 100000) (stop : Int) (w : World) (hb : Boxed w B 9 (.string s)) :
    Calls Try.prog 23 #[.func (.func 48) #[] #[.pointer (some ⟨B, 0, none⟩)], .int .i64 stop] w fun e W' =>
      ∃ vA vB, e = .returned (.tuple #[vA, vB]) ∧ W'.ownsRow w.heap.size 3 1 vA (cutL stop (allRunes s.data.toList)).length ((cutL stop (allRunes s.data.toList)).map fun p => nv p.1) ∧
        W'.ownsRow w.heap.size 3 1 vB (cutL stop (allRunes s.data.toList)).length ((cutL stop (allRunes s.data.toList)).map fun p => nv p.2) ∧ Below w.heap.size w W' := by
  have hle := allRunes_le s.data.toList
  have hls : s.data.toList.length = s.size := by simp
  rw [hls] at hle
  have hBl := hb.lt
  refine (callsIn_wide (n := 3)).1 ?_
  refine callsIn_of_wp_marks Try.func23 rfl trivial ?_ rfl
  simp only [Try.ntmps23, List.size_toArray, List.length_cons, List.length_nil, Nat.reduceAdd, Nat.reduceSub, Array.replicate_succ, Array.replicate_zero, List.push_toArray, List.append_toArray, List.nil_append, List.cons_append]
  gi_wp2
  obtain ⟨W0, hW0⟩ : ∃ W0, ((w.alloc (.cells #[.int .i64 stop] 3)).alloc (.cells #[.slice none 0 0] 25)).alloc (.cells #[.slice none 0 0] 25) = W0 := ⟨_, rfl⟩
  have hB0 : Below w.heap.size w W0 := by rw [← hW0]; exact (((Below.refl _ w).alloc (Nat.le_refl _) _).alloc (by simp) _).alloc (by simp; omega) _
  have k0 : BlkAt W0 w.heap.size 3 #[.int .i64 stop] := by rw [← hW0]; exact ((BlkAt.new w _ _).alloc _).alloc _
  have k1 : Boxed W0 (w.heap.size + 1) 25 (.slice none 0 0) := by
    rw [← hW0]
    have := Boxed.new (w.alloc (.cells #[.int .i64 stop] 3)) 25 (.slice none 0 0)
    simp only [World.size_alloc] at this
    exact this.alloc _
  have k2 : Boxed W0 (w.heap.size + 1 + 1) 25 (.slice none 0 0) := by
    rw [← hW0]
    have := Boxed.new ((w.alloc (.cells #[.int .i64 stop] 3)).alloc (.cells #[.slice none 0 0] 25)) 25 (.slice none 0 0)
    simp only [World.size_alloc] at this
    exact this
  have hz0 : W0.heap.size = w.heap.size + 3 := by rw [← hW0]; simp
  rw [hW0]
  clear hW0
  have T0 : TS w.heap.size (w.heap.size + 1) (w.heap.size + 1 + 1) 25 25 3 3 1 1 [(w.heap.size, 3, #[.int .i64 stop])] W0 W0 (.slice none 0 0) (.slice none 0 0) (.slice none 0 0) 0 [] (.slice none 0 0) 0 [] :=
    { boxA := k1, boxB := k2, rowA := World.ownsRow_nil _ _ _ _, rowB := World.ownsRow_nil _ _ _ _, apart := by simp [Value.ownBlock], aA := by simp [Value.ownBlock], aB := by simp [Value.ownBlock], bA' := by simp [Value.ownBlock], bB' := by simp [Value.ownBlock], stay := by
        intro p hp
        simp at hp
        subst hp
        exact ⟨k0, by simp [Value.ownBlock], by simp [Value.ownBlock], by simp, by simp; omega⟩
      keeps := KeepsOthers.refl _, below := Below.refl _ _, room := by omega, ne := by simp, geA := by omega, geB := by omega }
  refine wpIn_rangeFunc_ownG rfl (by omega) (gf := 48) (lb := #[.pointer (some ⟨B, 0, none⟩)]) rfl trivial (enters_of Try.func48 (by kernel_rfl) rfl)
    (runes_stops 2 (by omega) B s (by omega) _ hb) keepB_t (keepB_b (by omega)) hB0 (fun _ => rfl)
    (fun pre W => (∃ vA vB, TS w.heap.size (w.heap.size + 1) (w.heap.size + 1 + 1) 25 25 3 3 1 1 [(w.heap.size, 3, #[.int .i64 stop])] W W vA vB vA pre.length (pre.map fun p => nv p.1) vB pre.length (pre.map fun p => nv p.2)) ∧ (1 ≤ stop → (pre.length : Int) < stop) ∧ Below w.heap.size w W)
    (fun c pre W => (∃ vA vB, TS w.heap.size (w.heap.size + 1) (w.heap.size + 1 + 1) 25 25 3 3 1 1 [(w.heap.size, 3, #[.int .i64 stop])] W W vA vB vA pre.length (pre.map fun p => nv p.1) vB pre.length (pre.map fun p => nv p.2)) ∧ c = .exit 0 ∧ 1 ≤ stop ∧ (pre.length : Int) = stop ∧ Below w.heap.size w W)
    ?hI ?hIx ⟨⟨_, _, T0⟩, fun h => by simp; omega, hB0⟩
    (fun x => { tmps := #[.func (.func 48) #[] #[.pointer (some ⟨B, 0, none⟩)], .int .i64 stop, undef, .pointer (some ⟨w.heap.size, 0, none⟩), .slice none 0 0, .slice none 0 0, .pointer (some ⟨w.heap.size + 1, 0, none⟩), .pointer (some ⟨w.heap.size + 1 + 1, 0, none⟩), .int .i64 x.1, .int .i64 x.2, .func (.func 48) #[] #[.pointer (some ⟨B, 0, none⟩)], .int .i64 x.1, .int .i64 x.2, undef, undef, undef, undef, undef, undef, undef, undef, undef, undef, undef, undef, undef, undef], defers := [] }) ?assign ?body ?done ?stop
  case hI =>
    intro pre W W' row hs hg hr
    obtain ⟨⟨vA, vB, h1⟩, h2, h3⟩ := hs
    exact ⟨⟨vA, vB, h1.owned hg (fun r e => (hr r e).2)⟩, h2, h3.grown hg h3.size (fun k e => by have := (hr k e).1; omega)⟩
  case hIx =>
    intro c pre W W' row hs hg hr
    obtain ⟨⟨vA, vB, h1⟩, h2, h4, h5, h3⟩ := hs
    exact ⟨⟨vA, vB, h1.owned hg (fun r e => (hr r e).2)⟩, h2, h4, h5, h3.grown hg h3.size (fun k e => by have := (hr k e).1; omega)⟩
  case assign =>
    rintro l ⟨x1, x2⟩ W K hK
    simp only [encII]
    gi_wp2
    exact hK
  case body =>
    rintro l pre ⟨x1, x2⟩ W ⟨⟨vA, vB, hT⟩, hst, hB⟩ hlt
    have hka : (pre.length + 1) * 8 ≤ 140737488355328 := by omega
    gi_wp2
    refine wpIn_region_any (by kernel_rfl) ?_
    refine two_rows (tA := 25) (tB := 25) (t1 := 3) (t5 := 3) (o1 := .move (.tmp 8)) (o5 := .move (.tmp 9)) (pos := "law.go:21") (x := nv x1) (y := nv x2) (cx := #[nv x1]) (cy := #[nv x2]) _ _ _ _ _ _ _ _ _ _ _
      slI slI rfl rfl (by simp [Value.oneCell']) (by simp [Value.oneCell']) hka hka ?h1 ?h5 ?h2 ?h6 ?h8 ?h9 hT.drew ?_
    case h1 =>
      rintro y0 y1 y2 y3 y4 y5 y6 y7 w K _ hK o ho hd
      unfold Oper.wpIn
      refine ⟨by simp [Oper.about, ho], ?_⟩
      rw [Oper.semAt_plain _ _ _ (by rw [ho]; intro c hc'; cases hc')]
      simp only [execOp, ho]
      go_simp
      exact hK
    case h5 =>
      rintro y0 y1 y2 y3 y4 y5 y6 y7 w K _ hK o ho hd
      unfold Oper.wpIn
      refine ⟨by simp [Oper.about, ho], ?_⟩
      rw [Oper.semAt_plain _ _ _ (by rw [ho]; intro c hc'; cases hc')]
      simp only [execOp, ho]
      go_simp
      exact hK
    case h2 =>
      rintro y0 y2 y3 y4 y5 y6 y7 w K hK o ho hd
      unfold Oper.wpIn
      refine ⟨by simp [Oper.about, ho], ?_⟩
      rw [Oper.semAt_plain _ _ _ (by rw [ho]; intro c hc'; cases hc')]
      simp only [execOp, ho]
      go_simp
      exact hK
    case h6 =>
      rintro y0 y1 y2 y3 y4 y6 y7 w K hK o ho hd
      unfold Oper.wpIn
      refine ⟨by simp [Oper.about, ho], ?_⟩
      rw [Oper.semAt_plain _ _ _ (by rw [ho]; intro c hc'; cases hc')]
      simp only [execOp, ho]
      go_simp
      exact hK
    case h8 =>
      rintro y0 y1 y2 b l c y4 y5 y6 y7 v w K hb hK o ho hd
      have hc := hb.cell
      have hf := hb.frozen
      unfold Oper.wpIn
      refine ⟨by simp [Oper.about, ho], ?_⟩
      rw [Oper.semAt_plain _ _ _ (by rw [ho]; intro c hc'; cases hc')]
      simp only [execOp, ho]
      go_simp
      exact hK
    case h9 =>
      rintro y0 y1 y2 y3 y4 y5 y6 b l c v w K hb hK o ho hd
      have hc := hb.cell
      have hf := hb.frozen
      unfold Oper.wpIn
      refine ⟨by simp [Oper.about, ho], ?_⟩
      rw [Oper.semAt_plain _ _ _ (by rw [ho]; intro c hc'; cases hc')]
      simp only [execOp, ho]
      go_simp
      exact hK
    rintro gA gB vA' vB' W' hT'
    have hc2 := hT'.boxB.cell
    have hs0 : W'.cell? ⟨w.heap.size, 0, none⟩ = some (.int .i64 stop) := (hT'.stay (w.heap.size, 3, #[.int .i64 stop]) (by simp)).1.cell 0
    obtain ⟨vb, vc, rfl⟩ : ∃ b c, vB' = .slice b (pre.length + 1) c := by
      rcases hT'.rowB.2 with ⟨_, e⟩ | ⟨g, cap, cur, e, _⟩
      · omega
      · exact ⟨_, _, e⟩
    by_cases heq : ((pre.length : Int) + 1) = stop
    · gi_wp2
      exact ⟨hT'.keeps.from _, ⟨vA', _, by simpa using hT'.rebase⟩, rfl, by omega, by simp; omega, hB.trans hT'.below⟩
    · gi_wp2
      exact ⟨hT'.keeps.from _, KeepB.of_below hT'.below hBl, ⟨vA', _, by simpa using hT'.rebase⟩, fun h => by simp; have := hst h; omega, hB.trans hT'.below⟩
  case done =>
    rintro D ys W hD rfl ⟨⟨vA, vB, hT⟩, hst, hB⟩ hK
    have c1 := hT.boxA.cell
    have c2 := hT.boxB.cell
    have hcut : cutL stop (allRunes s.data.toList) = allRunes s.data.toList := by
      unfold cutL
      split
      · rename_i h; have := hst h; rw [List.take_of_length_le (by omega)]
      · rfl
    have HC := Lib.hid hcut
    clear hcut
    gi_wp2
    gi_region
    all_goals
      gi_wp2
      refine ⟨by simp, .inl ⟨_, _, rfl, run_takeDeferred (w := W.drew) hK, ?_⟩⟩
      refine ⟨_, results_tmp2 rfl _ _ _, vA, vB, rfl, ?_, ?_, ?_⟩
      · rw [HC.out]; exact ownsRow_putObj hT.rowA.drew _ hK rfl
      · rw [HC.out]; exact ownsRow_putObj hT.rowB.drew _ hK rfl
      · exact hB.drew.trans (belowK_b (w := w) (Nat.le_refl _) W.drew D _ _ (by omega) hK rfl rfl)
  case stop =>
    rintro D c pre W hD hpre ⟨⟨vA, vB, hT⟩, rfl, hst, he, hB⟩ hK
    have c1 := hT.boxA.cell
    have c2 := hT.boxB.cell
    have hcut : cutL stop (allRunes s.data.toList) = pre := by
      unfold cutL
      rw [if_pos hst]
      obtain ⟨r, hr⟩ := hpre
      rw [← hr, show stop.toNat = pre.length by omega, List.take_left]
    have HC := Lib.hid hcut
    clear hcut
    gi_wp2
    gi_region
    all_goals
      gi_wp2
      refine ⟨by simp, .inl ⟨_, _, rfl, run_takeDeferred (w := W.drew) hK, ?_⟩⟩
      refine ⟨_, results_tmp2 rfl _ _ _, vA, vB, rfl, ?_, ?_, ?_⟩
      · rw [HC.out]; exact ownsRow_putObj hT.rowA.drew _ hK rfl
      · rw [HC.out]; exact ownsRow_putObj hT.rowB.drew _ hK rfl
      · exact hB.drew.trans (belowK_b (w := w) (Nat.le_refl _) W.drew D _ _ (by omega) hK rfl rfl)
end Go.Proofs.Ytgdnibdahldekab
