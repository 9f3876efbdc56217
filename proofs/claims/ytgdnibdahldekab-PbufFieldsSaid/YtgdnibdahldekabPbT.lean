/- The walk of chapter 10's word told: what an iterator of fields tells, till one has enough. -/
import Derived.Test.YtgdnibdahldekabTw
import Derived.Test.YtgdnibdahldekabTx
import Derived.Test.YtgdnibdahldekabPfF
import Derived.RegionIn
import Derived.BigRegionIn
import Derived.Outline
import Derived.Test.YtgdnibdahldekabProg
namespace Go.Proofs.Ytgdnibdahldekab
open Go.RowKit Go.Shelf
set_option linter.unusedVariables false
attribute [local go_sem] Oper.semAt_some

abbrev dgCells (d : Dg) : List Value := [.int .i64 d.code, .int .i64 d.at_, .string ⟨d.what.toArray⟩]
theorem slD : SlT Try.prog 57 47 3 32 := SlT.mk Try.underlying57 (z := .agg #[.int .i64 0, .int .i64 0, .string ⟨#[]⟩]) (by kernel_rfl) rfl (by decide) (by decide)
theorem boxed_inj {w : World} {B : Nat} {t : TypeId} {u v : Value} (h : Boxed w B t u) (h' : Boxed w B t v) : u = v := by
  have h1 := h.cell
  rw [h'.cell] at h1
  exact (Option.some.inj h1).symm
section
variable {base BA BB : Nat} {tA tB eA eB : TypeId} {sA sB : Nat} {L L' : List (Nat × TypeId × Array Value)} {W0 W : World} {bA bB vA : Value} {kA : Nat} {xA : List Value} {vB : Value} {kB : Nat} {xB : List Value} {kA' : Nat} {xA' : List Value} {kB' : Nat} {xB' : List Value} {uA uB : Value}
/-- The one tells the rows, the other the blocks that stay. -/
theorem TS.join (h : TS base BA BB tA tB eA eB sA sB L W W vA vB vA kA xA vB kB xB) (h' : TS base BA BB tA tB eA eB sA sB L' W W uA uB uA kA' xA' uB kB' xB') : TS base BA BB tA tB eA eB sA sB L' W W vA vB vA kA xA vB kB xB := by
  obtain rfl := boxed_inj h.boxA h'.boxA
  obtain rfl := boxed_inj h.boxB h'.boxB
  exact { h with stay := h'.stay }
end
/-- One operation that loads a struct out of a block that stays. -/
theorem op_loadS {F : Fence} {n : Nat} {P : Program} {Q : Exit → Act → World → Prop} {o : Oper} {a : Act} {w : World} {K : Act → World → Prop} {ty t : TypeId} {x : Operand} {g m : Nat} {cs : Array Value} (T : AggT P ty m) (hm : cs.size = m) (ho : o.op = .load ty x) (hx : a.eval x = .pointer (some ⟨g, 0, none⟩)) (hb : BlkAt w g t cs)
    (hK : K (a.put o.dst (.agg cs)) w) : Oper.wpIn F n P o a w K Q := by
  have hl := T.load hm hb
  unfold Oper.wpIn
  refine ⟨by simp [Oper.about, ho], ?_⟩
  rw [Oper.semAt_plain F _ _ (by rw [ho]; intro c hc'; cases hc')]
  simp only [execOp, ho, hx, Instr.loadAt, Instr.sureAddr, Sem.run_bind, Sem.run_pure, Result.andThen_ok, hl]
  exact hK
theorem aggF10 : AggT Try.prog 39 5 := ⟨_, Try.underlying39, rfl, by kernel_rfl⟩
/-- What told tells of what Each tells. -/
def toldL (stop : Int) (l : List UInt8) : List (Fld × Dg) := cutL stop (eachL l)

set_option maxRecDepth 100000 in
set_option maxHeartbeats 4000000 in
theorem told10_any (B : Nat) (s : ByteArray) (hs : s.size ≤ 281474976710656) (stop : Int) (w : World) (hb : Boxed w B 9 (.string s)) :
    Calls Try.prog 33 #[.func (.func 59) #[] #[.pointer (some ⟨B, 0, none⟩)], .int .i64 stop] w fun e W' =>
      ∃ vA vB, e = .returned (.tuple #[vA, vB]) ∧ W'.ownsRow w.heap.size 39 5 vA (toldL stop s.data.toList).length (((toldL stop s.data.toList).map (·.1)).flatMap fldCells) ∧
        W'.ownsRow w.heap.size 47 3 vB (toldL stop s.data.toList).length (((toldL stop s.data.toList).map (·.2)).flatMap dgCells) ∧ Below w.heap.size w W' := by
  have hlen := eachL_len s.data.toList
  have hBl := hb.lt
  refine (callsIn_wide (n := 3)).1 ?_
  refine callsIn_of_wp_marks Try.func33 rfl trivial ?_ rfl
  simp only [Try.ntmps33, List.size_toArray, List.length_cons, List.length_nil, Nat.reduceAdd, Nat.reduceSub, Array.replicate_succ, Array.replicate_zero, List.push_toArray, List.append_toArray, List.nil_append, List.cons_append]
  gi_wp2
  obtain ⟨W0, hW0⟩ : ∃ W0, ((w.alloc (.cells #[.int .i64 stop] 3)).alloc (.cells #[.slice none 0 0] 45)).alloc (.cells #[.slice none 0 0] 57) = W0 := ⟨_, rfl⟩
  have hB0 : Below w.heap.size w W0 := by rw [← hW0]; exact (((Below.refl _ w).alloc (Nat.le_refl _) _).alloc (by simp) _).alloc (by simp; omega) _
  have k0 : BlkAt W0 w.heap.size 3 #[.int .i64 stop] := by rw [← hW0]; exact ((BlkAt.new w _ _).alloc _).alloc _
  have k1 : Boxed W0 (w.heap.size + 1) 45 (.slice none 0 0) := by
    rw [← hW0]
    have := Boxed.new (w.alloc (.cells #[.int .i64 stop] 3)) 45 (.slice none 0 0)
    simp only [World.size_alloc] at this
    exact this.alloc _
  have k2 : Boxed W0 (w.heap.size + 1 + 1) 57 (.slice none 0 0) := by
    rw [← hW0]
    have := Boxed.new ((w.alloc (.cells #[.int .i64 stop] 3)).alloc (.cells #[.slice none 0 0] 45)) 57 (.slice none 0 0)
    simp only [World.size_alloc] at this
    exact this
  have hz0 : W0.heap.size = w.heap.size + 3 := by rw [← hW0]; simp
  rw [hW0]
  clear hW0
  have T0 : TS w.heap.size (w.heap.size + 1) (w.heap.size + 1 + 1) 45 57 39 47 5 3 [(w.heap.size, 3, #[.int .i64 stop])] W0 W0 (.slice none 0 0) (.slice none 0 0) (.slice none 0 0) 0 [] (.slice none 0 0) 0 [] :=
    { boxA := k1, boxB := k2, rowA := World.ownsRow_nil _ _ _ _, rowB := World.ownsRow_nil _ _ _ _, apart := by simp [Value.ownBlock], aA := by simp [Value.ownBlock], aB := by simp [Value.ownBlock], bA' := by simp [Value.ownBlock], bB' := by simp [Value.ownBlock], stay := by
        intro p hp
        simp at hp
        subst hp
        exact ⟨k0, by simp [Value.ownBlock], by simp [Value.ownBlock], by simp, by simp; omega⟩
      keeps := KeepsOthers.refl _, below := Below.refl _ _, room := by omega, ne := by simp, geA := by omega, geB := by omega }
  refine wpIn_rangeFunc_ownH rfl (by omega) (gf := 59) (lb := #[.pointer (some ⟨B, 0, none⟩)]) rfl trivial (enters_of Try.func59 (by kernel_rfl) rfl)
    (each_stops 2 (by omega) B s hs _ hb) keepB_t (keepB_b (by omega)) hB0 (fun _ => rfl)
    (fun pre W => (∃ vA vB, TS w.heap.size (w.heap.size + 1) (w.heap.size + 1 + 1) 45 57 39 47 5 3 [(w.heap.size, 3, #[.int .i64 stop])] W W vA vB vA pre.length ((pre.map (·.1)).flatMap fldCells) vB pre.length ((pre.map (·.2)).flatMap dgCells)) ∧ (1 ≤ stop → (pre.length : Int) < stop) ∧ Below w.heap.size w W)
    (fun c pre W => (∃ vA vB, TS w.heap.size (w.heap.size + 1) (w.heap.size + 1 + 1) 45 57 39 47 5 3 [(w.heap.size, 3, #[.int .i64 stop])] W W vA vB vA pre.length ((pre.map (·.1)).flatMap fldCells) vB pre.length ((pre.map (·.2)).flatMap dgCells)) ∧ c = .exit 0 ∧ 1 ≤ stop ∧ (pre.length : Int) = stop ∧ Below w.heap.size w W)
    ?hI ?hIx ⟨⟨_, _, T0⟩, fun h => by simp; omega, hB0⟩
    (fun x a' W => ∃ Bf Bd uA uB kA xA kB xB, TS w.heap.size (w.heap.size + 1) (w.heap.size + 1 + 1) 45 57 39 47 5 3 [(Bd, 47, (dgCells x.2).toArray), (Bf, 39, (fldCells x.1).toArray), (w.heap.size, 3, #[.int .i64 stop])] W W uA uB uA kA xA uB kB xB ∧
      a' = { tmps := #[.func (.func 59) #[] #[.pointer (some ⟨B, 0, none⟩)], .int .i64 stop, undef, .pointer (some ⟨w.heap.size, 0, none⟩), .slice none 0 0, .slice none 0 0, .pointer (some ⟨w.heap.size + 1, 0, none⟩), .pointer (some ⟨w.heap.size + 1 + 1, 0, none⟩), .pointer (some ⟨Bf, 0, none⟩), .pointer (some ⟨Bd, 0, none⟩), .func (.func 59) #[] #[.pointer (some ⟨B, 0, none⟩)], fldV x.1, dgV x.2, undef, undef, undef, undef, undef, undef, undef, undef, undef, undef, undef, undef, undef, undef], defers := [] })
    ?hAx ?assign ?body ?done ?stop
  case hI =>
    intro pre W W' row hs hg hr
    obtain ⟨⟨vA, vB, h1⟩, h2, h3⟩ := hs
    exact ⟨⟨vA, vB, h1.owned hg (fun r e => (hr r e).2)⟩, h2, h3.grown hg h3.size (fun k e => by have := (hr k e).1; omega)⟩
  case hIx =>
    intro c pre W W' row hs hg hr
    obtain ⟨⟨vA, vB, h1⟩, h2, h4, h5, h3⟩ := hs
    exact ⟨⟨vA, vB, h1.owned hg (fun r e => (hr r e).2)⟩, h2, h4, h5, h3.grown hg h3.size (fun k e => by have := (hr k e).1; omega)⟩
  case hAx =>
    intro x a' u W W' row hs hg hr
    obtain ⟨Bf, Bd, uA, uB, kA, xA, kB, xB, h1, h2⟩ := hs
    exact ⟨Bf, Bd, uA, uB, kA, xA, kB, xB, h1.owned hg (fun r e => (hr r e).2), h2⟩
  case assign =>
    rintro l pre x W K ⟨⟨vA, vB, hT⟩, hst, hB⟩ hK
    simp only [encFD]
    gi_wp2
    have h2 := (hT.alloc 39 (fldCells x.1).toArray).alloc 47 (dgCells x.2).toArray
    rw [World.size_alloc] at h2
    have hb4 : Below W.heap.size W ((W.alloc (.cells (fldCells x.1).toArray 39)).alloc (.cells (dgCells x.2).toArray 47)) := ((Below.refl _ W).alloc (Nat.le_refl _) _).alloc (by simp) _
    refine hK _ _ (h2.keeps.from _) (KeepB.of_below (hb4.mono hT.room) hBl) ⟨⟨vA, vB, (h2.sub (L' := [(w.heap.size, 3, #[.int .i64 stop])]) (by intro p hp; simp at hp; subst hp; simp)).rebase⟩, hst, hB.trans (hb4.mono hB.size)⟩ ⟨W.heap.size, W.heap.size + 1, vA, vB, _, _, _, _, h2.rebase, rfl⟩
  case body =>
    rintro l pre x a' W hl hpre ⟨⟨vA, vB, hT⟩, hst, hB⟩ ⟨Bf, Bd, uA, uB, kA, xA, kB, xB, hU, rfl⟩ hlt
    have hJ := hT.join hU
    clear hT hU
    have hka : (pre.length + 1) * 48 ≤ 140737488355328 := by omega
    have hkb : (pre.length + 1) * 32 ≤ 140737488355328 := by omega
    gi_wp2
    refine wpIn_region_any (by kernel_rfl) ?_
    refine two_rows (tA := 45) (tB := 57) (t1 := 39) (t5 := 47) (o1 := .load 39 (.tmp 8)) (o5 := .load 47 (.tmp 9)) (pos := "law.go:55") (x := fldV x.1) (y := dgV x.2) (cx := (fldCells x.1).toArray) (cy := (dgCells x.2).toArray) _ _ _ _ _ _ _ _ _ _ _
      slF slD rfl rfl (by intro u hu; simp at hu; rcases hu with rfl | rfl | rfl | rfl | rfl <;> rfl) (by intro u hu; simp at hu; rcases hu with rfl | rfl | rfl <;> rfl) hka hkb ?h1 ?h5 ?h2 ?h6 ?h8 ?h9 hJ.drew ?_
    case h1 =>
      rintro y0 y1 y2 y3 y4 y5 y6 y7 w K hbs hK o ho hd
      refine op_loadS aggF10 rfl ho rfl (hbs (Bf, 39, (fldCells x.1).toArray) (by simp)) ?_
      rw [hd]
      exact hK
    case h5 =>
      rintro y0 y1 y2 y3 y4 y5 y6 y7 w K hbs hK o ho hd
      refine op_loadS aggD rfl ho rfl (hbs (Bd, 47, (dgCells x.2).toArray) (by simp)) ?_
      rw [hd]
      exact hK
    case h2 =>
      rintro y0 y2 y3 y4 y5 y6 y7 w K hK o ho hd
      unfold Oper.wpIn
      refine ⟨by simp [Oper.about, ho], ?_⟩
      rw [Oper.semAt_plain _ _ _ (by rw [ho]; intro c hc'; cases hc')]
      simp only [execOp, ho]
      go_simp
      exact hK
    case h6 =>
      rintro y0 y1 y2 y3 y4 y6 y7 w K hK o ho hd
      unfold Oper.wpIn
      refine ⟨by simp [Oper.about, ho], ?_⟩
      rw [Oper.semAt_plain _ _ _ (by rw [ho]; intro c hc'; cases hc')]
      simp only [execOp, ho]
      go_simp
      exact hK
    case h8 =>
      rintro y0 y1 y2 b l c y4 y5 y6 y7 v w K hb hK o ho hd
      have hc := hb.cell
      have hf := hb.frozen
      unfold Oper.wpIn
      refine ⟨by simp [Oper.about, ho], ?_⟩
      rw [Oper.semAt_plain _ _ _ (by rw [ho]; intro c hc'; cases hc')]
      simp only [execOp, ho]
      go_simp
      exact hK
    case h9 =>
      rintro y0 y1 y2 y3 y4 y5 y6 b l c v w K hb hK o ho hd
      have hc := hb.cell
      have hf := hb.frozen
      unfold Oper.wpIn
      refine ⟨by simp [Oper.about, ho], ?_⟩
      rw [Oper.semAt_plain _ _ _ (by rw [ho]; intro c hc'; cases hc')]
      simp only [execOp, ho]
      go_simp
      exact hK
    rintro gA gB vA' vB' W' hT'
    have hc1 := hT'.boxA.cell
    have hs0 : W'.cell? ⟨w.heap.size, 0, none⟩ = some (.int .i64 stop) := (hT'.stay (w.heap.size, 3, #[.int .i64 stop]) (by simp)).1.cell 0
    obtain ⟨va, vc, rfl⟩ : ∃ b c, vA' = .slice b (pre.length + 1) c := by
      rcases hT'.rowA.2 with ⟨_, e⟩ | ⟨g, cap, cur, e, _⟩
      · omega
      · exact ⟨_, _, e⟩
    have hT2 := hT'.sub (L' := [(w.heap.size, 3, #[.int .i64 stop])]) (by intro p hp; simp at hp; subst hp; simp)
    by_cases heq : ((pre.length : Int) + 1) = stop
    · gi_wp2
      exact ⟨hT'.keeps.from _, ⟨_, vB', by simpa using hT2.rebase⟩, rfl, by omega, by simp; omega, hB.trans hT'.below⟩
    · gi_wp2
      exact ⟨hT'.keeps.from _, KeepB.of_below hT'.below hBl, ⟨_, vB', by simpa using hT2.rebase⟩, fun h => by simp; have := hst h; omega, hB.trans hT'.below⟩
  case done =>
    rintro D ys W hD rfl ⟨⟨vA, vB, hT⟩, hst, hB⟩ hK
    have c1 := hT.boxA.cell
    have c2 := hT.boxB.cell
    have hcut : toldL stop s.data.toList = eachL s.data.toList := by
      unfold toldL cutL
      split
      · rename_i h; have := hst h; rw [List.take_of_length_le (by omega)]
      · rfl
    have HC := Lib.hid hcut
    clear hcut
    gi_wp2
    gi_region
    all_goals
      gi_wp2
      refine ⟨by simp, .inl ⟨_, _, rfl, run_takeDeferred (w := W.drew) hK, ?_⟩⟩
      refine ⟨_, results_tmp2 rfl _ _ _, vA, vB, rfl, ?_, ?_, ?_⟩
      · rw [HC.out]; exact ownsRow_putObj hT.rowA.drew _ hK rfl
      · rw [HC.out]; exact ownsRow_putObj hT.rowB.drew _ hK rfl
      · exact hB.drew.trans (belowK_b (w := w) (Nat.le_refl _) W.drew D _ _ (by omega) hK rfl rfl)
  case stop =>
    rintro D c pre W hD hpre ⟨⟨vA, vB, hT⟩, rfl, hst, he, hB⟩ hK
    have c1 := hT.boxA.cell
    have c2 := hT.boxB.cell
    have hcut : toldL stop s.data.toList = pre := by
      unfold toldL cutL
      rw [if_pos hst]
      obtain ⟨r, hr⟩ := hpre
      rw [← hr, show stop.toNat = pre.length by omega, List.take_left]
    have HC := Lib.hid hcut
    clear hcut
    gi_wp2
    gi_region
    all_goals
      gi_wp2
      refine ⟨by simp, .inl ⟨_, _, rfl, run_takeDeferred (w := W.drew) hK, ?_⟩⟩
      refine ⟨_, results_tmp2 rfl _ _ _, vA, vB, rfl, ?_, ?_, ?_⟩
      · rw [HC.out]; exact ownsRow_putObj hT.rowA.drew _ hK rfl
      · rw [HC.out]; exact ownsRow_putObj hT.rowB.drew _ hK rfl
      · exact hB.drew.trans (belowK_b (w := w) (Nat.le_refl _) W.drew D _ _ (by omega) hK rfl rfl)
end Go.Proofs.Ytgdnibdahldekab
