/- The iterator diag.List.Each: its contract, at the wide fence. -/
import Derived.RangeFuncNested
import Derived.RangeFuncBound
import Derived.RangeFuncCalls
import Derived.RangeFuncLeaves
import Derived.RangeFuncBox
import Derived.Shelf.Abstract
import Derived.Shelf.RegionOpen
import Derived.WalkKit
import Derived.OwnWalk
import Derived.OwnWalkIn
import Derived.TacticsInMore
import Derived.LoopNIn
import Derived.LoopIn
import Derived.Maps.AppendAt
import Derived.Lib.Hide
import Derived.Outline
import Derived.Lib.LazyBuf
import Derived.Test.YtgdnibdahldekabDoorDgB
import Derived.Test.YtgdnibdahldekabDoorIt
import Derived.Test.YtgdnibdahldekabDoorTw
import Derived.Test.YtgdnibdahldekabDoorTx
import Derived.Test.YtgdnibdahldekabDoorProg
namespace Go.Proofs.YtgdnibdahldekabDoor
open Go.RowKit Go.Shelf
set_option linter.unusedVariables false
attribute [local go_sem] Oper.semAt_some

/-- What the caller's boxes hold on to. -/
def Pts (Bs : List Nat) (W : World) (g : Nat) : Prop := ∃ B ∈ Bs, B = g ∨ ∃ t v, Boxed W B t v ∧ v.ownBlock = some g
/-- All blocks of cells but those that the boxes hold on to lie as they lay. -/
def KeepsBut (Bs : List Nat) (W W' : World) : Prop := W.heap.size ≤ W'.heap.size ∧ ∀ g t cs, BlkAt W g t cs → ¬ Pts Bs W g → BlkAt W' g t cs ∧ ¬ Pts Bs W' g
theorem keepsBut_t {Bs : List Nat} {A B C : World} (h : KeepsBut Bs A B) (k : KeepsBut Bs B C) : KeepsBut Bs A C := ⟨Nat.le_trans h.1 k.1, fun g t cs hb hn => k.2 g t cs (h.2 g t cs hb hn).1 (h.2 g t cs hb hn).2⟩
theorem keepsBut_b {Bs : List Nat} {w : World} (hB : ∀ B ∈ Bs, B < w.heap.size) (W : World) (l : Nat) (o o' : Obj) (hl : w.heap.size ≤ l) (h : W.heap[l]? = some o) (hc : o.isCells = false) (_ : o.isWalk = false) : KeepsBut Bs W (W.putObj l o') := ⟨by simp, fun g t cs hb hn => by
  have hne : g ≠ l := by
    rintro rfl
    rw [show W.heap[g]? = _ from hb] at h
    cases h; cases hc
  refine ⟨(World.putObj_heap_other hne).trans hb, ?_⟩
  rintro ⟨B, hBm, hx⟩
  refine hn ⟨B, hBm, hx.imp id ?_⟩
  rintro ⟨t, v, h1, h2⟩
  exact ⟨t, v, (World.putObj_heap_other (by have := hB B hBm; omega)).symm.trans h1, h2⟩⟩
theorem keepsBut_alloc {Bs : List Nat} {W : World} (hB : ∀ B ∈ Bs, B < W.heap.size) (o : Obj) : KeepsBut Bs W (W.alloc o) := ⟨by simp, fun g t cs hb hn => by
  refine ⟨hb.alloc o, ?_⟩
  rintro ⟨B, hBm, hx⟩
  refine hn ⟨B, hBm, hx.imp id ?_⟩
  rintro ⟨t, v, h1, h2⟩
  exact ⟨t, v, (Below.heap_alloc W o B (hB B hBm)).symm.trans h1, h2⟩⟩
/-- A row of reasons that the boxes do not hold on to. -/
def RowK (Bs : List Nat) (W : World) (a : Option Addr) (ds : List Di) : Prop :=
  ∀ i, i < ds.length → ∃ g cur, a = some ⟨g, 0, none⟩ ∧ BlkAt W g 31 cur ∧ ¬ Pts Bs W g ∧ ∀ j, j < 3 → cur[i * 3 + j]? = (diCells (ds.getD i zeroDi))[j]?
theorem RowK.keeps {Bs : List Nat} {W W' : World} {a : Option Addr} {ds : List Di} (h : RowK Bs W a ds) (hk : KeepsBut Bs W W') : RowK Bs W' a ds := fun i hi => by
  obtain ⟨g, cur, h1, h2, h3, h4⟩ := h i hi
  obtain ⟨k1, k2⟩ := hk.2 g _ cur h2 h3
  exact ⟨g, cur, h1, k1, k2, h4⟩
theorem rowK_of {Bs : List Nat} {W : World} {base n : Nat} {v : Value} {ds : List Di} (h : W.ownsRow base 31 3 v n (ds.flatMap diCells)) (hn : n = ds.length) (hp : ∀ g, base ≤ g → ¬ Pts Bs W g) : ∃ a c, v = .slice a n c ∧ RowK Bs W a ds := by
  subst hn
  rcases h.2 with ⟨rfl, h0⟩ | ⟨g, cap, cur, rfl, hb, hg, h1, h2, h3, h4⟩
  · exact ⟨none, 0, by rw [h0], fun i hi => by omega⟩
  · refine ⟨_, _, rfl, fun i hi => ⟨g, cur, rfl, hg, hp g hb, fun j hj => ?_⟩⟩
    have e1 : (cur.toList.take (ds.length * 3))[i * 3 + j]? = cur[i * 3 + j]? := by rw [List.getElem?_take_of_lt (by omega)]; simp
    rw [← e1, h4, flatD ds i j hj, List.getElem?_eq_getElem hi]
    simp [List.getD, List.getElem?_eq_getElem hi]
theorem pts_below {Bs : List Nat} {W W' : World} (hB : Below W.heap.size W W') (hp : ∀ g, W.heap.size ≤ g → ¬ Pts Bs W g) : ∀ g, W.heap.size ≤ g → ¬ Pts Bs W' g := fun g hg ⟨B, hBm, hx⟩ => by
  have hBl : B < W.heap.size := by
    apply Decidable.byContradiction
    intro hn
    exact hp B (by omega) ⟨B, hBm, .inl rfl⟩
  refine hp g hg ⟨B, hBm, hx.imp id ?_⟩
  rintro ⟨t, v, h1, h2⟩
  exact ⟨t, v, (hB.block B hBl).symm.trans h1, h2⟩

set_option maxRecDepth 20000 in
theorem clone_nil (w : World) :
    Calls Tryd.prog 24 #[.slice none 0 0] w fun e w' => e = .returned (.slice none 0 0) ∧ w = w' := by
  have hs : ∀ W : World, (binOp .eql 22 (.slice none 0 0) (.slice none 0 0)).run Tryd.prog W = .ok (.bool true) W := fun W => Lib.run_eql_slice_nil W _ _ none 0 0 0 0 Tryd.underlying22
  go_enter Tryd.func24, Tryd.ntmps24
  go_wp2
  go_ret
  exact ⟨rfl, rfl⟩

set_option maxRecDepth 100000 in
theorem clone_some (g n cap : Nat) (ds : List Di) (hl : ds.length = n) (hn : 0 < n) (hm : n ≤ 100) (w : World) (hg : g < w.heap.size)
    (hc : ∀ j u, (ds.flatMap diCells)[j]? = some u → w.cell? ((⟨g, 0, none⟩ : Addr).add j) = some u) :
    Calls Tryd.prog 24 #[.slice (some ⟨g, 0, none⟩) n cap] w fun e W' => ∃ v, e = .returned v ∧ W'.ownsRow w.heap.size 31 3 v n (ds.flatMap diCells) ∧ Below w.heap.size w W' := by
  have HL := Lib.hid hl
  have HC := Lib.hid hc
  obtain ⟨i0, hi0, hz0, hz1, hz2⟩ := info_parts infoD
  have hown : (w.alloc (.cells #[] 31)).ownsRow w.heap.size 31 3 (.slice (some ⟨w.heap.size, 0, none⟩) 0 0) 0 [] :=
    ⟨rfl, .inr ⟨w.heap.size, 0, #[], rfl, Nat.le_refl _, heap_alloc_new w _, Nat.le_refl _, by unfold maxLen; omega, rfl, rfl⟩⟩
  have h1 : ∀ u ∈ ds.flatMap diCells, u.oneCell' = true := by
    intro u hu
    rw [List.mem_flatMap] at hu
    obtain ⟨d, _, hu⟩ := hu
    simp at hu
    rcases hu with rfl | rfl | rfl <;> rfl
  have H1 := Lib.hid h1
  have hlen : (ds.flatMap diCells).length = n * 3 := by rw [diCells_len, hl]
  have HLEN := Lib.hid hlen
  have hnews : ∀ j u, (ds.flatMap diCells)[j]? = some u → (w.alloc (.cells #[] 31)).cell? ((⟨g, 0, none⟩ : Addr).add j) = some u := fun j u hu => by
    have := hc j u hu
    rw [← this]
    exact ((Below.refl _ w).alloc (Nat.le_refl _) _).cell (by rw [add_block]; exact hg)
  have HNEWS := Lib.hid hnews
  clear hl hc h1 hlen hnews
  generalize ds.flatMap diCells = xs at *
  have hs : ∀ W : World, (binOp .eql 22 (.slice (some ⟨g, 0, none⟩) n cap) (.slice none 0 0)).run Tryd.prog W = .ok (.bool false) W := fun W => Lib.run_eql_slice_nil W _ _ (some _) n cap 0 0 Tryd.underlying22
  go_enter Tryd.func24, Tryd.ntmps24
  go_wp2_with (at_builtin; refine wpList_append_own _ rfl _ _ _ rfl w.heap.size _ i0 _ 3 32 Tryd.underlying22 hi0 hz0 hz1 hz2 rfl (by omega) _ 0 [] rfl hown ⟨g, 0, none⟩ n cap xs rfl HLEN.out HNEWS.out H1.out (by unfold maxLen; omega) (by omega) (by simp) ?_; intro v' w' r1 r2 r3; have r1' := r1; obtain ⟨qb, qc, rfl⟩ := ownsRow_slice' r1)
  go_wp2
  go_ret
  refine ⟨_, rfl, by simpa using r1', ((Below.refl _ w).alloc (Nat.le_refl _) _).grown r2 (by simp) (fun j ej => by cases ej; exact Nat.le_refl _)⟩

/-- What Each tells. -/
abbrev encID (x : Di × Nat) : Array Value := #[.int .i64 x.2, diV x.1]
theorem clone_any (base B : Nat) (ds : List Di) (w : World) (h : IsL base w B ds) : ∃ v, w.cell? ⟨B, 0, none⟩ = some v ∧
    ∀ w1 : World, Below w.heap.size w w1 → Calls Tryd.prog 24 #[v] w1 fun e W' => ∃ v, e = .returned v ∧ W'.ownsRow w1.heap.size 31 3 v ds.length (ds.flatMap diCells) ∧ Below w1.heap.size w1 W' := by
  obtain ⟨hb, hl, v, hB, hown, hne, hnil⟩ := h
  refine ⟨v, hB.cell 0, fun w1 h1 => ?_⟩
  by_cases hd : ds = []
  · obtain rfl := hnil hd
    subst hd
    refine (clone_nil w1).mono ?_
    rintro e w' ⟨rfl, rfl⟩
    exact ⟨_, rfl, World.ownsRow_nil _ _ _ _, Below.refl _ _⟩
  · rcases hown.2 with ⟨rfl, h0⟩ | ⟨g, cap, cur, rfl, hb, hg, g1, g2, g3, g4⟩
    · exact absurd (List.eq_nil_of_length_eq_zero h0) hd
    · have hgl : g < w.heap.size := (Array.getElem?_eq_some_iff.1 hg).1
      have hg1 : w1.heap[g]? = _ := (h1.block g hgl).trans hg
      refine clone_some g ds.length cap ds rfl (by have := List.length_pos_iff.2 hd; omega) hl w1 (Nat.lt_of_lt_of_le hgl h1.size) ?_
      intro j u hu
      have hadd : (⟨g, 0, none⟩ : Addr).add j = ⟨g, j, none⟩ := by unfold Addr.add; split <;> simp_all
      rw [hadd, cell_of_row w1 g _ cur _ _ hg1]
      have hj : j < (ds.flatMap diCells).length := (List.getElem?_eq_some_iff.1 hu).1
      rw [diCells_len] at hj
      rw [← g4, List.getElem?_take_of_lt hj] at hu
      simpa using hu

set_option maxRecDepth 100000 in
set_option maxHeartbeats 2000000 in
theorem each1_in (n : Nat) (hn : 1 ≤ n) (l Bx B base : Nat) (ds : List Di) (Bs : List Nat) (J Jx : List (Di × Nat) → World → Prop)
    (W : World) (hJ : AbidesFrom W.heap.size J) (hJx : AbidesFrom W.heap.size Jx)
    (hY : ∀ pre x W, J pre W → pre.length < ds.zipIdx.length → YieldAt Fence.wide (n - 1) Tryd.prog l (encID x) W fun e W' =>
      (e = .returned (.bool true) ∧ J (pre ++ [x]) W' ∧ KeepsBut Bs W W') ∨ (e = .returned (.bool false) ∧ Jx (pre ++ [x]) W'))
    (hb : Boxed W Bx 25 (.pointer (some ⟨B, 0, none⟩))) (hl : IsL base W B ds) (hp : ∀ g, W.heap.size ≤ g → ¬ Pts Bs W g) (h0 : J [] W) :
    CallsIn Fence.wide n Tryd.prog 23 #[.func (.yield l) #[] #[], .pointer (some ⟨Bx, 0, none⟩)] W fun e W' => (∃ v, e = .returned v) ∧
      ((∃ ys, ys = ds.zipIdx ∧ J ys W') ∨ (∃ pre, pre <+: ds.zipIdx ∧ Jx pre W')) := by
  obtain ⟨m, hm⟩ : ∃ m, ds.length = m := ⟨_, rfl⟩
  have hlim : m ≤ 100 := by rw [← hm]; exact hl.2.1
  obtain ⟨v0, hv0, hcl⟩ := clone_any base B ds W hl
  obtain ⟨vb, vc, rfl⟩ : ∃ b c, v0 = .slice b m c := by
    obtain ⟨_, _, v, hB, hown, _⟩ := hl
    have := hB.cell 0
    rw [hv0] at this
    obtain rfl := Option.some.inj this
    rw [hm] at hown
    exact ownsRow_slice' hown
  have HCL := Lib.hid hcl
  have HY := Lib.hid hY
  have HM := Lib.hid hm
  have hc := hb.cell
  clear hcl hY hm
  refine callsIn_of_wp Tryd.func23 rfl trivial ?_ rfl
  simp only [Tryd.ntmps23, List.size_toArray, List.length_cons, List.length_nil, Nat.reduceAdd, Nat.reduceSub, Array.replicate_succ, Array.replicate_zero, List.push_toArray, List.append_toArray, List.nil_append, List.cons_append]
  gi_wp2_with (refine ⟨trivial, ?_⟩; gi_at_call 24; refine (callsIn_wide.2 (HCL.out _ (Below.refl _ _))).mono ?_; rintro e w1 ⟨v1, rfl, hown, hB⟩; rw [HM.out] at hown; obtain ⟨va, vd, rfl, hrow⟩ := rowK_of hown HM.out.symm (pts_below hB hp))
  have hJ1 := hJ [] W _ none h0 (grown_none hB) (fun r e => by cases e)
  have hsz := hB.size
  have HBs : ∀ b ∈ Bs, b < W.heap.size := fun b hbm => by
    apply Decidable.byContradiction
    intro hn
    exact hp b (by omega) ⟨b, hbm, .inl rfl⟩
  have HZ := Lib.hid HBs
  clear hown HCL hp HBs
  gi_wp2
  gi_loopw [13] (fun p wr => ∃ k : Nat, p = .int .i64 k ∧ k ≤ m ∧ J (ds.zipIdx.take k) wr ∧ RowK Bs wr va ds ∧ W.heap.size ≤ wr.heap.size)
    (fun p wr => m - (intOf p).toNat)
  case atStart => exact ⟨0, rfl, by omega, hJ1, hrow, hsz⟩
  case round =>
    obtain ⟨k, rfl, hk, hJr, hrow, hsz⟩ := hrel
    by_cases hlt : k < m
    · have hkl : k < ds.length := by have := HM.out; omega
      obtain ⟨g, cur, rfl, hblk, hnp, hcs⟩ := hrow k hkl
      have p0 := hcs 0 (by omega)
      have p1 := hcs 1 (by omega)
      have p2 := hcs 2 (by omega)
      have ek : ds.getD k zeroDi = ds[k] := by rw [List.getD, List.getElem?_eq_getElem hkl]; rfl
      have hst : ds.zipIdx.take (k + 1) = ds.zipIdx.take k ++ [(ds[k], k)] := by
        rw [List.take_add_one, List.getElem?_eq_getElem (by simpa using hkl)]; simp
      rw [ek] at p0 p1 p2
      obtain ⟨d, hd⟩ : ∃ d, ds[k] = d := ⟨_, rfl⟩
      rw [hd] at p0 p1 p2 hst
      have hlen : (ds.zipIdx.take k).length < ds.zipIdx.length := by simp; omega
      obtain ⟨W4, hW4⟩ : ∃ W4, wr.alloc (.cells #[.int .i64 d.code, .int .i64 d.at_, .string ⟨d.what.toArray⟩] 31) = W4 := ⟨_, rfl⟩
      have bd : BlkAt W4 wr.heap.size 31 #[.int .i64 d.code, .int .i64 d.at_, .string ⟨d.what.toArray⟩] := by rw [← hW4]; exact BlkAt.new _ _ _
      have e0 := bd.cell 0
      have e1 := bd.cell 1
      have e2 := bd.cell 2
      have hJ4 : J (ds.zipIdx.take k) W4 := hJ _ wr _ none hJr (by rw [← hW4]; exact World.grownBy_alloc wr _ none) (fun r e => by cases e)
      have hk4 : KeepsBut Bs wr W4 := by rw [← hW4]; exact keepsBut_alloc (fun b hb => Nat.lt_of_lt_of_le (HZ.out b hb) hsz) _
      have hrow4 := hrow.keeps hk4
      have hsz4 : W.heap.size ≤ W4.heap.size := by rw [← hW4]; simp; omega
      obtain ⟨fn, tmps, assign, body, hy, hR⟩ := HY.out (ds.zipIdx.take k) (d, k) W4 hJ4 hlen
      have HR := Lib.hid hR
      have HS := Lib.hid hst
      have hy : (Instr.yield l #[.int .i64 k, .agg #[.int .i64 d.code, .int .i64 d.at_, .string ⟨d.what.toArray⟩]]).run Tryd.prog W4 = .ok (.round l fn tmps assign body) W4 := hy
      have q0 : wr.cell? ⟨g, k * 3, none⟩ = some (.int .i64 d.code) := (hblk.cell _).trans p0
      have q1 : wr.cell? ⟨g, k * 3 + 1, none⟩ = some (.int .i64 d.at_) := (hblk.cell _).trans p1
      have q2 : wr.cell? ⟨g, k * 3 + 2, none⟩ = some (.string ⟨d.what.toArray⟩) := (hblk.cell _).trans p2
      clear hR hst hlen p0 p1 p2 ek hd hcs hblk hJr hk4 hrow
      gi_wp2
      refine HR.out.mono ?_
      rintro e W3 (⟨rfl, hJ3, hk3⟩ | ⟨rfl, hJx3⟩)
      · have hrow3 := hrow4.keeps hk3
        have hsz3 : W.heap.size ≤ W3.heap.size := Nat.le_trans hsz4 hk3.1
        gi_wp2
        go_roundw
        case rel => exact ⟨k + 1, by go_num, by omega, by rw [HS.out]; exact hJ3, hrow3, hsz3⟩
        case measure => simp [intOf]; omega
      · gi_wp2
        refine bodyPost_ret (results_none rfl _ _ _) rfl ?_
        exact ⟨⟨_, rfl⟩, .inr ⟨_, ⟨_, by rw [← HS.out]; exact List.take_append_drop _ _⟩, hJx3⟩⟩
    · obtain rfl : k = m := by omega
      have hfin : ds.zipIdx.take k = ds.zipIdx := by rw [List.take_of_length_le (by simp; have := HM.out; omega)]
      have HF := Lib.hid hfin
      clear hfin
      gi_wp2
      go_end0
      exact ⟨⟨_, rfl⟩, .inl ⟨_, HF.out, hJr⟩⟩

set_option maxRecDepth 100000 in
theorem each1_nil (n : Nat) (hn : 1 ≤ n) (l Bx : Nat) (J : List (Di × Nat) → World → Prop) (W : World) (hb : Boxed W Bx 25 (.pointer none)) (h0 : J [] W) :
    CallsIn Fence.wide n Tryd.prog 23 #[.func (.yield l) #[] #[], .pointer (some ⟨Bx, 0, none⟩)] W fun e W' => (∃ v, e = .returned v) ∧ J [] W' := by
  have hc := hb.cell
  refine callsIn_of_wp Tryd.func23 rfl trivial ?_ rfl
  simp only [Tryd.ntmps23, List.size_toArray, List.length_cons, List.length_nil, Nat.reduceAdd, Nat.reduceSub, Array.replicate_succ, Array.replicate_zero, List.push_toArray, List.append_toArray, List.nil_append, List.cons_append]
  gi_wp2
  refine bodyPost_ret (results_none rfl _ _ _) rfl ?_
  exact ⟨⟨_, rfl⟩, h0⟩

/-- A list that Each asks: one that is there, or none. -/
def ListP (base : Nat) (w : World) (p : Value) (ds : List Di) : Prop := (p = .pointer none ∧ ds = []) ∨ ∃ B, p = .pointer (some ⟨B, 0, none⟩) ∧ IsL base w B ds
theorem ListP.below {base : Nat} {w w' : World} {p : Value} {ds : List Di} (h : ListP base w p ds) (hB : Below w.heap.size w w') : ListP base w' p ds :=
  h.imp id fun ⟨B, h1, h2⟩ => ⟨B, h1, h2.below hB⟩
theorem ListP.shape {base : Nat} {w : World} {p : Value} {ds : List Di} (h : ListP base w p ds) : p = .pointer none ∨ ∃ B, p = .pointer (some ⟨B, 0, none⟩) := h.imp (·.1) fun ⟨B, h1, _⟩ => ⟨B, h1⟩
theorem ListP.len {base : Nat} {w : World} {p : Value} {ds : List Di} (h : ListP base w p ds) : ds.length ≤ 100 := by
  rcases h with ⟨_, rfl⟩ | ⟨B, _, h⟩
  · simp
  · exact h.2.1
theorem each_stops (n : Nat) (hn : 1 ≤ n) (Bx base : Nat) (p : Value) (ds : List Di) (Bs : List Nat) (w : World) (hb : Boxed w Bx 25 p) (hl : ListP base w p ds) (hBs : ∀ b ∈ Bs, ∃ t, Boxed w b t (.slice none 0 0)) :
    SeqStopsK Fence.wide n Tryd.prog 23 #[.pointer (some ⟨Bx, 0, none⟩)] encID (KeepsBut Bs) (fun ys => ys = ds.zipIdx) (fun pre => pre <+: ds.zipIdx) ds.zipIdx.length w := by
  intro l J Jx W hW hJ hJx hY h0
  have hbW : Boxed W Bx 25 p := (hW.block Bx hb.lt).trans hb
  rcases hl with ⟨rfl, rfl⟩ | ⟨B, rfl, hl⟩
  · refine (each1_nil n hn l Bx J W hbW h0).mono ?_
    rintro e W' ⟨h1, h2⟩
    exact ⟨h1, .inl ⟨[], rfl, h2⟩⟩
  · refine each1_in n hn l Bx B base ds Bs J Jx W hJ hJx hY hbW (hl.below hW) ?_ h0
    rintro g hg ⟨b, hbm, hx⟩
    obtain ⟨t, ht⟩ := hBs b hbm
    have htW : Boxed W b t (.slice none 0 0) := (hW.block b ht.lt).trans ht
    rcases hx with rfl | ⟨t', v, h1, h2⟩
    · have := htW.lt; omega
    · have h3 := h1.cell
      rw [htW.cell] at h3
      obtain rfl := Option.some.inj h3
      simp [Value.ownBlock] at h2
end Go.Proofs.YtgdnibdahldekabDoor
