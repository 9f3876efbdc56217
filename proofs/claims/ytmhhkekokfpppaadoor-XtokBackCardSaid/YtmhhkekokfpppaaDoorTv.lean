/- A region that draws its order and appends to two rows in slots of their own, the one behind the other; no program in sight. -/
import Derived.Test.YtmhhkekokfpppaaDoorTw
namespace Go.Proofs.YtmhhkekokfpppaaDoor
open Go.RowKit Go.Shelf
set_option linter.unusedVariables false
theorem rowUnder {W W' : World} {base : Nat} {e : TypeId} {size : Nat} {v : Value} {n : Nat} {xs : List Value} (h : W.ownsRow base e size v n xs) (hB : Below W.heap.size W W') : W'.ownsRow base e size v n xs := by
  refine ⟨h.1, ?_⟩
  rcases h.2 with h' | ⟨g, cap, cur, hv, hb, hg, hr⟩
  · exact .inl h'
  · exact .inr ⟨g, cap, cur, hv, hb, by rw [hB.block g (Array.getElem?_eq_some_iff.1 hg).1]; exact hg, hr⟩
/-- What holds of two rows and blocks that stay. -/
structure TR (base : Nat) (eA eB : TypeId) (sA sB : Nat) (L : List (Nat × TypeId × Array Value)) (W0 W : World) (vA : Value) (kA : Nat) (xA : List Value) (vB : Value) (kB : Nat) (xB : List Value) : Prop where
  rowA : W.ownsRow base eA sA vA kA xA
  rowB : W.ownsRow base eB sB vB kB xB
  apart : ∀ g, vA.ownBlock = some g → vB.ownBlock ≠ some g
  stay : ∀ p ∈ L, BlkAt W p.1 p.2.1 p.2.2 ∧ vA.ownBlock ≠ some p.1 ∧ vB.ownBlock ≠ some p.1
  below : Below base W0 W
  room : base ≤ W.heap.size
section
variable {base : Nat} {eA eB : TypeId} {sA sB : Nat} {L : List (Nat × TypeId × Array Value)} {W0 W W' : World} {vA : Value} {kA : Nat} {xA : List Value} {vB : Value} {kB : Nat} {xB : List Value}
theorem TR.alloc (h : TR base eA eB sA sB L W0 W vA kA xA vB kB xB) (t : TypeId) (cs : Array Value) :
    TR base eA eB sA sB ((W.heap.size, t, cs) :: L) W0 (W.alloc (.cells cs t)) vA kA xA vB kB xB where
  rowA := h.rowA.alloc _
  rowB := h.rowB.alloc _
  apart := h.apart
  stay := fun p hp => by
    rcases List.mem_cons.1 hp with rfl | hp
    · exact ⟨BlkAt.new _ _ _, fun e => by have := own_ltT h.rowA e; omega, fun e => by have := own_ltT h.rowB e; omega⟩
    · obtain ⟨h1, h2⟩ := h.stay p hp
      exact ⟨h1.alloc _, h2⟩
  below := h.below.alloc h.room _
  room := by have := h.room; simp; omega
theorem TR.appA (h : TR base eA eB sA sB L W0 W vA kA xA vB kB xB) {v' : Value} {k' : Nat} {xs' : List Value} (hg : W.grownBy W' vA.ownBlock) (ho : W'.ownsRow base eA sA v' k' xs')
    (hat : v'.ownBlock = vA.ownBlock ∨ v'.ownBlock = some W.heap.size) : TR base eA eB sA sB L W0 W' v' k' xs' vB kB xB where
  rowA := ho
  rowB := h.rowB.kept hg (by
    cases hv : vB.ownBlock with
    | none => exact .inl rfl
    | some g => exact .inr fun e => h.apart g (by rw [← e]) hv)
  apart := fun g e => by
    rcases hat with hat | hat
    · exact h.apart g (by rw [← hat]; exact e)
    · intro e'
      have := own_ltT h.rowB e'
      rw [hat] at e; cases e; omega
  stay := fun p hp => by
    obtain ⟨h1, h2, h3⟩ := h.stay p hp
    refine ⟨h1.grown hg (Ne.symm h2), ?_, h3⟩
    rcases hat with hat | hat
    · rw [hat]; exact h2
    · rw [hat]; have := h1.lt; intro e; have e := Option.some.inj e; omega
  below := h.below.grown hg h.room (fun j ej => (own_ltT h.rowA ej).1)
  room := Nat.le_trans h.room hg.size
theorem TR.appB (h : TR base eA eB sA sB L W0 W vA kA xA vB kB xB) {v' : Value} {k' : Nat} {xs' : List Value} (hg : W.grownBy W' vB.ownBlock) (ho : W'.ownsRow base eB sB v' k' xs')
    (hat : v'.ownBlock = vB.ownBlock ∨ v'.ownBlock = some W.heap.size) : TR base eA eB sA sB L W0 W' vA kA xA v' k' xs' where
  rowB := ho
  rowA := h.rowA.kept hg (by
    cases hv : vA.ownBlock with
    | none => exact .inl rfl
    | some g => exact .inr fun e => h.apart g hv (by rw [← e]))
  apart := fun g e => by
    rcases hat with hat | hat
    · rw [hat]; exact h.apart g e
    · intro e'
      have := own_ltT h.rowA e
      rw [hat] at e'; cases e'; omega
  stay := fun p hp => by
    obtain ⟨h1, h2, h3⟩ := h.stay p hp
    refine ⟨h1.grown hg (Ne.symm h3), h2, ?_⟩
    rcases hat with hat | hat
    · rw [hat]; exact h3
    · rw [hat]; have := h1.lt; intro e; have e := Option.some.inj e; omega
  below := h.below.grown hg h.room (fun j ej => (own_ltT h.rowB ej).1)
  room := Nat.le_trans h.room hg.size
theorem TR.sub (h : TR base eA eB sA sB L W0 W vA kA xA vB kB xB) {L' : List (Nat × TypeId × Array Value)} (hL : ∀ p ∈ L', p ∈ L) : TR base eA eB sA sB L' W0 W vA kA xA vB kB xB :=
  { h with stay := fun p hp => h.stay p (hL p hp) }
theorem TR.drew (h : TR base eA eB sA sB L W0 W vA kA xA vB kB xB) : TR base eA eB sA sB L W0 W.drew vA kA xA vB kB xB :=
  { rowA := h.rowA.drew, rowB := h.rowB.drew, apart := h.apart, stay := h.stay, below := h.below.drew, room := h.room }
theorem TR.after (h : TR base eA eB sA sB L W0 W vA kA xA vB kB xB) (hB : Below W.heap.size W W') : TR base eA eB sA sB L W0 W' vA kA xA vB kB xB :=
  { rowA := rowUnder h.rowA hB, rowB := rowUnder h.rowB hB, apart := h.apart, stay := fun p hp => by
      obtain ⟨h1, h2⟩ := h.stay p hp
      exact ⟨h1.below hB h1.lt, h2⟩
    below := h.below.trans (hB.mono h.room), room := Nat.le_trans h.room hB.size }
end

theorem TR.listA {F : Fence} {n : Nat} {P : Program} {ops : Array Oper} {rest : List Oper} {o : Oper} {a : Act} {Q : Exit → Act → World → Prop} {base kA kB sA sB byt : Nat} {eA eB : TypeId} {L : List (Nat × TypeId × Array Value)} {W0 W : World} {vA vB : Value} {xA xB : List Value}
    (hgd : o.guard = none) (s x : Operand) (t : TypeId) (T : SlT P t eA sA byt) (ho : o.op = .call { callee := .builtin .append, args := #[s, x], argTypes := #[t, t] }) (h : TR base eA eB sA sB L W0 W vA kA xA vB kB xB)
    (hs : a.eval s = vA) {ad : Addr} {news : List Value} (hx : a.eval x = .slice (some ad) 1 1) (hl : news.length = sA) (hnews : ∀ j u, news[j]? = some u → W.cell? (ad.add j) = some u) (h1 : ∀ u ∈ news, u.oneCell' = true) (hbytes : (kA + 1) * byt ≤ 140737488355328)
    (hK : ∀ v' w', TR base eA eB sA sB L W0 w' v' (kA + 1) (xA ++ news) vB kB xB → wpListIn F n P ops Q rest (a.put o.dst v') w') : wpListIn F n P ops Q (o :: rest) a W := by
  refine wpListIn_plain hgd fun K hK' => ?_
  exact op_append T ho hs h.rowA h.room hx hl hnews h1 hbytes fun v' w' r1 r2 r3 => hK' _ _ (hK v' w' (h.appA r2 r1 r3))
theorem TR.listB {F : Fence} {n : Nat} {P : Program} {ops : Array Oper} {rest : List Oper} {o : Oper} {a : Act} {Q : Exit → Act → World → Prop} {base kA kB sA sB byt : Nat} {eA eB : TypeId} {L : List (Nat × TypeId × Array Value)} {W0 W : World} {vA vB : Value} {xA xB : List Value}
    (hgd : o.guard = none) (s x : Operand) (t : TypeId) (T : SlT P t eB sB byt) (ho : o.op = .call { callee := .builtin .append, args := #[s, x], argTypes := #[t, t] }) (h : TR base eA eB sA sB L W0 W vA kA xA vB kB xB)
    (hs : a.eval s = vB) {ad : Addr} {news : List Value} (hx : a.eval x = .slice (some ad) 1 1) (hl : news.length = sB) (hnews : ∀ j u, news[j]? = some u → W.cell? (ad.add j) = some u) (h1 : ∀ u ∈ news, u.oneCell' = true) (hbytes : (kB + 1) * byt ≤ 140737488355328)
    (hK : ∀ v' w', TR base eA eB sA sB L W0 w' vA kA xA v' (kB + 1) (xB ++ news) → wpListIn F n P ops Q rest (a.put o.dst v') w') : wpListIn F n P ops Q (o :: rest) a W := by
  refine wpListIn_plain hgd fun K hK' => ?_
  exact op_append T ho hs h.rowB h.room hx hl hnews h1 hbytes fun v' w' r1 r2 r3 => hK' _ _ (hK v' w' (h.appB r2 r1 r3))
/-- 's, t = append(s, x), append(t, y)' of slots s and t, the operations' first slot d. -/
def twoMoves (tA tB t1 t5 : TypeId) (o1 o5 : Op) (pos : String) : Array Oper := #[
  { dst := some 22, op := .move (.tmp 4), type := tA, pos := pos, after := #[], guard := none },
  { dst := some 23, op := o1, type := t1, pos := pos, after := #[], guard := none },
  { dst := some 24, op := .buildSlice tA 1 #[(0, .tmp 23)], type := tA, pos := pos, after := #[{ on := 1, ground := .data }], guard := none },
  { dst := some 25, op := .call { callee := .builtin .append, args := #[.tmp 22, .tmp 24], argTypes := #[tA, tA] }, type := tA, pos := pos, after := #[{ on := 0, ground := .data }, { on := 2, ground := .data }], guard := none },
  { dst := some 26, op := .move (.tmp 5), type := tB, pos := pos, after := #[], guard := none },
  { dst := some 27, op := o5, type := t5, pos := pos, after := #[], guard := none },
  { dst := some 28, op := .buildSlice tB 1 #[(0, .tmp 27)], type := tB, pos := pos, after := #[{ on := 5, ground := .data }], guard := none },
  { dst := some 29, op := .call { callee := .builtin .append, args := #[.tmp 26, .tmp 28], argTypes := #[tB, tB] }, type := tB, pos := pos, after := #[{ on := 4, ground := .data }, { on := 6, ground := .data }, { on := 3, ground := .chain }], guard := none },
  { dst := some 4, op := .assign (.tmp 25), type := tA, pos := pos, after := #[{ on := 3, ground := .data }, { on := 7, ground := .chain }, { on := 0, ground := .phase }, { on := 1, ground := .phase }, { on := 2, ground := .phase }, { on := 3, ground := .phase }, { on := 4, ground := .textOnly .lateStores }, { on := 5, ground := .textOnly .lateStores }, { on := 6, ground := .textOnly .lateStores }, { on := 7, ground := .textOnly .lateStoresUnsure }], guard := none },
  { dst := some 5, op := .assign (.tmp 29), type := tB, pos := pos, after := #[{ on := 7, ground := .data }, { on := 8, ground := .chain }, { on := 0, ground := .phase }, { on := 1, ground := .phase }, { on := 2, ground := .phase }, { on := 3, ground := .phase }, { on := 4, ground := .phase }, { on := 5, ground := .phase }, { on := 6, ground := .phase }, { on := 7, ground := .phase }, { on := 8, ground := .phase }], guard := none }]

abbrev mfr (c0 c1 c2 c3 c6 c7 c8 c9 c10 c11 c12 c13 c14 c15 c16 c17 c18 c19 c20 c21 z0 z1 z2 z3 z4 A B x0 x1 x2 x3 x4 x5 x6 x7 : Value) : Act :=
  { tmps := #[c0, c1, c2, c3, A, B, c6, c7, c8, c9, c10, c11, c12, c13, c14, c15, c16, c17, c18, c19, c20, c21, x0, x1, x2, x3, x4, x5, x6, x7, z0, z1, z2, z3, z4], defers := [] }

section
variable {F : Fence} {n : Nat} {P : Program} {Q : Exit → Act → World → Prop}
theorem op_move {o : Oper} {a : Act} {w : World} {K : Act → World → Prop} {x : Operand} (ho : o.op = .move x) (hK : K (a.put o.dst (a.eval x)) w) : Oper.wpIn F n P o a w K Q := by
  unfold Oper.wpIn
  refine ⟨by simp [Oper.about, ho], ?_⟩
  rw [Oper.semAt_plain F _ _ (by rw [ho]; intro c hc'; cases hc')]
  simp only [execOp, ho]
  exact hK
theorem op_assign {o : Oper} {a : Act} {w : World} {K : Act → World → Prop} {x : Operand} (ho : o.op = .assign x) (hK : K (a.put o.dst (a.eval x)) w) : Oper.wpIn F n P o a w K Q := by
  unfold Oper.wpIn
  refine ⟨by simp [Oper.about, ho], ?_⟩
  rw [Oper.semAt_plain F _ _ (by rw [ho]; intro c hc'; cases hc')]
  simp only [execOp, ho]
  exact hK
variable {tA tB eA eB t1 t5 : TypeId} {pos : String} {sA sB byA byB base kA kB : Nat} {x y vA vB : Value} {cx cy : Array Value} {xA xB : List Value} {L : List (Nat × TypeId × Array Value)} {W0 W : World}
  (c0 c1 c2 c3 c6 c7 c8 c9 c10 c11 c12 c13 c14 c15 c16 c17 c18 c19 c20 c21 z0 z1 z2 z3 z4 y0 y1 y2 y3 y4 y5 y6 y7 : Value)
set_option maxRecDepth 20000 in
set_option maxHeartbeats 1600000 in
theorem two_moves (hA : SlT P tA eA sA byA) (hB : SlT P tB eB sB byB) (hcx : cx.size = sA) (hcy : cy.size = sB) (ocx : ∀ u ∈ cx.toList, u.oneCell' = true) (ocy : ∀ u ∈ cy.toList, u.oneCell' = true)
    (hbA : (kA + 1) * byA ≤ 140737488355328) (hbB : (kB + 1) * byB ≤ 140737488355328) (hx : c6 = x) (hy : c7 = y)
    (h2 : ∀ A B x0 x2 x3 x4 x5 x6 x7 W (K : Act → World → Prop), K (mfr c0 c1 c2 c3 c6 c7 c8 c9 c10 c11 c12 c13 c14 c15 c16 c17 c18 c19 c20 c21 z0 z1 z2 z3 z4 A B x0 x (.slice (some ⟨W.heap.size, 0, none⟩) 1 1) x3 x4 x5 x6 x7) (W.alloc (.cells cx eA)) →
      ∀ o : Oper, o.op = .buildSlice tA 1 #[(0, .tmp 23)] → o.dst = some 24 → Oper.wpIn F n P o (mfr c0 c1 c2 c3 c6 c7 c8 c9 c10 c11 c12 c13 c14 c15 c16 c17 c18 c19 c20 c21 z0 z1 z2 z3 z4 A B x0 x x2 x3 x4 x5 x6 x7) W K Q)
    (h6 : ∀ A B x0 x1 x2 x3 x4 x6 x7 W (K : Act → World → Prop), K (mfr c0 c1 c2 c3 c6 c7 c8 c9 c10 c11 c12 c13 c14 c15 c16 c17 c18 c19 c20 c21 z0 z1 z2 z3 z4 A B x0 x1 x2 x3 x4 y (.slice (some ⟨W.heap.size, 0, none⟩) 1 1) x7) (W.alloc (.cells cy eB)) →
      ∀ o : Oper, o.op = .buildSlice tB 1 #[(0, .tmp 27)] → o.dst = some 28 → Oper.wpIn F n P o (mfr c0 c1 c2 c3 c6 c7 c8 c9 c10 c11 c12 c13 c14 c15 c16 c17 c18 c19 c20 c21 z0 z1 z2 z3 z4 A B x0 x1 x2 x3 x4 y x6 x7) W K Q)
    (h : TR base eA eB sA sB L W0 W vA kA xA vB kB xB)
    (hk : ∀ gA gB vA' vB' W', TR base eA eB sA sB L W0 W' vA' (kA + 1) (xA ++ cx.toList) vB' (kB + 1) (xB ++ cy.toList) →
      Q .normal (mfr c0 c1 c2 c3 c6 c7 c8 c9 c10 c11 c12 c13 c14 c15 c16 c17 c18 c19 c20 c21 z0 z1 z2 z3 z4 vA' vB' vA x (.slice (some ⟨gA, 0, none⟩) 1 1) vA' vB y (.slice (some ⟨gB, 0, none⟩) 1 1) vB') W') :
    wpAnyIn F n P .any (twoMoves tA tB t1 t5 (.move (.tmp 6)) (.move (.tmp 7)) pos) Q 10 (Array.replicate 10 false) (mfr c0 c1 c2 c3 c6 c7 c8 c9 c10 c11 c12 c13 c14 c15 c16 c17 c18 c19 c20 c21 z0 z1 z2 z3 z4 vA vB y0 y1 y2 y3 y4 y5 y6 y7) W := by
  subst hx hy
  refine wpAnyIn_inv (fun l a W => ∃ (b0 b1 b2 b3 b4 b5 b6 b7 b8 b9 : Bool) (gA gB : Nat) (vA' vB' : Value), l = #[b0, b1, b2, b3, b4, b5, b6, b7, b8, b9] ∧
    (b2 = true → b1 = true) ∧ (b3 = true → b0 = true ∧ b2 = true) ∧ (b6 = true → b5 = true) ∧ (b7 = true → b3 = true ∧ b4 = true ∧ b6 = true) ∧ (b8 = true → b7 = true) ∧ (b9 = true → b8 = true) ∧
    a = mfr c0 c1 c2 c3 c6 c7 c8 c9 c10 c11 c12 c13 c14 c15 c16 c17 c18 c19 c20 c21 z0 z1 z2 z3 z4 (cond b8 vA' vA) (cond b9 vB' vB) (cond b0 vA y0) (cond b1 c6 y1) (cond b2 (.slice (some ⟨gA, 0, none⟩) 1 1) y2) (cond b3 vA' y3) (cond b4 vB y4) (cond b5 c7 y5) (cond b6 (.slice (some ⟨gB, 0, none⟩) 1 1) y6) (cond b7 vB' y7) ∧
    TR base eA eB sA sB (cond b2 [(gA, eA, cx)] [] ++ (cond b6 [(gB, eB, cy)] [] ++ L)) W0 W (cond b3 vA' vA) (cond b3 (kA + 1) kA) (cond b3 (xA ++ cx.toList) xA) (cond b7 vB' vB) (cond b7 (kB + 1) kB) (cond b7 (xB ++ cy.toList) xB))
    ?done ?step 10 _ _ _ ⟨false, false, false, false, false, false, false, false, false, false, 0, 0, undef, undef, rfl, by simp, by simp, by simp, by simp, by simp, by simp, rfl, h⟩ (by show List.countP (fun i => !(Array.replicate 10 false).getD i true) (List.range 10) ≤ 10; decide)
  case done =>
    rintro l a W ⟨b0, b1, b2, b3, b4, b5, b6, b7, b8, b9, gA, gB, vA', vB', rfl, d2, d3, d6, d7, d8, d9, rfl, h⟩ hr
    obtain rfl : b0 = true := listed_of (i := 0) hr rfl rfl rfl
    obtain rfl : b1 = true := listed_of (i := 1) hr rfl rfl rfl
    obtain rfl : b2 = true := listed_of (i := 2) hr rfl rfl rfl
    obtain rfl : b3 = true := listed_of (i := 3) hr rfl rfl rfl
    obtain rfl : b4 = true := listed_of (i := 4) hr rfl rfl rfl
    obtain rfl : b5 = true := listed_of (i := 5) hr rfl rfl rfl
    obtain rfl : b6 = true := listed_of (i := 6) hr rfl rfl rfl
    obtain rfl : b7 = true := listed_of (i := 7) hr rfl rfl rfl
    obtain rfl : b8 = true := listed_of (i := 8) hr rfl rfl rfl
    obtain rfl : b9 = true := listed_of (i := 9) hr rfl rfl rfl
    exact hk gA gB vA' vB' W (h.sub fun p hp => by simp [hp])
  case step =>
    rintro l a W i ⟨b0, b1, b2, b3, b4, b5, b6, b7, b8, b9, gA, gB, vA', vB', rfl, d2, d3, d6, d7, d8, d9, rfl, h⟩ hi
    obtain ⟨hi, hb, hd⟩ := ready_mem hi
    have hi : i < 10 := hi
    have hc : i = 0 ∨ i = 1 ∨ i = 2 ∨ i = 3 ∨ i = 4 ∨ i = 5 ∨ i = 6 ∨ i = 7 ∨ i = 8 ∨ i = 9 := by omega
    rcases hc with rfl | rfl | rfl | rfl | rfl | rfl | rfl | rfl | rfl | rfl
    · obtain rfl : b0 = false := hb
      obtain rfl : b3 = false := nf fun e => (d3 e).1
      obtain rfl : b7 = false := nf fun e => (d7 e).1
      obtain rfl : b8 = false := nf d8
      refine op_step rfl rfl (op_move rfl ?_)
      exact ⟨true, b1, b2, false, b4, b5, b6, false, false, b9, gA, gB, vA', vB', rfl, d2, by simp, d6, by simp, by simp, d9, rfl, h⟩
    · obtain rfl : b1 = false := hb
      obtain rfl : b2 = false := nf d2
      obtain rfl : b3 = false := nf fun e => (d3 e).2
      obtain rfl : b7 = false := nf fun e => (d7 e).1
      refine op_step rfl rfl (op_move rfl ?_)
      exact ⟨b0, true, false, false, b4, b5, b6, false, b8, b9, gA, gB, vA', vB', rfl, by simp, by simp, d6, d7, d8, d9, rfl, h⟩
    · obtain rfl : b2 = false := hb
      obtain rfl : b1 = true := hd _ rfl 0 _ rfl rfl
      obtain rfl : b3 = false := nf fun e => (d3 e).2
      obtain rfl : b7 = false := nf fun e => (d7 e).1
      refine op_step rfl rfl (h2 _ _ _ _ _ _ _ _ _ _ _ ?_ _ rfl rfl)
      exact ⟨b0, true, true, false, b4, b5, b6, false, b8, b9, W.heap.size, gB, vA', vB', rfl, by simp, by simp, d6, d7, d8, d9, rfl, h.alloc _ _⟩
    · obtain rfl : b3 = false := hb
      obtain rfl : b0 = true := hd _ rfl 0 _ rfl rfl
      obtain rfl : b2 = true := hd _ rfl 1 _ rfl rfl
      obtain rfl : b7 = false := nf fun e => (d7 e).1
      obtain rfl : b8 = false := nf d8
      obtain rfl : b9 = false := nf d9
      have hg := (h.stay (gA, eA, cx) (by simp)).1
      refine op_step rfl rfl (op_append hA rfl rfl h.rowA h.room rfl (by simpa using hcx) (news_blk hg) ocx hbA fun v' w' r1 r2 r3 => ?_)
      exact ⟨true, b1, true, true, b4, b5, b6, false, false, false, gA, gB, v', vB', rfl, d2, by simp, d6, by simp, by simp, by simp, rfl, h.appA r2 r1 r3⟩
    · obtain rfl : b4 = false := hb
      obtain rfl : b7 = false := nf fun e => (d7 e).2.1
      obtain rfl : b8 = false := nf d8
      obtain rfl : b9 = false := nf d9
      refine op_step rfl rfl (op_move rfl ?_)
      exact ⟨b0, b1, b2, b3, true, b5, b6, false, false, false, gA, gB, vA', vB', rfl, d2, d3, d6, by simp, by simp, by simp, rfl, h⟩
    · obtain rfl : b5 = false := hb
      obtain rfl : b6 = false := nf d6
      obtain rfl : b7 = false := nf fun e => (d7 e).2.2
      refine op_step rfl rfl (op_move rfl ?_)
      exact ⟨b0, b1, b2, b3, b4, true, false, false, b8, b9, gA, gB, vA', vB', rfl, d2, d3, by simp, by simp, d8, d9, rfl, h⟩
    · obtain rfl : b6 = false := hb
      obtain rfl : b5 = true := hd _ rfl 0 _ rfl rfl
      obtain rfl : b7 = false := nf fun e => (d7 e).2.2
      refine op_step rfl rfl (h6 _ _ _ _ _ _ _ _ _ _ _ ?_ _ rfl rfl)
      exact ⟨b0, b1, b2, b3, b4, true, true, false, b8, b9, gA, W.heap.size, vA', vB', rfl, d2, d3, by simp, by simp, d8, d9, rfl, (h.alloc _ _).sub (by intro p hp; simp at hp ⊢; rcases hp with hp | hp | hp <;> simp [hp])⟩
    · obtain rfl : b7 = false := hb
      obtain rfl : b4 = true := hd _ rfl 0 _ rfl rfl
      obtain rfl : b6 = true := hd _ rfl 1 _ rfl rfl
      obtain rfl : b3 = true := hd _ rfl 2 _ rfl rfl
      obtain rfl : b8 = false := nf d8
      obtain rfl : b9 = false := nf d9
      have hg := (h.stay (gB, eB, cy) (by simp)).1
      refine op_step rfl rfl (op_append hB rfl rfl h.rowB h.room rfl (by simpa using hcy) (news_blk hg) ocy hbB fun v' w' r1 r2 r3 => ?_)
      exact ⟨b0, b1, b2, true, true, b5, true, true, false, false, gA, gB, vA', v', rfl, d2, d3, d6, by simp, by simp, by simp, rfl, h.appB r2 r1 r3⟩
    · obtain rfl : b8 = false := hb
      obtain rfl : b3 = true := hd _ rfl 0 _ rfl rfl
      obtain rfl : b7 = true := hd _ rfl 1 _ rfl rfl
      obtain rfl : b9 = false := nf d9
      refine op_step rfl rfl (op_assign rfl ?_)
      exact ⟨b0, b1, b2, true, b4, b5, b6, true, true, false, gA, gB, vA', vB', rfl, d2, d3, d6, d7, by simp, by simp, rfl, h⟩
    · obtain rfl : b9 = false := hb
      obtain rfl : b7 = true := hd _ rfl 0 _ rfl rfl
      obtain rfl : b8 = true := hd _ rfl 1 _ rfl rfl
      refine op_step rfl rfl (op_assign rfl ?_)
      exact ⟨b0, b1, b2, b3, b4, b5, b6, true, true, true, gA, gB, vA', vB', rfl, d2, d3, d6, d7, d8, by simp, rfl, h⟩
end
end Go.Proofs.YtmhhkekokfpppaaDoor
