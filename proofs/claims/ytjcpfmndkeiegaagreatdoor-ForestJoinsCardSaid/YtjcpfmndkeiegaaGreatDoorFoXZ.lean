/- Weights, and the region of a round of forest.weighted. The walk of forest.weighted. The walks of forest's together and Join with weights; Join of one number. -/
import Derived.Test.YtjcpfmndkeiegaaGreatDoorFoTU
import Derived.Test.YtjcpfmndkeiegaaGreatDoorFoJK
import Derived.Test.YtjcpfmndkeiegaaGreatDoorFoR
import Derived.Deep.DeepCutAuto
import Derived.Test.YtjcpfmndkeiegaaGreatDoorTw
import Derived.Laws.Tables
import Derived.Test.YtjcpfmndkeiegaaGreatDoorFoH
namespace Go.Proofs.YtjcpfmndkeiegaaGreatDoor
open Go.RowKit
set_option linter.unusedVariables false

/-- A weight. -/
def wAt (ws : List ByteArray) (i : Nat) : Rat := match ws[i]? with | some s => if parseRC s.data.toList = 0 then parseRQ s.data.toList else 1 | none => 1
def wSum (qs : List Rat) (ws : List ByteArray) : Nat → Rat
  | 0 => 0
  | k + 1 => wSum qs ws k + qs.getD k 0 * wAt ws k
def wAll (ws : List ByteArray) : Nat → Rat
  | 0 => 0
  | k + 1 => wAll ws k + wAt ws k
theorem one_wee : weeQ 1 := ⟨Nat.le_trans (szN_small (by decide)) (by decide), Nat.le_trans (szN_small (by decide)) (by decide)⟩
theorem wAt_wee (ws : List ByteArray) (i : Nat) : weeQ (wAt ws i) := by
  unfold wAt
  split
  · split
    · exact parseRQ_sz _
    · exact one_wee
  · exact one_wee
theorem mulQ_sz (a b : Rat) : szN (numQ (a * b)) ≤ szN (numQ a) + szN (numQ b) ∧ szN (a * b).den ≤ szN a.den + szN b.den := by
  rw [← mulQ]
  obtain ⟨l1, l2⟩ := lowQ_le (neg := negQ a != negQ b) (n := numQ a * numQ b) (d := a.den * b.den) (Nat.mul_ne_zero a.den_nz b.den_nz)
  exact ⟨Nat.le_trans (szN_mono l1) (szN_mul _ _), Nat.le_trans (szN_mono l2) (szN_mul _ _)⟩
theorem addQ_sz (a b : Rat) : szN (numQ (a + b)) ≤ max (szN (numQ a) + szN b.den) (szN (numQ b) + szN a.den) + 1 ∧ szN (a + b).den ≤ szN a.den + szN b.den := by
  obtain ⟨h1, h2⟩ := addQ_le a b
  have e1 := szN_mul (numQ a) b.den
  have e2 := szN_mul (numQ b) a.den
  have e4 := szN_add (numQ a * b.den) (numQ b * a.den)
  exact ⟨Nat.le_trans (szN_mono h1) (by omega), Nat.le_trans (szN_mono h2) (szN_mul _ _)⟩
theorem getD_wee {qs : List Rat} (h : ∀ q ∈ qs, weeQ q) (i : Nat) : weeQ (qs.getD i 0) := by
  by_cases hi : i < qs.length
  · rw [List.getD, List.getElem?_eq_getElem hi]; exact h _ (List.getElem_mem _)
  · rw [List.getD, List.getElem?_eq_none (by omega)]; exact ⟨by show szN (numQ 0) ≤ _; rw [num_zero, szN_zero]; omega, Nat.le_trans szN_one (by decide)⟩
theorem wSum_sz {qs : List Rat} (h : ∀ q ∈ qs, weeQ q) (ws : List ByteArray) : ∀ k, szN (numQ (wSum qs ws k)) ≤ 2401 * (k + 1) ∧ szN (wSum qs ws k).den ≤ 2400 * k + 1
  | 0 => ⟨by show szN (numQ 0) ≤ _; rw [num_zero, szN_zero]; omega, by show szN (0 : Rat).den ≤ _; exact Nat.le_trans szN_one (by omega)⟩
  | k + 1 => by
    obtain ⟨i1, i2⟩ := wSum_sz h ws k
    obtain ⟨m1, m2⟩ := mulQ_sz (qs.getD k 0) (wAt ws k)
    obtain ⟨g1, g2⟩ := getD_wee h k
    obtain ⟨w1, w2⟩ := wAt_wee ws k
    obtain ⟨a1, a2⟩ := addQ_sz (wSum qs ws k) (qs.getD k 0 * wAt ws k)
    show szN (numQ (wSum qs ws k + qs.getD k 0 * wAt ws k)) ≤ _ ∧ szN (wSum qs ws k + qs.getD k 0 * wAt ws k).den ≤ _
    exact ⟨by omega, by omega⟩
theorem wAll_sz (ws : List ByteArray) : ∀ k, szN (numQ (wAll ws k)) ≤ 1202 * (k + 1) ∧ szN (wAll ws k).den ≤ 1200 * k + 1
  | 0 => ⟨by show szN (numQ 0) ≤ _; rw [num_zero, szN_zero]; omega, by show szN (0 : Rat).den ≤ _; exact Nat.le_trans szN_one (by omega)⟩
  | k + 1 => by
    obtain ⟨i1, i2⟩ := wAll_sz ws k
    obtain ⟨w1, w2⟩ := wAt_wee ws k
    obtain ⟨a1, a2⟩ := addQ_sz (wAll ws k) (wAt ws k)
    show szN (numQ (wAll ws k + wAt ws k)) ≤ _ ∧ szN (wAll ws k + wAt ws k).den ≤ _
    exact ⟨by omega, by omega⟩
theorem one_anyQ (w : World) : Calls Tryz.prog 63 #[.int .i64 1] w fun e w' => ∃ v, e = .returned v ∧ RatAt w' v 1 ∧ Below w.heap.size w w' := by
  have h := ratOf_any 1 (by decide) w
  rw [show lowQ false 1 1 = 1 by decide +kernel] at h
  exact h
section
variable {P : Program} {ops : Array Oper} {Q : Exit → Act → World → Prop} {md : Region.Mode}
/-- A region in every order, by what holds on the way. -/
theorem wpAny_inv (Inv : Array Bool → Act → World → Prop)
    (hd : ∀ l a w, Inv l a w → Region.ready md ops l = [] → Q .normal a w)
    (hs : ∀ l a w i, Inv l a w → i ∈ Region.ready md ops l → wpOp P ops Q i (Inv (l.setIfInBounds i true)) a w) :
    ∀ (fuel : Nat) (l : Array Bool) (a : Act) (w : World), Inv l a w → ((List.range ops.size).countP fun i => !l.getD i true) ≤ fuel → wpAny P md ops Q fuel l a w
  | 0, l, a, w, h, hc => by
    have hr : Region.ready md ops l = [] := by
      cases hr : Region.ready md ops l with
      | nil => rfl
      | cons i rs =>
        obtain ⟨h1, h2, _⟩ := ready_mem (md := md) (ops := ops) (l := l) (i := i) (by rw [hr]; simp)
        have := (List.countP_pos_iff (p := fun i => !l.getD i true)).2 ⟨i, List.mem_range.2 h1, (by show (!l.getD i true) = true; rw [h2]; rfl)⟩
        omega
    exact ⟨hr, hd l a w h hr⟩
  | fuel + 1, l, a, w, h, hc => by
    refine ⟨fun hr => hd l a w h hr, fun i hi => ?_⟩
    obtain ⟨h1, h2, _⟩ := ready_mem hi
    have hlt : i < l.size := by
      apply Decidable.byContradiction
      intro hge
      rw [Array.getD_eq_getD_getElem?, Array.getElem?_eq_none (by omega)] at h2
      cases h2
    refine wpOp_mono (fun a' w' h' => wpAny_inv Inv hd hs fuel _ a' w' h' ?_) (hs l a w i h hi)
    have := countP_lt (p := fun i => !l.getD i true) (q := fun j => !(l.setIfInBounds i true).getD j true) (x := i) (l := List.range ops.size)
      (fun y _ hy => by
        by_cases hyi : y = i
        · subst hyi; simp [Array.getD_eq_getD_getElem?, hlt] at hy
        · simpa [Array.getD_eq_getD_getElem?, Array.getElem?_setIfInBounds_ne (Ne.symm hyi)] using hy)
      (List.mem_range.2 h1) (by rw [h2]; rfl) (by simp [Array.getD_eq_getD_getElem?, hlt])
    omega
theorem opR_step {i : Nat} {o : Oper} {K : Act → World → Prop} {a : Act} {w : World} (ho : ops[i]? = some o) (hg : o.guard = none) (h : Oper.wp P o a w K Q) : wpOp P ops Q i K a w := by
  unfold wpOp
  rw [ho]
  have : Region.wanted o (yielded ops a.tmps) = true := by unfold Region.wanted; rw [hg]
  simp only [this, if_true]
  exact .inl h
theorem op_loadR {o : Oper} {a : Act} {w : World} {K : Act → World → Prop} {ty : TypeId} {x : Operand} {B : Nat} {v : Value} (ho : o.op = .load ty x) (hx : a.eval x = .pointer (some ⟨B, 0, none⟩)) (hl : (loadVar ty ⟨B, 0, none⟩).run P w = .ok v w)
    (hK : K (a.put o.dst v) w) : Oper.wp P o a w K Q := by
  unfold Oper.wp
  simp only [execOp, ho, hx, Instr.loadAt, Instr.sureAddr, Sem.run_bind, Sem.run_pure, Result.andThen_ok, hl]
  exact hK
theorem op_callR {o : Oper} {a : Act} {w : World} {K : Act → World → Prop} {f : FuncId} {args : Array Value} (h0 : (execOp a.eval o).run P w = .ok (.enter f args) w)
    (h : Calls P f args w fun e w' => ∃ v, e = .returned v ∧ K (a.put o.dst v) w') : Oper.wp P o a w K Q := by
  unfold Oper.wp
  rw [h0]
  refine Calls.mono h ?_
  rintro e w' ⟨v, rfl, hk⟩
  exact hk
theorem op_call2 {o : Oper} {a : Act} {w : World} {K : Act → World → Prop} {f : FuncId} {x y : Operand} {ts : Array TypeId} (ho : o.op = .call { callee := .value (.func f), args := #[x, y], argTypes := ts })
    (hen : ∀ args w, (callFunc f args).run P w = .ok (.enter f args) w) {vx vy : Value} (hx : a.eval x = vx) (hy : a.eval y = vy)
    (h : Calls P f #[vx, vy] w fun e w' => ∃ v, e = .returned v ∧ K (a.put o.dst v) w') : Oper.wp P o a w K Q := by
  refine op_callR (f := f) (args := #[vx, vy]) ?_ h
  unfold execOp
  simp only [ho]
  simp [resolve, invoke, go_sem, hen]
  unfold Act.eval at hx hy
  simp only [Array.getD_eq_getD_getElem?] at hx hy
  exact ⟨hx, hy⟩
end
theorem setRow_at {W : World} {g : Nat} {t : TypeId} {old cs : Array Value} (h : BlkAt W g t old) : BlkAt (W.setRow g cs) g t cs := by
  have h0 : W.heap[g]? = some (.cells old t (0, 0)) := h
  show (W.heap.modify g _)[g]? = some (.cells cs t (0, 0))
  rw [Array.getElem?_modify, if_pos rfl, h0]; rfl
theorem setRow_ne {W : World} {g k : Nat} {cs : Array Value} (h : k ≠ g) : (W.setRow g cs).heap[k]? = W.heap[k]? := by
  show (W.heap.modify g _)[k]? = _
  rw [Array.getElem?_modify, if_neg (Ne.symm h)]
theorem setRow_grown (W : World) (g : Nat) (cs : Array Value) : W.grownBy (W.setRow g cs) (some g) :=
  ⟨rfl, rfl, rfl, by show W.heap.size ≤ (W.heap.modify g _).size; simp, fun k hk hne => setRow_ne (fun e => hne (by rw [e]))⟩
abbrev aggV (r : RatC) : Value := .agg #[.bool (negQ r.q), .slice r.a (szN (numQ r.q)) r.c, .slice r.b (szN (denQ r.q)) r.d]
/-- The four boxes of a round. -/
structure WG (w W0 : World) (B9 B10 : Nat) (c1 c2 c9 c10 : RatC) (W : World) : Prop where
  k0 : BlkAt W w.heap.size 59 #[.bool false, .slice none 0 0, .slice none 0 0]
  k1 : BlkAt W (w.heap.size + 1) 59 #[.bool (negQ c1.q), .slice c1.a (szN (numQ c1.q)) c1.c, .slice c1.b (szN (denQ c1.q)) c1.d]
  k2 : BlkAt W (w.heap.size + 2) 59 #[.bool (negQ c2.q), .slice c2.a (szN (numQ c2.q)) c2.c, .slice c2.b (szN (denQ c2.q)) c2.d]
  k9 : BlkAt W B9 59 #[.bool (negQ c9.q), .slice c9.a (szN (numQ c9.q)) c9.c, .slice c9.b (szN (denQ c9.q)) c9.d]
  k10 : BlkAt W B10 59 #[.bool (negQ c10.q), .slice c10.a (szN (numQ c10.q)) c10.c, .slice c10.b (szN (denQ c10.q)) c10.d]
  ne9 : w.heap.size + 2 < B9
  ne10 : w.heap.size + 2 < B10
  keep : KeepT 133 W0 W
  below : Below w.heap.size w W
theorem WG.call {w W0 W W' : World} {B9 B10 : Nat} {c1 c2 c9 c10 : RatC} (h : WG w W0 B9 B10 c1 c2 c9 c10 W) (hB : Below W.heap.size W W') : WG w W0 B9 B10 c1 c2 c9 c10 W' :=
  ⟨h.k0.below hB h.k0.lt, h.k1.below hB h.k1.lt, h.k2.below hB h.k2.lt, h.k9.below hB h.k9.lt, h.k10.below hB h.k10.lt, h.ne9, h.ne10, h.keep.trans (KeepT.of_below hB), h.below.trans (hB.mono h.below.size)⟩
theorem WG.put1 {w W0 W : World} {B9 B10 : Nat} {c1 c2 c9 c10 : RatC} (h : WG w W0 B9 B10 c1 c2 c9 c10 W) (r : RatC) :
    WG w W0 B9 B10 r c2 c9 c10 (W.setRow (w.heap.size + 1) (cellsC r).toArray) ∧ KeepT 133 W (W.setRow (w.heap.size + 1) (cellsC r).toArray) := by
  have hk := KeepT.blk h.k1 (show 133 ≠ 59 by decide) (setRow_grown W (w.heap.size + 1) (cellsC r).toArray)
  have e9 := h.ne9
  have e10 := h.ne10
  exact ⟨⟨(setRow_ne (by omega)).trans h.k0, setRow_at h.k1, (setRow_ne (by omega)).trans h.k2, (setRow_ne (by omega)).trans h.k9, (setRow_ne (by omega)).trans h.k10, e9, e10, h.keep.trans hk, h.below.grown (setRow_grown W _ _) h.below.size (fun k e => by cases e; omega)⟩, hk⟩
theorem WG.put2 {w W0 W : World} {B9 B10 : Nat} {c1 c2 c9 c10 : RatC} (h : WG w W0 B9 B10 c1 c2 c9 c10 W) (r : RatC) :
    WG w W0 B9 B10 c1 r c9 c10 (W.setRow (w.heap.size + 2) (cellsC r).toArray) ∧ KeepT 133 W (W.setRow (w.heap.size + 2) (cellsC r).toArray) := by
  have hk := KeepT.blk h.k2 (show 133 ≠ 59 by decide) (setRow_grown W (w.heap.size + 2) (cellsC r).toArray)
  have e9 := h.ne9
  have e10 := h.ne10
  exact ⟨⟨(setRow_ne (by omega)).trans h.k0, (setRow_ne (by omega)).trans h.k1, setRow_at h.k2, (setRow_ne (by omega)).trans h.k9, (setRow_ne (by omega)).trans h.k10, e9, e10, h.keep.trans hk, h.below.grown (setRow_grown W _ _) h.below.size (fun k e => by cases e; omega)⟩, hk⟩
theorem ratC_of {w : World} {v : Value} {q : Rat} (h : RatAt w v q) : ∃ r : RatC, v = aggV r ∧ r.q = q ∧ RatIn w r := by
  obtain ⟨a, c, b, d, h1, h2, h3⟩ := h
  exact ⟨⟨q, a, c, b, d⟩, h1, rfl, h2, h3⟩
/-- The region's operations. -/
def wops : Array Oper := #[
  { dst := some 38, op := .load 59 (.tmp 6), type := 59, pos := "forest.go:152", after := #[], guard := none },
  { dst := some 39, op := .load 59 (.tmp 9), type := 59, pos := "forest.go:152", after := #[], guard := none },
  { dst := some 40, op := .load 59 (.tmp 10), type := 59, pos := "forest.go:152", after := #[], guard := none },
  { dst := some 41, op := .call { callee := .value (.func 102), args := #[.tmp 39, .tmp 40], argTypes := #[59, 59] }, type := 59, pos := "forest.go:152", after := #[{ on := 1, ground := .data }, { on := 2, ground := .data }], guard := none },
  { dst := some 42, op := .call { callee := .value (.func 97), args := #[.tmp 38, .tmp 41], argTypes := #[59, 59] }, type := 59, pos := "forest.go:152", after := #[{ on := 0, ground := .data }, { on := 3, ground := .data }, { on := 3, ground := .chain }], guard := none },
  { dst := some 43, op := .load 59 (.tmp 7), type := 59, pos := "forest.go:152", after := #[], guard := none },
  { dst := some 44, op := .load 59 (.tmp 10), type := 59, pos := "forest.go:152", after := #[], guard := none },
  { dst := some 45, op := .call { callee := .value (.func 97), args := #[.tmp 43, .tmp 44], argTypes := #[59, 59] }, type := 59, pos := "forest.go:152", after := #[{ on := 5, ground := .data }, { on := 6, ground := .data }, { on := 4, ground := .chain }], guard := none },
  { dst := none, op := .store 59 (.tmp 6) (.tmp 42), type := 0, pos := "forest.go:152", after := #[{ on := 4, ground := .data }, { on := 7, ground := .chain }, { on := 0, ground := .phase }, { on := 1, ground := .phase }, { on := 2, ground := .phase }, { on := 3, ground := .phase }, { on := 4, ground := .phase }, { on := 5, ground := .textOnly .lateStores }, { on := 6, ground := .textOnly .lateStores }, { on := 7, ground := .textOnly .lateStoresUnsure }], guard := none },
  { dst := none, op := .store 59 (.tmp 7) (.tmp 45), type := 0, pos := "forest.go:152", after := #[{ on := 7, ground := .data }, { on := 8, ground := .chain }, { on := 0, ground := .phase }, { on := 1, ground := .phase }, { on := 2, ground := .phase }, { on := 3, ground := .phase }, { on := 4, ground := .phase }, { on := 5, ground := .phase }, { on := 6, ground := .phase }, { on := 7, ground := .phase }, { on := 8, ground := .phase }], guard := none }]
theorem enters_mul : ∀ args w, (callFunc 102 args).run Tryz.prog w = .ok (.enter 102 args) w := enters_of Tryz.func102 (by kernel_rfl) rfl
theorem enters_add : ∀ args w, (callFunc 97 args).run Tryz.prog w = .ok (.enter 97 args) w := enters_of Tryz.func97 (by kernel_rfl) rfl
abbrev wfr (a0 a1 a2 a3 a4 a5 : Value) (B6 B7 : Nat) (a8 : Value) (B9 B10 : Nat) (a11 a12 a13 a14 a15 a16 a17 a18 a19 a20 a21 a22 a23 a24 a25 a26 a27 a28 a29 a30 a31 a32 a33 a34 a35 a36 a37 x38 x39 x40 x41 x42 x43 x44 x45 a46 a47 a48 a49 a50 a51 a52 a53 a54 a55 : Value) : Act :=
  { tmps := #[a0, a1, a2, a3, a4, a5, .pointer (some ⟨B6, 0, none⟩), .pointer (some ⟨B7, 0, none⟩), a8, .pointer (some ⟨B9, 0, none⟩), .pointer (some ⟨B10, 0, none⟩), a11, a12, a13, a14, a15, a16, a17, a18, a19, a20, a21, a22, a23, a24, a25, a26, a27, a28, a29, a30, a31, a32, a33, a34, a35, a36, a37, x38, x39, x40, x41, x42, x43, x44, x45, a46, a47, a48, a49, a50, a51, a52, a53, a54, a55], defers := [] }
theorem WG.putk {w W0 W W' : World} {B9 B10 : Nat} {c1 c2 c9 c10 : RatC} {r : RatC} (h : WG w W0 B9 B10 c1 c2 c9 c10 W') (hk : KeepT 133 W W') (hr : RatIn W r) : RatIn W' r := hr.keep hk
theorem WG.r {w W0 W : World} {B9 B10 : Nat} {c1 c2 c9 c10 : RatC} {r : RatC} (h : WG w W0 B9 B10 c1 c2 c9 c10 W) (hr : RatIn W0 r) : RatIn W r := hr.keep h.keep
set_option maxRecDepth 20000 in
set_option maxHeartbeats 4000000 in
/-- The region of a round. -/
theorem wgt_region {Q : Exit → Act → World → Prop} {w wc W1 : World} {B9 B10 : Nat} {rS rA r r10 : RatC} {a0 a1 a2 a3 a4 a5 a8 a11 a12 a13 a14 a15 a16 a17 a18 a19 a20 a21 a22 a23 a24 a25 a26 a27 a28 a29 a30 a31 a32 a33 a34 a35 a36 a37 a46 a47 a48 a49 a50 a51 a52 a53 a54 a55 u38 u39 u40 u41 u42 u43 u44 u45 : Value}
    (hS : RatIn wc rS) (hA : RatIn wc rA) (hr : RatIn wc r) (h10 : RatIn wc r10)
    (sS : szN (numQ rS.q) ≤ 200000 ∧ szN rS.q.den ≤ 200000) (sA : szN (numQ rA.q) ≤ 200000 ∧ szN rA.q.den ≤ 200000) (sr : weeQ r.q) (s10 : weeQ r10.q)
    (h : WG w wc B9 B10 rS rA r r10 W1)
    (hk : ∀ (x38 x39 x40 x41 x42 x43 x44 x45 : Value) (c1 c2 : RatC) (W : World), c1.q = rS.q + r.q * r10.q → c2.q = rA.q + r10.q → RatIn W c1 → RatIn W c2 → WG w wc B9 B10 c1 c2 r r10 W →
      Q .normal (wfr a0 a1 a2 a3 a4 a5 (w.heap.size + 1) (w.heap.size + 1 + 1) a8 B9 B10 a11 a12 a13 a14 a15 a16 a17 a18 a19 a20 a21 a22 a23 a24 a25 a26 a27 a28 a29 a30 a31 a32 a33 a34 a35 a36 a37 x38 x39 x40 x41 x42 x43 x44 x45 a46 a47 a48 a49 a50 a51 a52 a53 a54 a55) W) :
    wpAny Tryz.prog .any wops Q 10 (Array.replicate 10 false) (wfr a0 a1 a2 a3 a4 a5 (w.heap.size + 1) (w.heap.size + 1 + 1) a8 B9 B10 a11 a12 a13 a14 a15 a16 a17 a18 a19 a20 a21 a22 a23 a24 a25 a26 a27 a28 a29 a30 a31 a32 a33 a34 a35 a36 a37 u38 u39 u40 u41 u42 u43 u44 u45 a46 a47 a48 a49 a50 a51 a52 a53 a54 a55) W1 := by
  refine wpAny_inv (fun l a W => ∃ (b0 b1 b2 b3 b4 b5 b6 b7 b8 b9 : Bool) (x38 x39 x40 x41 x42 x43 x44 x45 : Value) (p3 p4 p7 c1 c2 : RatC), l = #[b0, b1, b2, b3, b4, b5, b6, b7, b8, b9] ∧
      ((b3 = true → b1 = true ∧ b2 = true) ∧ (b4 = true → b0 = true ∧ b3 = true) ∧ (b7 = true → b5 = true ∧ b6 = true) ∧ (b8 = true → b4 = true) ∧ (b9 = true → b7 = true)) ∧
      a = wfr a0 a1 a2 a3 a4 a5 (w.heap.size + 1) (w.heap.size + 1 + 1) a8 B9 B10 a11 a12 a13 a14 a15 a16 a17 a18 a19 a20 a21 a22 a23 a24 a25 a26 a27 a28 a29 a30 a31 a32 a33 a34 a35 a36 a37 x38 x39 x40 x41 x42 x43 x44 x45 a46 a47 a48 a49 a50 a51 a52 a53 a54 a55 ∧
      ((b0 = true → x38 = aggV rS) ∧ (b1 = true → x39 = aggV r) ∧ (b2 = true → x40 = aggV r10) ∧ (b5 = true → x43 = aggV rA) ∧ (b6 = true → x44 = aggV r10)) ∧
      ((b3 = true → x41 = aggV p3 ∧ p3.q = r.q * r10.q ∧ RatIn W p3) ∧ (b4 = true → x42 = aggV p4 ∧ p4.q = rS.q + r.q * r10.q ∧ RatIn W p4) ∧ (b7 = true → x45 = aggV p7 ∧ p7.q = rA.q + r10.q ∧ RatIn W p7)) ∧
      ((b8 = false → c1 = rS) ∧ (b8 = true → c1 = p4) ∧ (b9 = false → c2 = rA) ∧ (b9 = true → c2 = p7)) ∧ WG w wc B9 B10 c1 c2 r r10 W)
      ?done ?step 10 _ _ _ ⟨false, false, false, false, false, false, false, false, false, false, u38, u39, u40, u41, u42, u43, u44, u45, rS, rS, rS, rS, rA, rfl, by simp, rfl, by simp, by simp, by simp, h⟩ (by show List.countP (fun i => !(Array.replicate 10 false).getD i true) (List.range 10) ≤ 10; decide)
  case done =>
    rintro l a W ⟨b0, b1, b2, b3, b4, b5, b6, b7, b8, b9, x38, x39, x40, x41, x42, x43, x44, x45, p3, p4, p7, c1, c2, rfl, ⟨d3, d4, d7, d8, d9⟩, rfl, ⟨e0, e1, e2, e5, e6⟩, ⟨e3, e4, e7⟩, ⟨t1, t2, t3, t4⟩, hW⟩ hr0
    obtain rfl : b0 = true := listed_of (i := 0) hr0 rfl rfl rfl
    obtain rfl : b1 = true := listed_of (i := 1) hr0 rfl rfl rfl
    obtain rfl : b2 = true := listed_of (i := 2) hr0 rfl rfl rfl
    obtain rfl : b3 = true := listed_of (i := 3) hr0 rfl rfl rfl
    obtain rfl : b4 = true := listed_of (i := 4) hr0 rfl rfl rfl
    obtain rfl : b5 = true := listed_of (i := 5) hr0 rfl rfl rfl
    obtain rfl : b6 = true := listed_of (i := 6) hr0 rfl rfl rfl
    obtain rfl : b7 = true := listed_of (i := 7) hr0 rfl rfl rfl
    obtain rfl : b8 = true := listed_of (i := 8) hr0 rfl rfl rfl
    obtain rfl : b9 = true := listed_of (i := 9) hr0 rfl rfl rfl
    obtain ⟨-, hq4, hi4⟩ := e4 rfl
    obtain ⟨-, hq7, hi7⟩ := e7 rfl
    obtain rfl : c1 = p4 := t2 rfl
    obtain rfl : c2 = p7 := t4 rfl
    exact hk x38 x39 x40 x41 x42 x43 x44 x45 c1 c2 W hq4 hq7 hi4 hi7 hW
  case step =>
    rintro l a W i ⟨b0, b1, b2, b3, b4, b5, b6, b7, b8, b9, x38, x39, x40, x41, x42, x43, x44, x45, p3, p4, p7, c1, c2, rfl, ⟨d3, d4, d7, d8, d9⟩, rfl, ⟨e0, e1, e2, e5, e6⟩, ⟨e3, e4, e7⟩, ⟨t1, t2, t3, t4⟩, hW⟩ hi
    obtain ⟨hi, hb, hd⟩ := ready_mem hi
    have hi : i < 10 := hi
    have hc : i = 0 ∨ i = 1 ∨ i = 2 ∨ i = 3 ∨ i = 4 ∨ i = 5 ∨ i = 6 ∨ i = 7 ∨ i = 8 ∨ i = 9 := by omega
    rcases hc with rfl | rfl | rfl | rfl | rfl | rfl | rfl | rfl | rfl | rfl
    · obtain rfl : b0 = false := hb
      obtain rfl : b4 = false := nf fun e => (d4 e).1
      obtain rfl : b8 = false := nf fun e => d8 e
      have hcc := t1 rfl
      refine opR_step rfl rfl (op_loadR rfl rfl (aggRat.load rfl hW.k1) ?_)
      rw [hcc]
      rw [hcc] at hW
      exact ⟨true, b1, b2, b3, false, b5, b6, b7, false, b9, aggV rS, x39, x40, x41, x42, x43, x44, x45, p3, p4, p7, rS, c2, rfl, ⟨d3, (fun e => Bool.noConfusion e), d7, (fun e => Bool.noConfusion e), d9⟩, rfl, ⟨(fun _ => rfl), e1, e2, e5, e6⟩, ⟨e3, (fun e => Bool.noConfusion e), e7⟩, ⟨(fun _ => rfl), (fun e => Bool.noConfusion e), t3, t4⟩, hW⟩
    · obtain rfl : b1 = false := hb
      obtain rfl : b3 = false := nf fun e => (d3 e).1
      obtain rfl : b4 = false := nf fun e => (d4 e).2
      obtain rfl : b8 = false := nf fun e => d8 e
      refine opR_step rfl rfl (op_loadR rfl rfl (aggRat.load rfl hW.k9) ?_)
      exact ⟨b0, true, b2, false, false, b5, b6, b7, false, b9, x38, aggV r, x40, x41, x42, x43, x44, x45, p3, p4, p7, c1, c2, rfl, ⟨(fun e => Bool.noConfusion e), (fun e => Bool.noConfusion e), d7, (fun e => Bool.noConfusion e), d9⟩, rfl, ⟨e0, (fun _ => rfl), e2, e5, e6⟩, ⟨(fun e => Bool.noConfusion e), (fun e => Bool.noConfusion e), e7⟩, ⟨t1, t2, t3, t4⟩, hW⟩
    · obtain rfl : b2 = false := hb
      obtain rfl : b3 = false := nf fun e => (d3 e).2
      obtain rfl : b4 = false := nf fun e => (d4 e).2
      obtain rfl : b8 = false := nf fun e => d8 e
      refine opR_step rfl rfl (op_loadR rfl rfl (aggRat.load rfl hW.k10) ?_)
      exact ⟨b0, b1, true, false, false, b5, b6, b7, false, b9, x38, x39, aggV r10, x41, x42, x43, x44, x45, p3, p4, p7, c1, c2, rfl, ⟨(fun e => Bool.noConfusion e), (fun e => Bool.noConfusion e), d7, (fun e => Bool.noConfusion e), d9⟩, rfl, ⟨e0, e1, (fun _ => rfl), e5, e6⟩, ⟨(fun e => Bool.noConfusion e), (fun e => Bool.noConfusion e), e7⟩, ⟨t1, t2, t3, t4⟩, hW⟩
    · obtain rfl : b3 = false := hb
      obtain rfl : b1 = true := hd _ rfl 0 _ rfl rfl
      obtain rfl : b2 = true := hd _ rfl 1 _ rfl rfl
      obtain rfl : b4 = false := nf fun e => (d4 e).2
      obtain rfl : b8 = false := nf fun e => d8 e
      obtain rfl : x39 = aggV r := e1 rfl
      obtain rfl : x40 = aggV r10 := e2 rfl
      refine opR_step rfl rfl (op_call2 rfl enters_mul rfl rfl ((ratMul_any (hW.r hr).rat (hW.r h10).rat (Nat.le_trans sr.1 (by decide)) (Nat.le_trans sr.2 (by decide)) (Nat.le_trans s10.1 (by decide)) (Nat.le_trans s10.2 (by decide))).mono ?_))
      rintro e w' ⟨v, rfl, hN, hB⟩
      obtain ⟨p, rfl, hpq, hp⟩ := ratC_of hN
      refine ⟨_, rfl, ?_⟩
      exact ⟨b0, true, true, true, false, b5, b6, b7, false, b9, x38, aggV r, aggV r10, aggV p, x42, x43, x44, x45, p, p4, p7, c1, c2, rfl, ⟨(fun _ => ⟨rfl, rfl⟩), (fun e => Bool.noConfusion e), d7, (fun e => Bool.noConfusion e), d9⟩, rfl, ⟨e0, (fun _ => rfl), (fun _ => rfl), e5, e6⟩, ⟨(fun _ => ⟨rfl, hpq, hp⟩), (fun e => Bool.noConfusion e), (fun e => ⟨(e7 e).1, (e7 e).2.1, RatIn.keep (e7 e).2.2 (KeepT.of_below hB)⟩)⟩, ⟨t1, t2, t3, t4⟩, hW.call hB⟩
    · obtain rfl : b4 = false := hb
      obtain rfl : b0 = true := hd _ rfl 0 _ rfl rfl
      obtain rfl : b3 = true := hd _ rfl 1 _ rfl rfl
      obtain rfl : b8 = false := nf fun e => d8 e
      obtain rfl : x38 = aggV rS := e0 rfl
      obtain ⟨rfl, hq3, hi3⟩ := e3 rfl
      obtain ⟨m1, m2⟩ := mulQ_sz r.q r10.q
      rw [← hq3] at m1 m2
      refine opR_step rfl rfl (op_call2 rfl enters_add rfl rfl ((ratAdd_any (hW.r hS).rat hi3.rat (Nat.le_trans sS.1 (by decide)) (Nat.le_trans sS.2 (by decide)) (by have := sr.1; have := s10.1; omega) (by have := sr.2; have := s10.2; omega)).mono ?_))
      rintro e w' ⟨v, rfl, hN, hB⟩
      obtain ⟨p, rfl, hpq, hp⟩ := ratC_of hN
      refine ⟨_, rfl, ?_⟩
      exact ⟨true, b1, b2, true, true, b5, b6, b7, false, b9, aggV rS, x39, x40, aggV p3, aggV p, x43, x44, x45, p3, p, p7, c1, c2, rfl, ⟨(fun _ => ⟨(d3 rfl).1, (d3 rfl).2⟩), (fun _ => ⟨rfl, rfl⟩), d7, (fun e => Bool.noConfusion e), d9⟩, rfl, ⟨(fun _ => rfl), e1, e2, e5, e6⟩, ⟨(fun _ => ⟨rfl, hq3, RatIn.keep hi3 (KeepT.of_below hB)⟩), (fun _ => ⟨rfl, by rw [hpq, hq3], hp⟩), (fun e => ⟨(e7 e).1, (e7 e).2.1, RatIn.keep (e7 e).2.2 (KeepT.of_below hB)⟩)⟩, ⟨t1, (fun e => Bool.noConfusion e), t3, t4⟩, hW.call hB⟩
    · obtain rfl : b5 = false := hb
      obtain rfl : b7 = false := nf fun e => (d7 e).1
      obtain rfl : b9 = false := nf fun e => d9 e
      have hcc := t3 rfl
      refine opR_step rfl rfl (op_loadR rfl rfl (aggRat.load rfl hW.k2) ?_)
      rw [hcc]
      rw [hcc] at hW
      exact ⟨b0, b1, b2, b3, b4, true, b6, false, b8, false, x38, x39, x40, x41, x42, aggV rA, x44, x45, p3, p4, p7, c1, rA, rfl, ⟨d3, d4, (fun e => Bool.noConfusion e), d8, (fun e => Bool.noConfusion e)⟩, rfl, ⟨e0, e1, e2, (fun _ => rfl), e6⟩, ⟨e3, e4, (fun e => Bool.noConfusion e)⟩, ⟨t1, t2, (fun _ => rfl), (fun e => Bool.noConfusion e)⟩, hW⟩
    · obtain rfl : b6 = false := hb
      obtain rfl : b7 = false := nf fun e => (d7 e).2
      obtain rfl : b9 = false := nf fun e => d9 e
      refine opR_step rfl rfl (op_loadR rfl rfl (aggRat.load rfl hW.k10) ?_)
      exact ⟨b0, b1, b2, b3, b4, b5, true, false, b8, false, x38, x39, x40, x41, x42, x43, aggV r10, x45, p3, p4, p7, c1, c2, rfl, ⟨d3, d4, (fun e => Bool.noConfusion e), d8, (fun e => Bool.noConfusion e)⟩, rfl, ⟨e0, e1, e2, e5, (fun _ => rfl)⟩, ⟨e3, e4, (fun e => Bool.noConfusion e)⟩, ⟨t1, t2, t3, t4⟩, hW⟩
    · obtain rfl : b7 = false := hb
      obtain rfl : b5 = true := hd _ rfl 0 _ rfl rfl
      obtain rfl : b6 = true := hd _ rfl 1 _ rfl rfl
      obtain rfl : b9 = false := nf fun e => d9 e
      obtain rfl : x43 = aggV rA := e5 rfl
      obtain rfl : x44 = aggV r10 := e6 rfl
      refine opR_step rfl rfl (op_call2 rfl enters_add rfl rfl ((ratAdd_any (hW.r hA).rat (hW.r h10).rat (Nat.le_trans sA.1 (by decide)) (Nat.le_trans sA.2 (by decide)) (Nat.le_trans s10.1 (by decide)) (Nat.le_trans s10.2 (by decide))).mono ?_))
      rintro e w' ⟨v, rfl, hN, hB⟩
      obtain ⟨p, rfl, hpq, hp⟩ := ratC_of hN
      refine ⟨_, rfl, ?_⟩
      exact ⟨b0, b1, b2, b3, b4, true, true, true, b8, false, x38, x39, x40, x41, x42, aggV rA, aggV r10, aggV p, p3, p4, p, c1, c2, rfl, ⟨d3, d4, (fun _ => ⟨rfl, rfl⟩), d8, (fun e => Bool.noConfusion e)⟩, rfl, ⟨e0, e1, e2, (fun _ => rfl), (fun _ => rfl)⟩, ⟨(fun e => ⟨(e3 e).1, (e3 e).2.1, RatIn.keep (e3 e).2.2 (KeepT.of_below hB)⟩), (fun e => ⟨(e4 e).1, (e4 e).2.1, RatIn.keep (e4 e).2.2 (KeepT.of_below hB)⟩), (fun _ => ⟨rfl, hpq, hp⟩)⟩, ⟨t1, t2, t3, (fun e => Bool.noConfusion e)⟩, hW.call hB⟩
    · obtain rfl : b8 = false := hb
      obtain rfl : b4 = true := hd _ rfl 0 _ rfl rfl
      obtain ⟨rfl, hq4, hi4⟩ := e4 rfl
      obtain ⟨hW', hkp⟩ := hW.put1 p4
      refine opR_step rfl rfl (wp_store_row _ _ _ rfl _ (cellsC p4).toArray rfl rfl _ _ hW.k1 (by kernel_rfl) rfl (by simp [cellsC, Value.oneCell']) ?_)
      exact ⟨b0, b1, b2, b3, true, b5, b6, b7, true, b9, x38, x39, x40, x41, aggV p4, x43, x44, x45, p3, p4, p7, p4, c2, rfl, ⟨d3, (fun _ => ⟨(d4 rfl).1, (d4 rfl).2⟩), d7, (fun _ => rfl), d9⟩, rfl, ⟨e0, e1, e2, e5, e6⟩, ⟨(fun e => ⟨(e3 e).1, (e3 e).2.1, RatIn.keep (e3 e).2.2 hkp⟩), (fun _ => ⟨rfl, hq4, RatIn.keep hi4 hkp⟩), (fun e => ⟨(e7 e).1, (e7 e).2.1, RatIn.keep (e7 e).2.2 hkp⟩)⟩, ⟨(fun e => Bool.noConfusion e), (fun _ => rfl), t3, t4⟩, hW'⟩
    · obtain rfl : b9 = false := hb
      obtain rfl : b7 = true := hd _ rfl 0 _ rfl rfl
      obtain ⟨rfl, hq7, hi7⟩ := e7 rfl
      obtain ⟨hW', hkp⟩ := hW.put2 p7
      refine opR_step rfl rfl (wp_store_row _ _ _ rfl _ (cellsC p7).toArray rfl rfl _ _ hW.k2 (by kernel_rfl) rfl (by simp [cellsC, Value.oneCell']) ?_)
      exact ⟨b0, b1, b2, b3, b4, b5, b6, true, b8, true, x38, x39, x40, x41, x42, x43, x44, aggV p7, p3, p4, p7, c1, p7, rfl, ⟨d3, d4, (fun _ => ⟨(d7 rfl).1, (d7 rfl).2⟩), d8, (fun _ => rfl)⟩, rfl, ⟨e0, e1, e2, e5, e6⟩, ⟨(fun e => ⟨(e3 e).1, (e3 e).2.1, RatIn.keep (e3 e).2.2 hkp⟩), (fun e => ⟨(e4 e).1, (e4 e).2.1, RatIn.keep (e4 e).2.2 hkp⟩), (fun _ => ⟨rfl, hq7, RatIn.keep hi7 hkp⟩)⟩, ⟨t1, t2, (fun e => Bool.noConfusion e), (fun _ => rfl)⟩, hW'⟩
end Go.Proofs.YtjcpfmndkeiegaaGreatDoor
namespace Go.Proofs.YtjcpfmndkeiegaaGreatDoor
open Go.RowKit
set_option linter.unusedVariables false

/-- The loop of weighted. -/
def WgtL (w : World) (qs : List Rat) (ws : List ByteArray) (p : Value) (W : World) : Prop :=
  ∃ k : Nat, p = .int .i64 (k : Nat) ∧ k ≤ qs.length ∧ RatBox W (w.heap.size + 1) (wSum qs ws k) ∧ RatBox W (w.heap.size + 2) (wAll ws k) ∧ BlkAt W w.heap.size 59 #[.bool false, .slice none 0 0, .slice none 0 0] ∧ Below w.heap.size w W
set_option maxRecDepth 100000 in
set_option maxHeartbeats 8000000 in
theorem weighted_any {w : World} {base : Nat} {v : Value} {qs : List Rat} {x : Option Addr} {p c : Nat} {ws : List ByteArray} (h : RatRow w base v qs) (hs : ∀ q ∈ qs, weeQ q) (hn : 0 < qs.length) (hl : qs.length ≤ 60) (hw : RdS w x ws) (hwl : ws.length = p) (hws : ∀ s ∈ ws, s.size ≤ 100000) (hpl : p ≤ 1000000) :
    Calls Tryz.prog 64 #[v, .slice x p c] w fun e w' => ∃ v', e = .returned (.tuple #[v', .bool (decide (wAll ws qs.length ≠ 0))]) ∧ RatAt w' v' (divP (wSum qs ws qs.length) (wAll ws qs.length)) ∧ Below w.heap.size w w' := by
  obtain ⟨g, c0, cur, rs, rfl, hb, hg, hrow, rfl, hrl, hin, hc⟩ := h.form hn
  obtain ⟨m, hm⟩ : ∃ m, rs.length = m := ⟨_, rfl⟩
  have HSz := Lib.hid (wSum_sz hs ws)
  have HAz := Lib.hid (wAll_sz ws)
  have HWee := Lib.hid hs
  rw [List.length_map] at hn hl hc ⊢
  rw [hm] at hn hl hc ⊢
  have HM := Lib.hid hm
  have hgl := hg.lt
  obtain ⟨W0, hW0⟩ : ∃ W0, ((w.alloc rat0).alloc rat0).alloc rat0 = W0 := ⟨_, rfl⟩
  have hB0 : Below w.heap.size w W0 := by rw [← hW0]; exact (((Below.refl _ w).alloc (Nat.le_refl _) _).alloc (by simp) _).alloc (by simp; omega) _
  have k0 : BlkAt W0 w.heap.size 59 #[.bool false, .slice none 0 0, .slice none 0 0] := by rw [← hW0]; exact ((BlkAt.new w _ _).alloc _).alloc _
  have k1 : BlkAt W0 (w.heap.size + 1) 59 #[.bool false, .slice none 0 0, .slice none 0 0] := by
    rw [← hW0]
    have := BlkAt.new (w.alloc rat0) 59 #[.bool false, .slice none 0 0, .slice none 0 0]
    rw [World.size_alloc] at this
    exact this.alloc _
  have k2 : BlkAt W0 (w.heap.size + 2) 59 #[.bool false, .slice none 0 0, .slice none 0 0] := by
    rw [← hW0]
    have := BlkAt.new ((w.alloc rat0).alloc rat0) 59 #[.bool false, .slice none 0 0, .slice none 0 0]
    rw [World.size_alloc, World.size_alloc] at this
    exact this
  have H0 := Lib.hid (show WgtL w (rs.map (·.q)) ws (.int .i64 0) W0 from ⟨0, rfl, Nat.zero_le _, RatBox.zero k1, RatBox.zero k2, k0, hB0⟩)
  have HG := Lib.hid hg
  have HRow := Lib.hid hrow
  have HIn := Lib.hid hin
  have HWr := Lib.hid hw
  have HWl := Lib.hid hwl
  have HWs := Lib.hid hws
  clear h hs hb hg hrow hin hrl hm hw hwl hws hB0 k0 k1 k2
  go_enter Tryz.func64, Tryz.ntmps64
  go_wp2
  clear hW0
  go_loopw [17] (fun p W => WgtL w (rs.map (·.q)) ws p W) (fun p W => m - (intOf p).toNat)
  case atStart => exact H0.out
  case round =>
    obtain ⟨k, rfl, hk, hS, hA, hR, hB⟩ := hrel
    rw [List.length_map, HM.out] at hk
    have HB := Lib.hid hB
    by_cases hlt : k < m
    · obtain ⟨r, hrk, y0, y1, y2⟩ := HRow.out.at (k := k) (by rw [HM.out]; exact hlt)
      have hg1 := HG.out.below HB.out hgl
      have i0 := (hg1.cell (k * 3)).trans y0
      have i1 := (hg1.cell (k * 3 + 1)).trans y1
      have i2 := (hg1.cell (k * 3 + 2)).trans y2
      have hqk : (rs.map (·.q)).getD k 0 = r.q := getD_q hrk
      have HRi := Lib.hid ((HIn.out r (List.mem_of_getElem? hrk)).keep (KeepT.of_below HB.out))
      have HQk := Lib.hid hqk
      have hrw : weeQ r.q := by rw [← hqk]; exact getD_wee HWee.out k
      have HRw := Lib.hid hrw
      have HS := Lib.hid hS
      have HA := Lib.hid hA
      have HR := Lib.hid hR
      have HRk := Lib.hid hrk
      clear hrk y0 y1 y2 hqk hrw hS hA hR hB hg1
      go_upto_if 26 with (go_at_call 63; refine (one_anyQ _).mono ?_; rintro e w2 ⟨v2, rfl, hN2, hB2⟩; obtain ⟨a2, c2, b2, d2, rfl, hr2, hs2⟩ := hN2; have HN2 := Lib.hid (ratAt_mk (c := c2) (d := d2) hr2 hs2); have HB2 := Lib.hid hB2; clear hr2 hs2 hB2)
      obtain ⟨r1, hr1⟩ : ∃ r1 : RatC, r1 = ⟨1, a2, c2, b2, d2⟩ := ⟨_, rfl⟩
      have hq1 : r1.q = 1 := by rw [hr1]
      obtain ⟨W3, hW3⟩ : ∃ W3, w2.alloc (.cells #[.bool (negQ 1), .slice a2 (szN (numQ 1)) c2, .slice b2 (szN (denQ 1)) d2] 59) = W3 := ⟨_, rfl⟩
      have hBr2 : Below wr.heap.size wr w2 := ((Below.refl _ wr).alloc (Nat.le_refl _) _).trans (HB2.out.mono (by simp))
      have hk9 : BlkAt w2 wr.heap.size 59 (cellsC r).toArray := (BlkAt.new wr _ _).below HB2.out (by simp)
      have HK9 := Lib.hid (show BlkAt W3 wr.heap.size 59 (cellsC r).toArray by rw [← hW3]; exact hk9.alloc _)
      have HK10 := Lib.hid (show BlkAt W3 w2.heap.size 59 (cellsC r1).toArray by rw [← hW3, hr1]; exact BlkAt.new w2 _ _)
      have hBr3 : Below wr.heap.size wr W3 := by rw [← hW3]; exact hBr2.alloc hBr2.size _
      have HBr3 := Lib.hid hBr3
      have HR1 := Lib.hid (show RatIn W3 r1 by
        rw [← hW3, hr1]
        obtain ⟨a, c, b, d, he, h1, h2⟩ := HN2.out
        simp only [Value.agg.injEq, Array.mk.injEq, List.cons.injEq, and_true, Value.slice.injEq, true_and] at he
        obtain ⟨⟨rfl, rfl⟩, rfl, rfl⟩ := he
        exact ⟨h1.below ((Below.refl _ w2).alloc (Nat.le_refl _) _), h2.below ((Below.refl _ w2).alloc (Nat.le_refl _) _)⟩)
      have HQ1 := Lib.hid hq1
      have HLt := Lib.hid (show wr.heap.size < w2.heap.size from hk9.lt)
      rw [hW3]
      clear hBr2 hBr3 hk9 hq1 hW3 hr1
      go_cut [10] (fun s10 wx => s10 = .pointer (some ⟨w2.heap.size, 0, none⟩) ∧ ∃ r10 : RatC, r10.q = wAt ws k ∧ RatIn wx r10 ∧ BlkAt wx w2.heap.size 59 (cellsC r10).toArray ∧ BlkAt wx wr.heap.size 59 (cellsC r).toArray ∧ Below wr.heap.size wr wx)
      case first =>
        by_cases hkp : k < p
        · obtain ⟨y, rfl, hyb, hyc⟩ := (HWr.out.below (HB.out.trans (HBr3.out.mono HB.out.size))) k (by rw [HWl.out]; exact hkp)
          obtain ⟨s, hs⟩ : ∃ s, ws[k]'(by rw [HWl.out]; exact hkp) = s := ⟨_, rfl⟩
          rw [hs] at hyc
          have HSk := Lib.hid (show ws[k]? = some s by rw [List.getElem?_eq_getElem (by rw [HWl.out]; exact hkp), hs])
          have HP := Lib.hid (fun W => ratParse_any s (HWs.out s (by rw [← hs]; exact List.getElem_mem _)) W)
          have hkd : decide (k < p) = true := decide_eq_true hkp
          clear hs hyb
          by_cases hz : parseRC s.data.toList = 0
          · rw [hz] at HP
            have HZ := Lib.hid (show wAt ws k = parseRQ s.data.toList by unfold wAt; rw [HSk.out]; exact if_pos hz)
            clear hz
            go_wp2_with fail
            refine (HP.out _).mono ?_
            rintro e w4 ⟨v4, rfl, hN4, hB4⟩
            obtain ⟨a4, c4, b4, d4, rfl, hr4, hs4⟩ := hN4
            obtain ⟨q4, hq4⟩ : ∃ q4, parseRQ s.data.toList = q4 := ⟨_, rfl⟩
            rw [hq4] at hr4 hs4 HZ ⊢
            obtain ⟨W5, hW5⟩ : ∃ W5, w4.alloc (.cells #[.bool (negQ q4), .slice a4 (szN (numQ q4)) c4, .slice b4 (szN (denQ q4)) d4] 59) = W5 := ⟨_, rfl⟩
            have hB35 : Below W3.heap.size W3 W5 := by rw [← hW5]; exact hB4.alloc hB4.size _
            have k11 : BlkAt W5 w4.heap.size 59 #[.bool (negQ q4), .slice a4 (szN (numQ q4)) c4, .slice b4 (szN (denQ q4)) d4] := by rw [← hW5]; exact BlkAt.new w4 _ _
            have hk10 := HK10.out.below hB35 HK10.out.lt
            have d0 := k11.cell 0
            have d1 := k11.cell 1
            have d2 := k11.cell 2
            have hk10v : BlkAt W5 w2.heap.size 59 #[.bool (negQ r1.q), .slice r1.a (szN (numQ r1.q)) r1.c, .slice r1.b (szN (denQ r1.q)) r1.d] := hk10
            have f0 := hk10.frozen 0
            have f1 := hk10.frozen 1
            have f2 := hk10.frozen 2
            have e0 := hk10v.cell 0
            have e1 := hk10v.cell 1
            have e2 := hk10v.cell 2
            have HK5 := Lib.hid hk10
            have HK95 := Lib.hid (HK9.out.below hB35 HK9.out.lt)
            have HB35 := Lib.hid hB35
            have HR5 := Lib.hid (show RatAt W5 (.agg #[.bool (negQ q4), .slice a4 (szN (numQ q4)) c4, .slice b4 (szN (denQ q4)) d4]) q4 by rw [← hW5]; exact (ratAt_mk hr4 hs4).below ((Below.refl _ w4).alloc (Nat.le_refl _) _))
            clear hq4 hr4 hs4 hB4 hB35 k11 hk10 hk10v HP
            go_wp2
            go_meet
            obtain ⟨g1, g2, g3⟩ := res_rat HK5.out rfl (show wr.heap.size ≤ w2.heap.size from Nat.le_of_lt HLt.out) (HBr3.out.trans (HB35.out.mono HBr3.out.size)) HR5.out
            refine ⟨rfl, ⟨q4, a4, c4, b4, d4⟩, HZ.out.symm, ?_, g1, ?_, g3⟩
            · obtain ⟨a, c, b, d, he, h1, h2⟩ := g2
              simp only [Value.agg.injEq, Array.mk.injEq, List.cons.injEq, and_true, Value.slice.injEq, true_and] at he
              obtain ⟨⟨rfl, rfl⟩, rfl, rfl⟩ := he
              exact ⟨h1, h2⟩
            · exact ((HK95.out.far (p := ⟨w2.heap.size, 0, none⟩) (by have := HLt.out; simp; omega) _).far (p := ⟨w2.heap.size, 1, none⟩) (by have := HLt.out; simp; omega) _).far (p := ⟨w2.heap.size, 2, none⟩) (by have := HLt.out; simp; omega) _
          · have hz0 : (((parseRC s.data.toList : Nat) : Int) == 0) = false := beq_eq_false_iff_ne.2 (by omega)
            have HZ := Lib.hid (show wAt ws k = 1 by unfold wAt; rw [HSk.out]; exact if_neg hz)
            obtain ⟨z, hzz⟩ : ∃ z : Int, ((parseRC s.data.toList : Nat) : Int) = z := ⟨_, rfl⟩
            rw [hzz] at HP hz0
            clear hz hzz
            go_wp2_with fail
            refine (HP.out _).mono ?_
            rintro e w4 ⟨v4, rfl, hN4, hB4⟩
            obtain ⟨a4, c4, b4, d4, rfl, hr4, hs4⟩ := hN4
            have HB4 := Lib.hid (hB4.alloc hB4.size (.cells #[.bool (negQ (parseRQ s.data.toList)), .slice a4 (szN (numQ (parseRQ s.data.toList))) c4, .slice b4 (szN (denQ (parseRQ s.data.toList))) d4] 59))
            clear hr4 hs4 hB4 HP
            go_wp2
            go_meet
            exact ⟨rfl, r1, by rw [HZ.out, HQ1.out], HR1.out.keep (KeepT.of_below HB4.out), HK10.out.below HB4.out HK10.out.lt, HK9.out.below HB4.out HK9.out.lt, HBr3.out.trans (HB4.out.mono HBr3.out.size)⟩
        · have hkd : decide (k < p) = false := decide_eq_false hkp
          have HZ := Lib.hid (show wAt ws k = 1 by unfold wAt; rw [List.getElem?_eq_none (by rw [HWl.out]; omega)])
          go_wp2
          go_meet
          exact ⟨rfl, r1, by rw [HZ.out, HQ1.out], HR1.out, HK10.out, HK9.out, HBr3.out⟩
      case rest =>
        obtain ⟨rfl, r10, hq10, hr10, hk10, hk9, hBx⟩ := hcut
        obtain ⟨rS, hS1, hS2, hS3⟩ : ∃ rS : RatC, rS.q = wSum (rs.map (·.q)) ws k ∧ RatIn wc rS ∧ BlkAt wc (w.heap.size + 1) 59 #[.bool (negQ rS.q), .slice rS.a (szN (numQ rS.q)) rS.c, .slice rS.b (szN (denQ rS.q)) rS.d] := by
          obtain ⟨a, cc, b, d, h1, h2, h3⟩ := HS.out.below hBx
          exact ⟨⟨_, a, cc, b, d⟩, rfl, ⟨h2, h3⟩, h1⟩
        obtain ⟨rA, hA1, hA2, hA3⟩ : ∃ rA : RatC, rA.q = wAll ws k ∧ RatIn wc rA ∧ BlkAt wc (w.heap.size + 2) 59 #[.bool (negQ rA.q), .slice rA.a (szN (numQ rA.q)) rA.c, .slice rA.b (szN (denQ rA.q)) rA.d] := by
          obtain ⟨a, cc, b, d, h1, h2, h3⟩ := HA.out.below hBx
          exact ⟨⟨_, a, cc, b, d⟩, rfl, ⟨h2, h3⟩, h1⟩
        have hrr : RatIn wc r := HRi.out.keep (KeepT.of_below hBx)
        have hBlt : w.heap.size + 2 < wr.heap.size := by obtain ⟨a, cc, b, d, h1, -⟩ := HA.out; exact h1.lt
        have hG : WG w wc wr.heap.size w2.heap.size rS rA r r10 wc := ⟨HR.out.below hBx HR.out.lt, hS3, hA3, hk9, hk10, hBlt, Nat.lt_trans hBlt HLt.out, KeepT.refl _ _, HB.out.trans (hBx.mono HB.out.size)⟩
        have hsS : szN (numQ rS.q) ≤ 200000 ∧ szN rS.q.den ≤ 200000 := by rw [hS1]; have := HSz.out k; exact ⟨by omega, by omega⟩
        have hsA : szN (numQ rA.q) ≤ 200000 ∧ szN rA.q.den ≤ 200000 := by rw [hA1]; have := HAz.out k; exact ⟨by omega, by omega⟩
        have hs10 : weeQ r10.q := by rw [hq10]; exact wAt_wee ws k
        have hsr := HRw.out
        have HG0 := Lib.hid hG
        have HSS := Lib.hid hsS
        have HSA := Lib.hid hsA
        have HS10 := Lib.hid hs10
        have HRS := Lib.hid hS2
        have HRA := Lib.hid hA2
        have HR10 := Lib.hid hr10
        have HRR := Lib.hid hrr
        have HQS := Lib.hid hS1
        have HQA := Lib.hid hA1
        have HQ10 := Lib.hid hq10
        clear hq10 hr10 hk10 hk9 hBx hS1 hS2 hS3 hA1 hA2 hA3 hrr hBlt hG hsS hsA hs10 hsr HK9 HK10 HR1 HBr3
        go_wp2_with fail
        refine wp_region_any (by kernel_rfl) ?_
        refine wgt_region (w := w) (wc := wc) (rS := rS) (rA := rA) (r := r) (r10 := r10) HRS.out HRA.out HRR.out HR10.out HSS.out HSA.out HRw.out HS10.out (HG0.out.call ((Below.refl _ wc).drew)) ?_
        intro x38 x39 x40 x41 x42 x43 x44 x45 d1 d2 W hq1 hq2 hi1 hi2 hW
        have HE := Lib.hid (And.intro hq1 (And.intro hq2 (And.intro hi1 (And.intro hi2 hW))))
        clear hq1 hq2 hi1 hi2 hW
        go_wp2
        obtain ⟨q1, q2, i1, i2, hW⟩ := HE.out
        have e1 : wSum (rs.map (·.q)) ws (k + 1) = d1.q := by
          rw [q1, HQS.out, HQ10.out, ← HQk.out]; rfl
        have e2 : wAll ws (k + 1) = d2.q := by
          rw [q2, HQA.out, HQ10.out]; rfl
        exact ⟨⟨k + 1, by go_num, by rw [List.length_map, HM.out]; omega, by rw [e1]; exact ⟨_, _, _, _, hW.k1, i1.1, i1.2⟩, by rw [e2]; exact ⟨_, _, _, _, hW.k2, i2.1, i2.2⟩, hW.k0, hW.below⟩, by simp only [intOf]; omega⟩
    · obtain rfl : k = m := by omega
      obtain ⟨a1, s1, b1, t1, y1, j1, l1⟩ := hS
      obtain ⟨a2, s2, b2, t2, y2, j2, l2⟩ := hA
      have d0 := y1.cell 0
      have d1 := y1.cell 1
      have d2 := y1.cell 2
      have f0 := y2.cell 0
      have f1 := y2.cell 1
      have f2 := y2.cell 2
      have HN1 := Lib.hid (ratAt_mk (c := s1) (d := t1) j1 l1)
      have HN2 := Lib.hid (ratAt_mk (c := s2) (d := t2) j2 l2)
      have HR := Lib.hid hR
      obtain ⟨qs1, hqs1⟩ : ∃ q, wSum (rs.map (·.q)) ws k = q := ⟨_, rfl⟩
      obtain ⟨qa1, hqa1⟩ : ∃ q, wAll ws k = q := ⟨_, rfl⟩
      have HD := Lib.hid (fun (W : World) (hW : Below wr.heap.size wr W) => ratDiv_any (HN1.out.below hW) (HN2.out.below hW) (by have := HSz.out k; omega) (by have := HSz.out k; omega) (by have := HAz.out k; omega) (by have := HAz.out k; omega))
      rw [hqs1, hqa1] at HD
      rw [hqs1] at d0 d1 d2
      rw [hqa1] at f0 f1 f2
      have HQs := Lib.hid hqs1
      have HQa := Lib.hid hqa1
      clear hR hB y1 y2 j1 l1 j2 l2 hqs1 hqa1
      go_wp2_with fail
      refine (HD.out _ ?_).mono ?_
      · exact Below.refl _ _
      rintro e w3 ⟨v3, rfl, hN3, hB3⟩
      obtain ⟨qd, hqd⟩ : ∃ q, divP qs1 qa1 = q := ⟨_, rfl⟩
      rw [hqd] at hN3
      have HQd := Lib.hid hqd
      have hk0 := HR.out.below hB3 HR.out.lt
      have HB3 := Lib.hid (HB.out.trans (hB3.mono HB.out.size))
      obtain ⟨a3, c3, b3, g3, rfl, j3, l3⟩ := hN3
      have HN3 := Lib.hid (ratAt_mk (c := c3) (d := g3) j3 l3)
      have kz := hk0.alloc (.cells #[.bool (negQ qd), .slice a3 (szN (numQ qd)) c3, .slice b3 (szN (denQ qd)) g3] 59)
      have HK0 := Lib.hid hk0
      have r0 := kz.frozen 0
      have r1 := kz.frozen 1
      have r2 := kz.frozen 2
      have s0 := kz.cell 0
      have s1 := kz.cell 1
      have s2 := kz.cell 2
      clear hqd hk0 kz j3 l3 hB3
      clear d0 d1 d2 f0 f1 f2
      go_wp2
      have hdec : (((divC qa1 : Nat) : Int) == 0) = decide (wAll ws k ≠ 0) := by
        rw [HQa.out]
        unfold divC
        by_cases h : qa1 = 0
        · simp [h]
        · simp [h]
      obtain ⟨z1, z2, z3⟩ := res_rat (HK0.out.alloc (.cells #[.bool (negQ qd), .slice a3 (szN (numQ qd)) c3, .slice b3 (szN (denQ qd)) g3] 59)) rfl (Nat.le_refl _) (HB3.out.alloc HB3.out.size _) (HN3.out.below ((Below.refl _ w3).alloc (Nat.le_refl _) _))
      exact bodyPost_ret (r_ct rfl rfl (aggRat.load rfl z1)) rfl ⟨_, by rw [← hdec]; rfl, by rw [HQs.out, HQa.out, HQd.out]; exact z2, z3⟩
end Go.Proofs.YtjcpfmndkeiegaaGreatDoor
namespace Go.Proofs.YtjcpfmndkeiegaaGreatDoor
open Go.RowKit Go.Shelf
set_option linter.unusedVariables false

set_option maxRecDepth 100000 in
set_option maxHeartbeats 4000000 in
theorem tog3_any {w : World} {base : Nat} {v : Value} {qs : List Rat} {x : Option Addr} {p c : Nat} {ws : List ByteArray} (h : RatRow w base v qs) (hs : ∀ q ∈ qs, weeQ q) (hn : 0 < qs.length) (hl : qs.length ≤ 60) (hw : RdS w x ws) (hwl : ws.length = p) (hws : ∀ s ∈ ws, s.size ≤ 100000) (hpl : p ≤ 1000000) :
    Calls Tryz.prog 20 #[.int .i64 3, v, .slice x p c] w fun e w' => ∃ v', e = .returned (.tuple #[v', .bool (decide (wAll ws qs.length ≠ 0))]) ∧ RatAt w' v' (divP (wSum qs ws qs.length) (wAll ws qs.length)) ∧ Below w.heap.size w w' := by
  have hform := h.form hn
  obtain ⟨g, c0, cur, rs, rfl, -⟩ := hform
  have h' : RatRow (w.alloc rat0) base (.slice (some ⟨g, 0, none⟩) qs.length c0) qs := by
    obtain ⟨rs, e, ho, hi⟩ := h
    exact ⟨rs, e, ho.alloc _, fun r hr => (hi r hr).keep (KeepT.of_below ((Below.refl _ w).alloc (Nat.le_refl _) _))⟩
  have HW := Lib.hid (weighted_any (c := c) h' hs hn hl (hw.below ((Below.refl _ w).alloc (Nat.le_refl _) _)) hwl hws hpl)
  have HB0 := Lib.hid (show Below w.heap.size w (w.alloc rat0) from (Below.refl _ w).alloc (Nat.le_refl _) _)
  obtain ⟨S, hS⟩ : ∃ S, divP (wSum qs ws qs.length) (wAll ws qs.length) = S := ⟨_, rfl⟩
  obtain ⟨b, hb⟩ : ∃ b, decide (wAll ws qs.length ≠ 0) = b := ⟨_, rfl⟩
  obtain ⟨n, hln⟩ : ∃ n, qs.length = n := ⟨_, rfl⟩
  rw [hS, hb] at HW ⊢
  rw [hln] at HW ⊢
  clear h h' hs hw hws hS hb hln hl hn
  go_enter Tryz.func20, Tryz.ntmps20
  go_wp2_with (first
    | (go_at_call 64; refine HW.out.mono ?_; clear HW; rintro e w3 ⟨v3, rfl, hN3, hB3⟩; obtain ⟨a3, c3, b3, d3, rfl, hr, hs⟩ := hN3; have HV := Lib.hid (ratAt_mk (c := c3) (d := d3) hr hs); have HB3 := Lib.hid (show Below (w.heap.size + 1) (w.alloc rat0) w3 by have := hB3; rwa [World.size_alloc] at this); have k := rat_free HB3.out; have c0 := k.cell 0; have c1 := k.cell 1; have c2 := k.cell 2; have f0 := k.frozen 0; have f1 := k.frozen 1; have f2 := k.frozen 2; have HK := Lib.hid k; clear k; clear hr hs hB3))
  obtain ⟨r1, r2, r3⟩ := res_rat HK.out rfl (Nat.le_refl _) (below_in HB3.out) HV.out
  exact bodyPost_ret (r_ct rfl rfl (aggRat.load rfl r1)) rfl ⟨_, rfl, r2, r3⟩
theorem divW_sz {qs : List Rat} (hs : ∀ q ∈ qs, weeQ q) (ws : List ByteArray) (k : Nat) (hk : k ≤ 60) : szN (numQ (divP (wSum qs ws k) (wAll ws k))) ≤ 1000000 ∧ szN (divP (wSum qs ws k) (wAll ws k)).den ≤ 1000000 := by
  by_cases h : wAll ws k = 0
  · rw [h, show divP (wSum qs ws k) 0 = 0 from if_pos rfl]
    exact ⟨by rw [num_zero, szN_zero]; omega, Nat.le_trans szN_one (by decide)⟩
  · have h1 := divP_sz (x := wSum qs ws k) h
    have h2 := wSum_sz hs ws k
    have h3 := wAll_sz ws k
    exact ⟨by omega, by omega⟩
theorem joinW_any {w : World} {a : Option Addr} {n c : Nat} {ns : List ByteArray} {x : Option Addr} {p d : Nat} {ws : List ByteArray} (hr : RdS w a ns) (hn : ns.length = n) (hlim : n ≤ 60) (hs : ∀ s ∈ ns, s.size ≤ 100000) (hw : RdS w x ws) (hwl : ws.length = p) (hws : ∀ s ∈ ws, s.size ≤ 100000) (hpl : p ≤ 1000000)
    (hall : ∀ s ∈ ns, parseRC s.data.toList = 0) (h0 : 0 < n) (hq : wAll ws n ≠ 0) :
    Calls Tryz.prog 8 #[.int .i64 3, .slice a n c, .slice x p d] w fun e w' => OneAt w w' e ⟨(textQ (divP (wSum (ns.map fun s => parseRQ s.data.toList) ws n) (wAll ws n))).toArray⟩ := by
  have hl : (ns.map fun s => parseRQ s.data.toList).length = n := by rw [List.length_map, hn]
  refine (joinNums_any 3 (.slice x p d) (fun q b => b = true ∧ q = divP (wSum (ns.map fun s => parseRQ s.data.toList) ws n) (wAll ws n)) (by decide) (by decide) hr hn (by omega) hs hall h0 ?_).mono ?_
  · intro W base v hW hrow
    have := tog3_any (c := d) hrow (parse_wee ns) (by omega) (by omega) (hw.below hW) hwl hws hpl
    rw [hl, decide_eq_true hq] at this
    refine this.mono ?_
    rintro e w' ⟨v', rfl, hv, hB⟩
    exact ⟨v', _, true, rfl, ⟨rfl, rfl⟩, hv, divW_sz (parse_wee ns) ws n hlim, hB⟩
  · rintro e w' ⟨q, b, ⟨rfl, rfl⟩, ho⟩
    exact ho
/-- Weights that are alike. -/
theorem wAll_alike {ws : List ByteArray} {q : Rat} : ∀ {k : Nat}, (∀ i, i < k → wAt ws i = q) → wAll ws k = ((k : Int) : Rat) * q
  | 0, _ => by show (0 : Rat) = _; simp
  | k + 1, h => by
    show wAll ws k + wAt ws k = _
    rw [wAll_alike (fun i hi => h i (by omega)), h k (by omega)]
    have : (((k+1 : Nat) : Int) : Rat) = ((k : Int) : Rat) + 1 := by rw [Int.natCast_add, Rat.intCast_add]; rfl
    rw [this]; grind
theorem wSum_alike {qs : List Rat} {ws : List ByteArray} {q : Rat} : ∀ {k : Nat}, k ≤ qs.length → (∀ i, i < k → wAt ws i = q) → wSum qs ws k = q * sumQ (qs.take k)
  | 0, _, _ => by show (0 : Rat) = _; simp [sumQ]
  | k + 1, hk, h => by
    show wSum qs ws k + qs.getD k 0 * wAt ws k = _
    rw [wSum_alike (by omega) (fun i hi => h i (by omega)), h k (by omega), List.take_add_one, List.getElem?_eq_getElem (by omega), Option.toList_some, sumQ_snoc, List.getD, List.getElem?_eq_getElem (by omega), Option.getD_some]
    grind
theorem div_alike {q S n : Rat} (hq : q ≠ 0) (hn : n ≠ 0) : divP (q * S) (n * q) = divP S n := by
  unfold divP
  have h : n * q ≠ 0 := fun e => by rcases Rat.mul_eq_zero.1 e with h | h <;> contradiction
  rw [if_neg h, if_neg hn]
  grind
theorem wAt_of {ws : List ByteArray} {s : ByteArray} {i : Nat} (h : ws[i]? = some s) (hc : parseRC s.data.toList = 0) : wAt ws i = parseRQ s.data.toList := by
  unfold wAt
  rw [h]
  exact if_pos hc
/-- A good number's own text. -/
theorem text_parse {l : List UInt8} (h : parseRC l = 0) : textQ (parseRQ l) = l := by
  have h' := h
  unfold parseRQ
  rw [if_pos h]
  unfold parseRC at h
  by_cases h1 : parseC (numL l) = 3 ∨ parseC (denL l) = 3
  · rw [if_pos h1] at h; cases h
  rw [if_neg h1] at h
  by_cases h2 : parseC (numL l) ≠ 0 ∨ parseC (denL l) ≠ 0
  · rw [if_pos h2] at h; cases h
  rw [if_neg h2] at h
  by_cases h3 : parseV (denL l) = 0 ∨ textQ (valQ l) ≠ l
  · rw [if_pos h3] at h; cases h
  · exact Classical.byContradiction fun e => h3 (.inr e)
theorem text_ba {s : ByteArray} (h : parseRC s.data.toList = 0) : (⟨(textQ (parseRQ s.data.toList)).toArray⟩ : ByteArray) = s := by
  rw [text_parse h]
theorem togR_one {m : Int} {q x : Rat} (h : TogR m [q] x) : x = q := by
  rcases h with ⟨-, rfl⟩ | ⟨-, rfl⟩ | ⟨-, qs, hp, -, rfl⟩ | ⟨-, hp⟩ | ⟨-, hp⟩
  · show (0 : Rat) + q = q; grind
  · show divP (0 + q) ((1 : Int) : Rat) = q
    unfold divP
    rw [if_neg (by decide)]
    grind
  · obtain rfl : qs = [q] := List.perm_singleton.1 hp
    unfold midQ
    rw [if_pos (show [q].length % 2 = 1 from rfl)]
    simp
  · simpa using hp.1
  · simpa using hp.1
/-- A result of one text. -/
def OneC (w w' : World) (e : Ending) (s : ByteArray) : Prop := ∃ g c, e = .returned (.agg #[.slice (some ⟨g, 0, none⟩) 1 c]) ∧ w'.cell? ⟨g, 0, none⟩ = some (.string s) ∧ g < w'.heap.size ∧ w.heap.size ≤ g ∧ Below w.heap.size w w'
theorem OneAt.one {w w' : World} {e : Ending} {s : ByteArray} (h : OneAt w w' e s) : OneC w w' e s := by
  obtain ⟨g, h1, h2, h3, h4⟩ := h
  exact ⟨g, 1, h1, h2.cell 0, h2.lt, h3, h4⟩
theorem three_rc : parseRC (⟨#[51]⟩ : ByteArray).data.toList = 0 ∧ parseRQ (⟨#[51]⟩ : ByteArray).data.toList = 3 := by decide +kernel
theorem joinOne_any {w : World} {x y : Addr} {c d : Nat} (m : Int) (hm : 1 ≤ m) (hm9 : m ≤ 9) {s : ByteArray} (hx : RdS w (some x) [s]) (hy : RdS w (some y) [⟨#[51]⟩]) (hs : s.size ≤ 100000) (hc : parseRC s.data.toList = 0) :
    Calls Tryz.prog 8 #[.int .i64 m, .slice (some x) 1 c, .slice (some y) 1 d] w fun e w' => OneC w w' e s := by
  have hcs : cleanS s = s := if_pos hc
  have hss : ∀ u ∈ [s], u.size ≤ 100000 := fun u hu => by obtain rfl := List.mem_singleton.1 hu; exact hs
  have hcc : ∀ u ∈ [s], parseRC u.data.toList = 0 := fun u hu => by obtain rfl := List.mem_singleton.1 hu; exact hc
  have hM : (m = 1 ∨ m = 2 ∨ m = 4 ∨ m = 5 ∨ m = 6) ∨ m = 3 ∨ m = 7 ∨ m = 8 ∨ m = 9 := by omega
  rcases hM with hM | rfl | rfl | rfl | rfl
  · refine (join_any (n := 1) (c := c) m (.slice (some y) 1 d) hM hx rfl (by decide) hss).mono ?_
    rintro e w' ⟨t, ht, ho⟩
    rcases ht with ⟨h1, -⟩ | ⟨-, q, hq, rfl⟩
    · exfalso
      rcases h1 with h1 | ⟨u, hu, h1⟩
      · cases h1
      · exact h1 (hcc u hu)
    · obtain rfl := togR_one hq
      rw [text_ba hc] at ho
      exact ho.one
  · have hw0 : wAt [⟨#[51]⟩] 0 = 3 := by rw [wAt_of (s := ⟨#[51]⟩) rfl three_rc.1, three_rc.2]
    have e1 : wAll [⟨#[51]⟩] 1 = 3 := by show 0 + wAt [⟨#[51]⟩] 0 = 3; rw [hw0]; decide +kernel
    have e2 : wSum ([s].map fun s => parseRQ s.data.toList) [⟨#[51]⟩] 1 = parseRQ s.data.toList * 3 := by
      show 0 + (parseRQ s.data.toList) * wAt [⟨#[51]⟩] 0 = _
      rw [hw0]; grind
    refine (joinW_any (ws := [⟨#[51]⟩]) (n := 1) (d := d) (c := c) hx rfl (by decide) hss hy rfl (fun u hu => by obtain rfl := List.mem_singleton.1 hu; decide) (by decide) hcc (by decide) (by rw [e1]; decide +kernel)).mono ?_
    intro e w' ho
    rw [e1, e2, show divP (parseRQ s.data.toList * 3) 3 = parseRQ s.data.toList by unfold divP; rw [if_neg (by decide +kernel)]; grind, text_ba hc] at ho
    exact ho.one
  · refine (joinFirst_any (n := 1) (c := c) (.slice (some y) 1 d) hx rfl (by decide) (by decide) hss).mono ?_
    intro e w' ho
    have ho : OneAt w w' e (cleanS s) := ho
    rw [hcs] at ho
    exact ho.one
  · refine (joinAll_any (n := 1) (c := c) (.slice (some y) 1 d) hx rfl (by decide) hss).mono ?_
    rintro e w' ⟨v, rfl, ho, hB⟩
    have ho : StrRow w' w.heap.size v [cleanS s] := ho
    rw [hcs] at ho
    obtain ⟨g, cap, rfl, hb, hlt⟩ := World.ownsRow.form ho (by simp)
    exact ⟨g, cap, rfl, ho.cells (g := g) rfl 0 _ rfl, hlt, hb, hB⟩
  · refine (joinLast_any (n := 1) (c := c) (.slice (some y) 1 d) hx rfl Nat.one_pos (by decide) hss).mono ?_
    intro e w' ho
    have ho : OneAt w w' e (cleanS s) := ho
    rw [hcs] at ho
    exact ho.one
end Go.Proofs.YtjcpfmndkeiegaaGreatDoor
