/- A region that draws its order and appends to two rows, the one behind the other; no program in sight. Two rows in boxes besides each other, seen from a later world; what is told till one has enough; no program in sight. A range over a function whose iterator keeps state of its own in cells: what it asks of its caller, and the caller's law; a loop whose rounds are counted by a ghost; marks that a loop has left. No program in sight. The iterator slices.Backward over a slice of ints. How a document's elements lie within each other: an element and all in it stand one behind the other; what waits while one walks through them. No program in sight. The iterator over an element and all in it: Walk. The walks of a document's Walk and of the law's own word told: what an iterator tells, till one has enough. What a document's Walk tells, as a contract of its iterator. -/
import Derived.RangeFuncNested
import Derived.RangeFuncBound
import Derived.RangeFuncCalls
import Derived.RangeFuncLeaves
import Derived.RangeFuncBox
import Derived.Shelf.Abstract
import Derived.Shelf.RegionOpen
import Derived.WalkKit
import Derived.OwnWalkIn
import Derived.OrdersIn
import Derived.Maps.OwnIn
import Derived.Maps.AppendAt
import Derived.Lib.Hide
import Derived.Test.YtlldpmjnledhgaaGreatDoorIt
import Derived.LoopNIn
import Derived.Test.YtlldpmjnledhgaaGreatDoorMem
import Derived.Test.YtlldpmjnledhgaaGreatDoorUtI
import Derived.Test.YtlldpmjnledhgaaGreatDoorXtG
import Derived.Test.YtlldpmjnledhgaaGreatDoorXtIK
import Derived.RegionIn
import Derived.BigRegionIn
import Derived.Outline
import Derived.Test.YtlldpmjnledhgaaGreatDoorProg
namespace Go.Proofs.YtlldpmjnledhgaaGreatDoor
open Go.RowKit Go.Shelf
set_option linter.unusedVariables false

section
variable {F : Fence} {n : Nat} {P : Program} {ops : Array Oper} {Q : Exit → Act → World → Prop} {md : Region.Mode}
theorem ready_mem {l : Array Bool} {i : Nat} (h : i ∈ Region.ready md ops l) : i < ops.size ∧ l.getD i true = false ∧ ∀ o, ops[i]? = some o → ∀ (k : Nat) (e : Edge), o.after[k]? = some e → Region.binds md e = true → l.getD e.on false = true := by
  unfold Region.ready at h
  rw [List.mem_filter, List.mem_range] at h
  obtain ⟨h1, h2⟩ := h
  rw [Bool.and_eq_true] at h2
  obtain ⟨h2, h3⟩ := h2
  refine ⟨h1, by simpa using h2, fun o ho k e hke hb => ?_⟩
  have he : e ∈ o.after := Array.mem_of_getElem? hke
  rw [ho] at h3
  simp only [Option.map_some, Option.getD_some, Array.all_eq_true_iff_forall_mem] at h3
  have := h3 e he
  rw [hb] at this
  simpa using this
theorem mem_ready {l : Array Bool} {i : Nat} {o : Oper} (ho : ops[i]? = some o) (hb : l.getD i true = false) (hd : (o.after.toList.all fun e => !Region.binds md e || l.getD e.on false) = true) : i ∈ Region.ready md ops l := by
  unfold Region.ready
  rw [List.mem_filter, List.mem_range]
  refine ⟨(Array.getElem?_eq_some_iff.1 ho).1, ?_⟩
  rw [hb, ho]
  simp only [Option.map_some, Option.getD_some, Bool.not_false, Bool.true_and]
  rw [← Array.all_toList]
  exact hd
theorem listed_of {l : Array Bool} {i : Nat} {o : Oper} {b : Bool} (hr : Region.ready md ops l = []) (ho : ops[i]? = some o) (hb : l.getD i true = b) (hd : (o.after.toList.all fun e => !Region.binds md e || l.getD e.on false) = true) : b = true := by
  cases b with
  | true => rfl
  | false => have := mem_ready ho hb hd; rw [hr] at this; cases this
theorem nf {b : Bool} (d : b = true → false = true) : b = false := by
  cases b with
  | false => rfl
  | true => exact (d rfl).symm ▸ rfl
theorem countP_lt {α : Type} {p q : α → Bool} {x : α} : ∀ {l : List α}, (∀ y ∈ l, q y = true → p y = true) → x ∈ l → p x = true → q x = false → l.countP q < l.countP p
  | [], _, hx, _, _ => by cases hx
  | y :: l, h, hx, hp, hq => by
    rw [List.countP_cons, List.countP_cons]
    have hle : l.countP q ≤ l.countP p := List.countP_mono_left (fun z hz => h z (List.mem_cons_of_mem _ hz))
    rcases List.mem_cons.1 hx with rfl | hx
    · rw [hp, hq]; simp; omega
    · have := countP_lt (l := l) (fun z hz => h z (List.mem_cons_of_mem _ hz)) hx hp hq
      have h0 := h y (List.mem_cons_self ..)
      cases hy : q y with
      | false => simp; omega
      | true => rw [h0 hy]; simp; omega
/-- A region in every order, by what holds on the way. -/
theorem wpAnyIn_inv (Inv : Array Bool → Act → World → Prop)
    (hd : ∀ l a w, Inv l a w → Region.ready md ops l = [] → Q .normal a w)
    (hs : ∀ l a w i, Inv l a w → i ∈ Region.ready md ops l → wpOpIn F n P ops Q i (Inv (l.setIfInBounds i true)) a w) :
    ∀ (fuel : Nat) (l : Array Bool) (a : Act) (w : World), Inv l a w → ((List.range ops.size).countP fun i => !l.getD i true) ≤ fuel → wpAnyIn F n P md ops Q fuel l a w
  | 0, l, a, w, h, hc => by
    have hr : Region.ready md ops l = [] := by
      cases hr : Region.ready md ops l with
      | nil => rfl
      | cons i rs =>
        obtain ⟨h1, h2, _⟩ := ready_mem (md := md) (ops := ops) (l := l) (i := i) (by rw [hr]; simp)
        have := (List.countP_pos_iff (p := fun i => !l.getD i true)).2 ⟨i, List.mem_range.2 h1, (by show (!l.getD i true) = true; rw [h2]; rfl)⟩
        omega
    exact ⟨hr, hd l a w h hr⟩
  | fuel + 1, l, a, w, h, hc => by
    refine ⟨fun hr => hd l a w h hr, fun i hi => ?_⟩
    obtain ⟨h1, h2, _⟩ := ready_mem hi
    have hlt : i < l.size := by
      apply Decidable.byContradiction
      intro hge
      rw [Array.getD_eq_getD_getElem?, Array.getElem?_eq_none (by omega)] at h2
      cases h2
    refine wpOpIn_mono (fun a' w' h' => wpAnyIn_inv Inv hd hs fuel _ a' w' h' ?_) (hs l a w i h hi)
    have := countP_lt (p := fun i => !l.getD i true) (q := fun j => !(l.setIfInBounds i true).getD j true) (x := i) (l := List.range ops.size)
      (fun y _ hy => by
        by_cases hyi : y = i
        · subst hyi; simp [Array.getD_eq_getD_getElem?, hlt] at hy
        · simpa [Array.getD_eq_getD_getElem?, Array.getElem?_setIfInBounds_ne (Ne.symm hyi)] using hy)
      (List.mem_range.2 h1) (by rw [h2]; rfl) (by simp [Array.getD_eq_getD_getElem?, hlt])
    omega
end

/-- What holds of two rows, their boxes, and blocks that stay. -/
structure TS (base BA BB : Nat) (tA tB eA eB : TypeId) (sA sB : Nat) (L : List (Nat × TypeId × Array Value)) (W0 W : World) (bA bB vA : Value) (kA : Nat) (xA : List Value) (vB : Value) (kB : Nat) (xB : List Value) : Prop where
  boxA : Boxed W BA tA bA
  boxB : Boxed W BB tB bB
  rowA : W.ownsRow base eA sA vA kA xA
  rowB : W.ownsRow base eB sB vB kB xB
  apart : ∀ g, vA.ownBlock = some g → vB.ownBlock ≠ some g
  aA : vA.ownBlock ≠ some BA
  aB : vA.ownBlock ≠ some BB
  bA' : vB.ownBlock ≠ some BA
  bB' : vB.ownBlock ≠ some BB
  stay : ∀ p ∈ L, BlkAt W p.1 p.2.1 p.2.2 ∧ vA.ownBlock ≠ some p.1 ∧ vB.ownBlock ≠ some p.1 ∧ p.1 ≠ BA ∧ p.1 ≠ BB
  keeps : KeepsOthers W0 W
  below : Below base W0 W
  room : base ≤ W.heap.size
  ne : BA ≠ BB
  geA : base ≤ BA
  geB : base ≤ BB
section
variable {base BA BB : Nat} {tA tB eA eB : TypeId} {sA sB : Nat} {L : List (Nat × TypeId × Array Value)} {W0 W W' : World} {bA bB vA : Value} {kA : Nat} {xA : List Value} {vB : Value} {kB : Nat} {xB : List Value}
theorem own_ltT {e : TypeId} {size : Nat} {v : Value} {k : Nat} {xs : List Value} (h : W.ownsRow base e size v k xs) {g : Nat} (hg : v.ownBlock = some g) : base ≤ g ∧ g < W.heap.size := h.lt g hg
theorem TS.alloc (h : TS base BA BB tA tB eA eB sA sB L W0 W bA bB vA kA xA vB kB xB) (t : TypeId) (cs : Array Value) :
    TS base BA BB tA tB eA eB sA sB ((W.heap.size, t, cs) :: L) W0 (W.alloc (.cells cs t)) bA bB vA kA xA vB kB xB where
  boxA := h.boxA.alloc _
  boxB := h.boxB.alloc _
  rowA := h.rowA.alloc _
  rowB := h.rowB.alloc _
  apart := h.apart
  aA := h.aA
  aB := h.aB
  bA' := h.bA'
  bB' := h.bB'
  stay := fun p hp => by
    rcases List.mem_cons.1 hp with rfl | hp
    · exact ⟨BlkAt.new _ _ _, fun e => by have := own_ltT h.rowA e; omega, fun e => by have := own_ltT h.rowB e; omega, fun e => by have := h.boxA.lt; simp at e; omega, fun e => by have := h.boxB.lt; simp at e; omega⟩
    · obtain ⟨h1, h2⟩ := h.stay p hp
      exact ⟨h1.alloc _, h2⟩
  keeps := h.keeps.trans (KeepsOthers.alloc _ _)
  below := h.below.alloc h.room _
  room := by have := h.room; simp; omega
  ne := h.ne
  geA := h.geA
  geB := h.geB
theorem keeps_own {e : TypeId} {size : Nat} {v : Value} {k : Nat} {xs : List Value} (h : W.ownsRow base e size v k xs) (hg : W.grownBy W' v.ownBlock) : KeepsOthers W W' :=
  KeepsOthers.of_grownBy hg fun j o ej hj => by
    rcases h.2 with ⟨rfl, _⟩ | ⟨g, cap, cur, rfl, _, hgb, _⟩
    · simp [Value.ownBlock] at ej
    · obtain rfl : g = j := by simpa [Value.ownBlock] using ej
      rw [hgb] at hj; cases hj; rfl
theorem TS.appA (h : TS base BA BB tA tB eA eB sA sB L W0 W bA bB vA kA xA vB kB xB) {v' : Value} {k' : Nat} {xs' : List Value} (hg : W.grownBy W' vA.ownBlock) (ho : W'.ownsRow base eA sA v' k' xs')
    (hat : v'.ownBlock = vA.ownBlock ∨ v'.ownBlock = some W.heap.size) : TS base BA BB tA tB eA eB sA sB L W0 W' bA bB v' k' xs' vB kB xB where
  boxA := h.boxA.kept hg (Ne.symm h.aA)
  boxB := h.boxB.kept hg (Ne.symm h.aB)
  rowA := ho
  rowB := h.rowB.kept hg (by
    cases hv : vB.ownBlock with
    | none => exact .inl rfl
    | some g => exact .inr fun e => h.apart g (by rw [← e]) hv)
  apart := fun g e => by
    rcases hat with hat | hat
    · exact h.apart g (by rw [← hat]; exact e)
    · intro e'
      have := own_ltT h.rowB e'
      rw [hat] at e; cases e; omega
  aA := by
    rcases hat with hat | hat
    · rw [hat]; exact h.aA
    · rw [hat]; have := h.boxA.lt; intro e; cases e; omega
  aB := by
    rcases hat with hat | hat
    · rw [hat]; exact h.aB
    · rw [hat]; have := h.boxB.lt; intro e; cases e; omega
  bA' := h.bA'
  bB' := h.bB'
  stay := fun p hp => by
    obtain ⟨h1, h2, h3⟩ := h.stay p hp
    refine ⟨h1.grown hg (Ne.symm h2), ?_, h3⟩
    rcases hat with hat | hat
    · rw [hat]; exact h2
    · rw [hat]; have := h1.lt; intro e; have e := Option.some.inj e; omega
  keeps := h.keeps.trans (keeps_own h.rowA hg)
  below := h.below.grown hg h.room (fun j ej => (own_ltT h.rowA ej).1)
  room := Nat.le_trans h.room hg.size
  ne := h.ne
  geA := h.geA
  geB := h.geB
theorem TS.appB (h : TS base BA BB tA tB eA eB sA sB L W0 W bA bB vA kA xA vB kB xB) {v' : Value} {k' : Nat} {xs' : List Value} (hg : W.grownBy W' vB.ownBlock) (ho : W'.ownsRow base eB sB v' k' xs')
    (hat : v'.ownBlock = vB.ownBlock ∨ v'.ownBlock = some W.heap.size) : TS base BA BB tA tB eA eB sA sB L W0 W' bA bB vA kA xA v' k' xs' where
  boxA := h.boxA.kept hg (Ne.symm h.bA')
  boxB := h.boxB.kept hg (Ne.symm h.bB')
  rowB := ho
  rowA := h.rowA.kept hg (by
    cases hv : vA.ownBlock with
    | none => exact .inl rfl
    | some g => exact .inr fun e => h.apart g hv (by rw [← e]))
  apart := fun g e => by
    rcases hat with hat | hat
    · rw [hat]; exact h.apart g e
    · intro e'
      have := own_ltT h.rowA e
      rw [hat] at e'; cases e'; omega
  bA' := by
    rcases hat with hat | hat
    · rw [hat]; exact h.bA'
    · rw [hat]; have := h.boxA.lt; intro e; cases e; omega
  bB' := by
    rcases hat with hat | hat
    · rw [hat]; exact h.bB'
    · rw [hat]; have := h.boxB.lt; intro e; cases e; omega
  aA := h.aA
  aB := h.aB
  stay := fun p hp => by
    obtain ⟨h1, h2, h3, h4⟩ := h.stay p hp
    refine ⟨h1.grown hg (Ne.symm h3), h2, ?_, h4⟩
    rcases hat with hat | hat
    · rw [hat]; exact h3
    · rw [hat]; have := h1.lt; intro e; have e := Option.some.inj e; omega
  keeps := h.keeps.trans (keeps_own h.rowB hg)
  below := h.below.grown hg h.room (fun j ej => (own_ltT h.rowB ej).1)
  room := Nat.le_trans h.room hg.size
  ne := h.ne
  geA := h.geA
  geB := h.geB
theorem TS.setA (h : TS base BA BB tA tB eA eB sA sB L W0 W bA bB vA kA xA vB kB xB) (v : Value) : TS base BA BB tA tB eA eB sA sB L W0 (W.setCell ⟨BA, 0, none⟩ v) v bB vA kA xA vB kB xB where
  boxA := h.boxA.set v
  boxB := h.boxB.other (Ne.symm h.ne) v
  rowA := h.rowA.kept (grownBy_setCell' W BA v) (.inr h.aA)
  rowB := h.rowB.kept (grownBy_setCell' W BA v) (.inr h.bA')
  apart := h.apart
  aA := h.aA
  aB := h.aB
  bA' := h.bA'
  bB' := h.bB'
  stay := fun p hp => by
    obtain ⟨h1, h2, h3, h4, h5⟩ := h.stay p hp
    exact ⟨h1.far h4 v, h2, h3, h4, h5⟩
  keeps := h.keeps.trans (KeepsOthers.setCell _ _ _)
  below := h.below.setCell (p := ⟨BA, 0, none⟩) h.geA _
  room := by rw [World.size_setCell]; exact h.room
  ne := h.ne
  geA := h.geA
  geB := h.geB
theorem TS.setB (h : TS base BA BB tA tB eA eB sA sB L W0 W bA bB vA kA xA vB kB xB) (v : Value) : TS base BA BB tA tB eA eB sA sB L W0 (W.setCell ⟨BB, 0, none⟩ v) bA v vA kA xA vB kB xB where
  boxB := h.boxB.set v
  boxA := h.boxA.other h.ne v
  rowA := h.rowA.kept (grownBy_setCell' W BB v) (.inr h.aB)
  rowB := h.rowB.kept (grownBy_setCell' W BB v) (.inr h.bB')
  apart := h.apart
  aA := h.aA
  aB := h.aB
  bA' := h.bA'
  bB' := h.bB'
  stay := fun p hp => by
    obtain ⟨h1, h2, h3, h4, h5⟩ := h.stay p hp
    exact ⟨h1.far h5 v, h2, h3, h4, h5⟩
  keeps := h.keeps.trans (KeepsOthers.setCell _ _ _)
  below := h.below.setCell (p := ⟨BB, 0, none⟩) h.geB _
  room := by rw [World.size_setCell]; exact h.room
  ne := h.ne
  geA := h.geA
  geB := h.geB
end

/-- 's, t = append(s, x), append(t, y)' of boxes s and t. -/
def twoOps (tA tB t1 t5 : TypeId) (o1 o5 : Op) (pos : String) : Array Oper := #[
  { dst := some 13, op := .load tA (.tmp 6), type := tA, pos := pos, after := #[], guard := none },
  { dst := some 14, op := o1, type := t1, pos := pos, after := #[], guard := none },
  { dst := some 15, op := .buildSlice tA 1 #[(0, .tmp 14)], type := tA, pos := pos, after := #[{ on := 1, ground := .data }], guard := none },
  { dst := some 16, op := .call { callee := .builtin .append, args := #[.tmp 13, .tmp 15], argTypes := #[tA, tA] }, type := tA, pos := pos, after := #[{ on := 0, ground := .data }, { on := 2, ground := .data }], guard := none },
  { dst := some 17, op := .load tB (.tmp 7), type := tB, pos := pos, after := #[], guard := none },
  { dst := some 18, op := o5, type := t5, pos := pos, after := #[], guard := none },
  { dst := some 19, op := .buildSlice tB 1 #[(0, .tmp 18)], type := tB, pos := pos, after := #[{ on := 5, ground := .data }], guard := none },
  { dst := some 20, op := .call { callee := .builtin .append, args := #[.tmp 17, .tmp 19], argTypes := #[tB, tB] }, type := tB, pos := pos, after := #[{ on := 4, ground := .data }, { on := 6, ground := .data }, { on := 3, ground := .chain }], guard := none },
  { dst := none, op := .store tA (.tmp 6) (.tmp 16), type := 0, pos := pos, after := #[{ on := 3, ground := .data }, { on := 7, ground := .chain }, { on := 0, ground := .phase }, { on := 1, ground := .phase }, { on := 2, ground := .phase }, { on := 3, ground := .phase }, { on := 4, ground := .textOnly .inlinedCapture }, { on := 5, ground := .textOnly .lateStores }, { on := 6, ground := .textOnly .inlinedCapture }, { on := 7, ground := .textOnly .lateStoresUnsure }], guard := none },
  { dst := none, op := .store tB (.tmp 7) (.tmp 20), type := 0, pos := pos, after := #[{ on := 7, ground := .data }, { on := 8, ground := .chain }, { on := 0, ground := .phase }, { on := 1, ground := .phase }, { on := 2, ground := .phase }, { on := 3, ground := .phase }, { on := 4, ground := .phase }, { on := 5, ground := .phase }, { on := 6, ground := .phase }, { on := 7, ground := .phase }, { on := 8, ground := .phase }], guard := none }]

section
variable {F : Fence} {n : Nat} {P : Program} {Q : Exit → Act → World → Prop}
theorem op_step {ops : Array Oper} {i : Nat} {o : Oper} {K : Act → World → Prop} {a : Act} {w : World} (ho : ops[i]? = some o) (hg : o.guard = none) (h : Oper.wpIn F n P o a w K Q) : wpOpIn F n P ops Q i K a w := by
  unfold wpOpIn
  rw [ho]
  have : Region.wanted o (yielded ops a.tmps) = true := by unfold Region.wanted; rw [hg]
  simp only [this, if_true]
  exact h
/-- A load of a box, one operation. -/
theorem op_load {o : Oper} {a : Act} {w : World} {K : Act → World → Prop} {ty t e : TypeId} {x : Operand} {B : Nat} {v : Value} (ho : o.op = .load ty x) (hx : a.eval x = .pointer (some ⟨B, 0, none⟩)) (hu : P.underlying ty = some (.slice e)) (hb : Boxed w B t v)
    (hK : K (a.put o.dst v) w) : Oper.wpIn F n P o a w K Q := by
  have hl : (loadVar ty ⟨B, 0, none⟩).run P w = .ok v w := by
    have hc : w.cell? ⟨B, 0, none⟩ = some v := hb.cell
    simp only [loadVar, Sem.run_bind, run_isAgg_plain hu rfl w, Result.andThen_ok, Bool.false_eq_true, if_false]
    rw [run_load, hc]
  unfold Oper.wpIn
  refine ⟨by simp [Oper.about, ho], ?_⟩
  rw [Oper.semAt_plain F _ _ (by rw [ho]; intro c hc'; cases hc')]
  simp only [execOp, ho, hx, Instr.loadAt, Instr.sureAddr, Sem.run_bind, Sem.run_pure, Result.andThen_ok, hl]
  exact hK
/-- An append of a row, one operation. -/
theorem op_append {o : Oper} {a : Act} {w : World} {K : Act → World → Prop} {t e : TypeId} {size bytes base : Nat} {s x : Operand} (T : SlT P t e size bytes)
    (ho : o.op = .call { callee := .builtin .append, args := #[s, x], argTypes := #[t, t] }) {v : Value} {k : Nat} {xs : List Value} (hs : a.eval s = v) (hown : w.ownsRow base e size v k xs) (hbase : base ≤ w.heap.size)
    {ad : Addr} {news : List Value} (hx : a.eval x = .slice (some ad) 1 1) (hl : news.length = size) (hnews : ∀ j u, news[j]? = some u → w.cell? (ad.add j) = some u) (h1 : ∀ u ∈ news, u.oneCell' = true)
    (hbytes : (k + 1) * bytes ≤ 140737488355328)
    (hK : ∀ v' w', w'.ownsRow base e size v' (k + 1) (xs ++ news) → w.grownBy w' v.ownBlock → (v'.ownBlock = v.ownBlock ∨ v'.ownBlock = some w.heap.size) → K (a.put o.dst v') w') : Oper.wpIn F n P o a w K Q := by
  obtain ⟨ht, ⟨i, z, hi, hz, hsz, hby, hzs⟩, hs0, hb0⟩ := T
  obtain ⟨v', w', hr, h2, h3, h4, h5⟩ := run_append_own_at (P := P) w base t o.type e i z size bytes ht hi hz hsz hby hzs hs0 v k xs hown ad 1 1 news (by omega) hnews h1 (by
    have : k + 1 ≤ (k + 1) * bytes := Nat.le_mul_of_pos_right _ hb0
    unfold maxLen
    omega) hbytes hbase
  unfold Oper.wpIn
  refine ⟨by simp [Oper.about, ho, resolve, Target.leads, Sem.run_pure], ?_⟩
  rw [Oper.semAt_plain F _ _ (by rw [ho]; intro c hc'; cases hc')]
  simp [execOp, ho, resolve, invoke, builtin, hs, hx, hr, Result.andThen]
  exact hK _ _ h2 h3 h5
end

section
variable {base BA BB : Nat} {tA tB eA eB : TypeId} {sA sB : Nat} {L : List (Nat × TypeId × Array Value)} {W0 W W' : World} {bA bB vA : Value} {kA : Nat} {xA : List Value} {vB : Value} {kB : Nat} {xB : List Value}
theorem TS.sub (h : TS base BA BB tA tB eA eB sA sB L W0 W bA bB vA kA xA vB kB xB) {L' : List (Nat × TypeId × Array Value)} (hL : ∀ p ∈ L', p ∈ L) : TS base BA BB tA tB eA eB sA sB L' W0 W bA bB vA kA xA vB kB xB :=
  { h with stay := fun p hp => h.stay p (hL p hp) }
end

abbrev tfr (c0 c1 c2 c3 c4 c5 c8 c9 c10 c11 c12 : Value) (BA BB : Nat) (x0 x1 x2 x3 x4 x5 x6 x7 : Value) : Act :=
  { tmps := #[c0, c1, c2, c3, c4, c5, .pointer (some ⟨BA, 0, none⟩), .pointer (some ⟨BB, 0, none⟩), c8, c9, c10, c11, c12, x0, x1, x2, x3, x4, x5, x6, x7, undef, undef, undef, undef, undef, undef], defers := [] }

section
variable {F : Fence} {n : Nat} {P : Program} {Q : Exit → Act → World → Prop}
variable {tA tB eA eB t1 t5 : TypeId} {o1 o5 : Op} {pos : String} {sA sB byA byB base BA BB kA kB : Nat} {x y vA vB : Value} {cx cy : Array Value} {xA xB : List Value} {L : List (Nat × TypeId × Array Value)} {W0 W : World}
  (c0 c1 c2 c3 c4 c5 c8 c9 c10 c11 c12 : Value)
set_option maxRecDepth 20000 in
set_option maxHeartbeats 1600000 in
theorem two_rows (hA : SlT P tA eA sA byA) (hB : SlT P tB eB sB byB) (hcx : cx.size = sA) (hcy : cy.size = sB) (ocx : ∀ u ∈ cx.toList, u.oneCell' = true) (ocy : ∀ u ∈ cy.toList, u.oneCell' = true)
    (hbA : (kA + 1) * byA ≤ 140737488355328) (hbB : (kB + 1) * byB ≤ 140737488355328)
    (h1 : ∀ x0 x1 x2 x3 x4 x5 x6 x7 W (K : Act → World → Prop), (∀ p ∈ L, BlkAt W p.1 p.2.1 p.2.2) → K (tfr c0 c1 c2 c3 c4 c5 c8 c9 c10 c11 c12 BA BB x0 x x2 x3 x4 x5 x6 x7) W →
      ∀ o : Oper, o.op = o1 → o.dst = some 14 → Oper.wpIn F n P o (tfr c0 c1 c2 c3 c4 c5 c8 c9 c10 c11 c12 BA BB x0 x1 x2 x3 x4 x5 x6 x7) W K Q)
    (h5 : ∀ x0 x1 x2 x3 x4 x5 x6 x7 W (K : Act → World → Prop), (∀ p ∈ L, BlkAt W p.1 p.2.1 p.2.2) → K (tfr c0 c1 c2 c3 c4 c5 c8 c9 c10 c11 c12 BA BB x0 x1 x2 x3 x4 y x6 x7) W →
      ∀ o : Oper, o.op = o5 → o.dst = some 18 → Oper.wpIn F n P o (tfr c0 c1 c2 c3 c4 c5 c8 c9 c10 c11 c12 BA BB x0 x1 x2 x3 x4 x5 x6 x7) W K Q)
    (h2 : ∀ x0 x2 x3 x4 x5 x6 x7 W (K : Act → World → Prop), K (tfr c0 c1 c2 c3 c4 c5 c8 c9 c10 c11 c12 BA BB x0 x (.slice (some ⟨W.heap.size, 0, none⟩) 1 1) x3 x4 x5 x6 x7) (W.alloc (.cells cx eA)) →
      ∀ o : Oper, o.op = .buildSlice tA 1 #[(0, .tmp 14)] → o.dst = some 15 → Oper.wpIn F n P o (tfr c0 c1 c2 c3 c4 c5 c8 c9 c10 c11 c12 BA BB x0 x x2 x3 x4 x5 x6 x7) W K Q)
    (h6 : ∀ x0 x1 x2 x3 x4 x6 x7 W (K : Act → World → Prop), K (tfr c0 c1 c2 c3 c4 c5 c8 c9 c10 c11 c12 BA BB x0 x1 x2 x3 x4 y (.slice (some ⟨W.heap.size, 0, none⟩) 1 1) x7) (W.alloc (.cells cy eB)) →
      ∀ o : Oper, o.op = .buildSlice tB 1 #[(0, .tmp 18)] → o.dst = some 19 → Oper.wpIn F n P o (tfr c0 c1 c2 c3 c4 c5 c8 c9 c10 c11 c12 BA BB x0 x1 x2 x3 x4 y x6 x7) W K Q)
    (h8 : ∀ x0 x1 x2 b l c x4 x5 x6 x7 v W (K : Act → World → Prop), Boxed W BA tA v → K (tfr c0 c1 c2 c3 c4 c5 c8 c9 c10 c11 c12 BA BB x0 x1 x2 (.slice b l c) x4 x5 x6 x7) (W.setCell ⟨BA, 0, none⟩ (.slice b l c)) →
      ∀ o : Oper, o.op = .store tA (.tmp 6) (.tmp 16) → o.dst = none → Oper.wpIn F n P o (tfr c0 c1 c2 c3 c4 c5 c8 c9 c10 c11 c12 BA BB x0 x1 x2 (.slice b l c) x4 x5 x6 x7) W K Q)
    (h9 : ∀ x0 x1 x2 x3 x4 x5 x6 b l c v W (K : Act → World → Prop), Boxed W BB tB v → K (tfr c0 c1 c2 c3 c4 c5 c8 c9 c10 c11 c12 BA BB x0 x1 x2 x3 x4 x5 x6 (.slice b l c)) (W.setCell ⟨BB, 0, none⟩ (.slice b l c)) →
      ∀ o : Oper, o.op = .store tB (.tmp 7) (.tmp 20) → o.dst = none → Oper.wpIn F n P o (tfr c0 c1 c2 c3 c4 c5 c8 c9 c10 c11 c12 BA BB x0 x1 x2 x3 x4 x5 x6 (.slice b l c)) W K Q)
    (h : TS base BA BB tA tB eA eB sA sB L W0 W vA vB vA kA xA vB kB xB)
    (hk : ∀ gA gB vA' vB' W', TS base BA BB tA tB eA eB sA sB L W0 W' vA' vB' vA' (kA + 1) (xA ++ cx.toList) vB' (kB + 1) (xB ++ cy.toList) →
      Q .normal (tfr c0 c1 c2 c3 c4 c5 c8 c9 c10 c11 c12 BA BB vA x (.slice (some ⟨gA, 0, none⟩) 1 1) vA' vB y (.slice (some ⟨gB, 0, none⟩) 1 1) vB') W') :
    wpAnyIn F n P .any (twoOps tA tB t1 t5 o1 o5 pos) Q 10 (Array.replicate 10 false) (tfr c0 c1 c2 c3 c4 c5 c8 c9 c10 c11 c12 BA BB undef undef undef undef undef undef undef undef) W := by
  have uA : P.underlying tA = some (.slice eA) := hA.1
  have uB : P.underlying tB = some (.slice eB) := hB.1
  refine wpAnyIn_inv (fun l a W => ∃ (b0 b1 b2 b3 b4 b5 b6 b7 b8 b9 : Bool) (gA gB : Nat) (vA' vB' : Value), l = #[b0, b1, b2, b3, b4, b5, b6, b7, b8, b9] ∧
    (b2 = true → b1 = true) ∧ (b3 = true → b0 = true ∧ b2 = true) ∧ (b6 = true → b5 = true) ∧ (b7 = true → b3 = true ∧ b4 = true ∧ b6 = true) ∧ (b8 = true → b7 = true) ∧ (b9 = true → b8 = true) ∧
    a = tfr c0 c1 c2 c3 c4 c5 c8 c9 c10 c11 c12 BA BB (cond b0 vA undef) (cond b1 x undef) (cond b2 (.slice (some ⟨gA, 0, none⟩) 1 1) undef) (cond b3 vA' undef) (cond b4 vB undef) (cond b5 y undef) (cond b6 (.slice (some ⟨gB, 0, none⟩) 1 1) undef) (cond b7 vB' undef) ∧
    TS base BA BB tA tB eA eB sA sB (cond b2 [(gA, eA, cx)] [] ++ (cond b6 [(gB, eB, cy)] [] ++ L)) W0 W (cond b8 vA' vA) (cond b9 vB' vB) (cond b3 vA' vA) (cond b3 (kA + 1) kA) (cond b3 (xA ++ cx.toList) xA) (cond b7 vB' vB) (cond b7 (kB + 1) kB) (cond b7 (xB ++ cy.toList) xB))
    ?done ?step 10 _ _ _ ⟨false, false, false, false, false, false, false, false, false, false, 0, 0, undef, undef, rfl, by simp, by simp, by simp, by simp, by simp, by simp, rfl, h⟩ (by show List.countP (fun i => !(Array.replicate 10 false).getD i true) (List.range 10) ≤ 10; decide)
  case done =>
    rintro l a W ⟨b0, b1, b2, b3, b4, b5, b6, b7, b8, b9, gA, gB, vA', vB', rfl, d2, d3, d6, d7, d8, d9, rfl, h⟩ hr
    obtain rfl : b0 = true := listed_of (i := 0) hr rfl rfl rfl
    obtain rfl : b1 = true := listed_of (i := 1) hr rfl rfl rfl
    obtain rfl : b2 = true := listed_of (i := 2) hr rfl rfl rfl
    obtain rfl : b3 = true := listed_of (i := 3) hr rfl rfl rfl
    obtain rfl : b4 = true := listed_of (i := 4) hr rfl rfl rfl
    obtain rfl : b5 = true := listed_of (i := 5) hr rfl rfl rfl
    obtain rfl : b6 = true := listed_of (i := 6) hr rfl rfl rfl
    obtain rfl : b7 = true := listed_of (i := 7) hr rfl rfl rfl
    obtain rfl : b8 = true := listed_of (i := 8) hr rfl rfl rfl
    obtain rfl : b9 = true := listed_of (i := 9) hr rfl rfl rfl
    exact hk gA gB vA' vB' W (h.sub fun p hp => by simp [hp])
  case step =>
    rintro l a W i ⟨b0, b1, b2, b3, b4, b5, b6, b7, b8, b9, gA, gB, vA', vB', rfl, d2, d3, d6, d7, d8, d9, rfl, h⟩ hi
    obtain ⟨hi, hb, hd⟩ := ready_mem hi
    have hi : i < 10 := hi
    have hc : i = 0 ∨ i = 1 ∨ i = 2 ∨ i = 3 ∨ i = 4 ∨ i = 5 ∨ i = 6 ∨ i = 7 ∨ i = 8 ∨ i = 9 := by omega
    rcases hc with rfl | rfl | rfl | rfl | rfl | rfl | rfl | rfl | rfl | rfl
    · obtain rfl : b0 = false := hb
      obtain rfl : b3 = false := nf fun e => (d3 e).1
      obtain rfl : b7 = false := nf fun e => (d7 e).1
      obtain rfl : b8 = false := nf d8
      refine op_step rfl rfl (op_load rfl rfl uA h.boxA ?_)
      exact ⟨true, b1, b2, false, b4, b5, b6, false, false, b9, gA, gB, vA', vB', rfl, d2, by simp, d6, by simp, by simp, d9, rfl, h⟩
    · obtain rfl : b1 = false := hb
      obtain rfl : b2 = false := nf d2
      obtain rfl : b3 = false := nf fun e => (d3 e).2
      obtain rfl : b7 = false := nf fun e => (d7 e).1
      refine op_step rfl rfl (h1 _ _ _ _ _ _ _ _ _ _ (fun p hp => (h.stay p (by simp [hp])).1) ?_ _ rfl rfl)
      exact ⟨b0, true, false, false, b4, b5, b6, false, b8, b9, gA, gB, vA', vB', rfl, by simp, by simp, d6, d7, d8, d9, rfl, h⟩
    · obtain rfl : b2 = false := hb
      obtain rfl : b1 = true := hd _ rfl 0 _ rfl rfl
      obtain rfl : b3 = false := nf fun e => (d3 e).2
      obtain rfl : b7 = false := nf fun e => (d7 e).1
      refine op_step rfl rfl (h2 _ _ _ _ _ _ _ _ _ ?_ _ rfl rfl)
      exact ⟨b0, true, true, false, b4, b5, b6, false, b8, b9, W.heap.size, gB, vA', vB', rfl, by simp, by simp, d6, d7, d8, d9, rfl, h.alloc _ _⟩
    · obtain rfl : b3 = false := hb
      obtain rfl : b0 = true := hd _ rfl 0 _ rfl rfl
      obtain rfl : b2 = true := hd _ rfl 1 _ rfl rfl
      obtain rfl : b7 = false := nf fun e => (d7 e).1
      obtain rfl : b8 = false := nf d8
      obtain rfl : b9 = false := nf d9
      have hg := (h.stay (gA, eA, cx) (by simp)).1
      refine op_step rfl rfl (op_append hA rfl rfl h.rowA h.room rfl (by simpa using hcx) (news_blk hg) ocx hbA fun v' w' r1 r2 r3 => ?_)
      exact ⟨true, b1, true, true, b4, b5, b6, false, false, false, gA, gB, v', vB', rfl, d2, by simp, d6, by simp, by simp, by simp, rfl, h.appA r2 r1 r3⟩
    · obtain rfl : b4 = false := hb
      obtain rfl : b7 = false := nf fun e => (d7 e).2.1
      obtain rfl : b8 = false := nf d8
      obtain rfl : b9 = false := nf d9
      refine op_step rfl rfl (op_load rfl rfl uB h.boxB ?_)
      exact ⟨b0, b1, b2, b3, true, b5, b6, false, false, false, gA, gB, vA', vB', rfl, d2, d3, d6, by simp, by simp, by simp, rfl, h⟩
    · obtain rfl : b5 = false := hb
      obtain rfl : b6 = false := nf d6
      obtain rfl : b7 = false := nf fun e => (d7 e).2.2
      refine op_step rfl rfl (h5 _ _ _ _ _ _ _ _ _ _ (fun p hp => (h.stay p (by simp [hp])).1) ?_ _ rfl rfl)
      exact ⟨b0, b1, b2, b3, b4, true, false, false, b8, b9, gA, gB, vA', vB', rfl, d2, d3, by simp, by simp, d8, d9, rfl, h⟩
    · obtain rfl : b6 = false := hb
      obtain rfl : b5 = true := hd _ rfl 0 _ rfl rfl
      obtain rfl : b7 = false := nf fun e => (d7 e).2.2
      refine op_step rfl rfl (h6 _ _ _ _ _ _ _ _ _ ?_ _ rfl rfl)
      exact ⟨b0, b1, b2, b3, b4, true, true, false, b8, b9, gA, W.heap.size, vA', vB', rfl, d2, d3, by simp, by simp, d8, d9, rfl, (h.alloc _ _).sub (by intro p hp; simp at hp ⊢; rcases hp with hp | hp | hp <;> simp [hp])⟩
    · obtain rfl : b7 = false := hb
      obtain rfl : b4 = true := hd _ rfl 0 _ rfl rfl
      obtain rfl : b6 = true := hd _ rfl 1 _ rfl rfl
      obtain rfl : b3 = true := hd _ rfl 2 _ rfl rfl
      obtain rfl : b8 = false := nf d8
      obtain rfl : b9 = false := nf d9
      have hg := (h.stay (gB, eB, cy) (by simp)).1
      refine op_step rfl rfl (op_append hB rfl rfl h.rowB h.room rfl (by simpa using hcy) (news_blk hg) ocy hbB fun v' w' r1 r2 r3 => ?_)
      exact ⟨b0, b1, b2, true, true, b5, true, true, false, false, gA, gB, vA', v', rfl, d2, d3, d6, by simp, by simp, by simp, rfl, h.appB r2 r1 r3⟩
    · obtain rfl : b8 = false := hb
      obtain rfl : b3 = true := hd _ rfl 0 _ rfl rfl
      obtain rfl : b7 = true := hd _ rfl 1 _ rfl rfl
      obtain rfl : b9 = false := nf d9
      obtain ⟨vb, vl, vc, rfl⟩ : ∃ b l c, vA' = .slice b l c := by
        rcases h.rowA.2 with ⟨e, _⟩ | ⟨g, cap, cur, e, _⟩ <;> exact ⟨_, _, _, e⟩
      refine op_step rfl rfl (h8 _ _ _ _ _ _ _ _ _ _ _ _ _ h.boxA ?_ _ rfl rfl)
      exact ⟨b0, b1, b2, true, b4, b5, b6, true, true, false, gA, gB, _, vB', rfl, d2, d3, d6, d7, by simp, by simp, rfl, h.setA _⟩
    · obtain rfl : b9 = false := hb
      obtain rfl : b7 = true := hd _ rfl 0 _ rfl rfl
      obtain rfl : b8 = true := hd _ rfl 1 _ rfl rfl
      obtain ⟨vb, vl, vc, rfl⟩ : ∃ b l c, vB' = .slice b l c := by
        rcases h.rowB.2 with ⟨e, _⟩ | ⟨g, cap, cur, e, _⟩ <;> exact ⟨_, _, _, e⟩
      refine op_step rfl rfl (h9 _ _ _ _ _ _ _ _ _ _ _ _ _ h.boxB ?_ _ rfl rfl)
      exact ⟨b0, b1, b2, b3, b4, b5, b6, true, true, true, gA, gB, vA', _, rfl, d2, d3, d6, d7, d8, by simp, rfl, h.setB _⟩
end
end Go.Proofs.YtlldpmjnledhgaaGreatDoor
namespace Go.Proofs.YtlldpmjnledhgaaGreatDoor
open Go.RowKit Go.Shelf
set_option linter.unusedVariables false

/-- Of a list what is told till one has enough. -/
def cutL {α : Type} (stop : Int) (xs : List α) : List α := if 1 ≤ stop then xs.take stop.toNat else xs

section
variable {base BA BB : Nat} {tA tB eA eB : TypeId} {sA sB : Nat} {L : List (Nat × TypeId × Array Value)} {W0 W W' : World} {bA bB vA : Value} {kA : Nat} {xA : List Value} {vB : Value} {kB : Nat} {xB : List Value}
theorem TS.rebase (h : TS base BA BB tA tB eA eB sA sB L W0 W bA bB vA kA xA vB kB xB) : TS base BA BB tA tB eA eB sA sB L W W bA bB vA kA xA vB kB xB :=
  { h with keeps := KeepsOthers.refl _, below := Below.refl _ _ }
theorem TS.drew (h : TS base BA BB tA tB eA eB sA sB L W0 W bA bB vA kA xA vB kB xB) : TS base BA BB tA tB eA eB sA sB L W0 W.drew bA bB vA kA xA vB kB xB :=
  { boxA := h.boxA, boxB := h.boxB, rowA := h.rowA.drew, rowB := h.rowB.drew, apart := h.apart, aA := h.aA, aB := h.aB, bA' := h.bA', bB' := h.bB', stay := h.stay, keeps := h.keeps.trans (KeepsOthers.drew _), below := h.below.drew, room := h.room, ne := h.ne, geA := h.geA, geB := h.geB }
theorem TS.owned (h : TS base BA BB tA tB eA eB sA sB L W W bA bB vA kA xA vB kB xB) {row : Option Nat} (hg : W.grownBy W' row) (hr : ∀ r, row = some r → ∃ o : Obj, W.heap[r]? = some o ∧ o.isCells = false) :
    TS base BA BB tA tB eA eB sA sB L W' W' bA bB vA kA xA vB kB xB where
  boxA := boxed_own _ _ (fun _ => bA) () W W' row h.boxA hg hr
  boxB := boxed_own _ _ (fun _ => bB) () W W' row h.boxB hg hr
  rowA := row_own _ _ _ vA (fun _ => kA) (fun _ => xA) () W W' row h.rowA hg hr
  rowB := row_own _ _ _ vB (fun _ => kB) (fun _ => xB) () W W' row h.rowB hg hr
  apart := h.apart
  aA := h.aA
  aB := h.aB
  bA' := h.bA'
  bB' := h.bB'
  stay := fun p hp => by
    obtain ⟨h1, h2⟩ := h.stay p hp
    exact ⟨blk_own _ _ (fun _ => p.2.2) () W W' row h1 hg hr, h2⟩
  keeps := KeepsOthers.refl _
  below := Below.refl _ _
  room := Nat.le_trans h.room hg.size
  ne := h.ne
  geA := h.geA
  geB := h.geB
end

end Go.Proofs.YtlldpmjnledhgaaGreatDoor
namespace Go.Proofs.YtlldpmjnledhgaaGreatDoor
open Go.RowKit
set_option linter.unusedVariables false

/-- What the caller holds stays so while the iterator turns what is its own: objects of the sort Rw, laid from B on. -/
def AbidesR {β : Type} (Rw : Obj → Bool) (B : Nat) (J : β → World → Prop) : Prop :=
  ∀ s W W' row, J s W → W.grownBy W' row → (∀ r, row = some r → B ≤ r ∧ ∃ o : Obj, W.heap[r]? = some o ∧ Rw o = true) → J s W'
theorem AbidesR.putObj {β : Type} {Rw : Obj → Bool} {B : Nat} {I : β → World → Prop} (h : AbidesR Rw B I) {s : β} {W : World} {l : Nat} {o : Obj} (o' : Obj) (hs : I s W) (hB : B ≤ l) (hl : W.heap[l]? = some o) (ho : Rw o = true) : I s (W.putObj l o') :=
  h s W _ (some l) hs (grownBy_putObj' W l o') (fun r e => by cases e; exact ⟨hB, o, hl, ho⟩)
theorem AbidesR.alloc {β : Type} {Rw : Obj → Bool} {B : Nat} {I : β → World → Prop} (h : AbidesR Rw B I) {s : β} {W : World} (o : Obj) (hs : I s W) : I s (W.alloc o) :=
  h s W _ none hs (World.grownBy_alloc W o none) (fun r e => by cases e)
theorem keeps_wider {B B' : Nat} {W W' : World} (h : KeepsFrom B W W') (hb : B ≤ B') : KeepsFrom B' W W' := ⟨h.size, fun k o hk h1 h2 => h.same k o (Nat.le_trans hb hk) h1 h2⟩
/-- An iterator's contract: whatever the body does, all have come, or a part. A round that goes on keeps what is no cells and was laid since the iterator began, and what Kp says. -/
def SeqStopsR {α : Type} (Rw : Obj → Bool) (F : Fence) (n : Nat) (P : Program) (g : Nat) (lb : Array Value) (encs : α → Array Value) (Kp : World → World → Prop) (S Sp : List α → Prop) (N : Nat) (w : World) : Prop :=
  ∀ (l : Nat) (J Jx : List α → World → Prop) (W : World), Below w.heap.size w W → AbidesR Rw W.heap.size J → AbidesR Rw W.heap.size Jx →
    (∀ pre x W1, J pre W1 → pre.length < N → YieldAt F (n - 1) P l (encs x) W1 fun e W' =>
      (e = .returned (.bool true) ∧ J (pre ++ [x]) W' ∧ KeepsFrom W.heap.size W1 W' ∧ Kp W1 W') ∨ (e = .returned (.bool false) ∧ Jx (pre ++ [x]) W' ∧ KeepsFrom W.heap.size W1 W')) →
    J [] W →
    CallsIn F n P g (#[.func (.yield l) #[] #[]] ++ lb) W fun e W' => (∃ v, e = .returned v) ∧ ((∃ xs, S xs ∧ J xs W') ∨ (∃ pre, Sp pre ∧ Jx pre W'))

section
variable {F : Fence} {n : Nat} {P : Program}
/-- The caller's law. -/
theorem wpIn_rangeFunc_R {α : Type} {Rw : Obj → Bool} (hRw : ∀ o : Obj, o.isCells = false → Rw o = true) {g : Operand} {ps : Array Tmp} {assign body : Code} {Q : Exit → Act → World → Prop} {a : Act} {w : World}
    (hro : F.round = none) (h1 : 1 ≤ n) {gf : Nat} {lb : Array Value} (hg : a.eval g = .func (.func gf) #[] lb) (hFg : F.fn gf) (eg : ∀ args w, (callFunc gf args).run P w = .ok (.enter gf args) w)
    {encs : α → Array Value} {Kp : World → World → Prop} {S Sp : List α → Prop} {N : Nat} {w0 : World} (hseq : SeqStopsR Rw F (n - 1) P gf lb encs Kp S Sp N w0)
    (hKt : ∀ {A B C : World}, Kp A B → Kp B C → Kp A C) (hKb : ∀ (W : World) (o o' : Obj), W.heap[w.heap.size + 1]? = some o → o.isCells = false → Kp W (W.putObj (w.heap.size + 1) o')) (hb0 : Below w0.heap.size w0 w) (hps : ∀ x, (encs x).size = ps.size)
    (I : List α → World → Prop) (Ix : Code → List α → World → Prop) (hI : AbidesR Rw w.heap.size I) (hIx : ∀ c, AbidesR Rw w.heap.size (Ix c)) (h0 : I [] w) (a₁ : α → Act)
    (hassign : ∀ (l : Nat) (x : α) (W : World) (K : Act → World → Prop), K (a₁ x) W →
      assign.wpIn (F.inRound l) (n - 1 - 1) P (Exit.then K (fun _ _ _ => False)) { tmps := (ps.zip (encs x)).foldl (fun t (p, v) => t.setIfInBounds p v) a.tmps, defers := [] } W)
    (hbody : ∀ (l : Nat) (pre : List α) (x : α) (W : World), I pre W → pre.length < N → body.wpIn (F.inRound l) (n - 1 - 1) P (ownPostG w.heap.size Kp I Ix (pre ++ [x]) W) (a₁ x) W)
    (hdone : ∀ (D : Nat) (xs : List α) (W : World), w.heap.size ≤ D → S xs → I xs W → W.heap[D]? = some (.deferred (some [])) → Q .normal { a with defers := { target := .collected D, args := #[] } :: a.defers } W)
    (hstop : ∀ (D : Nat) (c : Code) (pre : List α) (W : World), w.heap.size ≤ D → Sp pre → Ix c pre W → W.heap[D]? = some (.deferred (some [])) → c.wpIn F n P Q { a with defers := { target := .collected D, args := #[] } :: a.defers } W) :
    (Code.rangeFunc g ps assign body).wpIn F n P Q a w := by
  refine wpIn_rangeFunc fun fn hfn => ?_
  rw [hro]
  -- the loop's record, and the block for calls that are put off
  obtain ⟨lp, hlp⟩ : ∃ lp : LoopState → Option Code → Loop, lp = fun st pe => { state := st, pending := pe, fn, tmps := a.tmps, params := ps, assign, body, defers := w.heap.size } := ⟨_, rfl⟩
  obtain ⟨X, hX⟩ : ∃ X, (w.alloc (.deferred (some []))).alloc (.loop (lp .ready none)) = X := ⟨_, rfl⟩
  have hz : X.heap.size = w.heap.size + 2 := by rw [← hX]; simp
  have hl1 : X.heap[w.heap.size + 1]? = some (.loop (lp .ready none)) := by
    have := World.alloc_heap_new (w.alloc (.deferred (some []))) (.loop (lp .ready none))
    rw [World.size_alloc] at this
    rw [← hX]; exact this
  have hd1 : X.heap[w.heap.size]? = some (.deferred (some [])) := by
    rw [← hX]; exact (Below.heap_alloc _ _ _ (by simp)).trans (World.alloc_heap_new w _)
  have hI1 : I [] X := by rw [← hX]; exact hI.alloc _ (hI.alloc _ h0)
  have hb1 : Below w0.heap.size w0 X := by rw [← hX]; exact hb0.trans ((((Below.refl _ w).alloc (Nat.le_refl _) _).alloc (by simp) _).mono hb0.size)
  have hen : (Instr.enterLoop fn a.tmps ps assign body none).run P w = .ok (w.heap.size + 1, [{ target := .collected w.heap.size, args := #[] }]) X := by
    rw [run_enterLoop_outer, ← hX, hlp]
  -- what is turned at or beyond X's end is neither of the two
  have far : ∀ {A B : World} {row : Option Nat}, (∀ r, row = some r → X.heap.size ≤ r ∧ ∃ o : Obj, A.heap[r]? = some o ∧ Rw o = true) → (∀ r, row = some r → w.heap.size ≤ r ∧ ∃ o : Obj, A.heap[r]? = some o ∧ Rw o = true) := fun hr r e => by
    obtain ⟨q1, q2⟩ := hr r e
    exact ⟨by omega, q2⟩
  have stay : ∀ {A B : World} {row : Option Nat} {k : Nat} {o : Obj}, A.grownBy B row → (∀ r, row = some r → X.heap.size ≤ r ∧ ∃ o : Obj, A.heap[r]? = some o ∧ Rw o = true) → k < X.heap.size → A.heap[k]? = some o → B.heap[k]? = some o := fun hg' hr hk ho =>
    (hg'.block _ (Array.getElem?_eq_some_iff.1 ho).1 (fun e => by have := (hr _ e.symm).1; omega)).trans ho
  have hpl : ∀ (o : Obj) (W : World), W.heap[w.heap.size + 1]? = some o → ∀ o', (W.putObj (w.heap.size + 1) o').heap[w.heap.size + 1]? = some o' := fun o W h o' => World.putObj_heap_same (Array.getElem?_eq_some_iff.1 h).1
  have hpd : ∀ (W : World) (o' : Obj), (W.putObj (w.heap.size + 1) o').heap[w.heap.size]? = W.heap[w.heap.size]? := fun W o' => World.putObj_heap_other (by omega)
  have hput : ∀ (W : World) (o' : Obj), KeepsFrom X.heap.size W (W.putObj (w.heap.size + 1) o') := fun W o' => KeepsFrom.of_grownBy (grownBy_putObj' W _ o') (fun j e => by cases e; omega)
  refine ⟨w.heap.size + 1, [{ target := .collected w.heap.size, args := #[] }], X, { target := .fn (.func gf) lb, args := #[.func (.yield (w.heap.size + 1)) #[] #[]] }, X, gf, #[.func (.yield (w.heap.size + 1)) #[] #[]] ++ lb, X, hen, ?_, ?_, ?_, fun _ => h1, ?_⟩
  · simp only [resolve, hg]
    simp [go_sem]
  · intro f' hf'
    simp [Target.leads] at hf'
    subst hf'
    exact hFg
  · simp [invoke, go_sem, eg]
  · refine (hseq (w.heap.size + 1)
      (fun pre W => I pre W ∧ W.heap[w.heap.size + 1]? = some (.loop (lp .ready none)) ∧ W.heap[w.heap.size]? = some (.deferred (some [])))
      (fun pre W => ∃ c, Ix c pre W ∧ W.heap[w.heap.size + 1]? = some (.loop (lp .done (some c))) ∧ W.heap[w.heap.size]? = some (.deferred (some [])))
      X hb1
      (fun s A B row hs hg' hr => ⟨hI s A B row hs.1 hg' (far (B := B) hr), stay hg' hr (by omega) hs.2.1, stay hg' hr (by omega) hs.2.2⟩)
      (fun s A B row ⟨c, hc, q1, q2⟩ hg' hr => ⟨c, hIx c s A B row hc hg' (far (B := B) hr), stay hg' hr (by omega) q1, stay hg' hr (by omega) q2⟩)
      ?_ ⟨hI1, hl1, hd1⟩).mono ?_
    · -- a round
      rintro pre x W ⟨hi, hl, hd⟩ hlen
      have hy := run_yield (P := P) (args := encs x) hl (by rw [hlp]; exact hps x)
      rw [hlp] at hy
      refine ⟨fn, _, assign, body, hy, roundIn_of_wpIn hfn (hassign _ x W _ ⟨_, run_beginRound hl (by rw [hlp]), ?_⟩)⟩
      obtain ⟨W2, hW2⟩ : ∃ W2, W.putObj (w.heap.size + 1) (.loop { lp .ready none with state := .busy }) = W2 := ⟨_, rfl⟩
      have hl2 : W2.heap[w.heap.size + 1]? = some (.loop { lp .ready none with state := .busy }) := by rw [← hW2]; exact hpl _ W hl _
      have hd2 : W2.heap[w.heap.size]? = some (.deferred (some [])) := by rw [← hW2, hpd]; exact hd
      have hi2 : I pre W2 := by rw [← hW2]; exact hI.putObj _ hi (by omega) hl (hRw _ rfl)
      have hp2 : Kp W W2 := by rw [← hW2]; exact hKb _ _ _ hl rfl
      have hk2 : KeepsFrom X.heap.size W W2 := by rw [← hW2]; exact hput W _
      rw [hW2]
      -- the round's end, however it is left
      have fin : ∀ (jump : Option Code) (W3 : World), KeepsFrom w.heap.size W2 W3 → ∃ W4, W3.putObj (w.heap.size + 1) (.loop (lp (if jump.isNone then .ready else .done) jump)) = W4 ∧
          (Instr.endRound (w.heap.size + 1) jump).run P W3 = .ok (.bool jump.isNone) W4 ∧ W3.heap[w.heap.size + 1]? = some (.loop { lp .ready none with state := .busy }) ∧
          W4.heap[w.heap.size + 1]? = some (.loop (lp (if jump.isNone then .ready else .done) jump)) ∧ W4.heap[w.heap.size]? = some (.deferred (some [])) ∧ KeepsFrom X.heap.size W W4 := fun jump W3 hk3 => by
        have hl3 := hk3.same _ _ (by omega) hl2 rfl
        have hr := run_endRound (P := P) jump hl3
        rw [hlp] at hr hl3 ⊢
        refine ⟨_, rfl, hr, hl3, hpl _ W3 hl3 _, by rw [hpd]; exact hk3.same _ _ (Nat.le_refl _) hd2 rfl, (hk2.trans (keeps_wider hk3 (by omega))).trans (hput W3 _)⟩
      refine wpIn_mono (hbody _ pre x _ hi2 hlen) ?_
      rintro e a3 W3 hp
      cases e with
      | normal =>
        obtain ⟨q1, q2, q3⟩ := hp
        obtain ⟨W4, hW4, r1, r2, r3, r4, r5⟩ := fin none W3 q1
        exact ⟨_, _, r1, .inl ⟨rfl, ⟨by rw [← hW4]; exact hI.putObj _ q3 (by omega) r2 (hRw _ rfl), r3, r4⟩, r5, by rw [← hW4]; exact hKt (hKt hp2 q2) (hKb _ _ _ r2 rfl)⟩⟩
      | ret =>
        obtain ⟨q1, q2⟩ := hp
        obtain ⟨W4, hW4, r1, r2, r3, r4, r5⟩ := fin (some .ret) W3 q1
        exact ⟨_, _, r1, .inr ⟨rfl, ⟨.ret, by rw [← hW4]; exact (hIx _).putObj _ q2 (by omega) r2 (hRw _ rfl), r3, r4⟩, r5⟩⟩
      | exit id =>
        obtain ⟨q1, q2⟩ := hp
        obtain ⟨W4, hW4, r1, r2, r3, r4, r5⟩ := fin (some (.exit id)) W3 q1
        exact ⟨_, _, r1, .inr ⟨rfl, ⟨.exit id, by rw [← hW4]; exact (hIx _).putObj _ q2 (by omega) r2 (hRw _ rfl), r3, r4⟩, r5⟩⟩
      | goto t =>
        obtain ⟨q1, q2⟩ := hp
        obtain ⟨W4, hW4, r1, r2, r3, r4, r5⟩ := fin (some (.goto t)) W3 q1
        exact ⟨_, _, r1, .inr ⟨rfl, ⟨.goto t, by rw [← hW4]; exact (hIx _).putObj _ q2 (by omega) r2 (hRw _ rfl), r3, r4⟩, r5⟩⟩
      | panic ch => exact hp.elim
      | outgrown => exact hp.elim
    · -- behind the iterator
      rintro e W5 ⟨⟨v, rfl⟩, (⟨xs, hS, hi, hl, hd⟩ | ⟨pre, hSp, c, hi, hl, hd⟩)⟩
      · have hr := run_endLoop (P := P) hl (by rw [hlp]; simp)
        rw [hlp] at hr
        exact ⟨none, _, hr, hdone _ xs _ (Nat.le_refl _) hS (hI.putObj _ hi (by omega) hl (hRw _ rfl)) (by rw [hpd]; exact hd)⟩
      · have hr := run_endLoop (P := P) hl (by rw [hlp]; simp)
        rw [hlp] at hr
        exact ⟨some c, _, hr, hstop _ c pre _ (Nat.le_refl _) hSp ((hIx c).putObj _ hi (by omega) hl (hRw _ rfl)) (by rw [hpd]; exact hd)⟩
/-- A loop whose rounds are counted by a ghost. -/
theorem wpIn_loop_count {c : Code} {Q : Exit → Act → World → Prop} {a : Act} {w : World} (I : Nat → Act → World → Prop) (m : Nat) (h0 : I m a w)
    (round : ∀ m a w, I m a w → c.wpIn F n P (Exit.then (fun a' w' => 0 < m ∧ I (m - 1) a' w') Q) a w) : (Code.loop c).wpIn F n P Q a w := by
  have key : ∀ m a w, I m a w → Code.roundsIn F n P c Q (m + 1) a w := by
    intro m
    induction m with
    | zero =>
      intro a w h
      rw [roundsIn_succ]
      exact wpIn_mono (round 0 a w h) (fun e a' w' q => by cases e <;> first | exact q | exact absurd q.1 (Nat.lt_irrefl 0))
    | succ m ih =>
      intro a w h
      rw [roundsIn_succ]
      exact wpIn_mono (round (m + 1) a w h) (fun e a' w' q => by cases e <;> first | exact q | exact ih a' w' q.2)
  exact wpIn_loop_rounds (m + 1) (key m a w h0)
/-- The marks that loops have left in a frame. -/
def Marks (B : Nat) (W : World) (ds : List Deferred) : Prop := ∃ Ds : List Nat, ds = Ds.map (fun D => { target := .collected D, args := #[] }) ∧ Ds.Pairwise (· ≠ ·) ∧ ∀ D ∈ Ds, B ≤ D ∧ W.heap[D]? = some (.deferred (some []))
theorem Marks.nil (B : Nat) (W : World) : Marks B W [] := ⟨[], rfl, .nil, fun D h => by cases h⟩
theorem Marks.keeps {B : Nat} {W W' : World} {ds : List Deferred} (h : Marks B W ds) (hk : KeepsFrom B W W') : Marks B W' ds := by
  obtain ⟨Ds, h1, h2, h3⟩ := h
  exact ⟨Ds, h1, h2, fun D hD => ⟨(h3 D hD).1, hk.same D _ (h3 D hD).1 (h3 D hD).2 rfl⟩⟩
theorem Marks.cons {B D : Nat} {W W' : World} {ds : List Deferred} (h : Marks B W ds) (hk : KeepsFrom B W W') (hD : W.heap.size ≤ D) (hB : B ≤ W.heap.size) (hd : W'.heap[D]? = some (.deferred (some []))) : Marks B W' ({ target := .collected D, args := #[] } :: ds) := by
  obtain ⟨Ds, h1, h2, h3⟩ := h
  refine ⟨D :: Ds, by rw [h1]; rfl, List.pairwise_cons.2 ⟨fun E hE e => ?_, h2⟩, fun E hE => ?_⟩
  · subst e
    have := (Array.getElem?_eq_some_iff.1 (h3 _ hE).2).1
    omega
  · rcases List.mem_cons.1 hE with rfl | hE
    · exact ⟨by omega, hd⟩
    · exact ⟨(h3 E hE).1, hk.same E _ (h3 E hE).1 (h3 E hE).2 rfl⟩
/-- Leaving with marks. -/
theorem leaves_marks {B : Nat} {fn : Func} {tmps : Array Value} {R : Ending → World → Prop} {ds : List Deferred} {W : World} (Inv : World → Prop) (h : Marks B W ds) (hi : Inv W)
    (hput : ∀ (W : World) (D : Nat), Inv W → B ≤ D → W.heap[D]? = some (.deferred (some [])) → Inv (W.putObj D (.deferred none)))
    (hend : ∀ W, Inv W → ∃ v, (results fn tmps).run P W = .ok v W ∧ R (.returned v) W) : LeavesInM F n P fn tmps R ds .returning W := by
  obtain ⟨Ds, rfl, h2, h3⟩ := h
  induction Ds generalizing W with
  | nil => exact hend W hi
  | cons D Ds ih =>
    obtain ⟨g1, g2⟩ := h3 D List.mem_cons_self
    obtain ⟨k1, k2⟩ := List.pairwise_cons.1 h2
    refine ⟨by simp, .inl ⟨D, W.putObj D (.deferred none), rfl, run_takeDeferred g2, ?_⟩⟩
    exact ih (hput W D hi g1 g2) k2 (fun E hE => ⟨(h3 E (List.mem_cons_of_mem _ hE)).1, (World.putObj_heap_other (fun e => k1 E hE e.symm)).trans (h3 E (List.mem_cons_of_mem _ hE)).2⟩)
end
end Go.Proofs.YtlldpmjnledhgaaGreatDoor
namespace Go.Proofs.YtlldpmjnledhgaaGreatDoor
open Go.RowKit Go.Shelf
set_option linter.unusedVariables false
attribute [local go_sem] Oper.semAt_some

/-- What Backward tells: places and elements, the last first. -/
def backY (ks : List Nat) : List (Nat × Nat) := (List.range ks.length).reverse.map fun i => (i, ks[i]?.getD 0)
theorem backY_len (ks : List Nat) : (backY ks).length = ks.length := by unfold backY; simp
theorem backY_at {ks : List Nat} {m t : Nat} (hm : ks.length = m) (ht : t < m) : (backY ks)[t]? = some (m - 1 - t, ks[m - 1 - t]?.getD 0) := by
  unfold backY
  rw [List.getElem?_map, List.getElem?_reverse (by simp; omega), List.length_range, hm, List.getElem?_range (by omega)]
  rfl
/-- What a round keeps: two blocks. -/
def KeepBB (B b : Nat) (W W' : World) : Prop := KeepB B W W' ∧ KeepB b W W'

set_option maxRecDepth 100000 in
set_option maxHeartbeats 4000000 in
theorem back1_in (d : Nat) (hd : 1 ≤ d) (l B b o m c : Nat) (a : Option Addr) (ks : List Nat) (hm : ks.length = m) (hm1 : m ≤ 1000000) (ha : m ≠ 0 → a = some ⟨b, o, none⟩) (J Jx : List (Nat × Nat) → World → Prop)
    (hY : ∀ pre x W, J pre W → pre.length < m → YieldAt Fence.wide (d - 1) Tryz.prog l (encII x) W fun e W' =>
      (e = .returned (.bool true) ∧ J (pre ++ [x]) W' ∧ KeepBB B b W W') ∨ (e = .returned (.bool false) ∧ Jx (pre ++ [x]) W'))
    (W : World) (hb : Boxed W B 32 (.slice a m c)) (hc : ∀ (j x : Nat), ks[j]? = some x → W.cell? ⟨b, o + j, none⟩ = some (.int .i64 (x : Nat))) (h0 : J [] W) :
    CallsIn Fence.wide d Tryz.prog 42 #[.func (.yield l) #[] #[], .pointer (some ⟨B, 0, none⟩)] W fun e W' => (∃ v, e = .returned v) ∧
      ((∃ ys, ys = backY ks ∧ J ys W') ∨ (∃ pre, pre <+: backY ks ∧ Jx pre W')) := by
  have hc0 := hb.cell
  have HBL := Lib.hid (backY_len ks)
  have HM := Lib.hid hm
  have H0 := Lib.hid (show J ((backY ks).take 0) W from h0)
  have HB0 := Lib.hid hb
  have HC0 := Lib.hid hc
  have HY := Lib.hid hY
  clear h0 hb hc hY
  refine callsIn_of_wp Tryz.func42 rfl trivial ?_ rfl
  simp only [Tryz.ntmps42, List.size_toArray, List.length_cons, List.length_nil, Nat.reduceAdd, Nat.reduceSub, Array.replicate_succ, Array.replicate_zero, List.push_toArray, List.append_toArray, List.nil_append, List.cons_append]
  gi_wp2
  gi_loopw [3] (fun p wr => ∃ t : Nat, p = .int .i64 ((m : Int) - 1 - t) ∧ t ≤ m ∧ J ((backY ks).take t) wr ∧ Boxed wr B 32 (.slice a m c) ∧ ∀ (j x : Nat), ks[j]? = some x → wr.cell? ⟨b, o + j, none⟩ = some (.int .i64 (x : Nat)))
    (fun p wr => (intOf p + 1).toNat)
  case atStart => exact ⟨0, by go_num, Nat.zero_le _, H0.out, HB0.out, HC0.out⟩
  case round =>
    obtain ⟨t, rfl, ht, hJ, hbx, hcx⟩ := hrel
    have hc1 := hbx.cell
    by_cases hlt : t < m
    · obtain ⟨x, hx⟩ : ∃ x, ks[m - 1 - t]? = some x := ⟨_, List.getElem?_eq_getElem (by omega)⟩
      have hxc := hcx _ x hx
      obtain ⟨i, hi⟩ : ∃ i : Nat, m - 1 - t = i := ⟨_, rfl⟩
      have hii : (m : Int) - 1 - t = (i : Int) := by omega
      have hat := backY_at HM.out hlt
      rw [hi] at hx hxc hat
      rw [hx] at hat
      have HS := Lib.hid (show (backY ks).take (t + 1) = (backY ks).take t ++ [(i, x)] by rw [List.take_add_one, hat]; rfl)
      have HPre := Lib.hid (show (backY ks).take (t + 1) <+: backY ks from List.take_prefix _ _)
      obtain rfl := ha (by omega)
      rw [hii]
      have him : i < m := by omega
      have hi0 : (0 : Int) ≤ (i : Int) := by omega
      have him2 : (i : Int) < (m : Int) := by omega
      obtain ⟨fn, tmps, assign, body, hy, hR⟩ := HY.out _ (i, x) wr hJ (by rw [List.length_take, HBL.out, HM.out]; omega)
      have HR := Lib.hid hR
      simp only [encII] at hy
      have HBX := Lib.hid hbx
      have HCX := Lib.hid hcx
      clear hat hx hJ hR hbx hcx hi
      gi_wp2
      refine HR.out.mono ?_
      rintro e W3 (⟨rfl, hJ3, hk3⟩ | ⟨rfl, hJx3⟩)
      · have HJ3 := Lib.hid hJ3
        have HB3 := Lib.hid (hk3.1.boxed HBX.out)
        have HC3 := Lib.hid (fun (j x : Nat) (hx : ks[j]? = some x) => (World.cell?_of_block (w := wr) (w' := W3) (a := ⟨b, o + j, none⟩) hk3.2).trans (HCX.out j x hx))
        clear hJ3 hk3
        gi_wp2
        go_roundw
        case rel => exact ⟨t + 1, by go_num, hlt, by rw [HS.out]; exact HJ3.out, HB3.out, HC3.out⟩
        case measure => first | (simp [intOf]; done) | (simp [intOf]; omega)
      · gi_wp2
        refine bodyPost_ret (results_none rfl _ _ _) rfl ?_
        exact ⟨⟨_, rfl⟩, .inr ⟨_, by rw [← HS.out]; exact HPre.out, hJx3⟩⟩
    · obtain rfl : t = m := by omega
      have hneg : ¬ (0 : Int) ≤ (t : Int) - 1 - t := by omega
      have HJ := Lib.hid (show J (backY ks) wr by rw [List.take_of_length_le (by rw [HBL.out, HM.out]; exact Nat.le_refl _)] at hJ; exact hJ)
      clear hJ
      gi_wp2
      go_end0
      exact ⟨⟨_, rfl⟩, .inl HJ.out⟩
theorem back_any (a : Option Addr) (n c : Nat) (w : World) :
    Calls Tryz.prog 31 #[.slice a n c] w fun e w' => e = .returned (.func (.func 42) #[] #[.pointer (some ⟨w.heap.size, 0, none⟩)]) ∧ w.alloc (.cells #[.slice a n c] 32) = w' := by
  go_enter Tryz.func31, Tryz.ntmps31
  go_wp2
  go_ret
  exact ⟨rfl, rfl⟩
theorem back_stops (d : Nat) (hd : 1 ≤ d) (B b o m c : Nat) (a : Option Addr) (ks : List Nat) (hm : ks.length = m) (hm1 : m ≤ 1000000) (ha : m ≠ 0 → a = some ⟨b, o, none⟩) (w : World) (hbl : b < w.heap.size) (hb : Boxed w B 32 (.slice a m c)) (hc : ∀ (j x : Nat), ks[j]? = some x → w.cell? ⟨b, o + j, none⟩ = some (.int .i64 (x : Nat))) :
    SeqStopsK Fence.wide d Tryz.prog 42 #[.pointer (some ⟨B, 0, none⟩)] encII (KeepBB B b) (fun ys => ys = backY ks) (fun pre => pre <+: backY ks) m w :=
  fun l J Jx W hW _ _ hY h0 => back1_in d hd l B b o m c a ks hm hm1 ha J Jx hY W ((hW.block B hb.lt).trans hb) (fun j x hx => (hW.cell (p := ⟨b, o + j, none⟩) hbl).trans (hc j x hx)) h0
end Go.Proofs.YtlldpmjnledhgaaGreatDoor
namespace Go.Proofs.YtlldpmjnledhgaaGreatDoor
open Go.RowKit
set_option linter.unusedVariables false

/-- How each of the first n lies. -/
def LiesTo (ups : List Int) (D : List Nat) (n : Nat) : Prop :=
  ∀ i, i < n → (i = 0 ∧ ups[i]? = some (-1) ∧ D[i]? = some 1) ∨ ∃ u : Nat, u < i ∧ ups[i]? = some (u : Int) ∧ Anc ups (i - 1) u ∧ ∃ d, D[u]? = some d ∧ D[i]? = some (d + 1)
theorem goUp_is_anc {ups : List Int} {n : Nat} (ho : UpsOk ups n) {t : Int} : ∀ (f : Nat) (u : Nat), u < n → u < f → 0 ≤ goUp ups f t (u : Int) → ∃ k : Nat, t = (k : Int) ∧ k ≤ u ∧ Anc ups u k
  | 0, u, _, h, _ => by omega
  | f + 1, u, hn, hf, h0 => by
    by_cases hc : (0 : Int) ≤ u ∧ (u : Int) ≠ t
    · rw [goUp_step hc] at h0
      rw [Int.toNat_natCast] at h0
      rcases ho u hn with ⟨rfl, g⟩ | ⟨v, g, hv⟩
      · rw [g] at h0
        have e : (some (-1 : Int)).getD 0 = -1 := rfl
        rw [e, goUp_stop (by omega)] at h0
        omega
      · rw [g] at h0
        have e : (some (v : Int)).getD 0 = (v : Int) := rfl
        rw [e] at h0
        obtain ⟨k, h1, h2, h3⟩ := goUp_is_anc ho f v (by omega) (by omega) h0
        exact ⟨k, h1, by omega, .up u v k g h3⟩
    · exact ⟨u, by omega, Nat.le_refl _, .refl _⟩
theorem depStep_lies {ups : List Int} {D E : List Nat} (hl : D.length < ups.length) (h : depStep ups D = some E) (ho : UpsOk ups D.length) (hL : LiesTo ups D D.length) : D <+: E ∧ LiesTo ups E E.length := by
  have hE := depStep_len h
  obtain ⟨t, ht⟩ : ∃ t, ups[D.length]? = some t := ⟨_, List.getElem?_eq_getElem hl⟩
  have hpre : D <+: E := by
    unfold depStep at h
    split at h
    · rename_i h0; rw [h0]; exact List.nil_prefix
    · split at h
      · cases h
      · cases h; exact List.prefix_append _ _
  refine ⟨hpre, fun i hi => ?_⟩
  have hold : ∀ (j d : Nat), D[j]? = some d → E[j]? = some d := fun j d hj => by
    obtain ⟨r, rfl⟩ := hpre
    rw [List.getElem?_append_left (List.getElem?_eq_some_iff.1 hj).1]; exact hj
  by_cases hid : i < D.length
  · rcases hL i hid with ⟨g1, g2, g3⟩ | ⟨u, g1, g2, g3, d, g4, g5⟩
    · exact .inl ⟨g1, g2, hold _ _ g3⟩
    · exact .inr ⟨u, g1, g2, g3, d, hold _ _ g4, hold _ _ g5⟩
  · obtain rfl : i = D.length := by omega
    unfold depStep at h
    split at h
    · rename_i h0
      have ht0 : ups[0]? = some t := by rw [h0] at ht; exact ht
      rw [ht0] at h
      split at h
      · rename_i h1
        have h1' : t = -1 := h1
        cases h
        left
        rw [h0]
        exact ⟨rfl, by rw [show ([] : List Nat).length = 0 from rfl, ht0, h1'], rfl⟩
      · cases h
    · rename_i h0
      have hpos : 0 < D.length := List.length_pos_iff.2 h0
      split at h
      · cases h
      · rename_i h1
        rw [ht] at h h1
        have e : (some t).getD 0 = t := rfl
        rw [e] at h h1
        have ec : (D.length : Int) - 1 = ((D.length - 1 : Nat) : Int) := by omega
        rw [ec] at h h1
        obtain ⟨k, hk1, hk2, hk3⟩ := goUp_is_anc ho (t := t) D.length (D.length - 1) (by omega) (by omega) (by omega)
        have hgo := goUp_anc ho hk3 D.length (by omega) (by omega)
        rw [hk1, hgo] at h
        cases h
        right
        have hkD : k < D.length := by omega
        refine ⟨k, hkD, by rw [ht, hk1], hk3, D[k], by rw [List.getElem?_append_left hkD, List.getElem?_eq_getElem hkD], ?_⟩
        rw [List.getElem?_append_right (Nat.le_refl _), Nat.sub_self, Int.toNat_natCast, List.getElem?_eq_getElem hkD]
        rfl
theorem depGo_lies {ups : List Int} : ∀ (k : Nat) {D E : List Nat}, D.length + k = ups.length → depGo ups k D = some E → UpsOk ups D.length → LiesTo ups D D.length → E.length = ups.length ∧ LiesTo ups E E.length
  | 0, D, E, hl, h, ho, hL => by cases h; exact ⟨by omega, hL⟩
  | k + 1, D, E, hl, h, ho, hL => by
    unfold depGo at h
    cases hd : depStep ups D with
    | none => rw [hd] at h; cases h
    | some F =>
      rw [hd] at h
      have h1 := depStep_len hd
      exact depGo_lies k (by omega) h (depStep_ok (by omega) hd ho) (depStep_lies (by omega) hd ho hL).2
theorem depthsX_lies {ups : List Int} {D : List Nat} (h : depthsX ups = some D) : D.length = ups.length ∧ LiesTo ups D ups.length := by
  obtain ⟨h1, h2⟩ := depGo_lies ups.length (by simp) h (fun j hj => by simp at hj) (fun i hi => by simp at hi)
  rw [h1] at h2
  exact ⟨h1, h2⟩

/-- Elements that lie well. -/
structure Well (ups : List Int) (D : List Nat) (n : Nat) : Prop where
  len : D.length = n
  ulen : ups.length = n
  lies : LiesTo ups D n
theorem Well.up {ups : List Int} {D : List Nat} {n : Nat} (h : Well ups D n) {i u : Nat} (hu : ups[i]? = some (u : Int)) : u < i ∧ Anc ups (i - 1) u ∧ ∃ d, D[u]? = some d ∧ D[i]? = some (d + 1) := by
  have hi : i < n := by rw [← h.ulen]; exact (List.getElem?_eq_some_iff.1 hu).1
  rcases h.lies i hi with ⟨g1, g2, g3⟩ | ⟨v, g1, g2, g3, g4⟩
  · rw [g2] at hu; cases hu
  · rw [g2] at hu
    have : v = u := by have := Option.some.inj hu; omega
    subst this
    exact ⟨g1, g3, g4⟩
theorem Well.anc_le {ups : List Int} {D : List Nat} {n : Nat} (h : Well ups D n) {x u : Nat} (ha : Anc ups x u) : u ≤ x := by
  induction ha with
  | refl i => exact Nat.le_refl _
  | up i j k h1 h2 ih => have := (h.up h1).1; omega
/-- Between an element and one in it all are in it. -/
theorem Well.between {ups : List Int} {D : List Nat} {n : Nat} (h : Well ups D n) : ∀ (x u j : Nat), Anc ups x u → u < j → j ≤ x → Anc ups j u := by
  intro x
  induction x using Nat.strongRecOn with
  | _ x ih =>
    intro u j ha hu hj
    cases ha with
    | refl i => omega
    | up _ v _ h1 h2 =>
      obtain ⟨g1, g2, -⟩ := h.up h1
      by_cases hjx : j = x
      · subst hjx; exact .up _ v _ h1 h2
      · by_cases hjv : j ≤ v
        · exact ih v g1 u j h2 hu hjv
        · exact (ih (x - 1) (by omega) v j g2 (by omega) (by omega)).trans h2
theorem Well.anc_up {ups : List Int} {D : List Nat} {n : Nat} (h : Well ups D n) {x u : Nat} (ha : Anc ups x u) (hne : x ≠ u) : ∃ v : Nat, ups[x]? = some (v : Int) ∧ u ≤ v ∧ Anc ups v u := by
  cases ha with
  | refl i => exact absurd rfl hne
  | up _ v _ h1 h2 => exact ⟨v, h1, h.anc_le h2, h2⟩
/-- What is in an element is deeper. -/
theorem Well.deeper {ups : List Int} {D : List Nat} {n : Nat} (h : Well ups D n) {x u : Nat} (ha : Anc ups x u) : x ≠ u → ∃ d e, D[u]? = some d ∧ D[x]? = some e ∧ d < e := by
  induction ha with
  | refl i => intro hne; exact absurd rfl hne
  | up i j k h1 h2 ih =>
    intro _
    obtain ⟨g1, g2, d, g3, g4⟩ := h.up h1
    by_cases hjk : j = k
    · subst hjk; exact ⟨d, d + 1, g3, g4, by omega⟩
    · obtain ⟨a, b, k1, k2, k3⟩ := ih hjk
      rw [g3] at k2
      cases k2
      exact ⟨a, d + 1, k1, g4, by omega⟩
/-- Is an element within one of those from e up to k? -/
def inB (ups : List Int) (e k j : Nat) : Bool := match ups[j]? with | some u => decide ((e : Int) ≤ u ∧ u < (k : Int)) | none => false
theorem inB_iff {ups : List Int} {e k j : Nat} : inB ups e k j = true ↔ ∃ u : Nat, ups[j]? = some (u : Int) ∧ e ≤ u ∧ u < k := by
  unfold inB
  cases h : ups[j]? with
  | none => simp
  | some v =>
    rw [decide_eq_true_iff]
    constructor
    · rintro ⟨h1, h2⟩; exact ⟨v.toNat, by rw [Int.toNat_of_nonneg (by omega)], by omega, by omega⟩
    · rintro ⟨u, h1, h2, h3⟩; have := Option.some.inj h1; omega
/-- Those that wait, while one walks through an element e and stands ahead of k: those behind that are within one that was told. -/
def waits (ups : List Int) (e k : Nat) : List Nat := (List.range ups.length).filter fun j => decide (k ≤ j) && inB ups e k j
/-- Those of them that stand behind the next one. -/
def waits1 (ups : List Int) (e k : Nat) : List Nat := (List.range ups.length).filter fun j => decide (k + 1 ≤ j) && inB ups e k j
theorem filter_parts {P Q R : Nat → Bool} : ∀ {l : List Nat}, l.Pairwise (· < ·) → (∀ x ∈ l, P x = (Q x || R x)) → (∀ a ∈ l, ∀ b ∈ l, Q a = true → R b = true → a < b) → l.filter P = l.filter Q ++ l.filter R
  | [], _, _, _ => rfl
  | x :: t, hp, h1, h2 => by
    have hpt := (List.pairwise_cons.1 hp)
    have ih := filter_parts hpt.2 (fun y hy => h1 y (List.mem_cons_of_mem _ hy)) (fun a ha b hb => h2 a (List.mem_cons_of_mem _ ha) b (List.mem_cons_of_mem _ hb))
    have hx := h1 x List.mem_cons_self
    cases hq : Q x with
    | true =>
      have hr : R x = false := by
        cases hr : R x with
        | false => rfl
        | true => exact absurd (h2 x List.mem_cons_self x List.mem_cons_self hq hr) (Nat.lt_irrefl _)
      rw [hq] at hx
      rw [List.filter_cons_of_pos (by rw [hx]; rfl), List.filter_cons_of_pos hq, List.filter_cons_of_neg (by rw [hr]; decide), ih, List.cons_append]
    | false =>
      rw [hq, Bool.false_or] at hx
      cases hr : R x with
      | false =>
        rw [List.filter_cons_of_neg (by rw [hx, hr]; decide), List.filter_cons_of_neg (by rw [hq]; decide), List.filter_cons_of_neg (by rw [hr]; decide), ih]
      | true =>
        have hno : t.filter Q = [] := List.filter_eq_nil_iff.2 fun a ha hqa => by
          have g1 := h2 a (List.mem_cons_of_mem _ ha) x List.mem_cons_self hqa hr
          have g2 := hpt.1 a ha
          omega
        rw [List.filter_cons_of_pos (by rw [hx]; exact hr), List.filter_cons_of_neg (by rw [hq]; decide), List.filter_cons_of_pos hr, ih, hno]
        rfl
theorem range_lt (n : Nat) : (List.range n).Pairwise (· < ·) := List.pairwise_lt_range
theorem waits_mem {ups : List Int} {e k j : Nat} : j ∈ waits ups e k ↔ k ≤ j ∧ ∃ u : Nat, ups[j]? = some (u : Int) ∧ e ≤ u ∧ u < k := by
  unfold waits
  rw [List.mem_filter, Bool.and_eq_true, decide_eq_true_iff, inB_iff, List.mem_range]
  exact ⟨fun h => h.2, fun h => ⟨(List.getElem?_eq_some_iff.1 h.2.choose_spec.1).1, h⟩⟩
/-- If one waits, the next one does. -/
theorem Well.waits_next {ups : List Int} {D : List Nat} {n : Nat} (h : Well ups D n) {e k j : Nat} (hj : j ∈ waits ups e k) : ∃ u : Nat, ups[k]? = some (u : Int) ∧ e ≤ u ∧ u < k := by
  obtain ⟨h1, u, h2, h3, h4⟩ := waits_mem.1 hj
  obtain ⟨g1, g2, -⟩ := h.up h2
  by_cases hjk : j = k
  · subst hjk; exact ⟨u, h2, h3, h4⟩
  · have ha := h.between (j - 1) u k g2 h4 (by omega)
    obtain ⟨v, k1, k2, k3⟩ := h.anc_up ha (by omega)
    exact ⟨v, k1, by omega, (h.up k1).1⟩
theorem range_one {n k : Nat} (hk : k < n) : (List.range n).filter (fun j => decide (j = k)) = [k] := by
  induction n with
  | zero => omega
  | succ n ih =>
    rw [List.range_succ, List.filter_append]
    by_cases hkn : k < n
    · rw [ih hkn, List.filter_cons_of_neg (by simp; omega), List.filter_nil, List.append_nil]
    · obtain rfl : k = n := by omega
      rw [List.filter_cons_of_pos (by simp), List.filter_nil, List.filter_eq_nil_iff.2 (fun a ha => by have := List.mem_range.1 ha; simp; omega)]
      rfl
theorem Well.waits_pop {ups : List Int} {D : List Nat} {n : Nat} (h : Well ups D n) {e k u : Nat} (hk : ups[k]? = some (u : Int)) (he : e ≤ u) : waits ups e k = k :: waits1 ups e k := by
  have hku := (h.up hk).1
  have hkn : k < ups.length := (List.getElem?_eq_some_iff.1 hk).1
  have e1 : waits ups e k = (List.range ups.length).filter (fun j => decide (j = k)) ++ waits1 ups e k := by
    refine filter_parts (range_lt _) (fun x _ => ?_) (fun a _ b _ ha hb => ?_)
    · rw [Bool.eq_iff_iff, Bool.or_eq_true, Bool.and_eq_true, Bool.and_eq_true, decide_eq_true_iff, decide_eq_true_iff, decide_eq_true_iff, inB_iff]
      constructor
      · rintro ⟨g1, g2⟩
        by_cases hxk : x = k
        · exact .inl hxk
        · exact .inr ⟨by omega, g2⟩
      · rintro (rfl | ⟨g1, g2⟩)
        · exact ⟨Nat.le_refl _, u, hk, he, hku⟩
        · exact ⟨by omega, g2⟩
    · have h1 := of_decide_eq_true ha
      have h2 := of_decide_eq_true (Bool.and_eq_true _ _ ▸ hb : _ ∧ _).1
      omega
  rw [e1, range_one hkn]
  rfl
theorem Well.waits_push {ups : List Int} {D : List Nat} {n : Nat} (h : Well ups D n) {e k : Nat} (he : e ≤ k) : kidsI ups k ++ waits1 ups e k = waits ups e (k + 1) := by
  unfold kidsI waits waits1
  symm
  refine filter_parts (range_lt _) (fun x _ => ?_) (fun a _ b _ ha hb => ?_)
  · rw [Bool.eq_iff_iff]
    simp only [Bool.or_eq_true, Bool.and_eq_true, decide_eq_true_eq, inB_iff]
    constructor
    · rintro ⟨g1, u, g2, g3, g4⟩
      by_cases huk : u = k
      · subst huk; exact .inl g2
      · exact .inr ⟨g1, u, g2, g3, by omega⟩
    · rintro (g | ⟨g1, u, g2, g3, g4⟩)
      · have := (h.up g).1; exact ⟨by omega, k, g, he, by omega⟩
      · exact ⟨g1, u, g2, g3, by omega⟩
  · have h1 := of_decide_eq_true ha
    obtain ⟨u, g2, g3, g4⟩ := inB_iff.1 (Bool.and_eq_true _ _ ▸ hb : _ ∧ _).2
    have g1 := of_decide_eq_true (Bool.and_eq_true _ _ ▸ hb : _ ∧ _).1
    obtain ⟨k1, k2, -⟩ := h.up h1
    apply Decidable.byContradiction
    intro hab
    by_cases hba : b = a
    · subst hba
      rw [h1] at g2
      have := Option.some.inj g2
      omega
    · have ha2 := h.between (a - 1) k b k2 (by omega) (by omega)
      obtain ⟨v, m1, m2, m3⟩ := h.anc_up ha2 (by omega)
      rw [m1] at g2
      have := Option.some.inj g2
      omega
/-- At first only what is in e waits behind e. -/
theorem Well.waits_first {ups : List Int} {D : List Nat} {n : Nat} (h : Well ups D n) (e : Nat) : waits1 ups e e = [] := by
  unfold waits1
  refine List.filter_eq_nil_iff.2 fun a _ ha => ?_
  obtain ⟨u, g1, g2, g3⟩ := inB_iff.1 (Bool.and_eq_true _ _ ▸ ha : _ ∧ _).2
  omega
theorem waits1_len {ups : List Int} {e k : Nat} (hk : k < ups.length) : (waits1 ups e k).length < ups.length := by
  unfold waits1
  have h1 : ((List.range ups.length).filter fun j => decide (k + 1 ≤ j) && inB ups e k j).length < (List.range ups.length).length := by
    refine List.length_filter_lt_length_iff_exists.2 ⟨k, List.mem_range.2 hk, ?_⟩
    simp
    intro h
    omega
  rwa [List.length_range] at h1
/-- How many an element has in it, with itself: those behind it that are deeper. -/
def segN (D : List Nat) (e : Nat) : Nat := 1 + ((D.drop (e + 1)).takeWhile fun x => decide (D[e]?.getD 0 < x)).length
theorem takeWhile_len {α : Type} {P : α → Bool} : ∀ (l : List α) (m : Nat), m ≤ l.length → (∀ j x, j < m → l[j]? = some x → P x = true) → (∀ x, l[m]? = some x → P x = false) → (l.takeWhile P).length = m
  | [], m, h, _, _ => by simp at h; subst h; rfl
  | a :: t, 0, _, _, h3 => by rw [List.takeWhile_cons, if_neg (by rw [h3 a rfl]; decide)]; rfl
  | a :: t, m + 1, h1, h2, h3 => by
    rw [List.takeWhile_cons, if_pos (h2 0 a (by omega) rfl), List.length_cons, takeWhile_len t m (by simp at h1; omega) (fun j x hj hx => h2 (j + 1) x (by omega) hx) (fun x hx => h3 x hx)]
/-- Where one stands, while one walks through an element e: those up to k were told, and these wait. -/
structure AtK (ups : List Int) (e k : Nat) (st : List Nat) : Prop where
  ge : e ≤ k
  told : ∀ j, e < j → j < k → Anc ups j e
  first : k = e → st = [e]
  next : e < k → st = waits ups e k
theorem AtK.start (ups : List Int) (e : Nat) : AtK ups e e [e] := ⟨Nat.le_refl _, fun j h1 h2 => by omega, fun _ => rfl, fun h => by omega⟩
theorem Well.at_pop {ups : List Int} {D : List Nat} {n : Nat} (h : Well ups D n) {e k : Nat} (he : e < n) {x : Nat} {st : List Nat} (ha : AtK ups e k (x :: st)) :
    x = k ∧ k < n ∧ st = waits1 ups e k ∧ Anc ups k e ∧ AtK ups e (k + 1) (kidsI ups k ++ st) := by
  by_cases hk : k = e
  · subst hk
    have h1 := ha.first rfl
    simp only [List.cons.injEq] at h1
    obtain ⟨rfl, rfl⟩ := h1
    refine ⟨rfl, he, (h.waits_first x).symm, .refl _, ⟨by omega, fun j h1 h2 => by omega, fun e => by omega, fun _ => ?_⟩⟩
    rw [← h.waits_push (Nat.le_refl x), h.waits_first]
  · have hlt : e < k := by have := ha.ge; omega
    have h1 := ha.next hlt
    obtain ⟨u, hu, heu, huk⟩ := h.waits_next (e := e) (k := k) (j := x) (by rw [← h1]; exact List.mem_cons_self)
    have hp := h.waits_pop hu heu
    rw [hp] at h1
    simp only [List.cons.injEq] at h1
    obtain ⟨rfl, rfl⟩ := h1
    have hanc : Anc ups x e := by
      refine .up x u e hu ?_
      by_cases hue : u = e
      · subst hue; exact .refl _
      · exact ha.told u (by omega) huk
    refine ⟨rfl, by rw [← h.ulen]; exact (List.getElem?_eq_some_iff.1 hu).1, rfl, hanc, ⟨by omega, fun j h1 h2 => ?_, fun e => by omega, fun _ => (h.waits_push ha.ge)⟩⟩
    by_cases hjx : j = x
    · subst hjx; exact hanc
    · exact ha.told j h1 (by omega)
theorem Well.at_end {ups : List Int} {D : List Nat} {n : Nat} (h : Well ups D n) {e k : Nat} (he : e < n) (hk : k ≤ n) (ha : AtK ups e k []) : k = e + segN D e := by
  have hlt : e < k := by
    by_cases hk : k = e
    · have := ha.first hk; cases this
    · have := ha.ge; omega
  have hw := ha.next hlt
  obtain ⟨d, hd⟩ : ∃ d, D[e]? = some d := ⟨_, List.getElem?_eq_getElem (by rw [h.len]; exact he)⟩
  have : ((D.drop (e + 1)).takeWhile fun x => decide (D[e]?.getD 0 < x)).length = k - (e + 1) := by
    refine takeWhile_len _ _ (by rw [List.length_drop, h.len]; omega) (fun j x hj hx => ?_) (fun x hx => ?_)
    · rw [List.getElem?_drop] at hx
      obtain ⟨a, b, g1, g2, g3⟩ := h.deeper (ha.told (e + 1 + j) (by omega) (by omega)) (by omega)
      rw [hd] at g1
      rw [hx] at g2
      cases g1
      cases g2
      rw [hd]
      exact decide_eq_true g3
    · rw [List.getElem?_drop, show e + 1 + (k - (e + 1)) = k by omega] at hx
      rw [hd]
      refine decide_eq_false fun (hlt2 : d < x) => ?_
      have hkn : k < n := by rw [← h.len]; exact (List.getElem?_eq_some_iff.1 hx).1
      rcases h.lies k hkn with ⟨g1, -, -⟩ | ⟨u, g1, g2, g3, d', g4, g5⟩
      · omega
      · rw [hx] at g5
        cases g5
        by_cases heu : e ≤ u
        · have hm : k ∈ waits ups e k := waits_mem.2 ⟨Nat.le_refl _, u, g2, heu, g1⟩
          rw [← hw] at hm
          cases hm
        · have hb := h.between (k - 1) u e g3 (by omega) (by omega)
          obtain ⟨a, b, m1, m2, m3⟩ := h.deeper hb (by omega)
          rw [g4] at m1
          rw [hd] at m2
          cases m1
          cases m2
          omega
  unfold segN
  omega
theorem takeWhile_ge {α : Type} {P : α → Bool} : ∀ (l : List α) (m : Nat), m ≤ l.length → (∀ j x, j < m → l[j]? = some x → P x = true) → m ≤ (l.takeWhile P).length
  | [], m, h, _ => by simp at h; omega
  | a :: t, 0, _, _ => Nat.zero_le _
  | a :: t, m + 1, h1, h2 => by
    rw [List.takeWhile_cons, if_pos (h2 0 a (by omega) rfl), List.length_cons]
    have := takeWhile_ge t m (by simp at h1; omega) (fun j x hj hx => h2 (j + 1) x (by omega) hx)
    omega
theorem Well.seg_lt {ups : List Int} {D : List Nat} {n : Nat} (h : Well ups D n) {e k : Nat} (he : e < n) (hk : k < n) (hek : e ≤ k) (ha : ∀ j, e < j → j ≤ k → Anc ups j e) : k < e + segN D e := by
  obtain ⟨d, hd⟩ : ∃ d, D[e]? = some d := ⟨_, List.getElem?_eq_getElem (by rw [h.len]; exact he)⟩
  have := takeWhile_ge (P := fun x => decide (D[e]?.getD 0 < x)) (D.drop (e + 1)) (k - e) (by rw [List.length_drop, h.len]; omega) (fun j x hj hx => by
    rw [List.getElem?_drop] at hx
    obtain ⟨a, b, g1, g2, g3⟩ := h.deeper (ha (e + 1 + j) (by omega) (by omega)) (by omega)
    rw [hd] at g1
    rw [hx] at g2
    cases g1
    cases g2
    rw [hd]
    exact decide_eq_true g3)
  unfold segN
  omega
/-- What a walk through an element tells. -/
def segY (D : List Nat) (e : Nat) : List (Nat × Nat) := (List.range (segN D e)).map fun t => (e + t, D[e + t]?.getD 0 - D[e]?.getD 0)
/-- The first ones of it. -/
def segTo (D : List Nat) (e k : Nat) : List (Nat × Nat) := (List.range (k - e)).map fun t => (e + t, D[e + t]?.getD 0 - D[e]?.getD 0)
theorem segTo_start (D : List Nat) (e : Nat) : segTo D e e = [] := by unfold segTo; simp
theorem segTo_step {D : List Nat} {e k : Nat} (h : e ≤ k) : segTo D e (k + 1) = segTo D e k ++ [(k, D[k]?.getD 0 - D[e]?.getD 0)] := by
  unfold segTo
  rw [show k + 1 - e = k - e + 1 by omega, List.range_succ, List.map_append, List.map_cons, List.map_nil, show e + (k - e) = k by omega]
theorem segTo_end {D : List Nat} {e : Nat} : segTo D e (e + segN D e) = segY D e := by unfold segTo segY; rw [show e + segN D e - e = segN D e by omega]
theorem segTo_pre {D : List Nat} {e k : Nat} (h : k ≤ e + segN D e) : segTo D e k <+: segY D e := by
  unfold segTo segY
  rw [show segN D e = (k - e) + (segN D e - (k - e)) by omega, List.range_add, List.map_append]
  exact List.prefix_append _ _
end Go.Proofs.YtlldpmjnledhgaaGreatDoor
namespace Go.Proofs.YtlldpmjnledhgaaGreatDoor
open Go.RowKit Go.Shelf
set_option linter.unusedVariables false
attribute [local go_sem] Oper.semAt_some

/-- What Walk turns that is its own: whatever is no cells, and its places. -/
def RwW : Obj → Bool
  | .cells _ t _ => t == 73 || t == 74
  | _ => true
theorem rwW_else (o : Obj) (h : o.isCells = false) : RwW o = true := by cases o <;> first | rfl | cases h
/-- What a round keeps for Walk: what lay below n, and the places. -/
def KeepW (n : Nat) (W W' : World) : Prop := Below n W W' ∧ KeepT 73 W W' ∧ KeepT 74 W W'
theorem KeepW.trans {n : Nat} {A B C : World} (h : KeepW n A B) (k : KeepW n B C) : KeepW n A C := ⟨h.1.trans k.1, h.2.1.trans k.2.1, h.2.2.trans k.2.2⟩
theorem slP : SlT Tryz.prog 74 73 2 16 := SlT.mk Tryz.underlying74 (z := .agg #[.int .i64 0, .int .i64 0]) (by kernel_rfl) rfl (by decide) (by decide)

set_option maxRecDepth 100000 in
set_option maxHeartbeats 4000000 in
/-- Walk at no element: nothing is told. -/
theorem walk1_out (d : Nat) (hd : 1 ≤ d) (l Bd Be n c : Nat) (a : Option Addr) (e : Int) (he : ¬ (0 ≤ e ∧ e < (n : Int))) (J Jx : List (Nat × Nat) → World → Prop) (W : World) (hJ : AbidesR RwW W.heap.size J)
    (hb : Boxed W Bd 25 (.slice a n c)) (hb2 : Boxed W Be 3 (.int .i64 e)) (h0 : J [] W) :
    CallsIn Fence.wide d Tryz.prog 30 #[.func (.yield l) #[] #[], .pointer (some ⟨Bd, 0, none⟩), .pointer (some ⟨Be, 0, none⟩)] W fun en W' => (∃ v, en = .returned v) ∧
      ((∃ ys, ys = ([] : List (Nat × Nat)) ∧ J ys W') ∨ (∃ pre, pre <+: ([] : List (Nat × Nat)) ∧ Jx pre W')) := by
  have c0 := hb.cell
  have c1 := hb2.cell
  have hIS := is_any a n c e W
  rw [decide_eq_false he] at hIS
  have HIS := Lib.hid hIS
  have HJ := Lib.hid hJ
  have H0 := Lib.hid h0
  clear hIS hb hb2 he h0 hJ
  refine callsIn_of_wp_marks Tryz.func30 rfl trivial ?_ rfl
  simp only [Tryz.ntmps30, List.size_toArray, List.length_cons, List.length_nil, Nat.reduceAdd, Nat.reduceSub, Array.replicate_succ, Array.replicate_zero, List.push_toArray, List.append_toArray, List.nil_append, List.cons_append]
  gi_wp2
  refine wpIn_scope_wide ?_
  gi_wp2_with (refine ⟨trivial, ?_⟩; gi_at_call 22; refine (callsIn_wide.2 HIS.out).mono ?_; rintro _ w2 ⟨rfl, hB2⟩; have HJ2 := Lib.hid (HJ.out [] W w2 none H0.out (grown_none hB2) (fun r e => by cases e)); clear hB2)
  refine ⟨trivial, ?_⟩
  gi_wp2
  rw [Exit.noGoto_ret]
  exact ⟨_, results_none rfl _ _ _, ⟨_, rfl⟩, .inl ⟨[], rfl, HJ2.out⟩⟩

/-- A place's cells. -/
def plc (p : Nat × Nat) : List Value := [.int .i64 p.1, .int .i64 p.2]
/-- Those that wait, as they lie: the next one last. -/
def plcs (D : List Nat) (e : Nat) (st : List Nat) : List Value := st.reverse.flatMap fun j => plc (j, D[j]?.getD 0 - D[e]?.getD 0)
theorem plcs_len (D : List Nat) (e : Nat) (st : List Nat) : (plcs D e st).length = st.length * 2 := by
  unfold plcs
  rw [List.length_flatMap]
  have : ∀ l : List Nat, (l.map fun j => (plc (j, D[j]?.getD 0 - D[e]?.getD 0)).length).sum = l.length * 2 := fun l => by
    induction l with
    | nil => rfl
    | cons a l ih => simp only [List.map_cons, List.sum_cons, List.length_cons, ih]; show 2 + _ = _; omega
  rw [this, List.length_reverse]
theorem plcs_cons (D : List Nat) (e x : Nat) (st : List Nat) : plcs D e (x :: st) = plcs D e st ++ plc (x, D[x]?.getD 0 - D[e]?.getD 0) := by unfold plcs; rw [List.reverse_cons, List.flatMap_append]; simp
/-- What Walk's loop holds: J of those that were told, the places that wait, the marks of the loops that it has left. -/
structure WkS (w : World) (B T : Nat) (ups : List Int) (D : List Nat) (e : Nat) (J : List (Nat × Nat) → World → Prop) (k : Nat) (st : List Nat) (tv : Value) (Ds : List Deferred) (V : World) : Prop where
  at_ : AtK ups e k st
  told : J (segTo D e k) V
  box : Boxed V T 74 tv
  row : V.ownsRow B 73 2 tv st.length (plcs D e st)
  marks : Marks B V Ds
  below : Below w.heap.size w V
  bT : B ≤ T
  size : B ≤ V.heap.size
/-- J stays while a place of Walk's is written. -/
theorem j_set {J : List (Nat × Nat) → World → Prop} {B : Nat} (hJ : AbidesR RwW B J) {pre : List (Nat × Nat)} {V : World} {T : Nat} {t : TypeId} {cs : Array Value} (h : J pre V) (hb : BlkAt V T t cs) (ht : t = 73 ∨ t = 74) (hB : B ≤ T) (i : Nat) (u : Value) : J pre (V.setCell ⟨T, i, none⟩ u) :=
  hJ pre V _ (some T) h (grown_set V T i u) (fun r er => by cases er; exact ⟨hB, _, hb, by rcases ht with rfl | rfl <;> rfl⟩)
/-- The next one is taken: a box of its own, and one fewer waits. -/
theorem WkS.pop {w : World} {B T e k x g cap : Nat} {ups : List Int} {D : List Nat} {J : List (Nat × Nat) → World → Prop} (hJ : AbidesR RwW B J) {st : List Nat} {Ds : List Deferred} {V V2 : World} (h : WkS w B T ups D e J k (x :: st) (.slice (some ⟨g, 0, none⟩) (st.length + 1) cap) Ds V)
    (hV : (V.alloc (.cells #[.int .i64 x, .int .i64 (D[x]?.getD 0 - D[e]?.getD 0 : Nat)] 73)).setCell ⟨T, 0, none⟩ (.slice (some ⟨g, 0, none⟩) st.length cap) = V2) (hw : w.heap.size ≤ B) :
    J (segTo D e k) V2 ∧ Boxed V2 T 74 (.slice (some ⟨g, 0, none⟩) st.length cap) ∧ V2.ownsRow B 73 2 (.slice (some ⟨g, 0, none⟩) st.length cap) st.length (plcs D e st) ∧ Marks B V2 Ds ∧ Below w.heap.size w V2 ∧ BlkAt V2 V.heap.size 73 #[.int .i64 x, .int .i64 (D[x]?.getD 0 - D[e]?.getD 0 : Nat)] ∧ B ≤ V2.heap.size := by
  have hbT := h.bT
  have hsz := h.size
  have hTl := h.box.lt
  obtain ⟨V1, hV1⟩ : ∃ V1, V.alloc (.cells #[.int .i64 x, .int .i64 (D[x]?.getD 0 - D[e]?.getD 0 : Nat)] 73) = V1 := ⟨_, rfl⟩
  have b1 : BlkAt V1 V.heap.size 73 #[.int .i64 x, .int .i64 (D[x]?.getD 0 - D[e]?.getD 0 : Nat)] := by rw [← hV1]; exact BlkAt.new _ _ _
  have j1 : J (segTo D e k) V1 := by rw [← hV1]; exact hJ.alloc _ h.told
  have x1 : Boxed V1 T 74 (.slice (some ⟨g, 0, none⟩) (st.length + 1) cap) := by rw [← hV1]; exact h.box.alloc _
  have r1 : V1.ownsRow B 73 2 (.slice (some ⟨g, 0, none⟩) (st.length + 1) cap) (st.length + 1) (plcs D e st ++ plc (x, D[x]?.getD 0 - D[e]?.getD 0)) := by
    rw [← hV1, ← plcs_cons]; exact h.row.alloc _
  have m1 : Marks B V1 Ds := by rw [← hV1]; exact h.marks.keeps ((KeepsOthers.alloc V _).from _)
  have l1 : Below w.heap.size w V1 := by rw [← hV1]; exact h.below.alloc (by omega) _
  have z1 : V1.heap.size = V.heap.size + 1 := by rw [← hV1]; simp
  rw [hV1] at hV
  subst hV
  refine ⟨j_set hJ j1 x1 (.inr rfl) hbT 0 _, x1.set _, ?_, m1.keeps ((KeepsOthers.setCell _ _ _).from _), l1.setCell (p := ⟨T, 0, none⟩) (by show w.heap.size ≤ T; omega) _, b1.far (p := ⟨T, 0, none⟩) (by show V.heap.size ≠ T; omega) _, by rw [World.size_setCell]; omega⟩
  have r2 := ownsRow_pop (plcs_len D e st) r1
  exact r2.kept (grown_set V1 T 0 _) (.inr (fun e' => x1.not_row (by decide) r2 e'.symm))

/-- 'append(s, x)' of one element within a fence; the row lies where it lay, or in the next block. -/
theorem wpListIn_app_at {F : Fence} {n : Nat} {P : Program} (w : World) {ops : Array Oper} {rest : List Oper} {o : Oper} {a : Act} {Q : Exit → Act → World → Prop} (hgd : o.guard = none) (s x : Operand) (t e : TypeId) (size bytes : Nat)
    (T : SlT P t e size bytes) (ho : o.op = .call { callee := .builtin .append, args := #[s, x], argTypes := #[t, t] })
    (base : Nat) (hbase : base ≤ w.heap.size) (v : Value) (k : Nat) (xs : List Value) (hs : a.eval s = v) (hown : w.ownsRow base e size v k xs)
    (ad : Addr) (news : List Value) (hx : a.eval x = .slice (some ad) 1 1) (hl : news.length = size) (hnews : ∀ j u, news[j]? = some u → w.cell? (ad.add j) = some u) (h1 : ∀ u ∈ news, u.oneCell' = true)
    (hbytes : (k + 1) * bytes ≤ 140737488355328)
    (h : ∀ g cap w', w'.ownsRow base e size (.slice (some ⟨g, 0, none⟩) (k + 1) cap) (k + 1) (xs ++ news) → w.grownBy w' v.ownBlock → ((Value.slice (some ⟨g, 0, none⟩) (k + 1) cap).ownBlock = v.ownBlock ∨ (Value.slice (some ⟨g, 0, none⟩) (k + 1) cap).ownBlock = some w.heap.size) → wpListIn F n P ops Q rest (a.put o.dst (.slice (some ⟨g, 0, none⟩) (k + 1) cap)) w') : wpListIn F n P ops Q (o :: rest) a w := by
  refine wpListIn_plain hgd fun K hK => ?_
  refine op_append (F := F) (n := n) T ho hs hown hbase hx hl hnews h1 hbytes fun v' w' h2 h3 h5 => hK _ _ ?_
  obtain ⟨g, cap, rfl⟩ := ownsRow_succ h2
  exact h g cap w' h2 h3 h5
/-- No mark lies at or beyond U. -/
def MarksLt (U : Nat) (ds : List Deferred) : Prop := ∀ d ∈ ds, ∀ D, d = { target := .collected D, args := #[] } → D < U
theorem Marks.lt {B : Nat} {W : World} {ds : List Deferred} (h : Marks B W ds) {U : Nat} (hU : W.heap.size ≤ U) : MarksLt U ds := by
  obtain ⟨Ds, rfl, _, h3⟩ := h
  intro d hd D e
  subst e
  obtain ⟨D', hD', e⟩ := List.mem_map.1 hd
  have : D' = D := by cases e; rfl
  subst this
  have := (Array.getElem?_eq_some_iff.1 (h3 D' hD').2).1
  omega
theorem Marks.grown {B U : Nat} {W W' : World} {ds : List Deferred} {row : Option Nat} (h : Marks B W ds) (hl : MarksLt U ds) (hg : W.grownBy W' row) (hr : ∀ r, row = some r → U ≤ r) : Marks B W' ds := by
  obtain ⟨Ds, rfl, h2, h3⟩ := h
  refine ⟨Ds, rfl, h2, fun D hD => ⟨(h3 D hD).1, ?_⟩⟩
  have hDl := hl _ (List.mem_map.2 ⟨D, hD, rfl⟩) D rfl
  exact (hg.block D (Array.getElem?_eq_some_iff.1 (h3 D hD).2).1 (fun e => by have := hr D e.symm; omega)).trans (h3 D hD).2
theorem Marks.cells {B : Nat} {W W' : World} {ds : List Deferred} {row : Option Nat} (h : Marks B W ds) (hg : W.grownBy W' row) (hr : ∀ r, row = some r → ∃ o : Obj, W.heap[r]? = some o ∧ o.isCells = true) : Marks B W' ds := by
  obtain ⟨Ds, rfl, h2, h3⟩ := h
  refine ⟨Ds, rfl, h2, fun D hD => ⟨(h3 D hD).1, ?_⟩⟩
  refine (hg.block D (Array.getElem?_eq_some_iff.1 (h3 D hD).2).1 (fun e => ?_)).trans (h3 D hD).2
  obtain ⟨o, ho, hc⟩ := hr D e.symm
  rw [(h3 D hD).2] at ho
  cases ho
  cases hc
/-- What the loop over an element's kids holds: more places wait. -/
structure WkI (w : World) (Bk : Nat) (sv : Value) (B T X L : Nat) (base : List Value) (x dp : Nat) (Jw : World → Prop) (Ds : List Deferred) (pre : List (Nat × Nat)) (tv : Value) (V : World) : Prop where
  box : Boxed V T 74 tv
  row : V.ownsRow B 73 2 tv (L + pre.length) (base ++ pre.flatMap fun p => plc (p.2, dp + 1))
  told : Jw V
  marks : Marks B V Ds
  below : Below w.heap.size w V
  xbox : BlkAt V X 73 #[.int .i64 x, .int .i64 dp]
  kbox : Boxed V Bk 32 sv
  xne : ∀ g, tv.ownBlock = some g → g ≠ X
  size : B ≤ V.heap.size
theorem wkI_own {w : World} {Bk : Nat} {sv : Value} {B T X L U x dp : Nat} {base : List Value} {Jw : World → Prop} {Ds : List Deferred} (hB : B ≤ U) (hw : w.heap.size ≤ U) (hl : MarksLt U Ds)
    (hJ : ∀ (W W' : World) (row : Option Nat), Jw W → W.grownBy W' row → (∀ r, row = some r → B ≤ r ∧ ∃ o : Obj, W.heap[r]? = some o ∧ RwW o = true) → Jw W') :
    OwnFrom U (fun pre V => ∃ tv, WkI w Bk sv B T X L base x dp Jw Ds pre tv V) := by
  intro pre V V' row ⟨tv, h⟩ hg hr
  have hne : ∀ (b : Nat) (cs : Array Value) (t : TypeId), V.heap[b]? = some (.cells cs t (0, 0)) → some b ≠ row := fun b cs t hb e => by
    obtain ⟨_, o, ho, hc⟩ := hr b e.symm
    rw [hb] at ho
    cases ho
    cases hc
  refine ⟨tv, h.box.kept hg (hne _ _ _ h.box), h.row.kept hg ?_, hJ V V' row h.told hg (fun r e => ⟨by have := (hr r e).1; omega, by obtain ⟨_, o, ho, hc⟩ := hr r e; exact ⟨o, ho, rwW_else o hc⟩⟩), h.marks.grown hl hg (fun r e => (hr r e).1), h.below.grown hg (by have := h.below.size; exact this) (fun r e => by have := (hr r e).1; omega), h.xbox.grown hg (hne _ _ _ h.xbox), h.kbox.kept hg (hne _ _ _ h.kbox), h.xne, Nat.le_trans h.size hg.size⟩
  rcases h.row.2 with ⟨e, _⟩ | ⟨g, cap, cur, e, _, hgg, _⟩
  · subst e; exact .inl rfl
  · subst e; exact .inr (hne _ _ _ hgg)

/-- One more place waits. -/
theorem wkI_put {w : World} {Bk : Nat} {sv : Value} {B T X L x dp b : Nat} {base : List Value} {Jw : World → Prop} {Ds : List Deferred} {pre : List (Nat × Nat)} {tv v' : Value} {V w1 : World} {tmp : Obj} (h : WkI w Bk sv B T X L base x dp Jw Ds pre tv V) (hw : w.heap.size ≤ B) (hT : B ≤ T) (hXT : X ≠ T) (hb : b < w.heap.size)
    (hJ : ∀ (W W' : World) (row : Option Nat), Jw W → W.grownBy W' row → (∀ r, row = some r → B ≤ r ∧ ∃ o : Obj, W.heap[r]? = some o ∧ RwW o = true) → Jw W')
    {p : Nat × Nat} (hat : v'.ownBlock = tv.ownBlock ∨ v'.ownBlock = some (V.alloc tmp).heap.size)
    (hown : w1.ownsRow B 73 2 v' (L + pre.length + 1) ((base ++ pre.flatMap fun p => plc (p.2, dp + 1)) ++ plc (p.2, dp + 1))) (hgrow : (V.alloc tmp).grownBy w1 tv.ownBlock) :
    WkI w Bk sv B T X L base x dp Jw Ds (pre ++ [p]) v' (w1.setCell ⟨T, 0, none⟩ v') ∧ KeepsOthers V (w1.setCell ⟨T, 0, none⟩ v') ∧ KeepBB Bk b V (w1.setCell ⟨T, 0, none⟩ v') := by
  obtain ⟨a1, a2, a3, a4, a5⟩ := Boxed.appended h.box (by decide) h.row h.size hT hown hgrow
  have hrowB : ∀ r, tv.ownBlock = some r → B ≤ r ∧ ∃ c, (V.alloc tmp).heap[r]? = some (.cells c 73 (0, 0)) := fun r e => by
    obtain ⟨c, hc, hB⟩ := own_at (h.row.alloc tmp) e
    exact ⟨hB, c, hc⟩
  have hz : V.heap.size ≤ w1.heap.size := Nat.le_trans (by simp) hgrow.size
  have hblk : ∀ (k : Nat) (o : Obj), V.heap[k]? = some o → some k ≠ tv.ownBlock → k ≠ T → (w1.setCell ⟨T, 0, none⟩ v').heap[k]? = some o := fun k o hk h1 h2 => by
    have hkl := (Array.getElem?_eq_some_iff.1 hk).1
    rw [Below.heap_setCell _ _ _ _ (by show k ≠ T; exact h2), hgrow.block k (by simp; omega) h1, Below.heap_alloc _ _ _ hkl]
    exact hk
  have hkT : Bk ≠ T := fun e => by
    have h1 : V.heap[T]? = some (.cells #[sv] 32 (0, 0)) := e ▸ h.kbox
    rw [show V.heap[T]? = _ from h.box] at h1
    cases h1
  refine ⟨⟨a2, ?_, ?_, ?_, h.below.trans (a5.mono hw), ?_, ?_, ?_, ?_⟩, a4, ?_, ?_⟩
  · rw [List.length_append, List.flatMap_append, List.length_singleton, ← Nat.add_assoc, ← List.append_assoc]
    simpa using a3
  · have j1 := hJ _ _ none h.told (World.grownBy_alloc V tmp none) (fun r e => by cases e)
    have j2 := hJ _ _ _ j1 hgrow (fun r e => by obtain ⟨q1, c, q2⟩ := hrowB r e; exact ⟨q1, _, q2, rfl⟩)
    exact hJ _ _ _ j2 (grown_set w1 T 0 v') (fun r e => by cases e; exact ⟨hT, _, a1, rfl⟩)
  · exact h.marks.keeps (a4.from _)
  · exact hblk X _ h.xbox (fun e => h.xne X e.symm rfl) hXT
  · exact hblk Bk _ h.kbox (h.kbox.not_row (by decide) h.row) hkT
  · intro g hg
    have hXl := h.xbox.lt
    rcases hat with e | e
    · exact h.xne g (e ▸ hg)
    · rw [e, World.size_alloc] at hg
      have := Option.some.inj hg
      omega
  · rw [World.size_setCell]; exact Nat.le_trans h.size hz
  · have h1 : (w1.setCell ⟨T, 0, none⟩ v').heap[Bk]? = some (.cells #[sv] 32 (0, 0)) := hblk Bk _ h.kbox (h.kbox.not_row (by decide) h.row) hkT
    exact h1.trans h.kbox.symm
  · have := a5.block b (by omega)
    exact this

theorem marks_more {B U D : Nat} {V : World} {ds : List Deferred} (h : Marks B V ds) (hl : MarksLt U ds) (hU : U ≤ D) (hB : B ≤ D) (hd : V.heap[D]? = some (.deferred (some []))) : Marks B V ({ target := .collected D, args := #[] } :: ds) := by
  obtain ⟨Ds, rfl, h2, h3⟩ := h
  refine ⟨D :: Ds, rfl, List.pairwise_cons.2 ⟨fun E hE e => ?_, h2⟩, fun E hE => ?_⟩
  · have := hl _ (List.mem_map.2 ⟨E, hE, rfl⟩) E rfl
    omega
  · rcases List.mem_cons.1 hE with rfl | hE
    · exact ⟨hB, hd⟩
    · exact h3 E hE
theorem intRd_at {W : World} {a : Option Addr} {m c : Nat} {kl : List Nat} (h : IntRd W (.slice a m c) (kl.map fun (k : Nat) => (k : Int))) (hm : kl.length = m) {g0 : Nat} (hg0 : g0 < W.heap.size) :
    ∃ b o, (m ≠ 0 → a = some ⟨b, o, none⟩) ∧ b < W.heap.size ∧ ∀ (j x : Nat), kl[j]? = some x → W.cell? ⟨b, o + j, none⟩ = some (.int .i64 (x : Nat)) := by
  obtain ⟨a', c', h1, h2⟩ := h
  obtain ⟨rfl, -, rfl⟩ := Value.slice.inj h1
  by_cases h0 : m = 0
  · exact ⟨g0, 0, fun e => absurd h0 e, hg0, fun j x hx => by have := (List.getElem?_eq_some_iff.1 hx).1; omega⟩
  · obtain ⟨b, o, g1, g2, g3⟩ := h2 (fun e => h0 (by rw [← hm, ← List.length_map (f := fun (k : Nat) => (k : Int)), e]; rfl))
    refine ⟨b, o, fun _ => g1, g2, fun j x hx => ?_⟩
    have hj := (List.getElem?_eq_some_iff.1 hx).1
    rw [g3 j (by rw [List.length_map]; exact hj), List.getD_eq_getElem?_getD, List.getElem?_map, hx]
    rfl
theorem backY_snd (kl : List Nat) : (backY kl).map (·.2) = kl.reverse := by
  unfold backY
  rw [List.map_map, ← List.map_reverse.symm]
  have : ∀ l : List Nat, (List.range l.length).map ((fun x : Nat × Nat => x.2) ∘ fun i => (i, l[i]?.getD 0)) = l := fun l => by
    apply List.ext_getElem?
    intro i
    rw [List.getElem?_map]
    by_cases h : i < l.length
    · rw [List.getElem?_range h, List.getElem?_eq_getElem h]
      simp [h]
    · rw [List.getElem?_eq_none (by simp; omega), List.getElem?_eq_none (by omega)]; rfl
  rw [this]
theorem plcs_more {D : List Nat} {e dp : Nat} {kl st : List Nat} (h : ∀ j ∈ kl, D[j]?.getD 0 - D[e]?.getD 0 = dp + 1) : plcs D e (kl ++ st) = plcs D e st ++ (backY kl).flatMap fun p => plc (p.2, dp + 1) := by
  unfold plcs
  rw [List.reverse_append, List.flatMap_append]
  congr 1
  have h1 : (backY kl).flatMap (fun p => plc (p.2, dp + 1)) = ((backY kl).map (·.2)).flatMap fun j => plc (j, dp + 1) := by rw [List.flatMap_map]
  rw [h1, backY_snd]
  have : ∀ l : List Nat, (∀ j ∈ l, D[j]?.getD 0 - D[e]?.getD 0 = dp + 1) → l.flatMap (fun j => plc (j, D[j]?.getD 0 - D[e]?.getD 0)) = l.flatMap fun j => plc (j, dp + 1) := fun l => by
    induction l with
    | nil => intro _; rfl
    | cons a l ih => intro hl; rw [List.flatMap_cons, List.flatMap_cons, hl a List.mem_cons_self, ih (fun j hj => hl j (List.mem_cons_of_mem _ hj))]
  exact this _ (fun j hj => h j (List.mem_reverse.1 hj))
theorem Well.kid_deep {ups : List Int} {D : List Nat} {n : Nat} (h : Well ups D n) {e x j dp : Nat} (ha : Anc ups x e) (hd : D[x]?.getD 0 - D[e]?.getD 0 = dp) (hj : j ∈ kidsI ups x) : D[j]?.getD 0 - D[e]?.getD 0 = dp + 1 := by
  have hu := of_decide_eq_true (List.mem_filter.1 hj).2
  obtain ⟨_, _, d, h1, h2⟩ := h.up hu
  rw [h2]
  rw [h1] at hd
  have h3 : D[e]?.getD 0 ≤ d := by
    by_cases hxe : x = e
    · subst hxe; rw [h1]; exact Nat.le_refl _
    · obtain ⟨a, b, g1, g2, g3⟩ := h.deeper ha hxe
      rw [h1] at g2
      cases g2
      rw [g1]
      exact Nat.le_of_lt g3
  have e1 : (some d).getD 0 = d := rfl
  have e2 : (some (d + 1)).getD 0 = d + 1 := rfl
  rw [e1] at hd
  rw [e2]
  omega

set_option maxRecDepth 100000 in
set_option maxHeartbeats 16000000 in
/-- Walk at an element: it and all in it are told. -/
theorem walk1_run (d : Nat) (hd : 2 ≤ d) (l Bd Be N : Nat) {w : World} {ev : Value} {ys : List YE} {ks : List (List Int)} {D : List Nat} (h : DocAt w ev ys) (hn : ys.length ≤ 1000000) (hkl : ks.length = ys.length) (hkk : ∀ (i : Nat) (y : YE), ys[i]? = some y → ∃ k, ks[i]? = some k ∧ k.length ≤ 1000000 ∧ IntRd w (.slice y.kb y.kn y.kc) k)
    (hv : validX (ys.map (·.up)) ks = true) (hWell : Well (ys.map (·.up)) D ys.length) (hks : ∀ i, i < ys.length → ks[i]? = some ((kidsI (ys.map (·.up)) i).map fun (k : Nat) => (k : Int))) (e : Nat) (he : e < ys.length) (hN : segN D e ≤ N) (hDs : ∀ d ∈ D, d ≤ 1000000)
    (hb : Boxed w Bd 25 ev) (hb2 : Boxed w Be 3 (.int .i64 (e : Nat)))
    (J Jx : List (Nat × Nat) → World → Prop) (W : World) (hW : Below w.heap.size w W) (hJ : AbidesR RwW W.heap.size J) (hJx : AbidesR RwW W.heap.size Jx)
    (hY : ∀ pre x W1, J pre W1 → pre.length < N → YieldAt Fence.wide (d - 1) Tryz.prog l (encII x) W1 fun e W' =>
      (e = .returned (.bool true) ∧ J (pre ++ [x]) W' ∧ KeepsFrom W.heap.size W1 W' ∧ KeepW w.heap.size W1 W') ∨ (e = .returned (.bool false) ∧ Jx (pre ++ [x]) W' ∧ KeepsFrom W.heap.size W1 W'))
    (h0 : J [] W) :
    CallsIn Fence.wide d Tryz.prog 30 #[.func (.yield l) #[] #[], .pointer (some ⟨Bd, 0, none⟩), .pointer (some ⟨Be, 0, none⟩)] W fun en W' => (∃ v, en = .returned v) ∧
      ((∃ xs, xs = segY D e ∧ J xs W') ∨ (∃ pre, pre <+: segY D e ∧ Jx pre W')) := by
  have hd1 : 1 ≤ d := by omega
  have HDOC := Lib.hid h
  obtain ⟨a, c, rfl, h2⟩ := h
  obtain ⟨n, hnn⟩ : ∃ n, ys.length = n := ⟨_, rfl⟩
  have hys : ys ≠ [] := fun e0 => by rw [e0] at he; simp at he
  obtain ⟨g, o, rfl, hg, hc⟩ := h2 hys
  have HN := Lib.hid hnn
  have HKK := Lib.hid (show ∀ X, Below w.heap.size w X → ∀ (i : Nat) (y : YE), ys[i]? = some y → ∃ k, ks[i]? = some k ∧ k.length ≤ 1000000 ∧ IntRd X (.slice y.kb y.kn y.kc) k from fun X hX i y hy => by
    obtain ⟨k, k1, k2, k3⟩ := hkk i y hy
    exact ⟨k, k1, k2, k3.below hX⟩)
  have HIS := Lib.hid (show ∀ X : World, Calls Tryz.prog 22 #[.agg #[.slice (some ⟨g, o, none⟩) n c], .int .i64 (e : Nat)] X fun en W' => en = .returned (.bool true) ∧ Below X.heap.size X W' from fun X => by
    have := is_any (some ⟨g, o, none⟩) n c (e : Nat) X
    rwa [decide_eq_true (show (0 : Int) ≤ (e : Nat) ∧ ((e : Nat) : Int) < (n : Nat) from ⟨by omega, by omega⟩)] at this)
  have HVA := Lib.hid (show ∀ X : World, Below w.heap.size w X → Calls Tryz.prog 13 #[.agg #[.slice (some ⟨g, o, none⟩) n c]] X fun en W' => en = .returned (.bool true) ∧ Below X.heap.size X W' from fun X hX => by
    have h1 := valid_any (HDOC.out.below hX) hn hkl (HKK.out X hX)
    rwa [HN.out, hv] at h1)
  obtain ⟨ups, hups⟩ : ∃ ups, ys.map (·.up) = ups := ⟨_, rfl⟩
  rw [hups, hnn] at hWell
  rw [hups, hnn] at hks
  rw [hnn] at he hn hb
  have HWell := Lib.hid hWell
  have HKS := Lib.hid hks
  have HC := Lib.hid hc
  have HJ := Lib.hid hJ
  have HJX := Lib.hid hJx
  have HY := Lib.hid hY
  have HW := Lib.hid hW
  have HBd := Lib.hid hb
  have HBe := Lib.hid hb2
  have hwW := hW.size
  have c0 := (hW.cell (p := ⟨Bd, 0, none⟩) hb.lt).trans hb.cell
  have c1 := (hW.cell (p := ⟨Be, 0, none⟩) hb2.lt).trans hb2.cell
  have H0 := Lib.hid h0
  clear hWell hks hc hJ hJx hY hW hb hb2 h2 h0 hv hkk hkl hups hnn
  refine callsIn_of_wp_marks Tryz.func30 rfl trivial ?_ rfl
  simp only [Tryz.ntmps30, List.size_toArray, List.length_cons, List.length_nil, Nat.reduceAdd, Nat.reduceSub, Array.replicate_succ, Array.replicate_zero, List.push_toArray, List.append_toArray, List.nil_append, List.cons_append]
  gi_wp2
  refine wpIn_scope_wide ?_
  gi_wp2_with (first
    | (refine ⟨trivial, ?_⟩; gi_at_call 22; refine (callsIn_wide.2 (HIS.out _)).mono ?_; rintro _ w2 ⟨rfl, hB2⟩; have HJ2 := Lib.hid (HJ.out [] W w2 none H0.out (grown_none hB2) (fun r e => by cases e)); have HW2 := Lib.hid (HW.out.trans (hB2.mono hwW)); have c2 := (HW2.out.cell (p := ⟨Bd, 0, none⟩) HBd.out.lt).trans HBd.out.cell; have hz2 := hB2.size; clear hB2)
    | (refine ⟨trivial, ?_⟩; gi_at_call 13; refine (callsIn_wide.2 (HVA.out _ HW2.out)).mono ?_; rintro _ w3 ⟨rfl, hB3⟩; have HJ3 := Lib.hid (HJ.out [] w2 w3 none HJ2.out (grown_none hB3) (fun r e => by cases e)); have HW3 := Lib.hid (HW2.out.trans (hB3.mono HW2.out.size)); have c3 := (HW3.out.cell (p := ⟨Be, 0, none⟩) HBe.out.lt).trans HBe.out.cell; have hz3 := hB3.size; clear hB3))
  refine wpIn_label ?_
  gi_wp2
  obtain ⟨G0, hG0⟩ : ∃ G0, w3.heap.size = G0 := ⟨_, rfl⟩
  obtain ⟨T, hT⟩ : ∃ T, w3.heap.size + 1 = T := ⟨_, rfl⟩
  obtain ⟨W4, hW4⟩ : ∃ W4, (w3.alloc (.cells #[.int .i64 (e : Nat), .int .i64 0] 73)).alloc (.cells #[.slice (some ⟨w3.heap.size, 0, none⟩) 1 1] 74) = W4 := ⟨_, rfl⟩
  rw [hW4, hT, hG0]
  have hS0 : WkS w W.heap.size T ups D e J e [e] (.slice (some ⟨w3.heap.size, 0, none⟩) 1 1) [] W4 := by
    have bt : Boxed W4 T 74 (.slice (some ⟨w3.heap.size, 0, none⟩) 1 1) := by
      rw [← hW4, ← hT]
      have := Boxed.new (w3.alloc (.cells #[.int .i64 (e : Nat), .int .i64 0] 73)) 74 (.slice (some ⟨w3.heap.size, 0, none⟩) 1 1)
      rwa [World.size_alloc] at this
    have bg : BlkAt W4 w3.heap.size 73 #[.int .i64 (e : Nat), .int .i64 0] := by rw [← hW4]; exact (BlkAt.new _ _ _).alloc _
    refine ⟨AtK.start ups e, ?_, bt, ⟨plcs_len D e [e], .inr ⟨w3.heap.size, 1, #[.int .i64 (e : Nat), .int .i64 0], rfl, by omega, bg, Nat.le_refl _, by unfold maxLen; omega, rfl, ?_⟩⟩, Marks.nil _ _, ?_, by omega, by rw [← hW4]; simp; omega⟩
    · rw [segTo_start, ← hW4]
      exact HJ.out.alloc _ (HJ.out.alloc _ HJ3.out)
    · show [Value.int .i64 (e : Nat), .int .i64 0] = plcs D e [e]
      unfold plcs plc
      simp
    · rw [← hW4]
      exact (HW3.out.alloc (by omega) _).alloc (by simp; omega) _
  have HS0 := Lib.hid hS0
  have hWT : W.heap.size ≤ T := by omega
  clear hS0 hW4 hT hG0 c0 c1 c2 c3 HJ2 HJ3 H0 HIS HVA hz2 hz3 HW2
  refine wpIn_loop_count (fun mm aa V => ∃ (k : Nat) (st : List Nat) (tv : Value) (Ds : List Deferred) (u5 u6 u7 u20 u21 u22 u23 u24 u25 u26 u27 u28 u29 u30 u31 u32 u33 u34 u35 u36 u37 u38 u39 u40 u41 u42 u43 u44 u45 u46 u47 u48 u49 u50 u51 u52 u53 u54 u55 u56 u57 u58 : Value), mm = n - k ∧ k ≤ n ∧ aa = { tmps := #[.func (.yield l) #[] #[], .pointer (some ⟨Bd, 0, none⟩), .pointer (some ⟨Be, 0, none⟩), undef, .pointer (some ⟨T, 0, none⟩), u5, u6, u7, .agg #[.slice (some ⟨g, o, none⟩) n c], .int .i64 (e : Nat), .bool true, .bool false, .bool false, .agg #[.slice (some ⟨g, o, none⟩) n c], .bool true, .bool false, .bool false, .int .i64 (e : Nat), .agg #[.int .i64 (e : Nat), .int .i64 0], .slice (some ⟨G0, 0, none⟩) 1 1, u20, u21, u22, u23, u24, u25, u26, u27, u28, u29, u30, u31, u32, u33, u34, u35, u36, u37, u38, u39, u40, u41, u42, u43, u44, u45, u46, u47, u48, u49, u50, u51, u52, u53, u54, u55, u56, u57, u58], defers := Ds } ∧ WkS w W.heap.size T ups D e J k st tv Ds V) (n - e) ?start ?round
  case start => exact ⟨e, [e], _, [], _, _, _, _, _, _, _, _, _, _, _, _, _, _, _, _, _, _, _, _, _, _, _, _, _, _, _, _, _, _, _, _, _, _, _, _, _, _, _, _, _, _, rfl, by omega, rfl, HS0.out⟩
  case round =>
    rintro mm aa V ⟨k, st, tv, Ds, u5, u6, u7, u20, u21, u22, u23, u24, u25, u26, u27, u28, u29, u30, u31, u32, u33, u34, u35, u36, u37, u38, u39, u40, u41, u42, u43, u44, u45, u46, u47, u48, u49, u50, u51, u52, u53, u54, u55, u56, u57, u58, rfl, hkn, rfl, hS⟩
    dsimp only
    obtain ⟨ta, tc, rfl⟩ := ownsRow_slice' hS.row
    have cT := hS.box.cell
    have fT := hS.box.frozen
    have HS := Lib.hid hS
    cases st with
    | nil =>
      have hend := HWell.out.at_end he hkn hS.at_
      have HE := Lib.hid (show segTo D e k = segY D e by rw [hend, segTo_end])
      clear hS hend
      gi_wp2
      rw [Exit.noGoto_normal]
      refine leaves_marks (fun X => J (segY D e) X) HS.out.marks (by rw [← HE.out]; exact HS.out.told) (fun X D' hX hD hX2 => HJ.out.putObj _ hX hD hX2 rfl) (fun X hX => ⟨_, results_none rfl _ _ _, ⟨_, rfl⟩, .inl ⟨_, rfl, hX⟩⟩)
    | cons x st =>
      obtain ⟨rfl, hkn2, hst, hanc, hnext⟩ := HWell.out.at_pop he hS.at_
      obtain ⟨L, hL⟩ : ∃ L, st.length = L := ⟨_, rfl⟩
      have hLn : L < n := by
        rw [← hL, hst, ← HWell.out.ulen]
        exact waits1_len (by rw [HWell.out.ulen]; exact hkn2)
      obtain ⟨dp, hdp⟩ : ∃ dp, D[x]?.getD 0 - D[e]?.getD 0 = dp := ⟨_, rfl⟩
      have hS2 := HS.out
      have hrow := hS2.row
      rw [List.length_cons, hL] at hrow
      obtain ⟨gg, cap, hform, hgB, hgl⟩ := World.ownsRow.form hrow (by omega)
      obtain ⟨rfl, -, rfl⟩ := Value.slice.inj hform
      rw [List.length_cons, hL] at cT
      have hcapL : L ≤ tc := by
        rcases hrow.2 with ⟨h1, _⟩ | ⟨g2, c2, cur, h1, _, _, h4, _⟩
        · cases h1
        · obtain ⟨-, -, rfl⟩ := Value.slice.inj h1; omega
      have ct0 : V.cell? ⟨gg, L * 2, none⟩ = some (.int .i64 x) := by
        rw [World.ownsRow.cellAt hrow (L * 2) (by omega), plcs_cons, List.getElem?_append_right (by rw [plcs_len, hL]; exact Nat.le_refl _), plcs_len, hL, Nat.sub_self]
        rfl
      have ct1 : V.cell? ⟨gg, L * 2 + 1, none⟩ = some (.int .i64 dp) := by
        rw [World.ownsRow.cellAt hrow (L * 2 + 1) (by omega), plcs_cons, List.getElem?_append_right (by rw [plcs_len, hL]; omega), plcs_len, hL, show L * 2 + 1 - L * 2 = 1 by omega]
        show some (Value.int .i64 ((D[x]?.getD 0 - D[e]?.getD 0 : Nat) : Int)) = _
        rw [hdp]
      obtain ⟨V1, hV1⟩ : ∃ V1, V.alloc (.cells #[.int .i64 x, .int .i64 dp] 73) = V1 := ⟨_, rfl⟩
      obtain ⟨V2, hV2⟩ : ∃ V2, V1.setCell ⟨T, 0, none⟩ (.slice (some ⟨gg, 0, none⟩) L tc) = V2 := ⟨_, rfl⟩
      have hpop := WkS.pop HJ.out (V2 := V2) (g := gg) (cap := tc) (st := st) hS2 (by rw [hdp, hL, hV1]; exact hV2) hwW
      obtain ⟨pJ, pT, pR, pM, pB, pX, pZ⟩ := hpop
      rw [hL] at pT pR
      rw [hdp] at pX
      have ft1 := (show Boxed V1 T 74 (.slice (some ⟨gg, 0, none⟩) (L + 1) tc) from by rw [← hV1]; have := hS2.box; rw [List.length_cons, hL] at this; exact this.alloc _)
      have ct2 := ft1.cell
      have ft2 := ft1.frozen
      have cx0 := pX.cell 0
      have cx1 := pX.cell 1
      have hsl : L < n := hLn
      have q1 : (0 : Int) ≤ (L : Int) := by omega
      have hsg : x < e + segN D e := HWell.out.seg_lt he hkn2 (HWell.out.anc_le hanc) (fun j h1 h2 => hnext.told j h1 (by omega))
      have hex := HWell.out.anc_le hanc
      have hlen : (segTo D e x).length < N := by
        unfold segTo
        rw [List.length_map, List.length_range]
        omega
      obtain ⟨fn, tmps, assign, body, hy, hR⟩ := HY.out (segTo D e x) (x, dp) V2 pJ hlen
      have HR := Lib.hid hR
      simp only [encII] at hy
      have PT := Lib.hid pT
      have PR := Lib.hid pR
      have PM := Lib.hid pM
      have PB := Lib.hid pB
      have PX := Lib.hid pX
      have HNx := Lib.hid hnext
      have HAn := Lib.hid hanc
      have HST := Lib.hid hst
      have HDP := Lib.hid hdp
      have HL := Lib.hid hL
      clear hR pT pR pM pB pX hnext hanc hst hdp hL hrow hS hS2 hform ft1 hlen pJ
      gi_wp2
      refine HR.out.mono ?_
      rintro en W3 (⟨rfl, hJ3, hkf, hkp⟩ | ⟨rfl, hJx3, hkf⟩)
      · have HST2 := Lib.hid (show segTo D e (x + 1) = segTo D e x ++ [(x, dp)] by rw [segTo_step (HWell.out.anc_le HAn.out), HDP.out])
        have HJ3 := Lib.hid (show J (segTo D e (x + 1)) W3 by rw [HST2.out]; exact hJ3)
        have HT3 := Lib.hid (show Boxed W3 T 74 (.slice (some ⟨gg, 0, none⟩) L tc) from hkp.2.2 _ _ PT.out)
        have HR3 := Lib.hid (hkp.2.1.owns PR.out)
        have HX3 := Lib.hid (show BlkAt W3 V.heap.size 73 #[.int .i64 x, .int .i64 dp] from hkp.2.1 _ _ PX.out)
        have HB3 := Lib.hid (PB.out.trans hkp.1)
        have HM3 := Lib.hid (PM.out.keeps hkf)
        have HZ3 := Lib.hid (show W.heap.size ≤ W3.heap.size from Nat.le_trans pZ hkf.size)
        obtain ⟨y, hy2⟩ : ∃ y, ys[x]? = some y := ⟨_, List.getElem?_eq_getElem (by rw [HN.out]; exact hkn2)⟩
        have e0 := (HB3.out.cell (p := ⟨Bd, 0, none⟩) HBd.out.lt).trans HBd.out.cell
        have e1 := (HB3.out.cell (p := ⟨g, o + x * 6 + 4, none⟩) hg).trans (DocAt.six HC.out hy2).2.2.2.2.1
        have e2 := HX3.out.cell 0
        have e3 := HX3.out.cell 1
        obtain ⟨kl, hkl⟩ : ∃ kl, kidsI ups x = kl := ⟨_, rfl⟩
        obtain ⟨kk, hk1, hk2, hk3⟩ := HKK.out w (Below.refl _ _) x y hy2
        rw [HKS.out x hkn2, hkl] at hk1
        obtain rfl := Option.some.inj hk1
        rw [List.length_map] at hk2
        have q3 : (0 : Int) ≤ (x : Int) := by omega
        have q4 : (x : Int) < (n : Int) := by omega
        obtain ⟨kb, kc, hks3⟩ : ∃ kb kc, Value.slice y.kb y.kn y.kc = .slice kb kl.length kc := by
          obtain ⟨a1, a2, a3, _⟩ := hk3
          rw [List.length_map] at a3
          exact ⟨_, _, a3⟩
        rw [hks3] at e1 hk3
        have HK3 := Lib.hid hk3
        have HKL := Lib.hid hkl
        have HY2 := Lib.hid hy2
        obtain ⟨m, hm⟩ : ∃ m, kl.length = m := ⟨_, rfl⟩
        rw [hm] at e1 hk2
        have HM := Lib.hid hm
        clear hJ3 hkf hkp hk3 hks3 hkl hy2 hk1 hm hy hV1 hV2 cT fT ct0 ct1 ct2 ft2 cx0 cx1
        gi_wp2_with (refine ⟨trivial, ?_⟩; gi_at_call 31; refine (callsIn_wide.2 (back_any _ _ _ _)).mono ?_; rintro en W5 ⟨rfl, hW5⟩)
        have hk9 := HK3.out
        rw [HM.out] at hk9
        obtain ⟨b, o2, hka, hbw, hkc⟩ := intRd_at hk9 HM.out hg
        have hb5 : Boxed W5 W3.heap.size 32 (.slice kb m kc) := by rw [← hW5]; exact Boxed.new _ _ _
        have hz5 : W5.heap.size = W3.heap.size + 1 := by rw [← hW5]; simp
        have hB5 : Below w.heap.size w W5 := by rw [← hW5]; exact HB3.out.alloc (Nat.le_trans hwW HZ3.out) _
        have hM5 : Marks W.heap.size W5 Ds := by rw [← hW5]; exact HM3.out.keeps ((KeepsOthers.alloc W3 _).from _)
        have hlt5 : MarksLt W5.heap.size Ds := hM5.lt (Nat.le_refl _)
        have hX5 := HX3.out.lt
        have hT5 := HT3.out.lt
        have hxne : ∀ g1, (Value.slice (some ⟨gg, 0, none⟩) L tc).ownBlock = some g1 → g1 ≠ V.heap.size := fun g1 e1 => by
          have e2 : gg = g1 := Option.some.inj e1
          omega
        have hI0 : WkI w W3.heap.size (.slice kb m kc) W.heap.size T V.heap.size L (plcs D e st) x dp (J (segTo D e (x + 1))) Ds [] (.slice (some ⟨gg, 0, none⟩) L tc) W5 := by
          refine ⟨?_, ?_, ?_, hM5, hB5, ?_, hb5, hxne, by have := HZ3.out; omega⟩
          · rw [← hW5]; exact HT3.out.alloc _
          · rw [List.flatMap_nil, List.append_nil, List.length_nil, Nat.add_zero, ← hW5]; exact HR3.out.alloc _
          · rw [← hW5]; exact HJ.out.alloc _ HJ3.out
          · rw [← hW5]; exact HX3.out.alloc _
        have hZ3 := HZ3.out
        have hJw : ∀ (W W' : World) (row : Option Nat), J (segTo D e (x + 1)) W → W.grownBy W' row → (∀ r, row = some r → _ ≤ r ∧ ∃ o : Obj, W.heap[r]? = some o ∧ RwW o = true) → J (segTo D e (x + 1)) W' := fun A B row => HJ.out _ A B row
        refine wpIn_rangeFunc_ownG rfl (by omega) (gf := 42) (lb := #[.pointer (some ⟨W3.heap.size, 0, none⟩)]) rfl trivial (enters_of Tryz.func42 (by kernel_rfl) rfl)
          (back_stops (d - 1) (by omega) W3.heap.size b o2 m kc kb kl HM.out hk2 hka W5 (Nat.lt_of_lt_of_le hbw hB5.size) hb5 (fun j z hz => (hB5.cell (p := ⟨b, o2 + j, none⟩) hbw).trans (hkc j z hz)))
          (fun h k => ⟨keepB_t h.1 k.1, keepB_t h.2 k.2⟩) (fun Z l3 q q' h1 h2 h3 h4 => ⟨keepB_b (w := W5) (by omega) Z l3 q q' h1 h2 h3 h4, keepB_b (w := W5) (Nat.lt_of_lt_of_le hbw hB5.size) Z l3 q q' h1 h2 h3 h4⟩) (Below.refl _ _) (fun _ => rfl)
          (fun pre Z => ∃ tv, WkI w W3.heap.size (.slice kb m kc) W.heap.size T V.heap.size L (plcs D e st) x dp (J (segTo D e (x + 1))) Ds pre tv Z) (fun _ _ _ => False)
          (wkI_own (by omega) (by omega) hlt5 hJw) (fun _ _ _ _ _ hs _ _ => hs) ⟨_, hI0⟩
          (fun p => { tmps := #[.func (.yield l) #[] #[], .pointer (some ⟨Bd, 0, none⟩), .pointer (some ⟨Be, 0, none⟩), undef, .pointer (some ⟨T, 0, none⟩), .pointer (some ⟨V.heap.size, 0, none⟩), u6, .int .i64 p.2, .agg #[.slice (some ⟨g, o, none⟩) n c], .int .i64 (e : Nat), .bool true, .bool false, .bool false, .agg #[.slice (some ⟨g, o, none⟩) n c], .bool true, .bool false, .bool false, .int .i64 (e : Nat), .agg #[.int .i64 (e : Nat), .int .i64 0], .slice (some ⟨G0, 0, none⟩) 1 1, .slice (some ⟨gg, 0, none⟩) (L + 1) tc, .int .i64 ((L : Int) + 1), .bool true, .slice (some ⟨gg, 0, none⟩) (L + 1) tc, .slice (some ⟨gg, 0, none⟩) (L + 1) tc, .int .i64 ((L : Int) + 1), .int .i64 L, .pointer (some ⟨gg, L * 2, none⟩), .agg #[.int .i64 x, .int .i64 dp], .slice (some ⟨gg, 0, none⟩) (L + 1) tc, .slice (some ⟨gg, 0, none⟩) (L + 1) tc, .int .i64 ((L : Int) + 1), .int .i64 L, .slice (some ⟨gg, 0, none⟩) L tc, .func (.yield l) #[] #[], .pointer (some ⟨V.heap.size, 0, none⟩), .int .i64 x, .pointer (some ⟨V.heap.size, 1, none⟩), .int .i64 dp, .bool true, .bool false, .pointer (some ⟨Bd, 0, none⟩), .slice (some ⟨g, o, none⟩) n c, .pointer (some ⟨V.heap.size, 0, none⟩), .int .i64 x, .pointer (some ⟨g, o + x * 6, none⟩), .pointer (some ⟨g, o + x * 6 + 4, none⟩), .slice kb m kc, .func (.func 42) #[] #[.pointer (some ⟨W3.heap.size, 0, none⟩)], .int .i64 p.1, .int .i64 p.2, u51, u52, u53, u54, u55, u56, u57, u58], defers := [] }) ?assign ?body ?done ?stop
        case assign =>
          rintro l3 ⟨p1, p2⟩ Z K hK
          simp only [encII]
          gi_wp2
          exact hK
        case body =>
          rintro l3 pre ⟨p1, p2⟩ Z ⟨tv, hI⟩ hlt
          have cB := hI.box.cell
          have fB := hI.box.frozen
          have cX1 := hI.xbox.cell 1
          have hLp : (L + pre.length + 1) * 16 ≤ 140737488355328 := by omega
          have hzZ := hI.size
          have HI := Lib.hid hI
          have hdpb : (dp : Int) ≤ 1000000 := by
            rw [← HDP.out]
            obtain ⟨dx, hdx⟩ : ∃ dx, D[x]? = some dx := ⟨_, List.getElem?_eq_getElem (by rw [HWell.out.len]; exact hkn2)⟩
            have h1 := hDs dx (List.mem_of_getElem? hdx)
            have h2 : D[x]?.getD 0 = dx := by rw [hdx]; rfl
            omega
          clear hI
          gi_wp2_with (gi_at_builtin; refine wpListIn_app_at _ rfl _ _ _ _ 2 16 slP rfl W.heap.size (by simp; omega) tv (L + pre.length) _ rfl (HI.out.row.alloc _) ⟨Z.heap.size, 0, none⟩ [.int .i64 p2, .int .i64 ((dp : Int) + 1)] rfl rfl (news_blk (BlkAt.new Z _ #[.int .i64 p2, .int .i64 ((dp : Int) + 1)])) (by simp [Value.oneCell']) hLp ?_; intro g6 c6 w6 hown hgrow hat; have hb6 := (Boxed.appended HI.out.box (by decide) HI.out.row HI.out.size hWT hown hgrow).1; have c6c := hb6.cell; have c6f := hb6.frozen)
          have hTV : T < V.heap.size := HS.out.box.lt
          have hput := wkI_put (b := b) (p := (p1, p2)) HI.out hwW hWT (by omega) hbw hJw hat (by simpa [plc] using hown) hgrow
          exact ⟨hput.2.1.from _, hput.2.2, ⟨_, hput.1⟩⟩
        case done =>
          rintro D' xs Z hD' rfl ⟨tv, hI⟩ hK
          have hrow' : Z.ownsRow W.heap.size 73 2 tv (kl ++ st).length (plcs D e (kl ++ st)) := by
            rw [plcs_more (fun j hj => HWell.out.kid_deep HAn.out HDP.out (by rw [HKL.out]; exact hj)), List.length_append, HL.out, Nat.add_comm, ← backY_len kl]
            exact hI.row
          have hnx := HNx.out
          rw [HKL.out] at hnx
          have hfin : WkS w W.heap.size T ups D e J (x + 1) (kl ++ st) tv ({ target := .collected D', args := #[] } :: Ds) Z := ⟨hnx, hI.told, hI.box, hrow', marks_more hI.marks hlt5 hD' (by omega) hK, hI.below, hWT, hI.size⟩
          gi_wp2
          exact ⟨by omega, x + 1, kl ++ st, tv, _, _, _, _, _, _, _, _, _, _, _, _, _, _, _, _, _, _, _, _, _, _, _, _, _, _, _, _, _, _, _, _, _, _, _, _, _, _, _, _, _, _, _, by omega, by omega, rfl, hfin⟩
        case stop =>
          rintro D' cc pre Z _ _ hf
          exact hf.elim
      · have HPre := Lib.hid (show segTo D e x ++ [(x, dp)] <+: segY D e by rw [← HDP.out, ← segTo_step (HWell.out.anc_le HAn.out)]; exact segTo_pre (by omega))
        have HJx3 := Lib.hid hJx3
        have HM3 := Lib.hid (PM.out.keeps hkf)
        clear hJx3 hkf
        gi_wp2
        rw [Exit.noGoto_normal]
        exact leaves_marks (fun X => Jx (segTo D e x ++ [(x, dp)]) X) HM3.out HJx3.out (fun X D' hX hD hX2 => HJX.out.putObj _ hX hD hX2 rfl) (fun X hX => ⟨_, results_none rfl _ _ _, ⟨_, rfl⟩, .inr ⟨_, HPre.out, hX⟩⟩)
end Go.Proofs.YtlldpmjnledhgaaGreatDoor
namespace Go.Proofs.YtlldpmjnledhgaaGreatDoor
open Go.RowKit Go.Shelf
set_option linter.unusedVariables false
attribute [local go_sem] Oper.semAt_some

theorem slI : SlT Tryz.prog 32 3 1 8 := SlT.mk Tryz.underlying32 (z := .int .i64 0) (by kernel_rfl) rfl (by decide) (by decide)
abbrev nv (k : Nat) : Value := .int .i64 k
theorem walk_any (a : Option Addr) (n c : Nat) (e : Int) (w : World) :
    Calls Tryz.prog 16 #[.agg #[.slice a n c], .int .i64 e] w fun en w' => en = .returned (.func (.func 30) #[] #[.pointer (some ⟨w.heap.size, 0, none⟩), .pointer (some ⟨w.heap.size + 1, 0, none⟩)]) ∧ (w.alloc (.cells #[.slice a n c] 25)).alloc (.cells #[.int .i64 e] 3) = w' := by
  go_enter Tryz.func16, Tryz.ntmps16
  go_wp2
  go_ret
  exact ⟨rfl, rfl⟩
/-- All places' blocks of a world. -/
def placesOf (W : World) : List (Nat × TypeId × Array Value) := (List.range W.heap.size).filterMap fun k => match (W.heap[k]? : Option Obj) with
  | some (Obj.cells cur t (0, 0)) => if t = 73 ∨ t = 74 then some (k, t, cur) else none
  | _ => none
theorem placesOf_mem {W : World} {k : Nat} {t : TypeId} {cur : Array Value} : (k, t, cur) ∈ placesOf W ↔ W.heap[k]? = some (.cells cur t (0, 0)) ∧ (t = 73 ∨ t = 74) := by
  unfold placesOf
  rw [List.mem_filterMap]
  constructor
  · rintro ⟨k', hk, h⟩
    split at h
    · rename_i cur' t' he
      split at h
      · rename_i ht
        cases h
        exact ⟨he, ht⟩
      · cases h
    · cases h
  · rintro ⟨h1, h2⟩
    refine ⟨k, List.mem_range.2 (Array.getElem?_eq_some_iff.1 h1).1, ?_⟩
    rw [h1]
    simp [h2]
theorem keepW_put {n D : Nat} (hn : n ≤ D) (W : World) (o o' : Obj) (ho : W.heap[D]? = some o) (hc : o.isCells = false) : KeepW n W (W.putObj D o') := by
  have hg := grownBy_putObj' W D o'
  have hk : ∀ (t : TypeId), KeepT t W (W.putObj D o') := fun t k cur h => (hg.block k (Array.getElem?_eq_some_iff.1 h).1 (fun e => by
    cases e
    rw [h] at ho
    cases ho
    cases hc)).trans h
  exact ⟨⟨hg.os, hg.tape, hg.output, hg.size, fun k hk => hg.block k (by have := (Array.getElem?_eq_some_iff.1 ho).1; omega) (fun e => by cases e; omega)⟩, hk _, hk _⟩
/-- What the iterator turns is neither of the two rows. -/
theorem ts_ownedR {base BA BB : Nat} {L : List (Nat × TypeId × Array Value)} {W W' : World} {bA bB vA : Value} {kA : Nat} {xA : List Value} {vB : Value} {kB : Nat} {xB : List Value}
    (h : TS base BA BB 32 32 3 3 1 1 L W W bA bB vA kA xA vB kB xB) (hL : ∀ p ∈ L, p.2.1 ≠ 73 ∧ p.2.1 ≠ 74) {row : Option Nat} (hg : W.grownBy W' row) (hr : ∀ r, row = some r → ∃ o : Obj, W.heap[r]? = some o ∧ RwW o = true) :
    TS base BA BB 32 32 3 3 1 1 L W' W' bA bB vA kA xA vB kB xB := by
  have hne : ∀ (b : Nat) (cs : Array Value) (t : TypeId), t ≠ 73 → t ≠ 74 → W.heap[b]? = some (.cells cs t (0, 0)) → some b ≠ row := fun b cs t h1 h2 hb e => by
    obtain ⟨o, ho, hc⟩ := hr b e.symm
    rw [hb] at ho
    cases ho
    unfold RwW at hc
    simp [h1, h2] at hc
  have hrow : ∀ {v : Value} {k : Nat} {xs : List Value}, W.ownsRow base 3 1 v k xs → W'.ownsRow base 3 1 v k xs := fun {v k xs} hv => hv.kept hg (by
    rcases hv.2 with ⟨e, _⟩ | ⟨g, cap, cur, e, _, hgg, _⟩
    · subst e; exact .inl rfl
    · subst e; exact .inr (hne _ _ _ (by decide) (by decide) hgg))
  exact { boxA := h.boxA.kept hg (hne _ _ _ (by decide) (by decide) h.boxA), boxB := h.boxB.kept hg (hne _ _ _ (by decide) (by decide) h.boxB), rowA := hrow h.rowA, rowB := hrow h.rowB, apart := h.apart, aA := h.aA, aB := h.aB, bA' := h.bA', bB' := h.bB'
          stay := fun p hp => by
            obtain ⟨h1, h2⟩ := h.stay p hp
            exact ⟨h1.grown hg (hne _ _ _ (hL p hp).1 (hL p hp).2 h1), h2⟩
          keeps := KeepsOthers.refl _, below := Below.refl _ _, room := Nat.le_trans h.room hg.size, ne := h.ne, geA := h.geA, geB := h.geB }
/-- With all places' blocks that stay. -/
theorem ts_places {base BA BB : Nat} {L : List (Nat × TypeId × Array Value)} {W : World} {bA bB vA : Value} {kA : Nat} {xA : List Value} {vB : Value} {kB : Nat} {xB : List Value}
    (h : TS base BA BB 32 32 3 3 1 1 L W W bA bB vA kA xA vB kB xB) : TS base BA BB 32 32 3 3 1 1 (L ++ placesOf W) W W bA bB vA kA xA vB kB xB :=
  have hst : ∀ p ∈ L ++ placesOf W, BlkAt W p.1 p.2.1 p.2.2 ∧ vA.ownBlock ≠ some p.1 ∧ vB.ownBlock ≠ some p.1 ∧ p.1 ≠ BA ∧ p.1 ≠ BB := fun p hp => by
    rcases List.mem_append.1 hp with hp | hp
    · exact h.stay p hp
    · obtain ⟨k, t, cur⟩ := p
      obtain ⟨h1, h2⟩ := placesOf_mem.1 hp
      have hb : BlkAt W k t cur := h1
      refine ⟨hb, blk_ne h.rowA hb (by rcases h2 with rfl | rfl <;> decide), blk_ne h.rowB hb (by rcases h2 with rfl | rfl <;> decide), fun e => ?_, fun e => ?_⟩
      · have e' : k = BA := e
        subst e'
        rw [show W.heap[k]? = _ from h.boxA] at h1
        cases h1
        rcases h2 with h2 | h2 <;> exact absurd h2 (by decide)
      · have e' : k = BB := e
        subst e'
        rw [show W.heap[k]? = _ from h.boxB] at h1
        cases h1
        rcases h2 with h2 | h2 <;> exact absurd h2 (by decide)
  { h with stay := hst }
theorem ts_keepT {base BA BB : Nat} {L : List (Nat × TypeId × Array Value)} {W W' : World} {bA bB vA : Value} {kA : Nat} {xA : List Value} {vB : Value} {kB : Nat} {xB : List Value} {tA tB eA eB : TypeId}
    (h : TS base BA BB tA tB eA eB 1 1 (L ++ placesOf W) W W' bA bB vA kA xA vB kB xB) : KeepT 73 W W' ∧ KeepT 74 W W' :=
  ⟨fun k cur hk => (h.stay (k, _, cur) (List.mem_append_right _ (placesOf_mem.2 ⟨hk, .inl rfl⟩))).1, fun k cur hk => (h.stay (k, _, cur) (List.mem_append_right _ (placesOf_mem.2 ⟨hk, .inr rfl⟩))).1⟩

set_option maxRecDepth 100000 in
set_option maxHeartbeats 2000000 in
theorem told8_any {lb : Array Value} {Y : List (Nat × Nat)} {N : Nat} (hN : N ≤ 100000) (hYN : Y.length ≤ N) (stop : Int) (w : World) (hseq : SeqStopsR RwW Fence.wide 2 Tryz.prog 30 lb encII (KeepW w.heap.size) (fun ys => ys = Y) (fun pre => pre <+: Y) N w) :
    Calls Tryz.prog 17 #[.func (.func 30) #[] lb, .int .i64 stop] w fun e W' =>
      ∃ vA vB, e = .returned (.tuple #[vA, vB]) ∧ W'.ownsRow w.heap.size 3 1 vA (cutL stop Y).length ((cutL stop Y).map fun p => nv p.1) ∧
        W'.ownsRow w.heap.size 3 1 vB (cutL stop Y).length ((cutL stop Y).map fun p => nv p.2) ∧ Below w.heap.size w W' := by
  refine (callsIn_wide (n := 3)).1 ?_
  refine callsIn_of_wp_marks Tryz.func17 rfl trivial ?_ rfl
  simp only [Tryz.ntmps17, List.size_toArray, List.length_cons, List.length_nil, Nat.reduceAdd, Nat.reduceSub, Array.replicate_succ, Array.replicate_zero, List.push_toArray, List.append_toArray, List.nil_append, List.cons_append]
  gi_wp2
  obtain ⟨W0, hW0⟩ : ∃ W0, ((w.alloc (.cells #[.int .i64 stop] 3)).alloc (.cells #[.slice none 0 0] 32)).alloc (.cells #[.slice none 0 0] 32) = W0 := ⟨_, rfl⟩
  have hB0 : Below w.heap.size w W0 := by rw [← hW0]; exact (((Below.refl _ w).alloc (Nat.le_refl _) _).alloc (by simp) _).alloc (by simp; omega) _
  have k0 : BlkAt W0 w.heap.size 3 #[.int .i64 stop] := by rw [← hW0]; exact ((BlkAt.new w _ _).alloc _).alloc _
  have k1 : Boxed W0 (w.heap.size + 1) 32 (.slice none 0 0) := by
    rw [← hW0]
    have := Boxed.new (w.alloc (.cells #[.int .i64 stop] 3)) 32 (.slice none 0 0)
    simp only [World.size_alloc] at this
    exact this.alloc _
  have k2 : Boxed W0 (w.heap.size + 1 + 1) 32 (.slice none 0 0) := by
    rw [← hW0]
    have := Boxed.new ((w.alloc (.cells #[.int .i64 stop] 3)).alloc (.cells #[.slice none 0 0] 32)) 32 (.slice none 0 0)
    simp only [World.size_alloc] at this
    exact this
  have hz0 : W0.heap.size = w.heap.size + 3 := by rw [← hW0]; simp
  rw [hW0]
  clear hW0
  have T0 : TS w.heap.size (w.heap.size + 1) (w.heap.size + 1 + 1) 32 32 3 3 1 1 [(w.heap.size, 3, #[.int .i64 stop])] W0 W0 (.slice none 0 0) (.slice none 0 0) (.slice none 0 0) 0 [] (.slice none 0 0) 0 [] :=
    { boxA := k1, boxB := k2, rowA := World.ownsRow_nil _ _ _ _, rowB := World.ownsRow_nil _ _ _ _, apart := by simp [Value.ownBlock], aA := by simp [Value.ownBlock], aB := by simp [Value.ownBlock], bA' := by simp [Value.ownBlock], bB' := by simp [Value.ownBlock], stay := by
        intro p hp
        simp at hp
        subst hp
        exact ⟨k0, by simp [Value.ownBlock], by simp [Value.ownBlock], by simp, by simp; omega⟩
      keeps := KeepsOthers.refl _, below := Below.refl _ _, room := by omega, ne := by simp, geA := by omega, geB := by omega }
  refine wpIn_rangeFunc_R rwW_else rfl (by omega) (gf := 30) (lb := lb) rfl trivial (enters_of Tryz.func30 (by kernel_rfl) rfl)
    hseq KeepW.trans (fun Z q q' h1 h2 => keepW_put (by omega) Z q q' h1 h2) hB0 (fun _ => rfl)
    (fun pre W => (∃ vA vB, TS w.heap.size (w.heap.size + 1) (w.heap.size + 1 + 1) 32 32 3 3 1 1 [(w.heap.size, 3, #[.int .i64 stop])] W W vA vB vA pre.length (pre.map fun p => nv p.1) vB pre.length (pre.map fun p => nv p.2)) ∧ (1 ≤ stop → (pre.length : Int) < stop) ∧ Below w.heap.size w W)
    (fun c pre W => (∃ vA vB, TS w.heap.size (w.heap.size + 1) (w.heap.size + 1 + 1) 32 32 3 3 1 1 [(w.heap.size, 3, #[.int .i64 stop])] W W vA vB vA pre.length (pre.map fun p => nv p.1) vB pre.length (pre.map fun p => nv p.2)) ∧ c = .exit 0 ∧ 1 ≤ stop ∧ (pre.length : Int) = stop ∧ Below w.heap.size w W)
    ?hI ?hIx ⟨⟨_, _, T0⟩, fun h => by simp; omega, hB0⟩
    (fun x => { tmps := #[.func (.func 30) #[] lb, .int .i64 stop, undef, .pointer (some ⟨w.heap.size, 0, none⟩), .slice none 0 0, .slice none 0 0, .pointer (some ⟨w.heap.size + 1, 0, none⟩), .pointer (some ⟨w.heap.size + 1 + 1, 0, none⟩), .int .i64 x.1, .int .i64 x.2, .func (.func 30) #[] lb, .int .i64 x.1, .int .i64 x.2, undef, undef, undef, undef, undef, undef, undef, undef, undef, undef, undef, undef, undef, undef], defers := [] }) ?assign ?body ?done ?stop
  case hI =>
    intro pre W W' row hs hg hr
    obtain ⟨⟨vA, vB, h1⟩, h2, h3⟩ := hs
    exact ⟨⟨vA, vB, ts_ownedR h1 (fun p hp => by simp at hp; subst hp; exact ⟨(by decide : (3 : TypeId) ≠ 73), (by decide : (3 : TypeId) ≠ 74)⟩) hg (fun r e => (hr r e).2)⟩, h2, h3.grown hg h3.size (fun k e => by have := (hr k e).1; omega)⟩
  case hIx =>
    intro c pre W W' row hs hg hr
    obtain ⟨⟨vA, vB, h1⟩, h2, h4, h5, h3⟩ := hs
    exact ⟨⟨vA, vB, ts_ownedR h1 (fun p hp => by simp at hp; subst hp; exact ⟨(by decide : (3 : TypeId) ≠ 73), (by decide : (3 : TypeId) ≠ 74)⟩) hg (fun r e => (hr r e).2)⟩, h2, h4, h5, h3.grown hg h3.size (fun k e => by have := (hr k e).1; omega)⟩
  case assign =>
    rintro l ⟨x1, x2⟩ W K hK
    simp only [encII]
    gi_wp2
    exact hK
  case body =>
    rintro l pre ⟨x1, x2⟩ W ⟨⟨vA, vB, hT⟩, hst, hB⟩ hlt
    have hka : (pre.length + 1) * 8 ≤ 140737488355328 := by omega
    gi_wp2
    refine wpIn_region_any (by kernel_rfl) ?_
    refine two_rows (tA := 32) (tB := 32) (t1 := 3) (t5 := 3) (o1 := .move (.tmp 8)) (o5 := .move (.tmp 9)) (pos := "law.go:115") (x := nv x1) (y := nv x2) (cx := #[nv x1]) (cy := #[nv x2]) _ _ _ _ _ _ _ _ _ _ _
      slI slI rfl rfl (by simp [Value.oneCell']) (by simp [Value.oneCell']) hka hka ?h1 ?h5 ?h2 ?h6 ?h8 ?h9 (ts_places hT).drew ?_
    case h1 =>
      rintro y0 y1 y2 y3 y4 y5 y6 y7 w K _ hK o ho hd
      unfold Oper.wpIn
      refine ⟨by simp [Oper.about, ho], ?_⟩
      rw [Oper.semAt_plain _ _ _ (by rw [ho]; intro c hc'; cases hc')]
      simp only [execOp, ho]
      go_simp
      exact hK
    case h5 =>
      rintro y0 y1 y2 y3 y4 y5 y6 y7 w K _ hK o ho hd
      unfold Oper.wpIn
      refine ⟨by simp [Oper.about, ho], ?_⟩
      rw [Oper.semAt_plain _ _ _ (by rw [ho]; intro c hc'; cases hc')]
      simp only [execOp, ho]
      go_simp
      exact hK
    case h2 =>
      rintro y0 y2 y3 y4 y5 y6 y7 w K hK o ho hd
      unfold Oper.wpIn
      refine ⟨by simp [Oper.about, ho], ?_⟩
      rw [Oper.semAt_plain _ _ _ (by rw [ho]; intro c hc'; cases hc')]
      simp only [execOp, ho]
      go_simp
      exact hK
    case h6 =>
      rintro y0 y1 y2 y3 y4 y6 y7 w K hK o ho hd
      unfold Oper.wpIn
      refine ⟨by simp [Oper.about, ho], ?_⟩
      rw [Oper.semAt_plain _ _ _ (by rw [ho]; intro c hc'; cases hc')]
      simp only [execOp, ho]
      go_simp
      exact hK
    case h8 =>
      rintro y0 y1 y2 b l c y4 y5 y6 y7 v w K hb hK o ho hd
      have hc := hb.cell
      have hf := hb.frozen
      unfold Oper.wpIn
      refine ⟨by simp [Oper.about, ho], ?_⟩
      rw [Oper.semAt_plain _ _ _ (by rw [ho]; intro c hc'; cases hc')]
      simp only [execOp, ho]
      go_simp
      exact hK
    case h9 =>
      rintro y0 y1 y2 y3 y4 y5 y6 b l c v w K hb hK o ho hd
      have hc := hb.cell
      have hf := hb.frozen
      unfold Oper.wpIn
      refine ⟨by simp [Oper.about, ho], ?_⟩
      rw [Oper.semAt_plain _ _ _ (by rw [ho]; intro c hc'; cases hc')]
      simp only [execOp, ho]
      go_simp
      exact hK
    rintro gA gB vA' vB' W' hT'
    have hc2 := hT'.boxB.cell
    have hs0 : W'.cell? ⟨w.heap.size, 0, none⟩ = some (.int .i64 stop) := (hT'.stay (w.heap.size, 3, #[.int .i64 stop]) (List.mem_append_left _ (by simp))).1.cell 0
    obtain ⟨vb, vc, rfl⟩ : ∃ b c, vB' = .slice b (pre.length + 1) c := by
      rcases hT'.rowB.2 with ⟨_, e⟩ | ⟨g, cap, cur, e, _⟩
      · omega
      · exact ⟨_, _, e⟩
    by_cases heq : ((pre.length : Int) + 1) = stop
    · gi_wp2
      exact ⟨hT'.keeps.from _, ⟨vA', _, by simpa using (hT'.sub (fun p hp => List.mem_append_left _ hp)).rebase⟩, rfl, by omega, by simp; omega, hB.trans hT'.below⟩
    · gi_wp2
      exact ⟨hT'.keeps.from _, ⟨hT'.below, ts_keepT hT'⟩, ⟨vA', _, by simpa using (hT'.sub (fun p hp => List.mem_append_left _ hp)).rebase⟩, fun h => by simp; have := hst h; omega, hB.trans hT'.below⟩
  case done =>
    rintro D ys W hD rfl ⟨⟨vA, vB, hT⟩, hst, hB⟩ hK
    have c1 := hT.boxA.cell
    have c2 := hT.boxB.cell
    have hcut : cutL stop ys = ys := by
      unfold cutL
      split
      · rename_i h; have := hst h; rw [List.take_of_length_le (by omega)]
      · rfl
    have HC := Lib.hid hcut
    clear hcut
    gi_wp2
    gi_region
    all_goals
      gi_wp2
      refine ⟨by simp, .inl ⟨_, _, rfl, run_takeDeferred (w := W.drew) hK, ?_⟩⟩
      refine ⟨_, results_tmp2 rfl _ _ _, vA, vB, rfl, ?_, ?_, ?_⟩
      · rw [HC.out]; exact ownsRow_putObj hT.rowA.drew _ hK rfl
      · rw [HC.out]; exact ownsRow_putObj hT.rowB.drew _ hK rfl
      · exact hB.drew.trans (belowK_b (w := w) (Nat.le_refl _) W.drew D _ _ (by omega) hK rfl rfl)
  case stop =>
    rintro D c pre W hD hpre ⟨⟨vA, vB, hT⟩, rfl, hst, he, hB⟩ hK
    have c1 := hT.boxA.cell
    have c2 := hT.boxB.cell
    have hcut : cutL stop Y = pre := by
      unfold cutL
      rw [if_pos hst]
      obtain ⟨r, hr⟩ := hpre
      rw [← hr, show stop.toNat = pre.length by omega, List.take_left]
    have HC := Lib.hid hcut
    clear hcut
    gi_wp2
    gi_region
    all_goals
      gi_wp2
      refine ⟨by simp, .inl ⟨_, _, rfl, run_takeDeferred (w := W.drew) hK, ?_⟩⟩
      refine ⟨_, results_tmp2 rfl _ _ _, vA, vB, rfl, ?_, ?_, ?_⟩
      · rw [HC.out]; exact ownsRow_putObj hT.rowA.drew _ hK rfl
      · rw [HC.out]; exact ownsRow_putObj hT.rowB.drew _ hK rfl
      · exact hB.drew.trans (belowK_b (w := w) (Nat.le_refl _) W.drew D _ _ (by omega) hK rfl rfl)
end Go.Proofs.YtlldpmjnledhgaaGreatDoor
namespace Go.Proofs.YtlldpmjnledhgaaGreatDoor
open Go.RowKit Go.Shelf
set_option linter.unusedVariables false

/-- What Walk tells of an element: it and all in it; nothing, if there is no such element. -/
def walkY (D : List Nat) (n : Nat) (e : Int) : List (Nat × Nat) := if 0 ≤ e ∧ e < (n : Int) then segY D e.toNat else []
theorem segN_le {D : List Nat} {e : Nat} (he : e < D.length) : segN D e ≤ D.length := by
  unfold segN
  have := List.takeWhile_sublist (fun x => decide (D[e]?.getD 0 < x)) (l := D.drop (e + 1))
  have h1 := this.length_le
  rw [List.length_drop] at h1
  omega
theorem walkY_len {D : List Nat} {n : Nat} (h : D.length = n) (e : Int) : (walkY D n e).length ≤ n := by
  unfold walkY
  split
  · rename_i hc
    unfold segY
    rw [List.length_map, List.length_range]
    have := segN_le (D := D) (e := e.toNat) (by omega)
    omega
  · exact Nat.zero_le _
theorem validX_well {ups : List Int} {ks : List (List Int)} (h : validX ups ks = true) : ∃ D, depthsX ups = some D ∧ Well ups D ups.length ∧ (∀ d ∈ D, d ≤ 100) ∧ ups.length ≤ 10000 ∧ ∀ i, i < ups.length → ks[i]? = some ((kidsI ups i).map fun (k : Nat) => (k : Int)) := by
  unfold validX at h
  cases hD : depthsX ups with
  | none => rw [hD] at h; cases h
  | some D =>
    rw [hD] at h
    simp only [Bool.and_eq_true, decide_eq_true_eq, List.all_eq_true] at h
    obtain ⟨g1, g2⟩ := depthsX_lies hD
    exact ⟨D, rfl, ⟨g1, rfl, g2⟩, h.1.2, h.1.1, h.2⟩
theorem walk_stops {w : World} {a : Option Addr} {c : Nat} {ys : List YE} {ks : List (List Int)} {D : List Nat} (h : DocAt w (.slice a ys.length c) ys) (hkl : ks.length = ys.length) (hkk : ∀ (i : Nat) (y : YE), ys[i]? = some y → ∃ k, ks[i]? = some k ∧ k.length ≤ 1000000 ∧ IntRd w (.slice y.kb y.kn y.kc) k)
    (hv : validX (ys.map (·.up)) ks = true) (hD : depthsX (ys.map (·.up)) = some D) (e : Int) {Bd Be : Nat} (hb : Boxed w Bd 25 (.slice a ys.length c)) (hb2 : Boxed w Be 3 (.int .i64 e)) :
    SeqStopsR RwW Fence.wide 2 Tryz.prog 30 #[.pointer (some ⟨Bd, 0, none⟩), .pointer (some ⟨Be, 0, none⟩)] encII (KeepW w.heap.size) (fun xs => xs = walkY D ys.length e) (fun pre => pre <+: walkY D ys.length e) ys.length w := by
  obtain ⟨D', hD', hW, hDb, hn, hks⟩ := validX_well hv
  rw [hD] at hD'
  cases hD'
  rw [List.length_map] at hW hn hks
  intro l J Jx W hWb hJ hJx hY h0
  by_cases he : 0 ≤ e ∧ e < (ys.length : Int)
  · obtain ⟨k, rfl⟩ : ∃ k : Nat, e = k := ⟨e.toNat, by omega⟩
    have hY2 : walkY D ys.length (k : Int) = segY D k := by unfold walkY; rw [if_pos he, Int.toNat_natCast]
    rw [hY2]
    exact walk1_run 2 (by omega) l Bd Be ys.length h (by omega) hkl hkk hv hW hks k (by omega) (by have := segN_le (D := D) (e := k) (by rw [hW.len]; omega); rw [hW.len] at this; exact this) (fun d hd => Nat.le_trans (hDb d hd) (by decide)) hb hb2 J Jx W hWb hJ hJx hY h0
  · have hY2 : walkY D ys.length e = [] := by unfold walkY; rw [if_neg he]
    rw [hY2]
    exact walk1_out 2 (by omega) l Bd Be ys.length c a e he J Jx W hJ ((hWb.block Bd hb.lt).trans hb) ((hWb.block Be hb2.lt).trans hb2) h0
end Go.Proofs.YtlldpmjnledhgaaGreatDoor
