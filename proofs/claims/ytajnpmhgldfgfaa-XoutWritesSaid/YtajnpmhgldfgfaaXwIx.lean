/- A region that draws its order and appends to two rows, the one behind the other; no program in sight. Two rows in boxes besides each other, seen from a later world; what is told till one has enough; no program in sight. A range over a function whose iterator keeps state of its own in cells: what it asks of its caller, and the caller's law; a loop whose rounds are counted by a ghost; marks that a loop has left. No program in sight. The iterator slices.Backward over a slice of ints. How a document's elements lie within each other: an element and all in it stand one behind the other; what waits while one walks through them. No program in sight. -/
import Derived.RangeFuncNested
import Derived.RangeFuncBound
import Derived.RangeFuncCalls
import Derived.RangeFuncLeaves
import Derived.RangeFuncBox
import Derived.Shelf.Abstract
import Derived.Shelf.RegionOpen
import Derived.WalkKit
import Derived.OwnWalkIn
import Derived.OrdersIn
import Derived.Maps.OwnIn
import Derived.Maps.AppendAt
import Derived.Lib.Hide
import Derived.Test.YtajnpmhgldfgfaaIt
import Derived.LoopNIn
import Derived.Test.YtajnpmhgldfgfaaMem
import Derived.Test.YtajnpmhgldfgfaaUtI
import Derived.Test.YtajnpmhgldfgfaaXtG
namespace Go.Proofs.Ytajnpmhgldfgfaa
open Go.RowKit Go.Shelf
set_option linter.unusedVariables false

section
variable {F : Fence} {n : Nat} {P : Program} {ops : Array Oper} {Q : Exit → Act → World → Prop} {md : Region.Mode}
theorem ready_mem {l : Array Bool} {i : Nat} (h : i ∈ Region.ready md ops l) : i < ops.size ∧ l.getD i true = false ∧ ∀ o, ops[i]? = some o → ∀ (k : Nat) (e : Edge), o.after[k]? = some e → Region.binds md e = true → l.getD e.on false = true := by
  unfold Region.ready at h
  rw [List.mem_filter, List.mem_range] at h
  obtain ⟨h1, h2⟩ := h
  rw [Bool.and_eq_true] at h2
  obtain ⟨h2, h3⟩ := h2
  refine ⟨h1, by simpa using h2, fun o ho k e hke hb => ?_⟩
  have he : e ∈ o.after := Array.mem_of_getElem? hke
  rw [ho] at h3
  simp only [Option.map_some, Option.getD_some, Array.all_eq_true_iff_forall_mem] at h3
  have := h3 e he
  rw [hb] at this
  simpa using this
theorem mem_ready {l : Array Bool} {i : Nat} {o : Oper} (ho : ops[i]? = some o) (hb : l.getD i true = false) (hd : (o.after.toList.all fun e => !Region.binds md e || l.getD e.on false) = true) : i ∈ Region.ready md ops l := by
  unfold Region.ready
  rw [List.mem_filter, List.mem_range]
  refine ⟨(Array.getElem?_eq_some_iff.1 ho).1, ?_⟩
  rw [hb, ho]
  simp only [Option.map_some, Option.getD_some, Bool.not_false, Bool.true_and]
  rw [← Array.all_toList]
  exact hd
theorem listed_of {l : Array Bool} {i : Nat} {o : Oper} {b : Bool} (hr : Region.ready md ops l = []) (ho : ops[i]? = some o) (hb : l.getD i true = b) (hd : (o.after.toList.all fun e => !Region.binds md e || l.getD e.on false) = true) : b = true := by
  cases b with
  | true => rfl
  | false => have := mem_ready ho hb hd; rw [hr] at this; cases this
theorem nf {b : Bool} (d : b = true → false = true) : b = false := by
  cases b with
  | false => rfl
  | true => exact (d rfl).symm ▸ rfl
theorem countP_lt {α : Type} {p q : α → Bool} {x : α} : ∀ {l : List α}, (∀ y ∈ l, q y = true → p y = true) → x ∈ l → p x = true → q x = false → l.countP q < l.countP p
  | [], _, hx, _, _ => by cases hx
  | y :: l, h, hx, hp, hq => by
    rw [List.countP_cons, List.countP_cons]
    have hle : l.countP q ≤ l.countP p := List.countP_mono_left (fun z hz => h z (List.mem_cons_of_mem _ hz))
    rcases List.mem_cons.1 hx with rfl | hx
    · rw [hp, hq]; simp; omega
    · have := countP_lt (l := l) (fun z hz => h z (List.mem_cons_of_mem _ hz)) hx hp hq
      have h0 := h y (List.mem_cons_self ..)
      cases hy : q y with
      | false => simp; omega
      | true => rw [h0 hy]; simp; omega
/-- A region in every order, by what holds on the way. -/
theorem wpAnyIn_inv (Inv : Array Bool → Act → World → Prop)
    (hd : ∀ l a w, Inv l a w → Region.ready md ops l = [] → Q .normal a w)
    (hs : ∀ l a w i, Inv l a w → i ∈ Region.ready md ops l → wpOpIn F n P ops Q i (Inv (l.setIfInBounds i true)) a w) :
    ∀ (fuel : Nat) (l : Array Bool) (a : Act) (w : World), Inv l a w → ((List.range ops.size).countP fun i => !l.getD i true) ≤ fuel → wpAnyIn F n P md ops Q fuel l a w
  | 0, l, a, w, h, hc => by
    have hr : Region.ready md ops l = [] := by
      cases hr : Region.ready md ops l with
      | nil => rfl
      | cons i rs =>
        obtain ⟨h1, h2, _⟩ := ready_mem (md := md) (ops := ops) (l := l) (i := i) (by rw [hr]; simp)
        have := (List.countP_pos_iff (p := fun i => !l.getD i true)).2 ⟨i, List.mem_range.2 h1, (by show (!l.getD i true) = true; rw [h2]; rfl)⟩
        omega
    exact ⟨hr, hd l a w h hr⟩
  | fuel + 1, l, a, w, h, hc => by
    refine ⟨fun hr => hd l a w h hr, fun i hi => ?_⟩
    obtain ⟨h1, h2, _⟩ := ready_mem hi
    have hlt : i < l.size := by
      apply Decidable.byContradiction
      intro hge
      rw [Array.getD_eq_getD_getElem?, Array.getElem?_eq_none (by omega)] at h2
      cases h2
    refine wpOpIn_mono (fun a' w' h' => wpAnyIn_inv Inv hd hs fuel _ a' w' h' ?_) (hs l a w i h hi)
    have := countP_lt (p := fun i => !l.getD i true) (q := fun j => !(l.setIfInBounds i true).getD j true) (x := i) (l := List.range ops.size)
      (fun y _ hy => by
        by_cases hyi : y = i
        · subst hyi; simp [Array.getD_eq_getD_getElem?, hlt] at hy
        · simpa [Array.getD_eq_getD_getElem?, Array.getElem?_setIfInBounds_ne (Ne.symm hyi)] using hy)
      (List.mem_range.2 h1) (by rw [h2]; rfl) (by simp [Array.getD_eq_getD_getElem?, hlt])
    omega
end

/-- What holds of two rows, their boxes, and blocks that stay. -/
structure TS (base BA BB : Nat) (tA tB eA eB : TypeId) (sA sB : Nat) (L : List (Nat × TypeId × Array Value)) (W0 W : World) (bA bB vA : Value) (kA : Nat) (xA : List Value) (vB : Value) (kB : Nat) (xB : List Value) : Prop where
  boxA : Boxed W BA tA bA
  boxB : Boxed W BB tB bB
  rowA : W.ownsRow base eA sA vA kA xA
  rowB : W.ownsRow base eB sB vB kB xB
  apart : ∀ g, vA.ownBlock = some g → vB.ownBlock ≠ some g
  aA : vA.ownBlock ≠ some BA
  aB : vA.ownBlock ≠ some BB
  bA' : vB.ownBlock ≠ some BA
  bB' : vB.ownBlock ≠ some BB
  stay : ∀ p ∈ L, BlkAt W p.1 p.2.1 p.2.2 ∧ vA.ownBlock ≠ some p.1 ∧ vB.ownBlock ≠ some p.1 ∧ p.1 ≠ BA ∧ p.1 ≠ BB
  keeps : KeepsOthers W0 W
  below : Below base W0 W
  room : base ≤ W.heap.size
  ne : BA ≠ BB
  geA : base ≤ BA
  geB : base ≤ BB
section
variable {base BA BB : Nat} {tA tB eA eB : TypeId} {sA sB : Nat} {L : List (Nat × TypeId × Array Value)} {W0 W W' : World} {bA bB vA : Value} {kA : Nat} {xA : List Value} {vB : Value} {kB : Nat} {xB : List Value}
theorem own_ltT {e : TypeId} {size : Nat} {v : Value} {k : Nat} {xs : List Value} (h : W.ownsRow base e size v k xs) {g : Nat} (hg : v.ownBlock = some g) : base ≤ g ∧ g < W.heap.size := h.lt g hg
theorem TS.alloc (h : TS base BA BB tA tB eA eB sA sB L W0 W bA bB vA kA xA vB kB xB) (t : TypeId) (cs : Array Value) :
    TS base BA BB tA tB eA eB sA sB ((W.heap.size, t, cs) :: L) W0 (W.alloc (.cells cs t)) bA bB vA kA xA vB kB xB where
  boxA := h.boxA.alloc _
  boxB := h.boxB.alloc _
  rowA := h.rowA.alloc _
  rowB := h.rowB.alloc _
  apart := h.apart
  aA := h.aA
  aB := h.aB
  bA' := h.bA'
  bB' := h.bB'
  stay := fun p hp => by
    rcases List.mem_cons.1 hp with rfl | hp
    · exact ⟨BlkAt.new _ _ _, fun e => by have := own_ltT h.rowA e; omega, fun e => by have := own_ltT h.rowB e; omega, fun e => by have := h.boxA.lt; simp at e; omega, fun e => by have := h.boxB.lt; simp at e; omega⟩
    · obtain ⟨h1, h2⟩ := h.stay p hp
      exact ⟨h1.alloc _, h2⟩
  keeps := h.keeps.trans (KeepsOthers.alloc _ _)
  below := h.below.alloc h.room _
  room := by have := h.room; simp; omega
  ne := h.ne
  geA := h.geA
  geB := h.geB
theorem keeps_own {e : TypeId} {size : Nat} {v : Value} {k : Nat} {xs : List Value} (h : W.ownsRow base e size v k xs) (hg : W.grownBy W' v.ownBlock) : KeepsOthers W W' :=
  KeepsOthers.of_grownBy hg fun j o ej hj => by
    rcases h.2 with ⟨rfl, _⟩ | ⟨g, cap, cur, rfl, _, hgb, _⟩
    · simp [Value.ownBlock] at ej
    · obtain rfl : g = j := by simpa [Value.ownBlock] using ej
      rw [hgb] at hj; cases hj; rfl
theorem TS.appA (h : TS base BA BB tA tB eA eB sA sB L W0 W bA bB vA kA xA vB kB xB) {v' : Value} {k' : Nat} {xs' : List Value} (hg : W.grownBy W' vA.ownBlock) (ho : W'.ownsRow base eA sA v' k' xs')
    (hat : v'.ownBlock = vA.ownBlock ∨ v'.ownBlock = some W.heap.size) : TS base BA BB tA tB eA eB sA sB L W0 W' bA bB v' k' xs' vB kB xB where
  boxA := h.boxA.kept hg (Ne.symm h.aA)
  boxB := h.boxB.kept hg (Ne.symm h.aB)
  rowA := ho
  rowB := h.rowB.kept hg (by
    cases hv : vB.ownBlock with
    | none => exact .inl rfl
    | some g => exact .inr fun e => h.apart g (by rw [← e]) hv)
  apart := fun g e => by
    rcases hat with hat | hat
    · exact h.apart g (by rw [← hat]; exact e)
    · intro e'
      have := own_ltT h.rowB e'
      rw [hat] at e; cases e; omega
  aA := by
    rcases hat with hat | hat
    · rw [hat]; exact h.aA
    · rw [hat]; have := h.boxA.lt; intro e; cases e; omega
  aB := by
    rcases hat with hat | hat
    · rw [hat]; exact h.aB
    · rw [hat]; have := h.boxB.lt; intro e; cases e; omega
  bA' := h.bA'
  bB' := h.bB'
  stay := fun p hp => by
    obtain ⟨h1, h2, h3⟩ := h.stay p hp
    refine ⟨h1.grown hg (Ne.symm h2), ?_, h3⟩
    rcases hat with hat | hat
    · rw [hat]; exact h2
    · rw [hat]; have := h1.lt; intro e; have e := Option.some.inj e; omega
  keeps := h.keeps.trans (keeps_own h.rowA hg)
  below := h.below.grown hg h.room (fun j ej => (own_ltT h.rowA ej).1)
  room := Nat.le_trans h.room hg.size
  ne := h.ne
  geA := h.geA
  geB := h.geB
theorem TS.appB (h : TS base BA BB tA tB eA eB sA sB L W0 W bA bB vA kA xA vB kB xB) {v' : Value} {k' : Nat} {xs' : List Value} (hg : W.grownBy W' vB.ownBlock) (ho : W'.ownsRow base eB sB v' k' xs')
    (hat : v'.ownBlock = vB.ownBlock ∨ v'.ownBlock = some W.heap.size) : TS base BA BB tA tB eA eB sA sB L W0 W' bA bB vA kA xA v' k' xs' where
  boxA := h.boxA.kept hg (Ne.symm h.bA')
  boxB := h.boxB.kept hg (Ne.symm h.bB')
  rowB := ho
  rowA := h.rowA.kept hg (by
    cases hv : vA.ownBlock with
    | none => exact .inl rfl
    | some g => exact .inr fun e => h.apart g hv (by rw [← e]))
  apart := fun g e => by
    rcases hat with hat | hat
    · rw [hat]; exact h.apart g e
    · intro e'
      have := own_ltT h.rowA e
      rw [hat] at e'; cases e'; omega
  bA' := by
    rcases hat with hat | hat
    · rw [hat]; exact h.bA'
    · rw [hat]; have := h.boxA.lt; intro e; cases e; omega
  bB' := by
    rcases hat with hat | hat
    · rw [hat]; exact h.bB'
    · rw [hat]; have := h.boxB.lt; intro e; cases e; omega
  aA := h.aA
  aB := h.aB
  stay := fun p hp => by
    obtain ⟨h1, h2, h3, h4⟩ := h.stay p hp
    refine ⟨h1.grown hg (Ne.symm h3), h2, ?_, h4⟩
    rcases hat with hat | hat
    · rw [hat]; exact h3
    · rw [hat]; have := h1.lt; intro e; have e := Option.some.inj e; omega
  keeps := h.keeps.trans (keeps_own h.rowB hg)
  below := h.below.grown hg h.room (fun j ej => (own_ltT h.rowB ej).1)
  room := Nat.le_trans h.room hg.size
  ne := h.ne
  geA := h.geA
  geB := h.geB
theorem TS.setA (h : TS base BA BB tA tB eA eB sA sB L W0 W bA bB vA kA xA vB kB xB) (v : Value) : TS base BA BB tA tB eA eB sA sB L W0 (W.setCell ⟨BA, 0, none⟩ v) v bB vA kA xA vB kB xB where
  boxA := h.boxA.set v
  boxB := h.boxB.other (Ne.symm h.ne) v
  rowA := h.rowA.kept (grownBy_setCell' W BA v) (.inr h.aA)
  rowB := h.rowB.kept (grownBy_setCell' W BA v) (.inr h.bA')
  apart := h.apart
  aA := h.aA
  aB := h.aB
  bA' := h.bA'
  bB' := h.bB'
  stay := fun p hp => by
    obtain ⟨h1, h2, h3, h4, h5⟩ := h.stay p hp
    exact ⟨h1.far h4 v, h2, h3, h4, h5⟩
  keeps := h.keeps.trans (KeepsOthers.setCell _ _ _)
  below := h.below.setCell (p := ⟨BA, 0, none⟩) h.geA _
  room := by rw [World.size_setCell]; exact h.room
  ne := h.ne
  geA := h.geA
  geB := h.geB
theorem TS.setB (h : TS base BA BB tA tB eA eB sA sB L W0 W bA bB vA kA xA vB kB xB) (v : Value) : TS base BA BB tA tB eA eB sA sB L W0 (W.setCell ⟨BB, 0, none⟩ v) bA v vA kA xA vB kB xB where
  boxB := h.boxB.set v
  boxA := h.boxA.other h.ne v
  rowA := h.rowA.kept (grownBy_setCell' W BB v) (.inr h.aB)
  rowB := h.rowB.kept (grownBy_setCell' W BB v) (.inr h.bB')
  apart := h.apart
  aA := h.aA
  aB := h.aB
  bA' := h.bA'
  bB' := h.bB'
  stay := fun p hp => by
    obtain ⟨h1, h2, h3, h4, h5⟩ := h.stay p hp
    exact ⟨h1.far h5 v, h2, h3, h4, h5⟩
  keeps := h.keeps.trans (KeepsOthers.setCell _ _ _)
  below := h.below.setCell (p := ⟨BB, 0, none⟩) h.geB _
  room := by rw [World.size_setCell]; exact h.room
  ne := h.ne
  geA := h.geA
  geB := h.geB
end

/-- 's, t = append(s, x), append(t, y)' of boxes s and t. -/
def twoOps (tA tB t1 t5 : TypeId) (o1 o5 : Op) (pos : String) : Array Oper := #[
  { dst := some 13, op := .load tA (.tmp 6), type := tA, pos := pos, after := #[], guard := none },
  { dst := some 14, op := o1, type := t1, pos := pos, after := #[], guard := none },
  { dst := some 15, op := .buildSlice tA 1 #[(0, .tmp 14)], type := tA, pos := pos, after := #[{ on := 1, ground := .data }], guard := none },
  { dst := some 16, op := .call { callee := .builtin .append, args := #[.tmp 13, .tmp 15], argTypes := #[tA, tA] }, type := tA, pos := pos, after := #[{ on := 0, ground := .data }, { on := 2, ground := .data }], guard := none },
  { dst := some 17, op := .load tB (.tmp 7), type := tB, pos := pos, after := #[], guard := none },
  { dst := some 18, op := o5, type := t5, pos := pos, after := #[], guard := none },
  { dst := some 19, op := .buildSlice tB 1 #[(0, .tmp 18)], type := tB, pos := pos, after := #[{ on := 5, ground := .data }], guard := none },
  { dst := some 20, op := .call { callee := .builtin .append, args := #[.tmp 17, .tmp 19], argTypes := #[tB, tB] }, type := tB, pos := pos, after := #[{ on := 4, ground := .data }, { on := 6, ground := .data }, { on := 3, ground := .chain }], guard := none },
  { dst := none, op := .store tA (.tmp 6) (.tmp 16), type := 0, pos := pos, after := #[{ on := 3, ground := .data }, { on := 7, ground := .chain }, { on := 0, ground := .phase }, { on := 1, ground := .phase }, { on := 2, ground := .phase }, { on := 3, ground := .phase }, { on := 4, ground := .textOnly .inlinedCapture }, { on := 5, ground := .textOnly .lateStores }, { on := 6, ground := .textOnly .inlinedCapture }, { on := 7, ground := .textOnly .lateStoresUnsure }], guard := none },
  { dst := none, op := .store tB (.tmp 7) (.tmp 20), type := 0, pos := pos, after := #[{ on := 7, ground := .data }, { on := 8, ground := .chain }, { on := 0, ground := .phase }, { on := 1, ground := .phase }, { on := 2, ground := .phase }, { on := 3, ground := .phase }, { on := 4, ground := .phase }, { on := 5, ground := .phase }, { on := 6, ground := .phase }, { on := 7, ground := .phase }, { on := 8, ground := .phase }], guard := none }]

section
variable {F : Fence} {n : Nat} {P : Program} {Q : Exit → Act → World → Prop}
theorem op_step {ops : Array Oper} {i : Nat} {o : Oper} {K : Act → World → Prop} {a : Act} {w : World} (ho : ops[i]? = some o) (hg : o.guard = none) (h : Oper.wpIn F n P o a w K Q) : wpOpIn F n P ops Q i K a w := by
  unfold wpOpIn
  rw [ho]
  have : Region.wanted o (yielded ops a.tmps) = true := by unfold Region.wanted; rw [hg]
  simp only [this, if_true]
  exact h
/-- A load of a box, one operation. -/
theorem op_load {o : Oper} {a : Act} {w : World} {K : Act → World → Prop} {ty t e : TypeId} {x : Operand} {B : Nat} {v : Value} (ho : o.op = .load ty x) (hx : a.eval x = .pointer (some ⟨B, 0, none⟩)) (hu : P.underlying ty = some (.slice e)) (hb : Boxed w B t v)
    (hK : K (a.put o.dst v) w) : Oper.wpIn F n P o a w K Q := by
  have hl : (loadVar ty ⟨B, 0, none⟩).run P w = .ok v w := by
    have hc : w.cell? ⟨B, 0, none⟩ = some v := hb.cell
    simp only [loadVar, Sem.run_bind, run_isAgg_plain hu rfl w, Result.andThen_ok, Bool.false_eq_true, if_false]
    rw [run_load, hc]
  unfold Oper.wpIn
  refine ⟨by simp [Oper.about, ho], ?_⟩
  rw [Oper.semAt_plain F _ _ (by rw [ho]; intro c hc'; cases hc')]
  simp only [execOp, ho, hx, Instr.loadAt, Instr.sureAddr, Sem.run_bind, Sem.run_pure, Result.andThen_ok, hl]
  exact hK
/-- An append of a row, one operation. -/
theorem op_append {o : Oper} {a : Act} {w : World} {K : Act → World → Prop} {t e : TypeId} {size bytes base : Nat} {s x : Operand} (T : SlT P t e size bytes)
    (ho : o.op = .call { callee := .builtin .append, args := #[s, x], argTypes := #[t, t] }) {v : Value} {k : Nat} {xs : List Value} (hs : a.eval s = v) (hown : w.ownsRow base e size v k xs) (hbase : base ≤ w.heap.size)
    {ad : Addr} {news : List Value} (hx : a.eval x = .slice (some ad) 1 1) (hl : news.length = size) (hnews : ∀ j u, news[j]? = some u → w.cell? (ad.add j) = some u) (h1 : ∀ u ∈ news, u.oneCell' = true)
    (hbytes : (k + 1) * bytes ≤ 140737488355328)
    (hK : ∀ v' w', w'.ownsRow base e size v' (k + 1) (xs ++ news) → w.grownBy w' v.ownBlock → (v'.ownBlock = v.ownBlock ∨ v'.ownBlock = some w.heap.size) → K (a.put o.dst v') w') : Oper.wpIn F n P o a w K Q := by
  obtain ⟨ht, ⟨i, z, hi, hz, hsz, hby, hzs⟩, hs0, hb0⟩ := T
  obtain ⟨v', w', hr, h2, h3, h4, h5⟩ := run_append_own_at (P := P) w base t o.type e i z size bytes ht hi hz hsz hby hzs hs0 v k xs hown ad 1 1 news (by omega) hnews h1 (by
    have : k + 1 ≤ (k + 1) * bytes := Nat.le_mul_of_pos_right _ hb0
    unfold maxLen
    omega) hbytes hbase
  unfold Oper.wpIn
  refine ⟨by simp [Oper.about, ho, resolve, Target.leads, Sem.run_pure], ?_⟩
  rw [Oper.semAt_plain F _ _ (by rw [ho]; intro c hc'; cases hc')]
  simp [execOp, ho, resolve, invoke, builtin, hs, hx, hr, Result.andThen]
  exact hK _ _ h2 h3 h5
end

section
variable {base BA BB : Nat} {tA tB eA eB : TypeId} {sA sB : Nat} {L : List (Nat × TypeId × Array Value)} {W0 W W' : World} {bA bB vA : Value} {kA : Nat} {xA : List Value} {vB : Value} {kB : Nat} {xB : List Value}
theorem TS.sub (h : TS base BA BB tA tB eA eB sA sB L W0 W bA bB vA kA xA vB kB xB) {L' : List (Nat × TypeId × Array Value)} (hL : ∀ p ∈ L', p ∈ L) : TS base BA BB tA tB eA eB sA sB L' W0 W bA bB vA kA xA vB kB xB :=
  { h with stay := fun p hp => h.stay p (hL p hp) }
end

abbrev tfr (c0 c1 c2 c3 c4 c5 c8 c9 c10 c11 c12 : Value) (BA BB : Nat) (x0 x1 x2 x3 x4 x5 x6 x7 : Value) : Act :=
  { tmps := #[c0, c1, c2, c3, c4, c5, .pointer (some ⟨BA, 0, none⟩), .pointer (some ⟨BB, 0, none⟩), c8, c9, c10, c11, c12, x0, x1, x2, x3, x4, x5, x6, x7, undef, undef, undef, undef, undef, undef], defers := [] }

section
variable {F : Fence} {n : Nat} {P : Program} {Q : Exit → Act → World → Prop}
variable {tA tB eA eB t1 t5 : TypeId} {o1 o5 : Op} {pos : String} {sA sB byA byB base BA BB kA kB : Nat} {x y vA vB : Value} {cx cy : Array Value} {xA xB : List Value} {L : List (Nat × TypeId × Array Value)} {W0 W : World}
  (c0 c1 c2 c3 c4 c5 c8 c9 c10 c11 c12 : Value)
set_option maxRecDepth 20000 in
set_option maxHeartbeats 1600000 in
theorem two_rows (hA : SlT P tA eA sA byA) (hB : SlT P tB eB sB byB) (hcx : cx.size = sA) (hcy : cy.size = sB) (ocx : ∀ u ∈ cx.toList, u.oneCell' = true) (ocy : ∀ u ∈ cy.toList, u.oneCell' = true)
    (hbA : (kA + 1) * byA ≤ 140737488355328) (hbB : (kB + 1) * byB ≤ 140737488355328)
    (h1 : ∀ x0 x1 x2 x3 x4 x5 x6 x7 W (K : Act → World → Prop), (∀ p ∈ L, BlkAt W p.1 p.2.1 p.2.2) → K (tfr c0 c1 c2 c3 c4 c5 c8 c9 c10 c11 c12 BA BB x0 x x2 x3 x4 x5 x6 x7) W →
      ∀ o : Oper, o.op = o1 → o.dst = some 14 → Oper.wpIn F n P o (tfr c0 c1 c2 c3 c4 c5 c8 c9 c10 c11 c12 BA BB x0 x1 x2 x3 x4 x5 x6 x7) W K Q)
    (h5 : ∀ x0 x1 x2 x3 x4 x5 x6 x7 W (K : Act → World → Prop), (∀ p ∈ L, BlkAt W p.1 p.2.1 p.2.2) → K (tfr c0 c1 c2 c3 c4 c5 c8 c9 c10 c11 c12 BA BB x0 x1 x2 x3 x4 y x6 x7) W →
      ∀ o : Oper, o.op = o5 → o.dst = some 18 → Oper.wpIn F n P o (tfr c0 c1 c2 c3 c4 c5 c8 c9 c10 c11 c12 BA BB x0 x1 x2 x3 x4 x5 x6 x7) W K Q)
    (h2 : ∀ x0 x2 x3 x4 x5 x6 x7 W (K : Act → World → Prop), K (tfr c0 c1 c2 c3 c4 c5 c8 c9 c10 c11 c12 BA BB x0 x (.slice (some ⟨W.heap.size, 0, none⟩) 1 1) x3 x4 x5 x6 x7) (W.alloc (.cells cx eA)) →
      ∀ o : Oper, o.op = .buildSlice tA 1 #[(0, .tmp 14)] → o.dst = some 15 → Oper.wpIn F n P o (tfr c0 c1 c2 c3 c4 c5 c8 c9 c10 c11 c12 BA BB x0 x x2 x3 x4 x5 x6 x7) W K Q)
    (h6 : ∀ x0 x1 x2 x3 x4 x6 x7 W (K : Act → World → Prop), K (tfr c0 c1 c2 c3 c4 c5 c8 c9 c10 c11 c12 BA BB x0 x1 x2 x3 x4 y (.slice (some ⟨W.heap.size, 0, none⟩) 1 1) x7) (W.alloc (.cells cy eB)) →
      ∀ o : Oper, o.op = .buildSlice tB 1 #[(0, .tmp 18)] → o.dst = some 19 → Oper.wpIn F n P o (tfr c0 c1 c2 c3 c4 c5 c8 c9 c10 c11 c12 BA BB x0 x1 x2 x3 x4 y x6 x7) W K Q)
    (h8 : ∀ x0 x1 x2 b l c x4 x5 x6 x7 v W (K : Act → World → Prop), Boxed W BA tA v → K (tfr c0 c1 c2 c3 c4 c5 c8 c9 c10 c11 c12 BA BB x0 x1 x2 (.slice b l c) x4 x5 x6 x7) (W.setCell ⟨BA, 0, none⟩ (.slice b l c)) →
      ∀ o : Oper, o.op = .store tA (.tmp 6) (.tmp 16) → o.dst = none → Oper.wpIn F n P o (tfr c0 c1 c2 c3 c4 c5 c8 c9 c10 c11 c12 BA BB x0 x1 x2 (.slice b l c) x4 x5 x6 x7) W K Q)
    (h9 : ∀ x0 x1 x2 x3 x4 x5 x6 b l c v W (K : Act → World → Prop), Boxed W BB tB v → K (tfr c0 c1 c2 c3 c4 c5 c8 c9 c10 c11 c12 BA BB x0 x1 x2 x3 x4 x5 x6 (.slice b l c)) (W.setCell ⟨BB, 0, none⟩ (.slice b l c)) →
      ∀ o : Oper, o.op = .store tB (.tmp 7) (.tmp 20) → o.dst = none → Oper.wpIn F n P o (tfr c0 c1 c2 c3 c4 c5 c8 c9 c10 c11 c12 BA BB x0 x1 x2 x3 x4 x5 x6 (.slice b l c)) W K Q)
    (h : TS base BA BB tA tB eA eB sA sB L W0 W vA vB vA kA xA vB kB xB)
    (hk : ∀ gA gB vA' vB' W', TS base BA BB tA tB eA eB sA sB L W0 W' vA' vB' vA' (kA + 1) (xA ++ cx.toList) vB' (kB + 1) (xB ++ cy.toList) →
      Q .normal (tfr c0 c1 c2 c3 c4 c5 c8 c9 c10 c11 c12 BA BB vA x (.slice (some ⟨gA, 0, none⟩) 1 1) vA' vB y (.slice (some ⟨gB, 0, none⟩) 1 1) vB') W') :
    wpAnyIn F n P .any (twoOps tA tB t1 t5 o1 o5 pos) Q 10 (Array.replicate 10 false) (tfr c0 c1 c2 c3 c4 c5 c8 c9 c10 c11 c12 BA BB undef undef undef undef undef undef undef undef) W := by
  have uA : P.underlying tA = some (.slice eA) := hA.1
  have uB : P.underlying tB = some (.slice eB) := hB.1
  refine wpAnyIn_inv (fun l a W => ∃ (b0 b1 b2 b3 b4 b5 b6 b7 b8 b9 : Bool) (gA gB : Nat) (vA' vB' : Value), l = #[b0, b1, b2, b3, b4, b5, b6, b7, b8, b9] ∧
    (b2 = true → b1 = true) ∧ (b3 = true → b0 = true ∧ b2 = true) ∧ (b6 = true → b5 = true) ∧ (b7 = true → b3 = true ∧ b4 = true ∧ b6 = true) ∧ (b8 = true → b7 = true) ∧ (b9 = true → b8 = true) ∧
    a = tfr c0 c1 c2 c3 c4 c5 c8 c9 c10 c11 c12 BA BB (cond b0 vA undef) (cond b1 x undef) (cond b2 (.slice (some ⟨gA, 0, none⟩) 1 1) undef) (cond b3 vA' undef) (cond b4 vB undef) (cond b5 y undef) (cond b6 (.slice (some ⟨gB, 0, none⟩) 1 1) undef) (cond b7 vB' undef) ∧
    TS base BA BB tA tB eA eB sA sB (cond b2 [(gA, eA, cx)] [] ++ (cond b6 [(gB, eB, cy)] [] ++ L)) W0 W (cond b8 vA' vA) (cond b9 vB' vB) (cond b3 vA' vA) (cond b3 (kA + 1) kA) (cond b3 (xA ++ cx.toList) xA) (cond b7 vB' vB) (cond b7 (kB + 1) kB) (cond b7 (xB ++ cy.toList) xB))
    ?done ?step 10 _ _ _ ⟨false, false, false, false, false, false, false, false, false, false, 0, 0, undef, undef, rfl, by simp, by simp, by simp, by simp, by simp, by simp, rfl, h⟩ (by show List.countP (fun i => !(Array.replicate 10 false).getD i true) (List.range 10) ≤ 10; decide)
  case done =>
    rintro l a W ⟨b0, b1, b2, b3, b4, b5, b6, b7, b8, b9, gA, gB, vA', vB', rfl, d2, d3, d6, d7, d8, d9, rfl, h⟩ hr
    obtain rfl : b0 = true := listed_of (i := 0) hr rfl rfl rfl
    obtain rfl : b1 = true := listed_of (i := 1) hr rfl rfl rfl
    obtain rfl : b2 = true := listed_of (i := 2) hr rfl rfl rfl
    obtain rfl : b3 = true := listed_of (i := 3) hr rfl rfl rfl
    obtain rfl : b4 = true := listed_of (i := 4) hr rfl rfl rfl
    obtain rfl : b5 = true := listed_of (i := 5) hr rfl rfl rfl
    obtain rfl : b6 = true := listed_of (i := 6) hr rfl rfl rfl
    obtain rfl : b7 = true := listed_of (i := 7) hr rfl rfl rfl
    obtain rfl : b8 = true := listed_of (i := 8) hr rfl rfl rfl
    obtain rfl : b9 = true := listed_of (i := 9) hr rfl rfl rfl
    exact hk gA gB vA' vB' W (h.sub fun p hp => by simp [hp])
  case step =>
    rintro l a W i ⟨b0, b1, b2, b3, b4, b5, b6, b7, b8, b9, gA, gB, vA', vB', rfl, d2, d3, d6, d7, d8, d9, rfl, h⟩ hi
    obtain ⟨hi, hb, hd⟩ := ready_mem hi
    have hi : i < 10 := hi
    have hc : i = 0 ∨ i = 1 ∨ i = 2 ∨ i = 3 ∨ i = 4 ∨ i = 5 ∨ i = 6 ∨ i = 7 ∨ i = 8 ∨ i = 9 := by omega
    rcases hc with rfl | rfl | rfl | rfl | rfl | rfl | rfl | rfl | rfl | rfl
    · obtain rfl : b0 = false := hb
      obtain rfl : b3 = false := nf fun e => (d3 e).1
      obtain rfl : b7 = false := nf fun e => (d7 e).1
      obtain rfl : b8 = false := nf d8
      refine op_step rfl rfl (op_load rfl rfl uA h.boxA ?_)
      exact ⟨true, b1, b2, false, b4, b5, b6, false, false, b9, gA, gB, vA', vB', rfl, d2, by simp, d6, by simp, by simp, d9, rfl, h⟩
    · obtain rfl : b1 = false := hb
      obtain rfl : b2 = false := nf d2
      obtain rfl : b3 = false := nf fun e => (d3 e).2
      obtain rfl : b7 = false := nf fun e => (d7 e).1
      refine op_step rfl rfl (h1 _ _ _ _ _ _ _ _ _ _ (fun p hp => (h.stay p (by simp [hp])).1) ?_ _ rfl rfl)
      exact ⟨b0, true, false, false, b4, b5, b6, false, b8, b9, gA, gB, vA', vB', rfl, by simp, by simp, d6, d7, d8, d9, rfl, h⟩
    · obtain rfl : b2 = false := hb
      obtain rfl : b1 = true := hd _ rfl 0 _ rfl rfl
      obtain rfl : b3 = false := nf fun e => (d3 e).2
      obtain rfl : b7 = false := nf fun e => (d7 e).1
      refine op_step rfl rfl (h2 _ _ _ _ _ _ _ _ _ ?_ _ rfl rfl)
      exact ⟨b0, true, true, false, b4, b5, b6, false, b8, b9, W.heap.size, gB, vA', vB', rfl, by simp, by simp, d6, d7, d8, d9, rfl, h.alloc _ _⟩
    · obtain rfl : b3 = false := hb
      obtain rfl : b0 = true := hd _ rfl 0 _ rfl rfl
      obtain rfl : b2 = true := hd _ rfl 1 _ rfl rfl
      obtain rfl : b7 = false := nf fun e => (d7 e).1
      obtain rfl : b8 = false := nf d8
      obtain rfl : b9 = false := nf d9
      have hg := (h.stay (gA, eA, cx) (by simp)).1
      refine op_step rfl rfl (op_append hA rfl rfl h.rowA h.room rfl (by simpa using hcx) (news_blk hg) ocx hbA fun v' w' r1 r2 r3 => ?_)
      exact ⟨true, b1, true, true, b4, b5, b6, false, false, false, gA, gB, v', vB', rfl, d2, by simp, d6, by simp, by simp, by simp, rfl, h.appA r2 r1 r3⟩
    · obtain rfl : b4 = false := hb
      obtain rfl : b7 = false := nf fun e => (d7 e).2.1
      obtain rfl : b8 = false := nf d8
      obtain rfl : b9 = false := nf d9
      refine op_step rfl rfl (op_load rfl rfl uB h.boxB ?_)
      exact ⟨b0, b1, b2, b3, true, b5, b6, false, false, false, gA, gB, vA', vB', rfl, d2, d3, d6, by simp, by simp, by simp, rfl, h⟩
    · obtain rfl : b5 = false := hb
      obtain rfl : b6 = false := nf d6
      obtain rfl : b7 = false := nf fun e => (d7 e).2.2
      refine op_step rfl rfl (h5 _ _ _ _ _ _ _ _ _ _ (fun p hp => (h.stay p (by simp [hp])).1) ?_ _ rfl rfl)
      exact ⟨b0, b1, b2, b3, b4, true, false, false, b8, b9, gA, gB, vA', vB', rfl, d2, d3, by simp, by simp, d8, d9, rfl, h⟩
    · obtain rfl : b6 = false := hb
      obtain rfl : b5 = true := hd _ rfl 0 _ rfl rfl
      obtain rfl : b7 = false := nf fun e => (d7 e).2.2
      refine op_step rfl rfl (h6 _ _ _ _ _ _ _ _ _ ?_ _ rfl rfl)
      exact ⟨b0, b1, b2, b3, b4, true, true, false, b8, b9, gA, W.heap.size, vA', vB', rfl, d2, d3, by simp, by simp, d8, d9, rfl, (h.alloc _ _).sub (by intro p hp; simp at hp ⊢; rcases hp with hp | hp | hp <;> simp [hp])⟩
    · obtain rfl : b7 = false := hb
      obtain rfl : b4 = true := hd _ rfl 0 _ rfl rfl
      obtain rfl : b6 = true := hd _ rfl 1 _ rfl rfl
      obtain rfl : b3 = true := hd _ rfl 2 _ rfl rfl
      obtain rfl : b8 = false := nf d8
      obtain rfl : b9 = false := nf d9
      have hg := (h.stay (gB, eB, cy) (by simp)).1
      refine op_step rfl rfl (op_append hB rfl rfl h.rowB h.room rfl (by simpa using hcy) (news_blk hg) ocy hbB fun v' w' r1 r2 r3 => ?_)
      exact ⟨b0, b1, b2, true, true, b5, true, true, false, false, gA, gB, vA', v', rfl, d2, d3, d6, by simp, by simp, by simp, rfl, h.appB r2 r1 r3⟩
    · obtain rfl : b8 = false := hb
      obtain rfl : b3 = true := hd _ rfl 0 _ rfl rfl
      obtain rfl : b7 = true := hd _ rfl 1 _ rfl rfl
      obtain rfl : b9 = false := nf d9
      obtain ⟨vb, vl, vc, rfl⟩ : ∃ b l c, vA' = .slice b l c := by
        rcases h.rowA.2 with ⟨e, _⟩ | ⟨g, cap, cur, e, _⟩ <;> exact ⟨_, _, _, e⟩
      refine op_step rfl rfl (h8 _ _ _ _ _ _ _ _ _ _ _ _ _ h.boxA ?_ _ rfl rfl)
      exact ⟨b0, b1, b2, true, b4, b5, b6, true, true, false, gA, gB, _, vB', rfl, d2, d3, d6, d7, by simp, by simp, rfl, h.setA _⟩
    · obtain rfl : b9 = false := hb
      obtain rfl : b7 = true := hd _ rfl 0 _ rfl rfl
      obtain rfl : b8 = true := hd _ rfl 1 _ rfl rfl
      obtain ⟨vb, vl, vc, rfl⟩ : ∃ b l c, vB' = .slice b l c := by
        rcases h.rowB.2 with ⟨e, _⟩ | ⟨g, cap, cur, e, _⟩ <;> exact ⟨_, _, _, e⟩
      refine op_step rfl rfl (h9 _ _ _ _ _ _ _ _ _ _ _ _ _ h.boxB ?_ _ rfl rfl)
      exact ⟨b0, b1, b2, b3, b4, b5, b6, true, true, true, gA, gB, vA', _, rfl, d2, d3, d6, d7, d8, by simp, rfl, h.setB _⟩
end
end Go.Proofs.Ytajnpmhgldfgfaa
namespace Go.Proofs.Ytajnpmhgldfgfaa
open Go.RowKit Go.Shelf
set_option linter.unusedVariables false

/-- Of a list what is told till one has enough. -/
def cutL {α : Type} (stop : Int) (xs : List α) : List α := if 1 ≤ stop then xs.take stop.toNat else xs

section
variable {base BA BB : Nat} {tA tB eA eB : TypeId} {sA sB : Nat} {L : List (Nat × TypeId × Array Value)} {W0 W W' : World} {bA bB vA : Value} {kA : Nat} {xA : List Value} {vB : Value} {kB : Nat} {xB : List Value}
theorem TS.rebase (h : TS base BA BB tA tB eA eB sA sB L W0 W bA bB vA kA xA vB kB xB) : TS base BA BB tA tB eA eB sA sB L W W bA bB vA kA xA vB kB xB :=
  { h with keeps := KeepsOthers.refl _, below := Below.refl _ _ }
theorem TS.drew (h : TS base BA BB tA tB eA eB sA sB L W0 W bA bB vA kA xA vB kB xB) : TS base BA BB tA tB eA eB sA sB L W0 W.drew bA bB vA kA xA vB kB xB :=
  { boxA := h.boxA, boxB := h.boxB, rowA := h.rowA.drew, rowB := h.rowB.drew, apart := h.apart, aA := h.aA, aB := h.aB, bA' := h.bA', bB' := h.bB', stay := h.stay, keeps := h.keeps.trans (KeepsOthers.drew _), below := h.below.drew, room := h.room, ne := h.ne, geA := h.geA, geB := h.geB }
theorem TS.owned (h : TS base BA BB tA tB eA eB sA sB L W W bA bB vA kA xA vB kB xB) {row : Option Nat} (hg : W.grownBy W' row) (hr : ∀ r, row = some r → ∃ o : Obj, W.heap[r]? = some o ∧ o.isCells = false) :
    TS base BA BB tA tB eA eB sA sB L W' W' bA bB vA kA xA vB kB xB where
  boxA := boxed_own _ _ (fun _ => bA) () W W' row h.boxA hg hr
  boxB := boxed_own _ _ (fun _ => bB) () W W' row h.boxB hg hr
  rowA := row_own _ _ _ vA (fun _ => kA) (fun _ => xA) () W W' row h.rowA hg hr
  rowB := row_own _ _ _ vB (fun _ => kB) (fun _ => xB) () W W' row h.rowB hg hr
  apart := h.apart
  aA := h.aA
  aB := h.aB
  bA' := h.bA'
  bB' := h.bB'
  stay := fun p hp => by
    obtain ⟨h1, h2⟩ := h.stay p hp
    exact ⟨blk_own _ _ (fun _ => p.2.2) () W W' row h1 hg hr, h2⟩
  keeps := KeepsOthers.refl _
  below := Below.refl _ _
  room := Nat.le_trans h.room hg.size
  ne := h.ne
  geA := h.geA
  geB := h.geB
end

end Go.Proofs.Ytajnpmhgldfgfaa
namespace Go.Proofs.Ytajnpmhgldfgfaa
open Go.RowKit
set_option linter.unusedVariables false

/-- What the caller holds stays so while the iterator turns what is its own: objects of the sort Rw, laid from B on. -/
def AbidesR {β : Type} (Rw : Obj → Bool) (B : Nat) (J : β → World → Prop) : Prop :=
  ∀ s W W' row, J s W → W.grownBy W' row → (∀ r, row = some r → B ≤ r ∧ ∃ o : Obj, W.heap[r]? = some o ∧ Rw o = true) → J s W'
theorem AbidesR.putObj {β : Type} {Rw : Obj → Bool} {B : Nat} {I : β → World → Prop} (h : AbidesR Rw B I) {s : β} {W : World} {l : Nat} {o : Obj} (o' : Obj) (hs : I s W) (hB : B ≤ l) (hl : W.heap[l]? = some o) (ho : Rw o = true) : I s (W.putObj l o') :=
  h s W _ (some l) hs (grownBy_putObj' W l o') (fun r e => by cases e; exact ⟨hB, o, hl, ho⟩)
theorem AbidesR.alloc {β : Type} {Rw : Obj → Bool} {B : Nat} {I : β → World → Prop} (h : AbidesR Rw B I) {s : β} {W : World} (o : Obj) (hs : I s W) : I s (W.alloc o) :=
  h s W _ none hs (World.grownBy_alloc W o none) (fun r e => by cases e)
theorem keeps_wider {B B' : Nat} {W W' : World} (h : KeepsFrom B W W') (hb : B ≤ B') : KeepsFrom B' W W' := ⟨h.size, fun k o hk h1 h2 => h.same k o (Nat.le_trans hb hk) h1 h2⟩
/-- An iterator's contract: whatever the body does, all have come, or a part. A round that goes on keeps what is no cells and was laid since the iterator began, and what Kp says. -/
def SeqStopsR {α : Type} (Rw : Obj → Bool) (F : Fence) (n : Nat) (P : Program) (g : Nat) (lb : Array Value) (encs : α → Array Value) (Kp : World → World → Prop) (S Sp : List α → Prop) (N : Nat) (w : World) : Prop :=
  ∀ (l : Nat) (J Jx : List α → World → Prop) (W : World), Below w.heap.size w W → AbidesR Rw W.heap.size J → AbidesR Rw W.heap.size Jx →
    (∀ pre x W1, J pre W1 → pre.length < N → YieldAt F (n - 1) P l (encs x) W1 fun e W' =>
      (e = .returned (.bool true) ∧ J (pre ++ [x]) W' ∧ KeepsFrom W.heap.size W1 W' ∧ Kp W1 W') ∨ (e = .returned (.bool false) ∧ Jx (pre ++ [x]) W' ∧ KeepsFrom W.heap.size W1 W')) →
    J [] W →
    CallsIn F n P g (#[.func (.yield l) #[] #[]] ++ lb) W fun e W' => (∃ v, e = .returned v) ∧ ((∃ xs, S xs ∧ J xs W') ∨ (∃ pre, Sp pre ∧ Jx pre W'))

section
variable {F : Fence} {n : Nat} {P : Program}
/-- The caller's law. -/
theorem wpIn_rangeFunc_R {α : Type} {Rw : Obj → Bool} (hRw : ∀ o : Obj, o.isCells = false → Rw o = true) {g : Operand} {ps : Array Tmp} {assign body : Code} {Q : Exit → Act → World → Prop} {a : Act} {w : World}
    (hro : F.round = none) (h1 : 1 ≤ n) {gf : Nat} {lb : Array Value} (hg : a.eval g = .func (.func gf) #[] lb) (hFg : F.fn gf) (eg : ∀ args w, (callFunc gf args).run P w = .ok (.enter gf args) w)
    {encs : α → Array Value} {Kp : World → World → Prop} {S Sp : List α → Prop} {N : Nat} {w0 : World} (hseq : SeqStopsR Rw F (n - 1) P gf lb encs Kp S Sp N w0)
    (hKt : ∀ {A B C : World}, Kp A B → Kp B C → Kp A C) (hKb : ∀ (W : World) (o o' : Obj), W.heap[w.heap.size + 1]? = some o → o.isCells = false → Kp W (W.putObj (w.heap.size + 1) o')) (hb0 : Below w0.heap.size w0 w) (hps : ∀ x, (encs x).size = ps.size)
    (I : List α → World → Prop) (Ix : Code → List α → World → Prop) (hI : AbidesR Rw w.heap.size I) (hIx : ∀ c, AbidesR Rw w.heap.size (Ix c)) (h0 : I [] w) (a₁ : α → Act)
    (hassign : ∀ (l : Nat) (x : α) (W : World) (K : Act → World → Prop), K (a₁ x) W →
      assign.wpIn (F.inRound l) (n - 1 - 1) P (Exit.then K (fun _ _ _ => False)) { tmps := (ps.zip (encs x)).foldl (fun t (p, v) => t.setIfInBounds p v) a.tmps, defers := [] } W)
    (hbody : ∀ (l : Nat) (pre : List α) (x : α) (W : World), I pre W → pre.length < N → body.wpIn (F.inRound l) (n - 1 - 1) P (ownPostG w.heap.size Kp I Ix (pre ++ [x]) W) (a₁ x) W)
    (hdone : ∀ (D : Nat) (xs : List α) (W : World), w.heap.size ≤ D → S xs → I xs W → W.heap[D]? = some (.deferred (some [])) → Q .normal { a with defers := { target := .collected D, args := #[] } :: a.defers } W)
    (hstop : ∀ (D : Nat) (c : Code) (pre : List α) (W : World), w.heap.size ≤ D → Sp pre → Ix c pre W → W.heap[D]? = some (.deferred (some [])) → c.wpIn F n P Q { a with defers := { target := .collected D, args := #[] } :: a.defers } W) :
    (Code.rangeFunc g ps assign body).wpIn F n P Q a w := by
  refine wpIn_rangeFunc fun fn hfn => ?_
  rw [hro]
  -- the loop's record, and the block for calls that are put off
  obtain ⟨lp, hlp⟩ : ∃ lp : LoopState → Option Code → Loop, lp = fun st pe => { state := st, pending := pe, fn, tmps := a.tmps, params := ps, assign, body, defers := w.heap.size } := ⟨_, rfl⟩
  obtain ⟨X, hX⟩ : ∃ X, (w.alloc (.deferred (some []))).alloc (.loop (lp .ready none)) = X := ⟨_, rfl⟩
  have hz : X.heap.size = w.heap.size + 2 := by rw [← hX]; simp
  have hl1 : X.heap[w.heap.size + 1]? = some (.loop (lp .ready none)) := by
    have := World.alloc_heap_new (w.alloc (.deferred (some []))) (.loop (lp .ready none))
    rw [World.size_alloc] at this
    rw [← hX]; exact this
  have hd1 : X.heap[w.heap.size]? = some (.deferred (some [])) := by
    rw [← hX]; exact (Below.heap_alloc _ _ _ (by simp)).trans (World.alloc_heap_new w _)
  have hI1 : I [] X := by rw [← hX]; exact hI.alloc _ (hI.alloc _ h0)
  have hb1 : Below w0.heap.size w0 X := by rw [← hX]; exact hb0.trans ((((Below.refl _ w).alloc (Nat.le_refl _) _).alloc (by simp) _).mono hb0.size)
  have hen : (Instr.enterLoop fn a.tmps ps assign body none).run P w = .ok (w.heap.size + 1, [{ target := .collected w.heap.size, args := #[] }]) X := by
    rw [run_enterLoop_outer, ← hX, hlp]
  -- what is turned at or beyond X's end is neither of the two
  have far : ∀ {A B : World} {row : Option Nat}, (∀ r, row = some r → X.heap.size ≤ r ∧ ∃ o : Obj, A.heap[r]? = some o ∧ Rw o = true) → (∀ r, row = some r → w.heap.size ≤ r ∧ ∃ o : Obj, A.heap[r]? = some o ∧ Rw o = true) := fun hr r e => by
    obtain ⟨q1, q2⟩ := hr r e
    exact ⟨by omega, q2⟩
  have stay : ∀ {A B : World} {row : Option Nat} {k : Nat} {o : Obj}, A.grownBy B row → (∀ r, row = some r → X.heap.size ≤ r ∧ ∃ o : Obj, A.heap[r]? = some o ∧ Rw o = true) → k < X.heap.size → A.heap[k]? = some o → B.heap[k]? = some o := fun hg' hr hk ho =>
    (hg'.block _ (Array.getElem?_eq_some_iff.1 ho).1 (fun e => by have := (hr _ e.symm).1; omega)).trans ho
  have hpl : ∀ (o : Obj) (W : World), W.heap[w.heap.size + 1]? = some o → ∀ o', (W.putObj (w.heap.size + 1) o').heap[w.heap.size + 1]? = some o' := fun o W h o' => World.putObj_heap_same (Array.getElem?_eq_some_iff.1 h).1
  have hpd : ∀ (W : World) (o' : Obj), (W.putObj (w.heap.size + 1) o').heap[w.heap.size]? = W.heap[w.heap.size]? := fun W o' => World.putObj_heap_other (by omega)
  have hput : ∀ (W : World) (o' : Obj), KeepsFrom X.heap.size W (W.putObj (w.heap.size + 1) o') := fun W o' => KeepsFrom.of_grownBy (grownBy_putObj' W _ o') (fun j e => by cases e; omega)
  refine ⟨w.heap.size + 1, [{ target := .collected w.heap.size, args := #[] }], X, { target := .fn (.func gf) lb, args := #[.func (.yield (w.heap.size + 1)) #[] #[]] }, X, gf, #[.func (.yield (w.heap.size + 1)) #[] #[]] ++ lb, X, hen, ?_, ?_, ?_, fun _ => h1, ?_⟩
  · simp only [resolve, hg]
    simp [go_sem]
  · intro f' hf'
    simp [Target.leads] at hf'
    subst hf'
    exact hFg
  · simp [invoke, go_sem, eg]
  · refine (hseq (w.heap.size + 1)
      (fun pre W => I pre W ∧ W.heap[w.heap.size + 1]? = some (.loop (lp .ready none)) ∧ W.heap[w.heap.size]? = some (.deferred (some [])))
      (fun pre W => ∃ c, Ix c pre W ∧ W.heap[w.heap.size + 1]? = some (.loop (lp .done (some c))) ∧ W.heap[w.heap.size]? = some (.deferred (some [])))
      X hb1
      (fun s A B row hs hg' hr => ⟨hI s A B row hs.1 hg' (far (B := B) hr), stay hg' hr (by omega) hs.2.1, stay hg' hr (by omega) hs.2.2⟩)
      (fun s A B row ⟨c, hc, q1, q2⟩ hg' hr => ⟨c, hIx c s A B row hc hg' (far (B := B) hr), stay hg' hr (by omega) q1, stay hg' hr (by omega) q2⟩)
      ?_ ⟨hI1, hl1, hd1⟩).mono ?_
    · -- a round
      rintro pre x W ⟨hi, hl, hd⟩ hlen
      have hy := run_yield (P := P) (args := encs x) hl (by rw [hlp]; exact hps x)
      rw [hlp] at hy
      refine ⟨fn, _, assign, body, hy, roundIn_of_wpIn hfn (hassign _ x W _ ⟨_, run_beginRound hl (by rw [hlp]), ?_⟩)⟩
      obtain ⟨W2, hW2⟩ : ∃ W2, W.putObj (w.heap.size + 1) (.loop { lp .ready none with state := .busy }) = W2 := ⟨_, rfl⟩
      have hl2 : W2.heap[w.heap.size + 1]? = some (.loop { lp .ready none with state := .busy }) := by rw [← hW2]; exact hpl _ W hl _
      have hd2 : W2.heap[w.heap.size]? = some (.deferred (some [])) := by rw [← hW2, hpd]; exact hd
      have hi2 : I pre W2 := by rw [← hW2]; exact hI.putObj _ hi (by omega) hl (hRw _ rfl)
      have hp2 : Kp W W2 := by rw [← hW2]; exact hKb _ _ _ hl rfl
      have hk2 : KeepsFrom X.heap.size W W2 := by rw [← hW2]; exact hput W _
      rw [hW2]
      -- the round's end, however it is left
      have fin : ∀ (jump : Option Code) (W3 : World), KeepsFrom w.heap.size W2 W3 → ∃ W4, W3.putObj (w.heap.size + 1) (.loop (lp (if jump.isNone then .ready else .done) jump)) = W4 ∧
          (Instr.endRound (w.heap.size + 1) jump).run P W3 = .ok (.bool jump.isNone) W4 ∧ W3.heap[w.heap.size + 1]? = some (.loop { lp .ready none with state := .busy }) ∧
          W4.heap[w.heap.size + 1]? = some (.loop (lp (if jump.isNone then .ready else .done) jump)) ∧ W4.heap[w.heap.size]? = some (.deferred (some [])) ∧ KeepsFrom X.heap.size W W4 := fun jump W3 hk3 => by
        have hl3 := hk3.same _ _ (by omega) hl2 rfl
        have hr := run_endRound (P := P) jump hl3
        rw [hlp] at hr hl3 ⊢
        refine ⟨_, rfl, hr, hl3, hpl _ W3 hl3 _, by rw [hpd]; exact hk3.same _ _ (Nat.le_refl _) hd2 rfl, (hk2.trans (keeps_wider hk3 (by omega))).trans (hput W3 _)⟩
      refine wpIn_mono (hbody _ pre x _ hi2 hlen) ?_
      rintro e a3 W3 hp
      cases e with
      | normal =>
        obtain ⟨q1, q2, q3⟩ := hp
        obtain ⟨W4, hW4, r1, r2, r3, r4, r5⟩ := fin none W3 q1
        exact ⟨_, _, r1, .inl ⟨rfl, ⟨by rw [← hW4]; exact hI.putObj _ q3 (by omega) r2 (hRw _ rfl), r3, r4⟩, r5, by rw [← hW4]; exact hKt (hKt hp2 q2) (hKb _ _ _ r2 rfl)⟩⟩
      | ret =>
        obtain ⟨q1, q2⟩ := hp
        obtain ⟨W4, hW4, r1, r2, r3, r4, r5⟩ := fin (some .ret) W3 q1
        exact ⟨_, _, r1, .inr ⟨rfl, ⟨.ret, by rw [← hW4]; exact (hIx _).putObj _ q2 (by omega) r2 (hRw _ rfl), r3, r4⟩, r5⟩⟩
      | exit id =>
        obtain ⟨q1, q2⟩ := hp
        obtain ⟨W4, hW4, r1, r2, r3, r4, r5⟩ := fin (some (.exit id)) W3 q1
        exact ⟨_, _, r1, .inr ⟨rfl, ⟨.exit id, by rw [← hW4]; exact (hIx _).putObj _ q2 (by omega) r2 (hRw _ rfl), r3, r4⟩, r5⟩⟩
      | goto t =>
        obtain ⟨q1, q2⟩ := hp
        obtain ⟨W4, hW4, r1, r2, r3, r4, r5⟩ := fin (some (.goto t)) W3 q1
        exact ⟨_, _, r1, .inr ⟨rfl, ⟨.goto t, by rw [← hW4]; exact (hIx _).putObj _ q2 (by omega) r2 (hRw _ rfl), r3, r4⟩, r5⟩⟩
      | panic ch => exact hp.elim
      | outgrown => exact hp.elim
    · -- behind the iterator
      rintro e W5 ⟨⟨v, rfl⟩, (⟨xs, hS, hi, hl, hd⟩ | ⟨pre, hSp, c, hi, hl, hd⟩)⟩
      · have hr := run_endLoop (P := P) hl (by rw [hlp]; simp)
        rw [hlp] at hr
        exact ⟨none, _, hr, hdone _ xs _ (Nat.le_refl _) hS (hI.putObj _ hi (by omega) hl (hRw _ rfl)) (by rw [hpd]; exact hd)⟩
      · have hr := run_endLoop (P := P) hl (by rw [hlp]; simp)
        rw [hlp] at hr
        exact ⟨some c, _, hr, hstop _ c pre _ (Nat.le_refl _) hSp ((hIx c).putObj _ hi (by omega) hl (hRw _ rfl)) (by rw [hpd]; exact hd)⟩
/-- A loop whose rounds are counted by a ghost. -/
theorem wpIn_loop_count {c : Code} {Q : Exit → Act → World → Prop} {a : Act} {w : World} (I : Nat → Act → World → Prop) (m : Nat) (h0 : I m a w)
    (round : ∀ m a w, I m a w → c.wpIn F n P (Exit.then (fun a' w' => 0 < m ∧ I (m - 1) a' w') Q) a w) : (Code.loop c).wpIn F n P Q a w := by
  have key : ∀ m a w, I m a w → Code.roundsIn F n P c Q (m + 1) a w := by
    intro m
    induction m with
    | zero =>
      intro a w h
      rw [roundsIn_succ]
      exact wpIn_mono (round 0 a w h) (fun e a' w' q => by cases e <;> first | exact q | exact absurd q.1 (Nat.lt_irrefl 0))
    | succ m ih =>
      intro a w h
      rw [roundsIn_succ]
      exact wpIn_mono (round (m + 1) a w h) (fun e a' w' q => by cases e <;> first | exact q | exact ih a' w' q.2)
  exact wpIn_loop_rounds (m + 1) (key m a w h0)
/-- The marks that loops have left in a frame. -/
def Marks (B : Nat) (W : World) (ds : List Deferred) : Prop := ∃ Ds : List Nat, ds = Ds.map (fun D => { target := .collected D, args := #[] }) ∧ Ds.Pairwise (· ≠ ·) ∧ ∀ D ∈ Ds, B ≤ D ∧ W.heap[D]? = some (.deferred (some []))
theorem Marks.nil (B : Nat) (W : World) : Marks B W [] := ⟨[], rfl, .nil, fun D h => by cases h⟩
theorem Marks.keeps {B : Nat} {W W' : World} {ds : List Deferred} (h : Marks B W ds) (hk : KeepsFrom B W W') : Marks B W' ds := by
  obtain ⟨Ds, h1, h2, h3⟩ := h
  exact ⟨Ds, h1, h2, fun D hD => ⟨(h3 D hD).1, hk.same D _ (h3 D hD).1 (h3 D hD).2 rfl⟩⟩
theorem Marks.cons {B D : Nat} {W W' : World} {ds : List Deferred} (h : Marks B W ds) (hk : KeepsFrom B W W') (hD : W.heap.size ≤ D) (hB : B ≤ W.heap.size) (hd : W'.heap[D]? = some (.deferred (some []))) : Marks B W' ({ target := .collected D, args := #[] } :: ds) := by
  obtain ⟨Ds, h1, h2, h3⟩ := h
  refine ⟨D :: Ds, by rw [h1]; rfl, List.pairwise_cons.2 ⟨fun E hE e => ?_, h2⟩, fun E hE => ?_⟩
  · subst e
    have := (Array.getElem?_eq_some_iff.1 (h3 _ hE).2).1
    omega
  · rcases List.mem_cons.1 hE with rfl | hE
    · exact ⟨by omega, hd⟩
    · exact ⟨(h3 E hE).1, hk.same E _ (h3 E hE).1 (h3 E hE).2 rfl⟩
/-- Leaving with marks. -/
theorem leaves_marks {B : Nat} {fn : Func} {tmps : Array Value} {R : Ending → World → Prop} {ds : List Deferred} {W : World} (Inv : World → Prop) (h : Marks B W ds) (hi : Inv W)
    (hput : ∀ (W : World) (D : Nat), Inv W → B ≤ D → W.heap[D]? = some (.deferred (some [])) → Inv (W.putObj D (.deferred none)))
    (hend : ∀ W, Inv W → ∃ v, (results fn tmps).run P W = .ok v W ∧ R (.returned v) W) : LeavesInM F n P fn tmps R ds .returning W := by
  obtain ⟨Ds, rfl, h2, h3⟩ := h
  induction Ds generalizing W with
  | nil => exact hend W hi
  | cons D Ds ih =>
    obtain ⟨g1, g2⟩ := h3 D List.mem_cons_self
    obtain ⟨k1, k2⟩ := List.pairwise_cons.1 h2
    refine ⟨by simp, .inl ⟨D, W.putObj D (.deferred none), rfl, run_takeDeferred g2, ?_⟩⟩
    exact ih (hput W D hi g1 g2) k2 (fun E hE => ⟨(h3 E (List.mem_cons_of_mem _ hE)).1, (World.putObj_heap_other (fun e => k1 E hE e.symm)).trans (h3 E (List.mem_cons_of_mem _ hE)).2⟩)
end
end Go.Proofs.Ytajnpmhgldfgfaa
namespace Go.Proofs.Ytajnpmhgldfgfaa
open Go.RowKit Go.Shelf
set_option linter.unusedVariables false
attribute [local go_sem] Oper.semAt_some

/-- What Backward tells: places and elements, the last first. -/
def backY (ks : List Nat) : List (Nat × Nat) := (List.range ks.length).reverse.map fun i => (i, ks[i]?.getD 0)
theorem backY_len (ks : List Nat) : (backY ks).length = ks.length := by unfold backY; simp
theorem backY_at {ks : List Nat} {m t : Nat} (hm : ks.length = m) (ht : t < m) : (backY ks)[t]? = some (m - 1 - t, ks[m - 1 - t]?.getD 0) := by
  unfold backY
  rw [List.getElem?_map, List.getElem?_reverse (by simp; omega), List.length_range, hm, List.getElem?_range (by omega)]
  rfl
/-- What a round keeps: two blocks. -/
def KeepBB (B b : Nat) (W W' : World) : Prop := KeepB B W W' ∧ KeepB b W W'

set_option maxRecDepth 100000 in
set_option maxHeartbeats 4000000 in
theorem back1_in (d : Nat) (hd : 1 ≤ d) (l B b o m c : Nat) (a : Option Addr) (ks : List Nat) (hm : ks.length = m) (hm1 : m ≤ 1000000) (ha : m ≠ 0 → a = some ⟨b, o, none⟩) (J Jx : List (Nat × Nat) → World → Prop)
    (hY : ∀ pre x W, J pre W → pre.length < m → YieldAt Fence.wide (d - 1) Try.prog l (encII x) W fun e W' =>
      (e = .returned (.bool true) ∧ J (pre ++ [x]) W' ∧ KeepBB B b W W') ∨ (e = .returned (.bool false) ∧ Jx (pre ++ [x]) W'))
    (W : World) (hb : Boxed W B 33 (.slice a m c)) (hc : ∀ (j x : Nat), ks[j]? = some x → W.cell? ⟨b, o + j, none⟩ = some (.int .i64 (x : Nat))) (h0 : J [] W) :
    CallsIn Fence.wide d Try.prog 46 #[.func (.yield l) #[] #[], .pointer (some ⟨B, 0, none⟩)] W fun e W' => (∃ v, e = .returned v) ∧
      ((∃ ys, ys = backY ks ∧ J ys W') ∨ (∃ pre, pre <+: backY ks ∧ Jx pre W')) := by
  have hc0 := hb.cell
  have HBL := Lib.hid (backY_len ks)
  have HM := Lib.hid hm
  have H0 := Lib.hid (show J ((backY ks).take 0) W from h0)
  have HB0 := Lib.hid hb
  have HC0 := Lib.hid hc
  have HY := Lib.hid hY
  clear h0 hb hc hY
  refine callsIn_of_wp Try.func46 rfl trivial ?_ rfl
  simp only [Try.ntmps46, List.size_toArray, List.length_cons, List.length_nil, Nat.reduceAdd, Nat.reduceSub, Array.replicate_succ, Array.replicate_zero, List.push_toArray, List.append_toArray, List.nil_append, List.cons_append]
  gi_wp2
  gi_loopw [3] (fun p wr => ∃ t : Nat, p = .int .i64 ((m : Int) - 1 - t) ∧ t ≤ m ∧ J ((backY ks).take t) wr ∧ Boxed wr B 33 (.slice a m c) ∧ ∀ (j x : Nat), ks[j]? = some x → wr.cell? ⟨b, o + j, none⟩ = some (.int .i64 (x : Nat)))
    (fun p wr => (intOf p + 1).toNat)
  case atStart => exact ⟨0, by go_num, Nat.zero_le _, H0.out, HB0.out, HC0.out⟩
  case round =>
    obtain ⟨t, rfl, ht, hJ, hbx, hcx⟩ := hrel
    have hc1 := hbx.cell
    by_cases hlt : t < m
    · obtain ⟨x, hx⟩ : ∃ x, ks[m - 1 - t]? = some x := ⟨_, List.getElem?_eq_getElem (by omega)⟩
      have hxc := hcx _ x hx
      obtain ⟨i, hi⟩ : ∃ i : Nat, m - 1 - t = i := ⟨_, rfl⟩
      have hii : (m : Int) - 1 - t = (i : Int) := by omega
      have hat := backY_at HM.out hlt
      rw [hi] at hx hxc hat
      rw [hx] at hat
      have HS := Lib.hid (show (backY ks).take (t + 1) = (backY ks).take t ++ [(i, x)] by rw [List.take_add_one, hat]; rfl)
      have HPre := Lib.hid (show (backY ks).take (t + 1) <+: backY ks from List.take_prefix _ _)
      obtain rfl := ha (by omega)
      rw [hii]
      have him : i < m := by omega
      have hi0 : (0 : Int) ≤ (i : Int) := by omega
      have him2 : (i : Int) < (m : Int) := by omega
      obtain ⟨fn, tmps, assign, body, hy, hR⟩ := HY.out _ (i, x) wr hJ (by rw [List.length_take, HBL.out, HM.out]; omega)
      have HR := Lib.hid hR
      simp only [encII] at hy
      have HBX := Lib.hid hbx
      have HCX := Lib.hid hcx
      clear hat hx hJ hR hbx hcx hi
      gi_wp2
      refine HR.out.mono ?_
      rintro e W3 (⟨rfl, hJ3, hk3⟩ | ⟨rfl, hJx3⟩)
      · have HJ3 := Lib.hid hJ3
        have HB3 := Lib.hid (hk3.1.boxed HBX.out)
        have HC3 := Lib.hid (fun (j x : Nat) (hx : ks[j]? = some x) => (World.cell?_of_block (w := wr) (w' := W3) (a := ⟨b, o + j, none⟩) hk3.2).trans (HCX.out j x hx))
        clear hJ3 hk3
        gi_wp2
        go_roundw
        case rel => exact ⟨t + 1, by go_num, hlt, by rw [HS.out]; exact HJ3.out, HB3.out, HC3.out⟩
        case measure => first | (simp [intOf]; done) | (simp [intOf]; omega)
      · gi_wp2
        refine bodyPost_ret (results_none rfl _ _ _) rfl ?_
        exact ⟨⟨_, rfl⟩, .inr ⟨_, by rw [← HS.out]; exact HPre.out, hJx3⟩⟩
    · obtain rfl : t = m := by omega
      have hneg : ¬ (0 : Int) ≤ (t : Int) - 1 - t := by omega
      have HJ := Lib.hid (show J (backY ks) wr by rw [List.take_of_length_le (by rw [HBL.out, HM.out]; exact Nat.le_refl _)] at hJ; exact hJ)
      clear hJ
      gi_wp2
      go_end0
      exact ⟨⟨_, rfl⟩, .inl HJ.out⟩
theorem back_any (a : Option Addr) (n c : Nat) (w : World) :
    Calls Try.prog 34 #[.slice a n c] w fun e w' => e = .returned (.func (.func 46) #[] #[.pointer (some ⟨w.heap.size, 0, none⟩)]) ∧ w.alloc (.cells #[.slice a n c] 33) = w' := by
  go_enter Try.func34, Try.ntmps34
  go_wp2
  go_ret
  exact ⟨rfl, rfl⟩
theorem back_stops (d : Nat) (hd : 1 ≤ d) (B b o m c : Nat) (a : Option Addr) (ks : List Nat) (hm : ks.length = m) (hm1 : m ≤ 1000000) (ha : m ≠ 0 → a = some ⟨b, o, none⟩) (w : World) (hbl : b < w.heap.size) (hb : Boxed w B 33 (.slice a m c)) (hc : ∀ (j x : Nat), ks[j]? = some x → w.cell? ⟨b, o + j, none⟩ = some (.int .i64 (x : Nat))) :
    SeqStopsK Fence.wide d Try.prog 46 #[.pointer (some ⟨B, 0, none⟩)] encII (KeepBB B b) (fun ys => ys = backY ks) (fun pre => pre <+: backY ks) m w :=
  fun l J Jx W hW _ _ hY h0 => back1_in d hd l B b o m c a ks hm hm1 ha J Jx hY W ((hW.block B hb.lt).trans hb) (fun j x hx => (hW.cell (p := ⟨b, o + j, none⟩) hbl).trans (hc j x hx)) h0
end Go.Proofs.Ytajnpmhgldfgfaa
namespace Go.Proofs.Ytajnpmhgldfgfaa
open Go.RowKit
set_option linter.unusedVariables false

/-- How each of the first n lies. -/
def LiesTo (ups : List Int) (D : List Nat) (n : Nat) : Prop :=
  ∀ i, i < n → (i = 0 ∧ ups[i]? = some (-1) ∧ D[i]? = some 1) ∨ ∃ u : Nat, u < i ∧ ups[i]? = some (u : Int) ∧ Anc ups (i - 1) u ∧ ∃ d, D[u]? = some d ∧ D[i]? = some (d + 1)
theorem goUp_is_anc {ups : List Int} {n : Nat} (ho : UpsOk ups n) {t : Int} : ∀ (f : Nat) (u : Nat), u < n → u < f → 0 ≤ goUp ups f t (u : Int) → ∃ k : Nat, t = (k : Int) ∧ k ≤ u ∧ Anc ups u k
  | 0, u, _, h, _ => by omega
  | f + 1, u, hn, hf, h0 => by
    by_cases hc : (0 : Int) ≤ u ∧ (u : Int) ≠ t
    · rw [goUp_step hc] at h0
      rw [Int.toNat_natCast] at h0
      rcases ho u hn with ⟨rfl, g⟩ | ⟨v, g, hv⟩
      · rw [g] at h0
        have e : (some (-1 : Int)).getD 0 = -1 := rfl
        rw [e, goUp_stop (by omega)] at h0
        omega
      · rw [g] at h0
        have e : (some (v : Int)).getD 0 = (v : Int) := rfl
        rw [e] at h0
        obtain ⟨k, h1, h2, h3⟩ := goUp_is_anc ho f v (by omega) (by omega) h0
        exact ⟨k, h1, by omega, .up u v k g h3⟩
    · exact ⟨u, by omega, Nat.le_refl _, .refl _⟩
theorem depStep_lies {ups : List Int} {D E : List Nat} (hl : D.length < ups.length) (h : depStep ups D = some E) (ho : UpsOk ups D.length) (hL : LiesTo ups D D.length) : D <+: E ∧ LiesTo ups E E.length := by
  have hE := depStep_len h
  obtain ⟨t, ht⟩ : ∃ t, ups[D.length]? = some t := ⟨_, List.getElem?_eq_getElem hl⟩
  have hpre : D <+: E := by
    unfold depStep at h
    split at h
    · rename_i h0; rw [h0]; exact List.nil_prefix
    · split at h
      · cases h
      · cases h; exact List.prefix_append _ _
  refine ⟨hpre, fun i hi => ?_⟩
  have hold : ∀ (j d : Nat), D[j]? = some d → E[j]? = some d := fun j d hj => by
    obtain ⟨r, rfl⟩ := hpre
    rw [List.getElem?_append_left (List.getElem?_eq_some_iff.1 hj).1]; exact hj
  by_cases hid : i < D.length
  · rcases hL i hid with ⟨g1, g2, g3⟩ | ⟨u, g1, g2, g3, d, g4, g5⟩
    · exact .inl ⟨g1, g2, hold _ _ g3⟩
    · exact .inr ⟨u, g1, g2, g3, d, hold _ _ g4, hold _ _ g5⟩
  · obtain rfl : i = D.length := by omega
    unfold depStep at h
    split at h
    · rename_i h0
      have ht0 : ups[0]? = some t := by rw [h0] at ht; exact ht
      rw [ht0] at h
      split at h
      · rename_i h1
        have h1' : t = -1 := h1
        cases h
        left
        rw [h0]
        exact ⟨rfl, by rw [show ([] : List Nat).length = 0 from rfl, ht0, h1'], rfl⟩
      · cases h
    · rename_i h0
      have hpos : 0 < D.length := List.length_pos_iff.2 h0
      split at h
      · cases h
      · rename_i h1
        rw [ht] at h h1
        have e : (some t).getD 0 = t := rfl
        rw [e] at h h1
        have ec : (D.length : Int) - 1 = ((D.length - 1 : Nat) : Int) := by omega
        rw [ec] at h h1
        obtain ⟨k, hk1, hk2, hk3⟩ := goUp_is_anc ho (t := t) D.length (D.length - 1) (by omega) (by omega) (by omega)
        have hgo := goUp_anc ho hk3 D.length (by omega) (by omega)
        rw [hk1, hgo] at h
        cases h
        right
        have hkD : k < D.length := by omega
        refine ⟨k, hkD, by rw [ht, hk1], hk3, D[k], by rw [List.getElem?_append_left hkD, List.getElem?_eq_getElem hkD], ?_⟩
        rw [List.getElem?_append_right (Nat.le_refl _), Nat.sub_self, Int.toNat_natCast, List.getElem?_eq_getElem hkD]
        rfl
theorem depGo_lies {ups : List Int} : ∀ (k : Nat) {D E : List Nat}, D.length + k = ups.length → depGo ups k D = some E → UpsOk ups D.length → LiesTo ups D D.length → E.length = ups.length ∧ LiesTo ups E E.length
  | 0, D, E, hl, h, ho, hL => by cases h; exact ⟨by omega, hL⟩
  | k + 1, D, E, hl, h, ho, hL => by
    unfold depGo at h
    cases hd : depStep ups D with
    | none => rw [hd] at h; cases h
    | some F =>
      rw [hd] at h
      have h1 := depStep_len hd
      exact depGo_lies k (by omega) h (depStep_ok (by omega) hd ho) (depStep_lies (by omega) hd ho hL).2
theorem depthsX_lies {ups : List Int} {D : List Nat} (h : depthsX ups = some D) : D.length = ups.length ∧ LiesTo ups D ups.length := by
  obtain ⟨h1, h2⟩ := depGo_lies ups.length (by simp) h (fun j hj => by simp at hj) (fun i hi => by simp at hi)
  rw [h1] at h2
  exact ⟨h1, h2⟩

/-- Elements that lie well. -/
structure Well (ups : List Int) (D : List Nat) (n : Nat) : Prop where
  len : D.length = n
  ulen : ups.length = n
  lies : LiesTo ups D n
theorem Well.up {ups : List Int} {D : List Nat} {n : Nat} (h : Well ups D n) {i u : Nat} (hu : ups[i]? = some (u : Int)) : u < i ∧ Anc ups (i - 1) u ∧ ∃ d, D[u]? = some d ∧ D[i]? = some (d + 1) := by
  have hi : i < n := by rw [← h.ulen]; exact (List.getElem?_eq_some_iff.1 hu).1
  rcases h.lies i hi with ⟨g1, g2, g3⟩ | ⟨v, g1, g2, g3, g4⟩
  · rw [g2] at hu; cases hu
  · rw [g2] at hu
    have : v = u := by have := Option.some.inj hu; omega
    subst this
    exact ⟨g1, g3, g4⟩
theorem Well.anc_le {ups : List Int} {D : List Nat} {n : Nat} (h : Well ups D n) {x u : Nat} (ha : Anc ups x u) : u ≤ x := by
  induction ha with
  | refl i => exact Nat.le_refl _
  | up i j k h1 h2 ih => have := (h.up h1).1; omega
/-- Between an element and one in it all are in it. -/
theorem Well.between {ups : List Int} {D : List Nat} {n : Nat} (h : Well ups D n) : ∀ (x u j : Nat), Anc ups x u → u < j → j ≤ x → Anc ups j u := by
  intro x
  induction x using Nat.strongRecOn with
  | _ x ih =>
    intro u j ha hu hj
    cases ha with
    | refl i => omega
    | up _ v _ h1 h2 =>
      obtain ⟨g1, g2, -⟩ := h.up h1
      by_cases hjx : j = x
      · subst hjx; exact .up _ v _ h1 h2
      · by_cases hjv : j ≤ v
        · exact ih v g1 u j h2 hu hjv
        · exact (ih (x - 1) (by omega) v j g2 (by omega) (by omega)).trans h2
theorem Well.anc_up {ups : List Int} {D : List Nat} {n : Nat} (h : Well ups D n) {x u : Nat} (ha : Anc ups x u) (hne : x ≠ u) : ∃ v : Nat, ups[x]? = some (v : Int) ∧ u ≤ v ∧ Anc ups v u := by
  cases ha with
  | refl i => exact absurd rfl hne
  | up _ v _ h1 h2 => exact ⟨v, h1, h.anc_le h2, h2⟩
/-- What is in an element is deeper. -/
theorem Well.deeper {ups : List Int} {D : List Nat} {n : Nat} (h : Well ups D n) {x u : Nat} (ha : Anc ups x u) : x ≠ u → ∃ d e, D[u]? = some d ∧ D[x]? = some e ∧ d < e := by
  induction ha with
  | refl i => intro hne; exact absurd rfl hne
  | up i j k h1 h2 ih =>
    intro _
    obtain ⟨g1, g2, d, g3, g4⟩ := h.up h1
    by_cases hjk : j = k
    · subst hjk; exact ⟨d, d + 1, g3, g4, by omega⟩
    · obtain ⟨a, b, k1, k2, k3⟩ := ih hjk
      rw [g3] at k2
      cases k2
      exact ⟨a, d + 1, k1, g4, by omega⟩
/-- Is an element within one of those from e up to k? -/
def inB (ups : List Int) (e k j : Nat) : Bool := match ups[j]? with | some u => decide ((e : Int) ≤ u ∧ u < (k : Int)) | none => false
theorem inB_iff {ups : List Int} {e k j : Nat} : inB ups e k j = true ↔ ∃ u : Nat, ups[j]? = some (u : Int) ∧ e ≤ u ∧ u < k := by
  unfold inB
  cases h : ups[j]? with
  | none => simp
  | some v =>
    rw [decide_eq_true_iff]
    constructor
    · rintro ⟨h1, h2⟩; exact ⟨v.toNat, by rw [Int.toNat_of_nonneg (by omega)], by omega, by omega⟩
    · rintro ⟨u, h1, h2, h3⟩; have := Option.some.inj h1; omega
/-- Those that wait, while one walks through an element e and stands ahead of k: those behind that are within one that was told. -/
def waits (ups : List Int) (e k : Nat) : List Nat := (List.range ups.length).filter fun j => decide (k ≤ j) && inB ups e k j
/-- Those of them that stand behind the next one. -/
def waits1 (ups : List Int) (e k : Nat) : List Nat := (List.range ups.length).filter fun j => decide (k + 1 ≤ j) && inB ups e k j
theorem filter_parts {P Q R : Nat → Bool} : ∀ {l : List Nat}, l.Pairwise (· < ·) → (∀ x ∈ l, P x = (Q x || R x)) → (∀ a ∈ l, ∀ b ∈ l, Q a = true → R b = true → a < b) → l.filter P = l.filter Q ++ l.filter R
  | [], _, _, _ => rfl
  | x :: t, hp, h1, h2 => by
    have hpt := (List.pairwise_cons.1 hp)
    have ih := filter_parts hpt.2 (fun y hy => h1 y (List.mem_cons_of_mem _ hy)) (fun a ha b hb => h2 a (List.mem_cons_of_mem _ ha) b (List.mem_cons_of_mem _ hb))
    have hx := h1 x List.mem_cons_self
    cases hq : Q x with
    | true =>
      have hr : R x = false := by
        cases hr : R x with
        | false => rfl
        | true => exact absurd (h2 x List.mem_cons_self x List.mem_cons_self hq hr) (Nat.lt_irrefl _)
      rw [hq] at hx
      rw [List.filter_cons_of_pos (by rw [hx]; rfl), List.filter_cons_of_pos hq, List.filter_cons_of_neg (by rw [hr]; decide), ih, List.cons_append]
    | false =>
      rw [hq, Bool.false_or] at hx
      cases hr : R x with
      | false =>
        rw [List.filter_cons_of_neg (by rw [hx, hr]; decide), List.filter_cons_of_neg (by rw [hq]; decide), List.filter_cons_of_neg (by rw [hr]; decide), ih]
      | true =>
        have hno : t.filter Q = [] := List.filter_eq_nil_iff.2 fun a ha hqa => by
          have g1 := h2 a (List.mem_cons_of_mem _ ha) x List.mem_cons_self hqa hr
          have g2 := hpt.1 a ha
          omega
        rw [List.filter_cons_of_pos (by rw [hx]; exact hr), List.filter_cons_of_neg (by rw [hq]; decide), List.filter_cons_of_pos hr, ih, hno]
        rfl
theorem range_lt (n : Nat) : (List.range n).Pairwise (· < ·) := List.pairwise_lt_range
theorem waits_mem {ups : List Int} {e k j : Nat} : j ∈ waits ups e k ↔ k ≤ j ∧ ∃ u : Nat, ups[j]? = some (u : Int) ∧ e ≤ u ∧ u < k := by
  unfold waits
  rw [List.mem_filter, Bool.and_eq_true, decide_eq_true_iff, inB_iff, List.mem_range]
  exact ⟨fun h => h.2, fun h => ⟨(List.getElem?_eq_some_iff.1 h.2.choose_spec.1).1, h⟩⟩
/-- If one waits, the next one does. -/
theorem Well.waits_next {ups : List Int} {D : List Nat} {n : Nat} (h : Well ups D n) {e k j : Nat} (hj : j ∈ waits ups e k) : ∃ u : Nat, ups[k]? = some (u : Int) ∧ e ≤ u ∧ u < k := by
  obtain ⟨h1, u, h2, h3, h4⟩ := waits_mem.1 hj
  obtain ⟨g1, g2, -⟩ := h.up h2
  by_cases hjk : j = k
  · subst hjk; exact ⟨u, h2, h3, h4⟩
  · have ha := h.between (j - 1) u k g2 h4 (by omega)
    obtain ⟨v, k1, k2, k3⟩ := h.anc_up ha (by omega)
    exact ⟨v, k1, by omega, (h.up k1).1⟩
theorem range_one {n k : Nat} (hk : k < n) : (List.range n).filter (fun j => decide (j = k)) = [k] := by
  induction n with
  | zero => omega
  | succ n ih =>
    rw [List.range_succ, List.filter_append]
    by_cases hkn : k < n
    · rw [ih hkn, List.filter_cons_of_neg (by simp; omega), List.filter_nil, List.append_nil]
    · obtain rfl : k = n := by omega
      rw [List.filter_cons_of_pos (by simp), List.filter_nil, List.filter_eq_nil_iff.2 (fun a ha => by have := List.mem_range.1 ha; simp; omega)]
      rfl
theorem Well.waits_pop {ups : List Int} {D : List Nat} {n : Nat} (h : Well ups D n) {e k u : Nat} (hk : ups[k]? = some (u : Int)) (he : e ≤ u) : waits ups e k = k :: waits1 ups e k := by
  have hku := (h.up hk).1
  have hkn : k < ups.length := (List.getElem?_eq_some_iff.1 hk).1
  have e1 : waits ups e k = (List.range ups.length).filter (fun j => decide (j = k)) ++ waits1 ups e k := by
    refine filter_parts (range_lt _) (fun x _ => ?_) (fun a _ b _ ha hb => ?_)
    · rw [Bool.eq_iff_iff, Bool.or_eq_true, Bool.and_eq_true, Bool.and_eq_true, decide_eq_true_iff, decide_eq_true_iff, decide_eq_true_iff, inB_iff]
      constructor
      · rintro ⟨g1, g2⟩
        by_cases hxk : x = k
        · exact .inl hxk
        · exact .inr ⟨by omega, g2⟩
      · rintro (rfl | ⟨g1, g2⟩)
        · exact ⟨Nat.le_refl _, u, hk, he, hku⟩
        · exact ⟨by omega, g2⟩
    · have h1 := of_decide_eq_true ha
      have h2 := of_decide_eq_true (Bool.and_eq_true _ _ ▸ hb : _ ∧ _).1
      omega
  rw [e1, range_one hkn]
  rfl
theorem Well.waits_push {ups : List Int} {D : List Nat} {n : Nat} (h : Well ups D n) {e k : Nat} (he : e ≤ k) : kidsI ups k ++ waits1 ups e k = waits ups e (k + 1) := by
  unfold kidsI waits waits1
  symm
  refine filter_parts (range_lt _) (fun x _ => ?_) (fun a _ b _ ha hb => ?_)
  · rw [Bool.eq_iff_iff]
    simp only [Bool.or_eq_true, Bool.and_eq_true, decide_eq_true_eq, inB_iff]
    constructor
    · rintro ⟨g1, u, g2, g3, g4⟩
      by_cases huk : u = k
      · subst huk; exact .inl g2
      · exact .inr ⟨g1, u, g2, g3, by omega⟩
    · rintro (g | ⟨g1, u, g2, g3, g4⟩)
      · have := (h.up g).1; exact ⟨by omega, k, g, he, by omega⟩
      · exact ⟨g1, u, g2, g3, by omega⟩
  · have h1 := of_decide_eq_true ha
    obtain ⟨u, g2, g3, g4⟩ := inB_iff.1 (Bool.and_eq_true _ _ ▸ hb : _ ∧ _).2
    have g1 := of_decide_eq_true (Bool.and_eq_true _ _ ▸ hb : _ ∧ _).1
    obtain ⟨k1, k2, -⟩ := h.up h1
    apply Decidable.byContradiction
    intro hab
    by_cases hba : b = a
    · subst hba
      rw [h1] at g2
      have := Option.some.inj g2
      omega
    · have ha2 := h.between (a - 1) k b k2 (by omega) (by omega)
      obtain ⟨v, m1, m2, m3⟩ := h.anc_up ha2 (by omega)
      rw [m1] at g2
      have := Option.some.inj g2
      omega
/-- At first only what is in e waits behind e. -/
theorem Well.waits_first {ups : List Int} {D : List Nat} {n : Nat} (h : Well ups D n) (e : Nat) : waits1 ups e e = [] := by
  unfold waits1
  refine List.filter_eq_nil_iff.2 fun a _ ha => ?_
  obtain ⟨u, g1, g2, g3⟩ := inB_iff.1 (Bool.and_eq_true _ _ ▸ ha : _ ∧ _).2
  omega
theorem waits1_len {ups : List Int} {e k : Nat} (hk : k < ups.length) : (waits1 ups e k).length < ups.length := by
  unfold waits1
  have h1 : ((List.range ups.length).filter fun j => decide (k + 1 ≤ j) && inB ups e k j).length < (List.range ups.length).length := by
    refine List.length_filter_lt_length_iff_exists.2 ⟨k, List.mem_range.2 hk, ?_⟩
    simp
    intro h
    omega
  rwa [List.length_range] at h1
/-- How many an element has in it, with itself: those behind it that are deeper. -/
def segN (D : List Nat) (e : Nat) : Nat := 1 + ((D.drop (e + 1)).takeWhile fun x => decide (D[e]?.getD 0 < x)).length
theorem takeWhile_len {α : Type} {P : α → Bool} : ∀ (l : List α) (m : Nat), m ≤ l.length → (∀ j x, j < m → l[j]? = some x → P x = true) → (∀ x, l[m]? = some x → P x = false) → (l.takeWhile P).length = m
  | [], m, h, _, _ => by simp at h; subst h; rfl
  | a :: t, 0, _, _, h3 => by rw [List.takeWhile_cons, if_neg (by rw [h3 a rfl]; decide)]; rfl
  | a :: t, m + 1, h1, h2, h3 => by
    rw [List.takeWhile_cons, if_pos (h2 0 a (by omega) rfl), List.length_cons, takeWhile_len t m (by simp at h1; omega) (fun j x hj hx => h2 (j + 1) x (by omega) hx) (fun x hx => h3 x hx)]
/-- Where one stands, while one walks through an element e: those up to k were told, and these wait. -/
structure AtK (ups : List Int) (e k : Nat) (st : List Nat) : Prop where
  ge : e ≤ k
  told : ∀ j, e < j → j < k → Anc ups j e
  first : k = e → st = [e]
  next : e < k → st = waits ups e k
theorem AtK.start (ups : List Int) (e : Nat) : AtK ups e e [e] := ⟨Nat.le_refl _, fun j h1 h2 => by omega, fun _ => rfl, fun h => by omega⟩
theorem Well.at_pop {ups : List Int} {D : List Nat} {n : Nat} (h : Well ups D n) {e k : Nat} (he : e < n) {x : Nat} {st : List Nat} (ha : AtK ups e k (x :: st)) :
    x = k ∧ k < n ∧ st = waits1 ups e k ∧ Anc ups k e ∧ AtK ups e (k + 1) (kidsI ups k ++ st) := by
  by_cases hk : k = e
  · subst hk
    have h1 := ha.first rfl
    simp only [List.cons.injEq] at h1
    obtain ⟨rfl, rfl⟩ := h1
    refine ⟨rfl, he, (h.waits_first x).symm, .refl _, ⟨by omega, fun j h1 h2 => by omega, fun e => by omega, fun _ => ?_⟩⟩
    rw [← h.waits_push (Nat.le_refl x), h.waits_first]
  · have hlt : e < k := by have := ha.ge; omega
    have h1 := ha.next hlt
    obtain ⟨u, hu, heu, huk⟩ := h.waits_next (e := e) (k := k) (j := x) (by rw [← h1]; exact List.mem_cons_self)
    have hp := h.waits_pop hu heu
    rw [hp] at h1
    simp only [List.cons.injEq] at h1
    obtain ⟨rfl, rfl⟩ := h1
    have hanc : Anc ups x e := by
      refine .up x u e hu ?_
      by_cases hue : u = e
      · subst hue; exact .refl _
      · exact ha.told u (by omega) huk
    refine ⟨rfl, by rw [← h.ulen]; exact (List.getElem?_eq_some_iff.1 hu).1, rfl, hanc, ⟨by omega, fun j h1 h2 => ?_, fun e => by omega, fun _ => (h.waits_push ha.ge)⟩⟩
    by_cases hjx : j = x
    · subst hjx; exact hanc
    · exact ha.told j h1 (by omega)
theorem Well.at_end {ups : List Int} {D : List Nat} {n : Nat} (h : Well ups D n) {e k : Nat} (he : e < n) (hk : k ≤ n) (ha : AtK ups e k []) : k = e + segN D e := by
  have hlt : e < k := by
    by_cases hk : k = e
    · have := ha.first hk; cases this
    · have := ha.ge; omega
  have hw := ha.next hlt
  obtain ⟨d, hd⟩ : ∃ d, D[e]? = some d := ⟨_, List.getElem?_eq_getElem (by rw [h.len]; exact he)⟩
  have : ((D.drop (e + 1)).takeWhile fun x => decide (D[e]?.getD 0 < x)).length = k - (e + 1) := by
    refine takeWhile_len _ _ (by rw [List.length_drop, h.len]; omega) (fun j x hj hx => ?_) (fun x hx => ?_)
    · rw [List.getElem?_drop] at hx
      obtain ⟨a, b, g1, g2, g3⟩ := h.deeper (ha.told (e + 1 + j) (by omega) (by omega)) (by omega)
      rw [hd] at g1
      rw [hx] at g2
      cases g1
      cases g2
      rw [hd]
      exact decide_eq_true g3
    · rw [List.getElem?_drop, show e + 1 + (k - (e + 1)) = k by omega] at hx
      rw [hd]
      refine decide_eq_false fun (hlt2 : d < x) => ?_
      have hkn : k < n := by rw [← h.len]; exact (List.getElem?_eq_some_iff.1 hx).1
      rcases h.lies k hkn with ⟨g1, -, -⟩ | ⟨u, g1, g2, g3, d', g4, g5⟩
      · omega
      · rw [hx] at g5
        cases g5
        by_cases heu : e ≤ u
        · have hm : k ∈ waits ups e k := waits_mem.2 ⟨Nat.le_refl _, u, g2, heu, g1⟩
          rw [← hw] at hm
          cases hm
        · have hb := h.between (k - 1) u e g3 (by omega) (by omega)
          obtain ⟨a, b, m1, m2, m3⟩ := h.deeper hb (by omega)
          rw [g4] at m1
          rw [hd] at m2
          cases m1
          cases m2
          omega
  unfold segN
  omega
theorem takeWhile_ge {α : Type} {P : α → Bool} : ∀ (l : List α) (m : Nat), m ≤ l.length → (∀ j x, j < m → l[j]? = some x → P x = true) → m ≤ (l.takeWhile P).length
  | [], m, h, _ => by simp at h; omega
  | a :: t, 0, _, _ => Nat.zero_le _
  | a :: t, m + 1, h1, h2 => by
    rw [List.takeWhile_cons, if_pos (h2 0 a (by omega) rfl), List.length_cons]
    have := takeWhile_ge t m (by simp at h1; omega) (fun j x hj hx => h2 (j + 1) x (by omega) hx)
    omega
theorem Well.seg_lt {ups : List Int} {D : List Nat} {n : Nat} (h : Well ups D n) {e k : Nat} (he : e < n) (hk : k < n) (hek : e ≤ k) (ha : ∀ j, e < j → j ≤ k → Anc ups j e) : k < e + segN D e := by
  obtain ⟨d, hd⟩ : ∃ d, D[e]? = some d := ⟨_, List.getElem?_eq_getElem (by rw [h.len]; exact he)⟩
  have := takeWhile_ge (P := fun x => decide (D[e]?.getD 0 < x)) (D.drop (e + 1)) (k - e) (by rw [List.length_drop, h.len]; omega) (fun j x hj hx => by
    rw [List.getElem?_drop] at hx
    obtain ⟨a, b, g1, g2, g3⟩ := h.deeper (ha (e + 1 + j) (by omega) (by omega)) (by omega)
    rw [hd] at g1
    rw [hx] at g2
    cases g1
    cases g2
    rw [hd]
    exact decide_eq_true g3)
  unfold segN
  omega
/-- What a walk through an element tells. -/
def segY (D : List Nat) (e : Nat) : List (Nat × Nat) := (List.range (segN D e)).map fun t => (e + t, D[e + t]?.getD 0 - D[e]?.getD 0)
/-- The first ones of it. -/
def segTo (D : List Nat) (e k : Nat) : List (Nat × Nat) := (List.range (k - e)).map fun t => (e + t, D[e + t]?.getD 0 - D[e]?.getD 0)
theorem segTo_start (D : List Nat) (e : Nat) : segTo D e e = [] := by unfold segTo; simp
theorem segTo_step {D : List Nat} {e k : Nat} (h : e ≤ k) : segTo D e (k + 1) = segTo D e k ++ [(k, D[k]?.getD 0 - D[e]?.getD 0)] := by
  unfold segTo
  rw [show k + 1 - e = k - e + 1 by omega, List.range_succ, List.map_append, List.map_cons, List.map_nil, show e + (k - e) = k by omega]
theorem segTo_end {D : List Nat} {e : Nat} : segTo D e (e + segN D e) = segY D e := by unfold segTo segY; rw [show e + segN D e - e = segN D e by omega]
theorem segTo_pre {D : List Nat} {e k : Nat} (h : k ≤ e + segN D e) : segTo D e k <+: segY D e := by
  unfold segTo segY
  rw [show segN D e = (k - e) + (segN D e - (k - e)) by omega, List.range_add, List.map_append]
  exact List.prefix_append _ _
end Go.Proofs.Ytajnpmhgldfgfaa
