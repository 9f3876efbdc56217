/- A region that draws its order and appends to two rows, the one behind the other; no program in sight. -/
import Derived.RangeFuncNested
import Derived.RangeFuncBound
import Derived.RangeFuncCalls
import Derived.RangeFuncLeaves
import Derived.RangeFuncBox
import Derived.Shelf.Abstract
import Derived.Shelf.RegionOpen
import Derived.WalkKit
import Derived.OwnWalkIn
import Derived.OrdersIn
import Derived.Maps.OwnIn
import Derived.Maps.AppendAt
import Derived.Lib.Hide
import Derived.Test.YtjcpfmndkeiegaaGreatDoorIt
namespace Go.Proofs.YtjcpfmndkeiegaaGreatDoor
open Go.RowKit Go.Shelf
set_option linter.unusedVariables false

section
variable {F : Fence} {n : Nat} {P : Program} {ops : Array Oper} {Q : Exit → Act → World → Prop} {md : Region.Mode}
theorem ready_mem {l : Array Bool} {i : Nat} (h : i ∈ Region.ready md ops l) : i < ops.size ∧ l.getD i true = false ∧ ∀ o, ops[i]? = some o → ∀ (k : Nat) (e : Edge), o.after[k]? = some e → Region.binds md e = true → l.getD e.on false = true := by
  unfold Region.ready at h
  rw [List.mem_filter, List.mem_range] at h
  obtain ⟨h1, h2⟩ := h
  rw [Bool.and_eq_true] at h2
  obtain ⟨h2, h3⟩ := h2
  refine ⟨h1, by simpa using h2, fun o ho k e hke hb => ?_⟩
  have he : e ∈ o.after := Array.mem_of_getElem? hke
  rw [ho] at h3
  simp only [Option.map_some, Option.getD_some, Array.all_eq_true_iff_forall_mem] at h3
  have := h3 e he
  rw [hb] at this
  simpa using this
theorem mem_ready {l : Array Bool} {i : Nat} {o : Oper} (ho : ops[i]? = some o) (hb : l.getD i true = false) (hd : (o.after.toList.all fun e => !Region.binds md e || l.getD e.on false) = true) : i ∈ Region.ready md ops l := by
  unfold Region.ready
  rw [List.mem_filter, List.mem_range]
  refine ⟨(Array.getElem?_eq_some_iff.1 ho).1, ?_⟩
  rw [hb, ho]
  simp only [Option.map_some, Option.getD_some, Bool.not_false, Bool.true_and]
  rw [← Array.all_toList]
  exact hd
theorem listed_of {l : Array Bool} {i : Nat} {o : Oper} {b : Bool} (hr : Region.ready md ops l = []) (ho : ops[i]? = some o) (hb : l.getD i true = b) (hd : (o.after.toList.all fun e => !Region.binds md e || l.getD e.on false) = true) : b = true := by
  cases b with
  | true => rfl
  | false => have := mem_ready ho hb hd; rw [hr] at this; cases this
theorem nf {b : Bool} (d : b = true → false = true) : b = false := by
  cases b with
  | false => rfl
  | true => exact (d rfl).symm ▸ rfl
theorem countP_lt {α : Type} {p q : α → Bool} {x : α} : ∀ {l : List α}, (∀ y ∈ l, q y = true → p y = true) → x ∈ l → p x = true → q x = false → l.countP q < l.countP p
  | [], _, hx, _, _ => by cases hx
  | y :: l, h, hx, hp, hq => by
    rw [List.countP_cons, List.countP_cons]
    have hle : l.countP q ≤ l.countP p := List.countP_mono_left (fun z hz => h z (List.mem_cons_of_mem _ hz))
    rcases List.mem_cons.1 hx with rfl | hx
    · rw [hp, hq]; simp; omega
    · have := countP_lt (l := l) (fun z hz => h z (List.mem_cons_of_mem _ hz)) hx hp hq
      have h0 := h y (List.mem_cons_self ..)
      cases hy : q y with
      | false => simp; omega
      | true => rw [h0 hy]; simp; omega
/-- A region in every order, by what holds on the way. -/
theorem wpAnyIn_inv (Inv : Array Bool → Act → World → Prop)
    (hd : ∀ l a w, Inv l a w → Region.ready md ops l = [] → Q .normal a w)
    (hs : ∀ l a w i, Inv l a w → i ∈ Region.ready md ops l → wpOpIn F n P ops Q i (Inv (l.setIfInBounds i true)) a w) :
    ∀ (fuel : Nat) (l : Array Bool) (a : Act) (w : World), Inv l a w → ((List.range ops.size).countP fun i => !l.getD i true) ≤ fuel → wpAnyIn F n P md ops Q fuel l a w
  | 0, l, a, w, h, hc => by
    have hr : Region.ready md ops l = [] := by
      cases hr : Region.ready md ops l with
      | nil => rfl
      | cons i rs =>
        obtain ⟨h1, h2, _⟩ := ready_mem (md := md) (ops := ops) (l := l) (i := i) (by rw [hr]; simp)
        have := (List.countP_pos_iff (p := fun i => !l.getD i true)).2 ⟨i, List.mem_range.2 h1, (by show (!l.getD i true) = true; rw [h2]; rfl)⟩
        omega
    exact ⟨hr, hd l a w h hr⟩
  | fuel + 1, l, a, w, h, hc => by
    refine ⟨fun hr => hd l a w h hr, fun i hi => ?_⟩
    obtain ⟨h1, h2, _⟩ := ready_mem hi
    have hlt : i < l.size := by
      apply Decidable.byContradiction
      intro hge
      rw [Array.getD_eq_getD_getElem?, Array.getElem?_eq_none (by omega)] at h2
      cases h2
    refine wpOpIn_mono (fun a' w' h' => wpAnyIn_inv Inv hd hs fuel _ a' w' h' ?_) (hs l a w i h hi)
    have := countP_lt (p := fun i => !l.getD i true) (q := fun j => !(l.setIfInBounds i true).getD j true) (x := i) (l := List.range ops.size)
      (fun y _ hy => by
        by_cases hyi : y = i
        · subst hyi; simp [Array.getD_eq_getD_getElem?, hlt] at hy
        · simpa [Array.getD_eq_getD_getElem?, Array.getElem?_setIfInBounds_ne (Ne.symm hyi)] using hy)
      (List.mem_range.2 h1) (by rw [h2]; rfl) (by simp [Array.getD_eq_getD_getElem?, hlt])
    omega
end

/-- What holds of two rows, their boxes, and blocks that stay. -/
structure TS (base BA BB : Nat) (tA tB eA eB : TypeId) (sA sB : Nat) (L : List (Nat × TypeId × Array Value)) (W0 W : World) (bA bB vA : Value) (kA : Nat) (xA : List Value) (vB : Value) (kB : Nat) (xB : List Value) : Prop where
  boxA : Boxed W BA tA bA
  boxB : Boxed W BB tB bB
  rowA : W.ownsRow base eA sA vA kA xA
  rowB : W.ownsRow base eB sB vB kB xB
  apart : ∀ g, vA.ownBlock = some g → vB.ownBlock ≠ some g
  aA : vA.ownBlock ≠ some BA
  aB : vA.ownBlock ≠ some BB
  bA' : vB.ownBlock ≠ some BA
  bB' : vB.ownBlock ≠ some BB
  stay : ∀ p ∈ L, BlkAt W p.1 p.2.1 p.2.2 ∧ vA.ownBlock ≠ some p.1 ∧ vB.ownBlock ≠ some p.1 ∧ p.1 ≠ BA ∧ p.1 ≠ BB
  keeps : KeepsOthers W0 W
  below : Below base W0 W
  room : base ≤ W.heap.size
  ne : BA ≠ BB
  geA : base ≤ BA
  geB : base ≤ BB
section
variable {base BA BB : Nat} {tA tB eA eB : TypeId} {sA sB : Nat} {L : List (Nat × TypeId × Array Value)} {W0 W W' : World} {bA bB vA : Value} {kA : Nat} {xA : List Value} {vB : Value} {kB : Nat} {xB : List Value}
theorem own_ltT {e : TypeId} {size : Nat} {v : Value} {k : Nat} {xs : List Value} (h : W.ownsRow base e size v k xs) {g : Nat} (hg : v.ownBlock = some g) : base ≤ g ∧ g < W.heap.size := h.lt g hg
theorem TS.alloc (h : TS base BA BB tA tB eA eB sA sB L W0 W bA bB vA kA xA vB kB xB) (t : TypeId) (cs : Array Value) :
    TS base BA BB tA tB eA eB sA sB ((W.heap.size, t, cs) :: L) W0 (W.alloc (.cells cs t)) bA bB vA kA xA vB kB xB where
  boxA := h.boxA.alloc _
  boxB := h.boxB.alloc _
  rowA := h.rowA.alloc _
  rowB := h.rowB.alloc _
  apart := h.apart
  aA := h.aA
  aB := h.aB
  bA' := h.bA'
  bB' := h.bB'
  stay := fun p hp => by
    rcases List.mem_cons.1 hp with rfl | hp
    · exact ⟨BlkAt.new _ _ _, fun e => by have := own_ltT h.rowA e; omega, fun e => by have := own_ltT h.rowB e; omega, fun e => by have := h.boxA.lt; simp at e; omega, fun e => by have := h.boxB.lt; simp at e; omega⟩
    · obtain ⟨h1, h2⟩ := h.stay p hp
      exact ⟨h1.alloc _, h2⟩
  keeps := h.keeps.trans (KeepsOthers.alloc _ _)
  below := h.below.alloc h.room _
  room := by have := h.room; simp; omega
  ne := h.ne
  geA := h.geA
  geB := h.geB
theorem keeps_own {e : TypeId} {size : Nat} {v : Value} {k : Nat} {xs : List Value} (h : W.ownsRow base e size v k xs) (hg : W.grownBy W' v.ownBlock) : KeepsOthers W W' :=
  KeepsOthers.of_grownBy hg fun j o ej hj => by
    rcases h.2 with ⟨rfl, _⟩ | ⟨g, cap, cur, rfl, _, hgb, _⟩
    · simp [Value.ownBlock] at ej
    · obtain rfl : g = j := by simpa [Value.ownBlock] using ej
      rw [hgb] at hj; cases hj; rfl
theorem TS.appA (h : TS base BA BB tA tB eA eB sA sB L W0 W bA bB vA kA xA vB kB xB) {v' : Value} {k' : Nat} {xs' : List Value} (hg : W.grownBy W' vA.ownBlock) (ho : W'.ownsRow base eA sA v' k' xs')
    (hat : v'.ownBlock = vA.ownBlock ∨ v'.ownBlock = some W.heap.size) : TS base BA BB tA tB eA eB sA sB L W0 W' bA bB v' k' xs' vB kB xB where
  boxA := h.boxA.kept hg (Ne.symm h.aA)
  boxB := h.boxB.kept hg (Ne.symm h.aB)
  rowA := ho
  rowB := h.rowB.kept hg (by
    cases hv : vB.ownBlock with
    | none => exact .inl rfl
    | some g => exact .inr fun e => h.apart g (by rw [← e]) hv)
  apart := fun g e => by
    rcases hat with hat | hat
    · exact h.apart g (by rw [← hat]; exact e)
    · intro e'
      have := own_ltT h.rowB e'
      rw [hat] at e; cases e; omega
  aA := by
    rcases hat with hat | hat
    · rw [hat]; exact h.aA
    · rw [hat]; have := h.boxA.lt; intro e; cases e; omega
  aB := by
    rcases hat with hat | hat
    · rw [hat]; exact h.aB
    · rw [hat]; have := h.boxB.lt; intro e; cases e; omega
  bA' := h.bA'
  bB' := h.bB'
  stay := fun p hp => by
    obtain ⟨h1, h2, h3⟩ := h.stay p hp
    refine ⟨h1.grown hg (Ne.symm h2), ?_, h3⟩
    rcases hat with hat | hat
    · rw [hat]; exact h2
    · rw [hat]; have := h1.lt; intro e; have e := Option.some.inj e; omega
  keeps := h.keeps.trans (keeps_own h.rowA hg)
  below := h.below.grown hg h.room (fun j ej => (own_ltT h.rowA ej).1)
  room := Nat.le_trans h.room hg.size
  ne := h.ne
  geA := h.geA
  geB := h.geB
theorem TS.appB (h : TS base BA BB tA tB eA eB sA sB L W0 W bA bB vA kA xA vB kB xB) {v' : Value} {k' : Nat} {xs' : List Value} (hg : W.grownBy W' vB.ownBlock) (ho : W'.ownsRow base eB sB v' k' xs')
    (hat : v'.ownBlock = vB.ownBlock ∨ v'.ownBlock = some W.heap.size) : TS base BA BB tA tB eA eB sA sB L W0 W' bA bB vA kA xA v' k' xs' where
  boxA := h.boxA.kept hg (Ne.symm h.bA')
  boxB := h.boxB.kept hg (Ne.symm h.bB')
  rowB := ho
  rowA := h.rowA.kept hg (by
    cases hv : vA.ownBlock with
    | none => exact .inl rfl
    | some g => exact .inr fun e => h.apart g hv (by rw [← e]))
  apart := fun g e => by
    rcases hat with hat | hat
    · rw [hat]; exact h.apart g e
    · intro e'
      have := own_ltT h.rowA e
      rw [hat] at e'; cases e'; omega
  bA' := by
    rcases hat with hat | hat
    · rw [hat]; exact h.bA'
    · rw [hat]; have := h.boxA.lt; intro e; cases e; omega
  bB' := by
    rcases hat with hat | hat
    · rw [hat]; exact h.bB'
    · rw [hat]; have := h.boxB.lt; intro e; cases e; omega
  aA := h.aA
  aB := h.aB
  stay := fun p hp => by
    obtain ⟨h1, h2, h3, h4⟩ := h.stay p hp
    refine ⟨h1.grown hg (Ne.symm h3), h2, ?_, h4⟩
    rcases hat with hat | hat
    · rw [hat]; exact h3
    · rw [hat]; have := h1.lt; intro e; have e := Option.some.inj e; omega
  keeps := h.keeps.trans (keeps_own h.rowB hg)
  below := h.below.grown hg h.room (fun j ej => (own_ltT h.rowB ej).1)
  room := Nat.le_trans h.room hg.size
  ne := h.ne
  geA := h.geA
  geB := h.geB
theorem TS.setA (h : TS base BA BB tA tB eA eB sA sB L W0 W bA bB vA kA xA vB kB xB) (v : Value) : TS base BA BB tA tB eA eB sA sB L W0 (W.setCell ⟨BA, 0, none⟩ v) v bB vA kA xA vB kB xB where
  boxA := h.boxA.set v
  boxB := h.boxB.other (Ne.symm h.ne) v
  rowA := h.rowA.kept (grownBy_setCell' W BA v) (.inr h.aA)
  rowB := h.rowB.kept (grownBy_setCell' W BA v) (.inr h.bA')
  apart := h.apart
  aA := h.aA
  aB := h.aB
  bA' := h.bA'
  bB' := h.bB'
  stay := fun p hp => by
    obtain ⟨h1, h2, h3, h4, h5⟩ := h.stay p hp
    exact ⟨h1.far h4 v, h2, h3, h4, h5⟩
  keeps := h.keeps.trans (KeepsOthers.setCell _ _ _)
  below := h.below.setCell (p := ⟨BA, 0, none⟩) h.geA _
  room := by rw [World.size_setCell]; exact h.room
  ne := h.ne
  geA := h.geA
  geB := h.geB
theorem TS.setB (h : TS base BA BB tA tB eA eB sA sB L W0 W bA bB vA kA xA vB kB xB) (v : Value) : TS base BA BB tA tB eA eB sA sB L W0 (W.setCell ⟨BB, 0, none⟩ v) bA v vA kA xA vB kB xB where
  boxB := h.boxB.set v
  boxA := h.boxA.other h.ne v
  rowA := h.rowA.kept (grownBy_setCell' W BB v) (.inr h.aB)
  rowB := h.rowB.kept (grownBy_setCell' W BB v) (.inr h.bB')
  apart := h.apart
  aA := h.aA
  aB := h.aB
  bA' := h.bA'
  bB' := h.bB'
  stay := fun p hp => by
    obtain ⟨h1, h2, h3, h4, h5⟩ := h.stay p hp
    exact ⟨h1.far h5 v, h2, h3, h4, h5⟩
  keeps := h.keeps.trans (KeepsOthers.setCell _ _ _)
  below := h.below.setCell (p := ⟨BB, 0, none⟩) h.geB _
  room := by rw [World.size_setCell]; exact h.room
  ne := h.ne
  geA := h.geA
  geB := h.geB
end

/-- 's, t = append(s, x), append(t, y)' of boxes s and t. -/
def twoOps (tA tB t1 t5 : TypeId) (o1 o5 : Op) (pos : String) : Array Oper := #[
  { dst := some 13, op := .load tA (.tmp 6), type := tA, pos := pos, after := #[], guard := none },
  { dst := some 14, op := o1, type := t1, pos := pos, after := #[], guard := none },
  { dst := some 15, op := .buildSlice tA 1 #[(0, .tmp 14)], type := tA, pos := pos, after := #[{ on := 1, ground := .data }], guard := none },
  { dst := some 16, op := .call { callee := .builtin .append, args := #[.tmp 13, .tmp 15], argTypes := #[tA, tA] }, type := tA, pos := pos, after := #[{ on := 0, ground := .data }, { on := 2, ground := .data }], guard := none },
  { dst := some 17, op := .load tB (.tmp 7), type := tB, pos := pos, after := #[], guard := none },
  { dst := some 18, op := o5, type := t5, pos := pos, after := #[], guard := none },
  { dst := some 19, op := .buildSlice tB 1 #[(0, .tmp 18)], type := tB, pos := pos, after := #[{ on := 5, ground := .data }], guard := none },
  { dst := some 20, op := .call { callee := .builtin .append, args := #[.tmp 17, .tmp 19], argTypes := #[tB, tB] }, type := tB, pos := pos, after := #[{ on := 4, ground := .data }, { on := 6, ground := .data }, { on := 3, ground := .chain }], guard := none },
  { dst := none, op := .store tA (.tmp 6) (.tmp 16), type := 0, pos := pos, after := #[{ on := 3, ground := .data }, { on := 7, ground := .chain }, { on := 0, ground := .phase }, { on := 1, ground := .phase }, { on := 2, ground := .phase }, { on := 3, ground := .phase }, { on := 4, ground := .textOnly .inlinedCapture }, { on := 5, ground := .textOnly .lateStores }, { on := 6, ground := .textOnly .inlinedCapture }, { on := 7, ground := .textOnly .lateStoresUnsure }], guard := none },
  { dst := none, op := .store tB (.tmp 7) (.tmp 20), type := 0, pos := pos, after := #[{ on := 7, ground := .data }, { on := 8, ground := .chain }, { on := 0, ground := .phase }, { on := 1, ground := .phase }, { on := 2, ground := .phase }, { on := 3, ground := .phase }, { on := 4, ground := .phase }, { on := 5, ground := .phase }, { on := 6, ground := .phase }, { on := 7, ground := .phase }, { on := 8, ground := .phase }], guard := none }]

section
variable {F : Fence} {n : Nat} {P : Program} {Q : Exit → Act → World → Prop}
theorem op_step {ops : Array Oper} {i : Nat} {o : Oper} {K : Act → World → Prop} {a : Act} {w : World} (ho : ops[i]? = some o) (hg : o.guard = none) (h : Oper.wpIn F n P o a w K Q) : wpOpIn F n P ops Q i K a w := by
  unfold wpOpIn
  rw [ho]
  have : Region.wanted o (yielded ops a.tmps) = true := by unfold Region.wanted; rw [hg]
  simp only [this, if_true]
  exact h
/-- A load of a box, one operation. -/
theorem op_load {o : Oper} {a : Act} {w : World} {K : Act → World → Prop} {ty t e : TypeId} {x : Operand} {B : Nat} {v : Value} (ho : o.op = .load ty x) (hx : a.eval x = .pointer (some ⟨B, 0, none⟩)) (hu : P.underlying ty = some (.slice e)) (hb : Boxed w B t v)
    (hK : K (a.put o.dst v) w) : Oper.wpIn F n P o a w K Q := by
  have hl : (loadVar ty ⟨B, 0, none⟩).run P w = .ok v w := by
    have hc : w.cell? ⟨B, 0, none⟩ = some v := hb.cell
    simp only [loadVar, Sem.run_bind, run_isAgg_plain hu rfl w, Result.andThen_ok, Bool.false_eq_true, if_false]
    rw [run_load, hc]
  unfold Oper.wpIn
  refine ⟨by simp [Oper.about, ho], ?_⟩
  rw [Oper.semAt_plain F _ _ (by rw [ho]; intro c hc'; cases hc')]
  simp only [execOp, ho, hx, Instr.loadAt, Instr.sureAddr, Sem.run_bind, Sem.run_pure, Result.andThen_ok, hl]
  exact hK
/-- An append of a row, one operation. -/
theorem op_append {o : Oper} {a : Act} {w : World} {K : Act → World → Prop} {t e : TypeId} {size bytes base : Nat} {s x : Operand} (T : SlT P t e size bytes)
    (ho : o.op = .call { callee := .builtin .append, args := #[s, x], argTypes := #[t, t] }) {v : Value} {k : Nat} {xs : List Value} (hs : a.eval s = v) (hown : w.ownsRow base e size v k xs) (hbase : base ≤ w.heap.size)
    {ad : Addr} {news : List Value} (hx : a.eval x = .slice (some ad) 1 1) (hl : news.length = size) (hnews : ∀ j u, news[j]? = some u → w.cell? (ad.add j) = some u) (h1 : ∀ u ∈ news, u.oneCell' = true)
    (hbytes : (k + 1) * bytes ≤ 140737488355328)
    (hK : ∀ v' w', w'.ownsRow base e size v' (k + 1) (xs ++ news) → w.grownBy w' v.ownBlock → (v'.ownBlock = v.ownBlock ∨ v'.ownBlock = some w.heap.size) → K (a.put o.dst v') w') : Oper.wpIn F n P o a w K Q := by
  obtain ⟨ht, ⟨i, z, hi, hz, hsz, hby, hzs⟩, hs0, hb0⟩ := T
  obtain ⟨v', w', hr, h2, h3, h4, h5⟩ := run_append_own_at (P := P) w base t o.type e i z size bytes ht hi hz hsz hby hzs hs0 v k xs hown ad 1 1 news (by omega) hnews h1 (by
    have : k + 1 ≤ (k + 1) * bytes := Nat.le_mul_of_pos_right _ hb0
    unfold maxLen
    omega) hbytes hbase
  unfold Oper.wpIn
  refine ⟨by simp [Oper.about, ho, resolve, Target.leads, Sem.run_pure], ?_⟩
  rw [Oper.semAt_plain F _ _ (by rw [ho]; intro c hc'; cases hc')]
  simp [execOp, ho, resolve, invoke, builtin, hs, hx, hr, Result.andThen]
  exact hK _ _ h2 h3 h5
end

section
variable {base BA BB : Nat} {tA tB eA eB : TypeId} {sA sB : Nat} {L : List (Nat × TypeId × Array Value)} {W0 W W' : World} {bA bB vA : Value} {kA : Nat} {xA : List Value} {vB : Value} {kB : Nat} {xB : List Value}
theorem TS.sub (h : TS base BA BB tA tB eA eB sA sB L W0 W bA bB vA kA xA vB kB xB) {L' : List (Nat × TypeId × Array Value)} (hL : ∀ p ∈ L', p ∈ L) : TS base BA BB tA tB eA eB sA sB L' W0 W bA bB vA kA xA vB kB xB :=
  { h with stay := fun p hp => h.stay p (hL p hp) }
end

abbrev tfr (c0 c1 c2 c3 c4 c5 c8 c9 c10 c11 c12 : Value) (BA BB : Nat) (x0 x1 x2 x3 x4 x5 x6 x7 : Value) : Act :=
  { tmps := #[c0, c1, c2, c3, c4, c5, .pointer (some ⟨BA, 0, none⟩), .pointer (some ⟨BB, 0, none⟩), c8, c9, c10, c11, c12, x0, x1, x2, x3, x4, x5, x6, x7, undef, undef, undef, undef, undef, undef], defers := [] }

section
variable {F : Fence} {n : Nat} {P : Program} {Q : Exit → Act → World → Prop}
variable {tA tB eA eB t1 t5 : TypeId} {o1 o5 : Op} {pos : String} {sA sB byA byB base BA BB kA kB : Nat} {x y vA vB : Value} {cx cy : Array Value} {xA xB : List Value} {L : List (Nat × TypeId × Array Value)} {W0 W : World}
  (c0 c1 c2 c3 c4 c5 c8 c9 c10 c11 c12 : Value)
set_option maxRecDepth 20000 in
set_option maxHeartbeats 1600000 in
theorem two_rows (hA : SlT P tA eA sA byA) (hB : SlT P tB eB sB byB) (hcx : cx.size = sA) (hcy : cy.size = sB) (ocx : ∀ u ∈ cx.toList, u.oneCell' = true) (ocy : ∀ u ∈ cy.toList, u.oneCell' = true)
    (hbA : (kA + 1) * byA ≤ 140737488355328) (hbB : (kB + 1) * byB ≤ 140737488355328)
    (h1 : ∀ x0 x1 x2 x3 x4 x5 x6 x7 W (K : Act → World → Prop), (∀ p ∈ L, BlkAt W p.1 p.2.1 p.2.2) → K (tfr c0 c1 c2 c3 c4 c5 c8 c9 c10 c11 c12 BA BB x0 x x2 x3 x4 x5 x6 x7) W →
      ∀ o : Oper, o.op = o1 → o.dst = some 14 → Oper.wpIn F n P o (tfr c0 c1 c2 c3 c4 c5 c8 c9 c10 c11 c12 BA BB x0 x1 x2 x3 x4 x5 x6 x7) W K Q)
    (h5 : ∀ x0 x1 x2 x3 x4 x5 x6 x7 W (K : Act → World → Prop), (∀ p ∈ L, BlkAt W p.1 p.2.1 p.2.2) → K (tfr c0 c1 c2 c3 c4 c5 c8 c9 c10 c11 c12 BA BB x0 x1 x2 x3 x4 y x6 x7) W →
      ∀ o : Oper, o.op = o5 → o.dst = some 18 → Oper.wpIn F n P o (tfr c0 c1 c2 c3 c4 c5 c8 c9 c10 c11 c12 BA BB x0 x1 x2 x3 x4 x5 x6 x7) W K Q)
    (h2 : ∀ x0 x2 x3 x4 x5 x6 x7 W (K : Act → World → Prop), K (tfr c0 c1 c2 c3 c4 c5 c8 c9 c10 c11 c12 BA BB x0 x (.slice (some ⟨W.heap.size, 0, none⟩) 1 1) x3 x4 x5 x6 x7) (W.alloc (.cells cx eA)) →
      ∀ o : Oper, o.op = .buildSlice tA 1 #[(0, .tmp 14)] → o.dst = some 15 → Oper.wpIn F n P o (tfr c0 c1 c2 c3 c4 c5 c8 c9 c10 c11 c12 BA BB x0 x x2 x3 x4 x5 x6 x7) W K Q)
    (h6 : ∀ x0 x1 x2 x3 x4 x6 x7 W (K : Act → World → Prop), K (tfr c0 c1 c2 c3 c4 c5 c8 c9 c10 c11 c12 BA BB x0 x1 x2 x3 x4 y (.slice (some ⟨W.heap.size, 0, none⟩) 1 1) x7) (W.alloc (.cells cy eB)) →
      ∀ o : Oper, o.op = .buildSlice tB 1 #[(0, .tmp 18)] → o.dst = some 19 → Oper.wpIn F n P o (tfr c0 c1 c2 c3 c4 c5 c8 c9 c10 c11 c12 BA BB x0 x1 x2 x3 x4 y x6 x7) W K Q)
    (h8 : ∀ x0 x1 x2 b l c x4 x5 x6 x7 v W (K : Act → World → Prop), Boxed W BA tA v → K (tfr c0 c1 c2 c3 c4 c5 c8 c9 c10 c11 c12 BA BB x0 x1 x2 (.slice b l c) x4 x5 x6 x7) (W.setCell ⟨BA, 0, none⟩ (.slice b l c)) →
      ∀ o : Oper, o.op = .store tA (.tmp 6) (.tmp 16) → o.dst = none → Oper.wpIn F n P o (tfr c0 c1 c2 c3 c4 c5 c8 c9 c10 c11 c12 BA BB x0 x1 x2 (.slice b l c) x4 x5 x6 x7) W K Q)
    (h9 : ∀ x0 x1 x2 x3 x4 x5 x6 b l c v W (K : Act → World → Prop), Boxed W BB tB v → K (tfr c0 c1 c2 c3 c4 c5 c8 c9 c10 c11 c12 BA BB x0 x1 x2 x3 x4 x5 x6 (.slice b l c)) (W.setCell ⟨BB, 0, none⟩ (.slice b l c)) →
      ∀ o : Oper, o.op = .store tB (.tmp 7) (.tmp 20) → o.dst = none → Oper.wpIn F n P o (tfr c0 c1 c2 c3 c4 c5 c8 c9 c10 c11 c12 BA BB x0 x1 x2 x3 x4 x5 x6 (.slice b l c)) W K Q)
    (h : TS base BA BB tA tB eA eB sA sB L W0 W vA vB vA kA xA vB kB xB)
    (hk : ∀ gA gB vA' vB' W', TS base BA BB tA tB eA eB sA sB L W0 W' vA' vB' vA' (kA + 1) (xA ++ cx.toList) vB' (kB + 1) (xB ++ cy.toList) →
      Q .normal (tfr c0 c1 c2 c3 c4 c5 c8 c9 c10 c11 c12 BA BB vA x (.slice (some ⟨gA, 0, none⟩) 1 1) vA' vB y (.slice (some ⟨gB, 0, none⟩) 1 1) vB') W') :
    wpAnyIn F n P .any (twoOps tA tB t1 t5 o1 o5 pos) Q 10 (Array.replicate 10 false) (tfr c0 c1 c2 c3 c4 c5 c8 c9 c10 c11 c12 BA BB undef undef undef undef undef undef undef undef) W := by
  have uA : P.underlying tA = some (.slice eA) := hA.1
  have uB : P.underlying tB = some (.slice eB) := hB.1
  refine wpAnyIn_inv (fun l a W => ∃ (b0 b1 b2 b3 b4 b5 b6 b7 b8 b9 : Bool) (gA gB : Nat) (vA' vB' : Value), l = #[b0, b1, b2, b3, b4, b5, b6, b7, b8, b9] ∧
    (b2 = true → b1 = true) ∧ (b3 = true → b0 = true ∧ b2 = true) ∧ (b6 = true → b5 = true) ∧ (b7 = true → b3 = true ∧ b4 = true ∧ b6 = true) ∧ (b8 = true → b7 = true) ∧ (b9 = true → b8 = true) ∧
    a = tfr c0 c1 c2 c3 c4 c5 c8 c9 c10 c11 c12 BA BB (cond b0 vA undef) (cond b1 x undef) (cond b2 (.slice (some ⟨gA, 0, none⟩) 1 1) undef) (cond b3 vA' undef) (cond b4 vB undef) (cond b5 y undef) (cond b6 (.slice (some ⟨gB, 0, none⟩) 1 1) undef) (cond b7 vB' undef) ∧
    TS base BA BB tA tB eA eB sA sB (cond b2 [(gA, eA, cx)] [] ++ (cond b6 [(gB, eB, cy)] [] ++ L)) W0 W (cond b8 vA' vA) (cond b9 vB' vB) (cond b3 vA' vA) (cond b3 (kA + 1) kA) (cond b3 (xA ++ cx.toList) xA) (cond b7 vB' vB) (cond b7 (kB + 1) kB) (cond b7 (xB ++ cy.toList) xB))
    ?done ?step 10 _ _ _ ⟨false, false, false, false, false, false, false, false, false, false, 0, 0, undef, undef, rfl, by simp, by simp, by simp, by simp, by simp, by simp, rfl, h⟩ (by show List.countP (fun i => !(Array.replicate 10 false).getD i true) (List.range 10) ≤ 10; decide)
  case done =>
    rintro l a W ⟨b0, b1, b2, b3, b4, b5, b6, b7, b8, b9, gA, gB, vA', vB', rfl, d2, d3, d6, d7, d8, d9, rfl, h⟩ hr
    obtain rfl : b0 = true := listed_of (i := 0) hr rfl rfl rfl
    obtain rfl : b1 = true := listed_of (i := 1) hr rfl rfl rfl
    obtain rfl : b2 = true := listed_of (i := 2) hr rfl rfl rfl
    obtain rfl : b3 = true := listed_of (i := 3) hr rfl rfl rfl
    obtain rfl : b4 = true := listed_of (i := 4) hr rfl rfl rfl
    obtain rfl : b5 = true := listed_of (i := 5) hr rfl rfl rfl
    obtain rfl : b6 = true := listed_of (i := 6) hr rfl rfl rfl
    obtain rfl : b7 = true := listed_of (i := 7) hr rfl rfl rfl
    obtain rfl : b8 = true := listed_of (i := 8) hr rfl rfl rfl
    obtain rfl : b9 = true := listed_of (i := 9) hr rfl rfl rfl
    exact hk gA gB vA' vB' W (h.sub fun p hp => by simp [hp])
  case step =>
    rintro l a W i ⟨b0, b1, b2, b3, b4, b5, b6, b7, b8, b9, gA, gB, vA', vB', rfl, d2, d3, d6, d7, d8, d9, rfl, h⟩ hi
    obtain ⟨hi, hb, hd⟩ := ready_mem hi
    have hi : i < 10 := hi
    have hc : i = 0 ∨ i = 1 ∨ i = 2 ∨ i = 3 ∨ i = 4 ∨ i = 5 ∨ i = 6 ∨ i = 7 ∨ i = 8 ∨ i = 9 := by omega
    rcases hc with rfl | rfl | rfl | rfl | rfl | rfl | rfl | rfl | rfl | rfl
    · obtain rfl : b0 = false := hb
      obtain rfl : b3 = false := nf fun e => (d3 e).1
      obtain rfl : b7 = false := nf fun e => (d7 e).1
      obtain rfl : b8 = false := nf d8
      refine op_step rfl rfl (op_load rfl rfl uA h.boxA ?_)
      exact ⟨true, b1, b2, false, b4, b5, b6, false, false, b9, gA, gB, vA', vB', rfl, d2, by simp, d6, by simp, by simp, d9, rfl, h⟩
    · obtain rfl : b1 = false := hb
      obtain rfl : b2 = false := nf d2
      obtain rfl : b3 = false := nf fun e => (d3 e).2
      obtain rfl : b7 = false := nf fun e => (d7 e).1
      refine op_step rfl rfl (h1 _ _ _ _ _ _ _ _ _ _ (fun p hp => (h.stay p (by simp [hp])).1) ?_ _ rfl rfl)
      exact ⟨b0, true, false, false, b4, b5, b6, false, b8, b9, gA, gB, vA', vB', rfl, by simp, by simp, d6, d7, d8, d9, rfl, h⟩
    · obtain rfl : b2 = false := hb
      obtain rfl : b1 = true := hd _ rfl 0 _ rfl rfl
      obtain rfl : b3 = false := nf fun e => (d3 e).2
      obtain rfl : b7 = false := nf fun e => (d7 e).1
      refine op_step rfl rfl (h2 _ _ _ _ _ _ _ _ _ ?_ _ rfl rfl)
      exact ⟨b0, true, true, false, b4, b5, b6, false, b8, b9, W.heap.size, gB, vA', vB', rfl, by simp, by simp, d6, d7, d8, d9, rfl, h.alloc _ _⟩
    · obtain rfl : b3 = false := hb
      obtain rfl : b0 = true := hd _ rfl 0 _ rfl rfl
      obtain rfl : b2 = true := hd _ rfl 1 _ rfl rfl
      obtain rfl : b7 = false := nf fun e => (d7 e).1
      obtain rfl : b8 = false := nf d8
      obtain rfl : b9 = false := nf d9
      have hg := (h.stay (gA, eA, cx) (by simp)).1
      refine op_step rfl rfl (op_append hA rfl rfl h.rowA h.room rfl (by simpa using hcx) (news_blk hg) ocx hbA fun v' w' r1 r2 r3 => ?_)
      exact ⟨true, b1, true, true, b4, b5, b6, false, false, false, gA, gB, v', vB', rfl, d2, by simp, d6, by simp, by simp, by simp, rfl, h.appA r2 r1 r3⟩
    · obtain rfl : b4 = false := hb
      obtain rfl : b7 = false := nf fun e => (d7 e).2.1
      obtain rfl : b8 = false := nf d8
      obtain rfl : b9 = false := nf d9
      refine op_step rfl rfl (op_load rfl rfl uB h.boxB ?_)
      exact ⟨b0, b1, b2, b3, true, b5, b6, false, false, false, gA, gB, vA', vB', rfl, d2, d3, d6, by simp, by simp, by simp, rfl, h⟩
    · obtain rfl : b5 = false := hb
      obtain rfl : b6 = false := nf d6
      obtain rfl : b7 = false := nf fun e => (d7 e).2.2
      refine op_step rfl rfl (h5 _ _ _ _ _ _ _ _ _ _ (fun p hp => (h.stay p (by simp [hp])).1) ?_ _ rfl rfl)
      exact ⟨b0, b1, b2, b3, b4, true, false, false, b8, b9, gA, gB, vA', vB', rfl, d2, d3, by simp, by simp, d8, d9, rfl, h⟩
    · obtain rfl : b6 = false := hb
      obtain rfl : b5 = true := hd _ rfl 0 _ rfl rfl
      obtain rfl : b7 = false := nf fun e => (d7 e).2.2
      refine op_step rfl rfl (h6 _ _ _ _ _ _ _ _ _ ?_ _ rfl rfl)
      exact ⟨b0, b1, b2, b3, b4, true, true, false, b8, b9, gA, W.heap.size, vA', vB', rfl, d2, d3, by simp, by simp, d8, d9, rfl, (h.alloc _ _).sub (by intro p hp; simp at hp ⊢; rcases hp with hp | hp | hp <;> simp [hp])⟩
    · obtain rfl : b7 = false := hb
      obtain rfl : b4 = true := hd _ rfl 0 _ rfl rfl
      obtain rfl : b6 = true := hd _ rfl 1 _ rfl rfl
      obtain rfl : b3 = true := hd _ rfl 2 _ rfl rfl
      obtain rfl : b8 = false := nf d8
      obtain rfl : b9 = false := nf d9
      have hg := (h.stay (gB, eB, cy) (by simp)).1
      refine op_step rfl rfl (op_append hB rfl rfl h.rowB h.room rfl (by simpa using hcy) (news_blk hg) ocy hbB fun v' w' r1 r2 r3 => ?_)
      exact ⟨b0, b1, b2, true, true, b5, true, true, false, false, gA, gB, vA', v', rfl, d2, d3, d6, by simp, by simp, by simp, rfl, h.appB r2 r1 r3⟩
    · obtain rfl : b8 = false := hb
      obtain rfl : b3 = true := hd _ rfl 0 _ rfl rfl
      obtain rfl : b7 = true := hd _ rfl 1 _ rfl rfl
      obtain rfl : b9 = false := nf d9
      obtain ⟨vb, vl, vc, rfl⟩ : ∃ b l c, vA' = .slice b l c := by
        rcases h.rowA.2 with ⟨e, _⟩ | ⟨g, cap, cur, e, _⟩ <;> exact ⟨_, _, _, e⟩
      refine op_step rfl rfl (h8 _ _ _ _ _ _ _ _ _ _ _ _ _ h.boxA ?_ _ rfl rfl)
      exact ⟨b0, b1, b2, true, b4, b5, b6, true, true, false, gA, gB, _, vB', rfl, d2, d3, d6, d7, by simp, by simp, rfl, h.setA _⟩
    · obtain rfl : b9 = false := hb
      obtain rfl : b7 = true := hd _ rfl 0 _ rfl rfl
      obtain rfl : b8 = true := hd _ rfl 1 _ rfl rfl
      obtain ⟨vb, vl, vc, rfl⟩ : ∃ b l c, vB' = .slice b l c := by
        rcases h.rowB.2 with ⟨e, _⟩ | ⟨g, cap, cur, e, _⟩ <;> exact ⟨_, _, _, e⟩
      refine op_step rfl rfl (h9 _ _ _ _ _ _ _ _ _ _ _ _ _ h.boxB ?_ _ rfl rfl)
      exact ⟨b0, b1, b2, b3, b4, b5, b6, true, true, true, gA, gB, vA', _, rfl, d2, d3, d6, d7, d8, by simp, rfl, h.setB _⟩
end
end Go.Proofs.YtjcpfmndkeiegaaGreatDoor
