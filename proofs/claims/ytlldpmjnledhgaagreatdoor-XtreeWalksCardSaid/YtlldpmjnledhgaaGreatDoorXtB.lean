/- xtree's builder as it lies: its elements, their kids, those that are open. -/
import Derived.Test.YtlldpmjnledhgaaGreatDoorXsA
import Derived.Test.YtlldpmjnledhgaaGreatDoorXpAL
import Derived.Laws.OwnMore
import Derived.WalkSmall
namespace Go.Proofs.YtlldpmjnledhgaaGreatDoor
open Go.RowKit
set_option linter.unusedVariables false

/-- An element with its attributes' row and its kids' row. -/
abbrev QL := XL × Value × Value
def elemCells (q : QL) : List Value := [.string ⟨q.1.name.toArray⟩, .int .i64 q.1.place, .int .i64 q.1.up, q.2.1, q.2.2, .string ⟨q.1.text.toArray⟩]
def intCells (l : List Nat) : List Value := l.map fun (k : Nat) => .int .i64 k
/-- A row of ints. -/
def IntsAt (base : Nat) (w : World) (l : List Nat) (v : Value) : Prop := w.ownsRow base 3 1 v l.length (intCells l)
/-- A row of so many attributes. (What it holds is told elsewhere.) -/
def NoA (l : List XA) (v : Value) : Prop := ∃ b c, v = .slice b l.length c
/-- A document's elements as they lie. -/
structure ElemsI (n0 : Nat) (els : List XL) (es : List QL) (ev : Value) (W : World) : Prop where
  row : W.ownsRow n0 36 6 ev es.length (es.flatMap elemCells)
  told : es.map (·.1) = els
  attrs : ∀ q ∈ es, NoA q.1.attrs q.2.1
  kids : ∀ q ∈ es, IntsAt n0 W q.1.kids q.2.2
/-- The builder. -/
structure BldI (n0 bb : Nat) (els : List XL) (op : List Nat) (es : List QL) (ev ov : Value) (W : World) : Prop where
  hbb : n0 ≤ bb
  blk : BlkAt W bb 56 #[ev, ov]
  elems : ElemsI n0 els es ev W
  opened : IntsAt n0 W op.reverse ov
  apart : ∀ (i j : Nat) (q r : QL) (g : Nat), es[i]? = some q → es[j]? = some r → i ≠ j → q.2.2.ownBlock = some g → r.2.2.ownBlock ≠ some g
  far : ∀ q ∈ es, ∀ g, q.2.2.ownBlock = some g → ov.ownBlock ≠ some g
/-- What is no cells stays. -/
def KeepN (W W' : World) : Prop := ∀ (k : Nat) (o : Obj), W.heap[k]? = some o → o.isCells = false → W'.heap[k]? = some o
theorem KeepN.of_below {W W' : World} (h : Below W.heap.size W W') : KeepN W W' := fun k o h1 _ => (h.block k (Array.getElem?_eq_some_iff.1 h1).1).trans h1
theorem KeepN.grown {n0 size n : Nat} {e : TypeId} {v : Value} {xs : List Value} {W W' : World} (ho : W.ownsRow n0 e size v n xs) (h : W.grownBy W' v.ownBlock) : KeepN W W' := fun k o h1 hc => by
  rw [h.block k (Array.getElem?_eq_some_iff.1 h1).1 (fun ek => ?_)]
  · exact h1
  · obtain ⟨c, hc2, _⟩ := own_at ho ek.symm
    rw [h1] at hc2
    cases hc2
    cases hc
theorem KeepN.blk {B : Nat} {t : TypeId} {cs : Array Value} {W W' : World} (hb : BlkAt W B t cs) (h : W.grownBy W' (some B)) : KeepN W W' := fun k o h1 hc => by
  rw [h.block k (Array.getElem?_eq_some_iff.1 h1).1 (fun ek => ?_)]
  · exact h1
  · obtain rfl : k = B := Option.some.inj ek
    rw [show W.heap[k]? = _ from hb] at h1
    cases h1
    cases hc
/-- What stays while a document is made. -/
def KeepP (n0 : Nat) (W W' : World) : Prop := Below n0 W W' ∧ (∀ ty, ty ≠ 56 → ty ≠ 36 → ty ≠ 3 → KeepT ty W W') ∧ KeepN W W'
theorem KeepP.refl (n0 : Nat) (W : World) : KeepP n0 W W := ⟨Below.refl _ _, fun _ _ _ _ => KeepT.refl _ _, fun _ _ h _ => h⟩
theorem KeepP.trans {n0 : Nat} {a b c : World} (h : KeepP n0 a b) (k : KeepP n0 b c) : KeepP n0 a c := ⟨h.1.trans k.1, fun ty h1 h2 h3 => (h.2.1 ty h1 h2 h3).trans (k.2.1 ty h1 h2 h3), fun i o h1 hc => k.2.2 i o (h.2.2 i o h1 hc) hc⟩
theorem KeepP.of_below {n0 : Nat} {a b : World} (h : Below a.heap.size a b) (hb : n0 ≤ a.heap.size) : KeepP n0 a b := ⟨h.mono hb, fun _ _ _ _ => KeepT.of_below h, KeepN.of_below h⟩
theorem KeepP.blk {n0 : Nat} {a b : World} (h : KeepP n0 a b) {r : Nat} {cs : Array Value} (hr : BlkAt a r 28 cs) : BlkAt b r 28 cs := h.2.1 _ (by decide) (by decide) (by decide) r cs hr
theorem KeepP.tok {n0 : Nat} {a b : World} (h : KeepP n0 a b) : KeepT 60 a b := h.2.1 _ (by decide) (by decide) (by decide)
/-- A block that is newer than the call. -/
theorem KeepP.fresh {n0 r : Nat} {w a b : World} (h : KeepP n0 w a) (hg : a.grownBy b (some r)) (hr : w.heap.size ≤ r) (hb : n0 ≤ w.heap.size) : KeepP n0 w b := by
  have key : ∀ t, KeepT t w a → KeepT t w b := fun t hk k cur h1 => by
    have hlt := (Array.getElem?_eq_some_iff.1 h1).1
    have hs := h.1.size
    rw [hg.block k (by omega) (fun e => by have := Option.some.inj e; omega)]
    exact hk k cur h1
  exact ⟨h.1.trans ⟨hg.os, hg.tape, hg.output, hg.size, fun k hk => hg.block k (by have := h.1.size; omega) (fun e => by have := Option.some.inj e; omega)⟩, fun ty h1 h2 h3 => key _ (h.2.1 ty h1 h2 h3), fun k o h1 hc => by
    have hlt := (Array.getElem?_eq_some_iff.1 h1).1
    have hs := h.1.size
    rw [hg.block k (by omega) (fun e => by have := Option.some.inj e; omega)]
    exact h.2.2 k o h1 hc⟩
theorem own_below {n0 size n : Nat} {e : TypeId} {v : Value} {xs : List Value} {W W' : World} (h : W.ownsRow n0 e size v n xs) (hB : Below W.heap.size W W') : W'.ownsRow n0 e size v n xs :=
  own_keep h fun g hg => hB.block g (own_lt h hg)
theorem ElemsI.below {n0 : Nat} {els : List XL} {es : List QL} {ev : Value} {W W' : World} (h : ElemsI n0 els es ev W) (hB : Below W.heap.size W W') : ElemsI n0 els es ev W' :=
  ⟨own_below h.row hB, h.told, h.attrs, fun q hq => own_below (h.kids q hq) hB⟩
theorem BldI.below {n0 bb : Nat} {els : List XL} {op : List Nat} {es : List QL} {ev ov : Value} {W W' : World} (h : BldI n0 bb els op es ev ov W) (hB : Below W.heap.size W W') : BldI n0 bb els op es ev ov W' :=
  ⟨h.hbb, h.blk.below hB h.blk.lt, h.elems.below hB, own_below h.opened hB, h.apart, h.far⟩
theorem BldI.drew {n0 bb : Nat} {els : List XL} {op : List Nat} {es : List QL} {ev ov : Value} {W : World} (h : BldI n0 bb els op es ev ov W) : BldI n0 bb els op es ev ov W.drew := h.below (Below.refl _ W).drew
theorem BldI.alloc {n0 bb : Nat} {els : List XL} {op : List Nat} {es : List QL} {ev ov : Value} {W : World} (h : BldI n0 bb els op es ev ov W) (o : Obj) : BldI n0 bb els op es ev ov (W.alloc o) := h.below ((Below.refl _ W).alloc (Nat.le_refl _) o)
theorem BldI.base {n0 bb : Nat} {els : List XL} {op : List Nat} {es : List QL} {ev ov : Value} {W : World} (h : BldI n0 bb els op es ev ov W) : n0 ≤ W.heap.size := by have := h.hbb; have := h.blk.lt; omega
/-- A block that is none of the builder's may turn. -/
theorem BldI.off {n0 bb B : Nat} {t : TypeId} {cs : Array Value} {els : List XL} {op : List Nat} {es : List QL} {ev ov : Value} {W W' : World} (h : BldI n0 bb els op es ev ov W) (hB : BlkAt W B t cs)
    (h1 : t ≠ 56) (h2 : t ≠ 36) (h3 : t ≠ 3) (h4 : t ≠ 43) (hg : W.grownBy W' (some B)) : BldI n0 bb els op es ev ov W' := by
  have key : ∀ {e : TypeId} {size n : Nat} {v : Value} {xs : List Value}, W.ownsRow n0 e size v n xs → t ≠ e → W'.ownsRow n0 e size v n xs := fun ho hne => (KeepT.blk hB (Ne.symm hne) hg).owns ho
  refine ⟨h.hbb, h.blk.grown hg (fun e => ?_), ⟨key h.elems.row h2, h.elems.told, h.elems.attrs, fun q hq => key (h.elems.kids q hq) h3⟩, key h.opened h3, h.apart, h.far⟩
  have e1 : bb = B := Option.some.inj e
  have h5 : W.heap[bb]? = _ := h.blk
  have h6 : W.heap[B]? = _ := hB
  rw [e1, h6] at h5
  cases h5
  exact h1 rfl

theorem flat_set {α β : Type} (f : α → List β) (m : Nat) (hm : ∀ x, (f x).length = m) : ∀ (l : List α) (k i : Nat) (x y : α) (u : β), l[k]? = some x → i < m → f y = (f x).set i u → (l.flatMap f).set (k * m + i) u = (l.set k y).flatMap f
  | [], k, i, x, y, u, h, _, _ => by cases h
  | a :: l, 0, i, x, y, u, h, hi, hf => by
    obtain rfl : a = x := by simpa using h
    rw [List.flatMap_cons, Nat.zero_mul, Nat.zero_add, List.set_append_left _ _ (by rw [hm]; exact hi), List.set_cons_zero, List.flatMap_cons, hf]
  | a :: l, k + 1, i, x, y, u, h, hi, hf => by
    rw [List.flatMap_cons, List.set_append_right _ _ (by rw [hm, Nat.succ_mul]; omega), hm, show (k + 1) * m + i - m = k * m + i from by rw [Nat.succ_mul]; omega, List.set_cons_succ, List.flatMap_cons]
    rw [flat_set f m hm l k i x y u (by simpa using h) hi hf]
theorem atX_set (g : XL → XL) : ∀ (l : List XL) (k : Nat) (e : XL), l[k]? = some e → atX g l k = l.set k (g e)
  | [], _, _, h => by cases h
  | a :: l, 0, e, h => by
    obtain rfl : a = e := by simpa using h
    rfl
  | a :: l, k + 1, e, h => by
    show a :: atX g l k = _
    rw [atX_set g l k e (by simpa using h), List.set_cons_succ]
/-- A row of the same type that turns elsewhere. -/
theorem own_grown {n0 n0' size size' n n' : Nat} {e : TypeId} {v v' : Value} {xs xs' : List Value} {W W' : World} (h : W.ownsRow n0 e size v n xs) (hg : W.grownBy W' v'.ownBlock) (hne : ∀ g, v.ownBlock = some g → v'.ownBlock ≠ some g) : W'.ownsRow n0 e size v n xs :=
  own_keep h fun g hg1 => hg.block g (own_lt h hg1) (fun e => hne g hg1 e.symm)
theorem elems_form {n0 : Nat} {els : List XL} {es : List QL} {ev : Value} {W : World} (h : ElemsI n0 els es ev W) {u : Nat} {q : QL} (hq : es[u]? = some q) : ∃ g cap, ev = .slice (some ⟨g, 0, none⟩) es.length cap ∧ n0 ≤ g := by
  have hl := (List.getElem?_eq_some_iff.1 hq).1
  rcases h.row.2 with ⟨h1, h2⟩ | ⟨g, cap, cur, h1, h2, _⟩
  · omega
  · exact ⟨g, cap, h1, h2⟩
/-- An element's cells. -/
theorem elem_cells {n0 g cap : Nat} {els : List XL} {es : List QL} {W : World} (h : ElemsI n0 els es (.slice (some ⟨g, 0, none⟩) es.length cap) W) {u : Nat} {q : QL} (hq : es[u]? = some q) :
    (W.cell? ⟨g, u * 6, none⟩ = some (.string ⟨q.1.name.toArray⟩) ∧ W.cell? ⟨g, u * 6 + 1, none⟩ = some (.int .i64 q.1.place) ∧ W.cell? ⟨g, u * 6 + 2, none⟩ = some (.int .i64 q.1.up) ∧ W.cell? ⟨g, u * 6 + 3, none⟩ = some q.2.1 ∧ W.cell? ⟨g, u * 6 + 4, none⟩ = some q.2.2 ∧ W.cell? ⟨g, u * 6 + 5, none⟩ = some (.string ⟨q.1.text.toArray⟩)) ∧ ∀ j, W.frozen? ⟨g, j, none⟩ = false := by
  have hl := (List.getElem?_eq_some_iff.1 hq).1
  have h1 := fun i hi => (h.row.cellAt (u * 6 + i) (by omega)).trans (flat_at elemCells 6 (fun x => rfl) es u i q hq hi)
  exact ⟨⟨h1 0 (by omega), h1 1 (by omega), h1 2 (by omega), h1 3 (by omega), h1 4 (by omega), h1 5 (by omega)⟩, fun j => h.row.frozenAt j⟩
/-- A store into an element. -/
theorem elem_set {n0 g cap : Nat} {els : List XL} {es : List QL} {W : World} (h : ElemsI n0 els es (.slice (some ⟨g, 0, none⟩) es.length cap) W) {u i : Nat} {q y : QL} {x : Value} (hq : es[u]? = some q) (hi : i < 6) (hf : elemCells y = (elemCells q).set i x)
    (hA : NoA y.1.attrs y.2.1) (hK : IntsAt n0 (W.setCell ⟨g, u * 6 + i, none⟩ x) y.1.kids y.2.2) :
    ElemsI n0 (els.set u y.1) (es.set u y) (.slice (some ⟨g, 0, none⟩) es.length cap) (W.setCell ⟨g, u * 6 + i, none⟩ x) ∧ W.grownBy (W.setCell ⟨g, u * 6 + i, none⟩ x) (some g) := by
  obtain ⟨h1, h2⟩ := h.row.stored (u * 6 + i) x
  rw [flat_set elemCells 6 (fun x => rfl) es u i q y x hq hi hf] at h1
  have hE : ∀ {e : TypeId} {size n : Nat} {v : Value} {xs : List Value}, W.ownsRow n0 e size v n xs → e ≠ 36 → (W.setCell ⟨g, u * 6 + i, none⟩ x).ownsRow n0 e size v n xs := fun ho hne =>
    (KeepT.grown (v := .slice (some ⟨g, 0, none⟩) es.length cap) h.row hne h2).owns ho
  refine ⟨⟨by rw [List.length_set]; exact h1, by rw [← h.told, List.map_set], fun r hr => ?_, fun r hr => ?_⟩, h2⟩
  · rcases List.mem_or_eq_of_mem_set hr with hr | rfl
    · exact h.attrs r hr
    · exact hA
  · rcases List.mem_or_eq_of_mem_set hr with hr | rfl
    · exact hE (h.kids r hr) (by decide)
    · exact hK
theorem grown_keep {n0 size n : Nat} {e : TypeId} {v : Value} {xs : List Value} {W W' : World} (ho : W.ownsRow n0 e size v n xs) (h1 : e = 36 ∨ e = 3) (_ _ : True) (hb : n0 ≤ W.heap.size) (h : W.grownBy W' v.ownBlock) : KeepP n0 W W' :=
  ⟨⟨h.os, h.tape, h.output, h.size, fun k hk => h.block k (by omega) (fun e => by have := (ho.lt k e.symm).1; omega)⟩, fun ty _ g2 g3 => KeepT.grown ho (by rcases h1 with rfl | rfl; exact g2; exact g3) h, KeepN.grown ho h⟩
theorem set_keep {n0 B i : Nat} {t : TypeId} {cs : Array Value} {W : World} (u : Value) (hb : BlkAt W B t cs) (hB : n0 ≤ B) (h1 : t = 56) (_ _ : True) : KeepP n0 W (W.setCell ⟨B, i, none⟩ u) :=
  ⟨(Below.refl _ W).setCell (p := ⟨B, i, none⟩) hB _, fun ty g1 _ _ => KeepT.blk hb (by rw [h1]; exact g1) (grown_set W B i u), KeepN.blk hb (grown_set W B i u)⟩
/-- One more kid. -/
theorem BldI.kid {n0 bb g cap gg kc u : Nat} {els : List XL} {op : List Nat} {es : List QL} {ov : Value} {W W1 : World} {o : Obj} {q : QL} {n : Nat} (h : BldI n0 bb els op es (.slice (some ⟨g, 0, none⟩) es.length cap) ov W) (hq : es[u]? = some q)
    (hown : W1.ownsRow n0 3 1 (.slice (some ⟨gg, 0, none⟩) (q.1.kids.length + 1) kc) (q.1.kids.length + 1) (intCells q.1.kids ++ [.int .i64 n])) (hgrow : (W.alloc o).grownBy W1 q.2.2.ownBlock) (hat : q.2.2.ownBlock = some gg ∨ gg = W.heap.size + 1) :
    BldI n0 bb (atX (addKid n) els u) op (es.set u (addKid n q.1, q.2.1, .slice (some ⟨gg, 0, none⟩) (q.1.kids.length + 1) kc)) (.slice (some ⟨g, 0, none⟩) es.length cap) ov (W1.setCell ⟨g, u * 6 + 4, none⟩ (.slice (some ⟨gg, 0, none⟩) (q.1.kids.length + 1) kc)) ∧
      KeepP n0 W (W1.setCell ⟨g, u * 6 + 4, none⟩ (.slice (some ⟨gg, 0, none⟩) (q.1.kids.length + 1) kc)) := by
  have hqm : q ∈ es := List.mem_of_getElem? hq
  have hbs := h.base
  have hkq := (h.elems.kids q hqm)
  have hA1 := h.alloc o
  have hka : IntsAt n0 (W.alloc o) q.1.kids q.2.2 := hA1.elems.kids q hqm
  -- rows of other types, and other rows of ints
  have hT : ∀ {e : TypeId} {size n : Nat} {v : Value} {xs : List Value}, (W.alloc o).ownsRow n0 e size v n xs → e ≠ 3 → W1.ownsRow n0 e size v n xs := fun ho hne => (KeepT.grown hka hne hgrow).owns ho
  have hI : ∀ {n : Nat} {v : Value} {xs : List Value}, (W.alloc o).ownsRow n0 3 1 v n xs → (∀ g, v.ownBlock = some g → q.2.2.ownBlock ≠ some g) → W1.ownsRow n0 3 1 v n xs := fun ho hne =>
    own_keep ho fun g hg => hgrow.block g (own_lt ho hg) (fun e => hne g hg e.symm)
  have hb1 : BlkAt W1 bb _ _ := hA1.blk.grown hgrow (fun e => blk_ne hka hA1.blk (by decide) e.symm)
  have hE1 : W1.ownsRow n0 36 6 (.slice (some ⟨g, 0, none⟩) es.length cap) es.length (es.flatMap elemCells) := hT hA1.elems.row (by decide)
  obtain ⟨h1, h2⟩ := hE1.stored (u * 6 + 4) (.slice (some ⟨gg, 0, none⟩) (q.1.kids.length + 1) kc)
  rw [flat_set elemCells 6 (fun x => rfl) es u 4 q (addKid n q.1, q.2.1, .slice (some ⟨gg, 0, none⟩) (q.1.kids.length + 1) kc) _ hq (by omega) rfl] at h1
  have hS : ∀ {e : TypeId} {size n : Nat} {v : Value} {xs : List Value}, W1.ownsRow n0 e size v n xs → e ≠ 36 → (W1.setCell ⟨g, u * 6 + 4, none⟩ (.slice (some ⟨gg, 0, none⟩) (q.1.kids.length + 1) kc)).ownsRow n0 e size v n xs := fun ho hne =>
    (KeepT.grown (v := .slice (some ⟨g, 0, none⟩) es.length cap) hE1 hne h2).owns ho
  -- the new row is no other one
  have hnew : ∀ r ∈ es, ∀ k, r.2.2.ownBlock = some k → gg = k → q.2.2.ownBlock = some k := fun r hr k hk e => by
    subst e
    rcases hat with h7 | h7
    · exact h7
    · have := own_lt (h.elems.kids r hr) hk
      omega
  refine ⟨⟨h.hbb, ?_, ⟨by rw [List.length_set]; exact h1, ?_, ?_, ?_⟩, ?_, ?_, ?_⟩, ?_⟩
  · exact hb1.grown h2 (fun e => by
      have e1 := Option.some.inj e
      exact blk_ne hE1 hb1 (by decide) (by rw [e1]; rfl))
  · rw [List.map_set, h.elems.told, atX_set (addKid n) els u q.1 (by rw [← h.elems.told, List.getElem?_map, hq]; rfl)]
  · intro r hr
    rcases List.mem_or_eq_of_mem_set hr with hr | rfl
    · exact h.elems.attrs r hr
    · exact h.elems.attrs q hqm
  · intro r hr
    obtain ⟨i, hi, rfl⟩ := List.mem_iff_getElem.1 hr
    rw [List.getElem_set]
    by_cases hiu : u = i
    · rw [if_pos hiu]
      show (_ : World).ownsRow n0 3 1 _ (addKid n q.1).kids.length (intCells (addKid n q.1).kids)
      have : intCells (addKid n q.1).kids = intCells q.1.kids ++ [.int .i64 n] := by simp [intCells, addKid]
      rw [this, show (addKid n q.1).kids.length = q.1.kids.length + 1 from by simp [addKid]]
      exact hS hown (by decide)
    · rw [if_neg hiu]
      rw [List.length_set] at hi
      have hmem : es[i] ∈ es := List.getElem_mem hi
      exact hS (hI (hA1.elems.kids _ hmem) (fun k hk => h.apart i u _ q k (List.getElem?_eq_getElem hi) hq (Ne.symm hiu) hk)) (by decide)
  · exact hS (hI hA1.opened (fun k hk hk2 => h.far q hqm k hk2 hk)) (by decide)
  · intro i j r r' k hi hj hij hk
    rw [List.getElem?_set] at hi hj
    split at hi
    · rename_i hui
      split at hi
      · cases hi
        rw [if_neg (by omega)] at hj
        have e : gg = k := by simpa [Value.ownBlock] using hk
        intro hk2
        exact h.apart u j q r' k hq hj (by omega) (hnew r' (List.mem_of_getElem? hj) k hk2 e) hk2
      · cases hi
    · rename_i hui
      split at hj
      · split at hj
        · cases hj
          intro hk2
          have e : gg = k := by simpa [Value.ownBlock] using hk2
          exact h.apart i u r q k hi hq (by omega) hk (hnew r (List.mem_of_getElem? hi) k hk e)
        · cases hj
      · exact h.apart i j r r' k hi hj hij hk
  · intro r hr k hk
    rcases List.mem_or_eq_of_mem_set hr with hr | rfl
    · exact h.far r hr k hk
    · have e : gg = k := by simpa [Value.ownBlock] using hk
      subst e
      rcases hat with h5 | h5
      · exact h.far q hqm _ h5
      · intro hk2
        have := own_lt h.opened hk2
        omega
  · refine (KeepP.of_below ((Below.refl _ W).alloc (Nat.le_refl _) o) hbs).trans ((grown_keep hka (by decide) (by decide) (by decide) (by simp; omega) hgrow).trans ?_)
    exact grown_keep hE1 (by decide) (by decide) (by decide) (by have := hgrow.size; simp at this; omega) h2
/-- One more element. -/
theorem BldI.push {n0 bb gg kc : Nat} {els : List XL} {op : List Nat} {es : List QL} {ev ov av : Value} {W W1 : World} {o : Obj} {x : XL} (h : BldI n0 bb els op es ev ov W) (hx : x.kids = []) (hA : NoA x.attrs av)
    (hown : W1.ownsRow n0 36 6 (.slice (some ⟨gg, 0, none⟩) (es.length + 1) kc) (es.length + 1) (es.flatMap elemCells ++ elemCells (x, av, .slice none 0 0))) (hgrow : (W.alloc o).grownBy W1 ev.ownBlock) :
    BldI n0 bb (els ++ [x]) op (es ++ [(x, av, .slice none 0 0)]) (.slice (some ⟨gg, 0, none⟩) (es.length + 1) kc) ov (W1.setCell ⟨bb, 0, none⟩ (.slice (some ⟨gg, 0, none⟩) (es.length + 1) kc)) ∧
      KeepP n0 W (W1.setCell ⟨bb, 0, none⟩ (.slice (some ⟨gg, 0, none⟩) (es.length + 1) kc)) := by
  have hbs := h.base
  have hA1 := h.alloc o
  have hT : ∀ {e : TypeId} {size n : Nat} {v : Value} {xs : List Value}, (W.alloc o).ownsRow n0 e size v n xs → e ≠ 36 → W1.ownsRow n0 e size v n xs := fun ho hne => (KeepT.grown hA1.elems.row hne hgrow).owns ho
  have hb1 : BlkAt W1 bb _ _ := hA1.blk.grown hgrow (fun e => blk_ne hA1.elems.row hA1.blk (by decide) e.symm)
  have g2 := grown_set W1 bb 0 (.slice (some ⟨gg, 0, none⟩) (es.length + 1) kc)
  have hS : ∀ {e : TypeId} {size n : Nat} {v : Value} {xs : List Value}, W1.ownsRow n0 e size v n xs → e ≠ 56 → (W1.setCell ⟨bb, 0, none⟩ (.slice (some ⟨gg, 0, none⟩) (es.length + 1) kc)).ownsRow n0 e size v n xs := fun ho hne => (KeepT.blk hb1 hne g2).owns ho
  refine ⟨⟨h.hbb, hb1.set 0 _, ⟨?_, by rw [List.map_append, h.elems.told]; rfl, ?_, ?_⟩, hS (hT hA1.opened (by decide)) (by decide), ?_, ?_⟩, ?_⟩
  · rw [List.length_append, List.flatMap_append, List.flatMap_cons, List.flatMap_nil, List.append_nil]
    exact hS hown (by decide)
  · intro r hr
    rcases List.mem_append.1 hr with hr | hr
    · exact h.elems.attrs r hr
    · obtain rfl := List.mem_singleton.1 hr
      exact hA
  · intro r hr
    rcases List.mem_append.1 hr with hr | hr
    · exact hS (hT (hA1.elems.kids r hr) (by decide)) (by decide)
    · obtain rfl := List.mem_singleton.1 hr
      show (_ : World).ownsRow n0 3 1 (.slice none 0 0) x.kids.length (intCells x.kids)
      rw [hx]
      exact World.ownsRow_nil _ _ _ _
  · intro i j r r' k hi hj hij hk
    have hno : ∀ (a : Nat) (s : QL), (es ++ [(x, av, Value.slice none 0 0)])[a]? = some s → (∃ g, s.2.2.ownBlock = some g) → es[a]? = some s := fun a s ha ⟨g, hg⟩ => by
      by_cases hl : a < es.length
      · rwa [List.getElem?_append_left hl] at ha
      · rw [List.getElem?_append_right (by omega)] at ha
        have := List.mem_of_getElem? ha
        obtain rfl := List.mem_singleton.1 this
        cases hg
    intro hk2
    exact h.apart i j r r' k (hno i r hi ⟨k, hk⟩) (hno j r' hj ⟨k, hk2⟩) hij hk hk2
  · intro r hr k hk
    rcases List.mem_append.1 hr with hr | hr
    · exact h.far r hr k hk
    · obtain rfl := List.mem_singleton.1 hr
      cases hk
  · refine (KeepP.of_below ((Below.refl _ W).alloc (Nat.le_refl _) o) hbs).trans ((grown_keep hA1.elems.row (by decide) (by decide) (by decide) (by simp; omega) hgrow).trans ?_)
    exact set_keep _ hb1 h.hbb (by decide) (by decide) (by decide)
/-- One more is open. -/
theorem BldI.open_ {n0 bb gg kc : Nat} {els : List XL} {op : List Nat} {es : List QL} {ev ov : Value} {W W1 : World} {o : Obj} {n : Nat} (h : BldI n0 bb els op es ev ov W)
    (hown : W1.ownsRow n0 3 1 (.slice (some ⟨gg, 0, none⟩) (op.length + 1) kc) (op.length + 1) (intCells op.reverse ++ [.int .i64 n])) (hgrow : (W.alloc o).grownBy W1 ov.ownBlock) (hat : ov.ownBlock = some gg ∨ gg = W.heap.size + 1) :
    BldI n0 bb els (n :: op) es ev (.slice (some ⟨gg, 0, none⟩) (op.length + 1) kc) (W1.setCell ⟨bb, 1, none⟩ (.slice (some ⟨gg, 0, none⟩) (op.length + 1) kc)) ∧
      KeepP n0 W (W1.setCell ⟨bb, 1, none⟩ (.slice (some ⟨gg, 0, none⟩) (op.length + 1) kc)) := by
  have hbs := h.base
  have hA1 := h.alloc o
  have hT : ∀ {e : TypeId} {size n : Nat} {v : Value} {xs : List Value}, (W.alloc o).ownsRow n0 e size v n xs → e ≠ 3 → W1.ownsRow n0 e size v n xs := fun ho hne => (KeepT.grown hA1.opened hne hgrow).owns ho
  have hI : ∀ {n : Nat} {v : Value} {xs : List Value}, (W.alloc o).ownsRow n0 3 1 v n xs → (∀ g, v.ownBlock = some g → ov.ownBlock ≠ some g) → W1.ownsRow n0 3 1 v n xs := fun ho hne =>
    own_keep ho fun g hg => hgrow.block g (own_lt ho hg) (fun e => hne g hg e.symm)
  have hb1 : BlkAt W1 bb _ _ := hA1.blk.grown hgrow (fun e => blk_ne hA1.opened hA1.blk (by decide) e.symm)
  have g2 := grown_set W1 bb 1 (.slice (some ⟨gg, 0, none⟩) (op.length + 1) kc)
  have hS : ∀ {e : TypeId} {size n : Nat} {v : Value} {xs : List Value}, W1.ownsRow n0 e size v n xs → e ≠ 56 → (W1.setCell ⟨bb, 1, none⟩ (.slice (some ⟨gg, 0, none⟩) (op.length + 1) kc)).ownsRow n0 e size v n xs := fun ho hne => (KeepT.blk hb1 hne g2).owns ho
  refine ⟨⟨h.hbb, hb1.set 1 _, ⟨hS (hT hA1.elems.row (by decide)) (by decide), h.elems.told, h.elems.attrs, fun r hr => hS (hI (hA1.elems.kids r hr) (h.far r hr)) (by decide)⟩, ?_, h.apart, ?_⟩, ?_⟩
  · show (_ : World).ownsRow n0 3 1 _ (n :: op).reverse.length (intCells (n :: op).reverse)
    rw [List.reverse_cons, List.length_append, List.length_reverse]
    have : intCells (op.reverse ++ [n]) = intCells op.reverse ++ [.int .i64 n] := by simp [intCells]
    rw [this]
    exact hS hown (by decide)
  · intro r hr k hk
    rcases hat with h5 | h5
    · intro hk2
      have e : gg = k := by simpa [Value.ownBlock] using hk2
      subst e
      exact h.far r hr _ hk h5
    · intro hk2
      have e : gg = k := by simpa [Value.ownBlock] using hk2
      have := own_lt (h.elems.kids r hr) hk
      omega
  · refine (KeepP.of_below ((Below.refl _ W).alloc (Nat.le_refl _) o) hbs).trans ((grown_keep hA1.opened (by decide) (by decide) (by decide) (by simp; omega) hgrow).trans ?_)
    exact set_keep _ hb1 h.hbb (by decide) (by decide) (by decide)
/-- The innermost one is closed. -/
theorem BldI.close_ {n0 bb gg kc n : Nat} {els : List XL} {op : List Nat} {es : List QL} {ev : Value} {W : World} (h : BldI n0 bb els (n :: op) es ev (.slice (some ⟨gg, 0, none⟩) (op.length + 1) kc) W) :
    BldI n0 bb els op es ev (.slice (some ⟨gg, 0, none⟩) op.length kc) (W.setCell ⟨bb, 1, none⟩ (.slice (some ⟨gg, 0, none⟩) op.length kc)) ∧ KeepP n0 W (W.setCell ⟨bb, 1, none⟩ (.slice (some ⟨gg, 0, none⟩) op.length kc)) := by
  have g2 := grown_set W bb 1 (.slice (some ⟨gg, 0, none⟩) op.length kc)
  have hS : ∀ {e : TypeId} {size n : Nat} {v : Value} {xs : List Value}, W.ownsRow n0 e size v n xs → e ≠ 56 → (W.setCell ⟨bb, 1, none⟩ (.slice (some ⟨gg, 0, none⟩) op.length kc)).ownsRow n0 e size v n xs := fun ho hne => (KeepT.blk h.blk hne g2).owns ho
  refine ⟨⟨h.hbb, h.blk.set 1 _, ⟨hS h.elems.row (by decide), h.elems.told, h.elems.attrs, fun r hr => hS (h.elems.kids r hr) (by decide)⟩, ?_, h.apart, ?_⟩, set_keep _ h.blk h.hbb (by decide) (by decide) (by decide)⟩
  · have h1 := h.opened
    unfold IntsAt at h1 ⊢
    rw [List.reverse_cons, List.length_append, List.length_reverse, show intCells (op.reverse ++ [n]) = intCells op.reverse ++ [.int .i64 n] from by simp [intCells]] at h1
    rw [List.length_reverse]
    exact hS (ownsRow_pop (by simp [intCells]) h1) (by decide)
  · intro r hr k hk hk2
    exact h.far r hr k hk (by simpa [Value.ownBlock] using hk2)
/-- A Text grows. -/
theorem BldI.text {n0 bb g cap u : Nat} {els : List XL} {op : List Nat} {es : List QL} {ov : Value} {W : World} {q : QL} {x : List UInt8} (h : BldI n0 bb els op es (.slice (some ⟨g, 0, none⟩) es.length cap) ov W) (hq : es[u]? = some q) :
    BldI n0 bb (atX (addText x) els u) op (es.set u (addText x q.1, q.2.1, q.2.2)) (.slice (some ⟨g, 0, none⟩) es.length cap) ov (W.setCell ⟨g, u * 6 + 5, none⟩ (.string ⟨(q.1.text ++ x).toArray⟩)) ∧
      KeepP n0 W (W.setCell ⟨g, u * 6 + 5, none⟩ (.string ⟨(q.1.text ++ x).toArray⟩)) := by
  have hqm : q ∈ es := List.mem_of_getElem? hq
  have g2 : W.grownBy (W.setCell ⟨g, u * 6 + 5, none⟩ (.string ⟨(q.1.text ++ x).toArray⟩)) (some g) := (h.elems.row.stored _ _).2
  have hS : ∀ {e : TypeId} {size n : Nat} {v : Value} {xs : List Value}, W.ownsRow n0 e size v n xs → e ≠ 36 → (W.setCell ⟨g, u * 6 + 5, none⟩ (.string ⟨(q.1.text ++ x).toArray⟩)).ownsRow n0 e size v n xs := fun ho hne =>
    (KeepT.grown (v := .slice (some ⟨g, 0, none⟩) es.length cap) h.elems.row hne g2).owns ho
  obtain ⟨h1, _⟩ := elem_set h.elems (i := 5) (y := (addText x q.1, q.2.1, q.2.2)) (x := .string ⟨(q.1.text ++ x).toArray⟩) hq (by omega) rfl (h.elems.attrs q hqm) (hS (h.elems.kids q hqm) (by decide))
  refine ⟨⟨h.hbb, h.blk.grown g2 (fun e => ?_), ?_, hS h.opened (by decide), ?_, ?_⟩, grown_keep (v := .slice (some ⟨g, 0, none⟩) es.length cap) h.elems.row (by decide) (by decide) (by decide) h.base g2⟩
  · have e1 := Option.some.inj e
    exact blk_ne h.elems.row h.blk (by decide) (by rw [e1]; rfl)
  · rw [atX_set (addText x) els u q.1 (by rw [← h.elems.told, List.getElem?_map, hq]; rfl)]
    exact h1
  · intro i j r r' k hi hj hij hk
    have hold : ∀ (a : Nat) (s : QL), (es.set u (addText x q.1, q.2.1, q.2.2))[a]? = some s → ∃ s', es[a]? = some s' ∧ s'.2.2 = s.2.2 := fun a s ha => by
      rw [List.getElem?_set] at ha
      split at ha
      · rename_i hua
        split at ha
        · cases ha; exact ⟨q, by rw [← hua]; exact hq, rfl⟩
        · cases ha
      · exact ⟨s, ha, rfl⟩
    obtain ⟨s1, a1, a2⟩ := hold i r hi
    obtain ⟨s2, b1, b2⟩ := hold j r' hj
    rw [← a2] at hk
    rw [← b2]
    exact h.apart i j s1 s2 k a1 b1 hij hk
  · intro r hr k hk
    rcases List.mem_or_eq_of_mem_set hr with hr | rfl
    · exact h.far r hr k hk
    · exact h.far q hqm k hk
end Go.Proofs.YtlldpmjnledhgaaGreatDoor
