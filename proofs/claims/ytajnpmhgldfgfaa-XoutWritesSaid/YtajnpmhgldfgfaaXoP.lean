/- A writer's element that is put behind the others: what holds on the way; a kid more. -/
import Derived.Test.YtajnpmhgldfgfaaXoL
namespace Go.Proofs.Ytajnpmhgldfgfaa
open Go.RowKit
set_option linter.unusedVariables false

/-- One block has turned, of those that may. -/
theorem KeepF.grown {n0 : Nat} {F : Nat → Prop} {T W W' : World} {r : Option Nat} (h : KeepF n0 F T W) (hg : W.grownBy W' r) (hr : ∀ k, r = some k → F k ∨ T.heap.size ≤ k) (hlo : ∀ k, r = some k → n0 ≤ k) (hs : n0 ≤ W.heap.size) : KeepF n0 F T W' :=
  ⟨h.below.grown hg hs hlo, fun k hk hF => by
    rw [hg.block k (Nat.lt_of_lt_of_le hk h.below.size) (fun e => by
      rcases hr k e.symm with h1 | h1
      · exact hF h1
      · omega)]
    exact h.rest k hk hF⟩
theorem KeepF.alloc {n0 : Nat} {F : Nat → Prop} {T W : World} (h : KeepF n0 F T W) (o : Obj) (hs : n0 ≤ W.heap.size) : KeepF n0 F T (W.alloc o) :=
  h.trans (KeepF.of_below (F := F) ((Below.refl _ W).alloc (Nat.le_refl _) o) hs) fun i hi => .inl hi
/-- What holds while an element is put behind the others. -/
structure PushW (n0 wb : Nat) (F : Nat → Prop) (T : World) (more : Bool) (code : Int) (es : List QW) (q : QW) (cE cO vE vO : Value) (kE : Nat) (xE : List Value) (kO : Nat) (xO : List Value) (W : World) : Prop where
  lo : n0 ≤ wb
  blk : BlkAt W wb 36 #[cE, cO, .bool more, .int .i64 code]
  rowE : W.ownsRow n0 57 6 vE kE xE
  rowO : W.ownsRow n0 3 1 vO kO xO
  attrs : ∀ r ∈ es, AttrsW 58 n0 W r.1.attrs r.2.1
  new : AttrsW 58 n0 W q.1.attrs q.2.1
  kids : ∀ r ∈ es, IntsAt n0 W r.1.kids r.2.2
  far : ∀ g, Has vO g → ∀ r ∈ es, r.2.2.ownBlock ≠ some g
  keep : KeepF n0 F T W
  inE : ∀ g, Has vE g → F g ∨ T.heap.size ≤ g
  inO : ∀ g, Has vO g → F g ∨ T.heap.size ≤ g
  inW : F wb
  size : n0 ≤ W.heap.size
theorem PushW.below {n0 wb kE kO : Nat} {F : Nat → Prop} {T W W' : World} {more : Bool} {code : Int} {es : List QW} {q : QW} {cE cO vE vO : Value} {xE xO : List Value} (h : PushW n0 wb F T more code es q cE cO vE vO kE xE kO xO W) (hB : Below W.heap.size W W') : PushW n0 wb F T more code es q cE cO vE vO kE xE kO xO W' :=
  ⟨h.lo, h.blk.below hB h.blk.lt, own_below h.rowE hB, own_below h.rowO hB, fun r hr => own_below (h.attrs r hr) hB, own_below h.new hB, fun r hr => own_below (h.kids r hr) hB, h.far, h.keep.trans (KeepF.of_below (F := F) hB h.size) fun i hi => .inl hi, h.inE, h.inO, h.inW, Nat.le_trans h.size hB.size⟩
theorem PushW.alloc {n0 wb kE kO : Nat} {F : Nat → Prop} {T W : World} {more : Bool} {code : Int} {es : List QW} {q : QW} {cE cO vE vO : Value} {xE xO : List Value} (h : PushW n0 wb F T more code es q cE cO vE vO kE xE kO xO W) (o : Obj) : PushW n0 wb F T more code es q cE cO vE vO kE xE kO xO (W.alloc o) :=
  h.below ((Below.refl _ W).alloc (Nat.le_refl _) o)
theorem PushW.appE {n0 wb kE kO kE' gg kc : Nat} {F : Nat → Prop} {T W W' : World} {more : Bool} {code : Int} {es : List QW} {q : QW} {cE cO vE vO : Value} {xE xO xE' : List Value} (h : PushW n0 wb F T more code es q cE cO vE vO kE xE kO xO W)
    (hown : W'.ownsRow n0 57 6 (.slice (some ⟨gg, 0, none⟩) kE' kc) kE' xE') (hgrow : W.grownBy W' vE.ownBlock) (hat : vE.ownBlock = some gg ∨ gg = W.heap.size) : PushW n0 wb F T more code es q cE cO (.slice (some ⟨gg, 0, none⟩) kE' kc) vO kE' xE' kO xO W' := by
  have hT : ∀ {e : TypeId} {size n : Nat} {v : Value} {xs : List Value}, W.ownsRow n0 e size v n xs → e ≠ 57 → W'.ownsRow n0 e size v n xs := fun ho hne => (KeepT.grown h.rowE hne hgrow).owns ho
  refine ⟨h.lo, h.blk.grown hgrow (fun e => blk_ne h.rowE h.blk (by decide) e.symm), hown, hT h.rowO (by decide), fun r hr => hT (h.attrs r hr) (by decide), hT h.new (by decide), fun r hr => hT (h.kids r hr) (by decide), h.far, h.keep.grown hgrow (fun k e => h.inE k e) (fun k e => (h.rowE.lt k e).1) h.size, fun g hg => ?_, h.inO, h.inW, Nat.le_trans h.size hgrow.size⟩
  have e : gg = g := by simpa [Has, Value.ownBlock] using hg
  subst e
  rcases hat with h1 | h1
  · exact h.inE _ h1
  · right; have := h.keep.below.size; omega
theorem PushW.appO {n0 wb kE kO kO' gg kc : Nat} {F : Nat → Prop} {T W W' : World} {more : Bool} {code : Int} {es : List QW} {q : QW} {cE cO vE vO : Value} {xE xO xO' : List Value} (h : PushW n0 wb F T more code es q cE cO vE vO kE xE kO xO W)
    (hown : W'.ownsRow n0 3 1 (.slice (some ⟨gg, 0, none⟩) kO' kc) kO' xO') (hgrow : W.grownBy W' vO.ownBlock) (hat : vO.ownBlock = some gg ∨ gg = W.heap.size) : PushW n0 wb F T more code es q cE cO vE (.slice (some ⟨gg, 0, none⟩) kO' kc) kE xE kO' xO' W' := by
  have hT : ∀ {e : TypeId} {size n : Nat} {v : Value} {xs : List Value}, W.ownsRow n0 e size v n xs → e ≠ 3 → W'.ownsRow n0 e size v n xs := fun ho hne => (KeepT.grown h.rowO hne hgrow).owns ho
  have hI : ∀ {n : Nat} {v : Value} {xs : List Value}, W.ownsRow n0 3 1 v n xs → (∀ g, v.ownBlock = some g → vO.ownBlock ≠ some g) → W'.ownsRow n0 3 1 v n xs := fun ho hne =>
    own_keep ho fun g hg => hgrow.block g (own_lt ho hg) (fun e => hne g hg e.symm)
  refine ⟨h.lo, h.blk.grown hgrow (fun e => blk_ne h.rowO h.blk (by decide) e.symm), hT h.rowE (by decide), hown, fun r hr => hT (h.attrs r hr) (by decide), hT h.new (by decide), fun r hr => hI (h.kids r hr) (fun g h1 h2 => h.far g h2 r hr h1), fun g hg r hr h1 => ?_, h.keep.grown hgrow (fun k e => h.inO k e) (fun k e => (h.rowO.lt k e).1) h.size, h.inE, fun g hg => ?_, h.inW, Nat.le_trans h.size hgrow.size⟩
  · have e : gg = g := by simpa [Has, Value.ownBlock] using hg
    subst e
    rcases hat with h2 | h2
    · exact h.far _ h2 r hr h1
    · have := own_lt (h.kids r hr) h1
      omega
  · have e : gg = g := by simpa [Has, Value.ownBlock] using hg
    subst e
    rcases hat with h1 | h1
    · exact h.inO _ h1
    · right; have := h.keep.below.size; omega
theorem PushW.set {n0 wb kE kO i : Nat} {F : Nat → Prop} {T W : World} {more : Bool} {code : Int} {es : List QW} {q : QW} {cE cO vE vO cE' cO' : Value} {xE xO : List Value} (h : PushW n0 wb F T more code es q cE cO vE vO kE xE kO xO W) (u : Value)
    (hc : #[cE, cO, .bool more, .int .i64 code].setIfInBounds i u = #[cE', cO', .bool more, .int .i64 code]) : PushW n0 wb F T more code es q cE' cO' vE vO kE xE kO xO (W.setCell ⟨wb, i, none⟩ u) := by
  have hg := grown_set W wb i u
  have hT : ∀ {e : TypeId} {size n : Nat} {v : Value} {xs : List Value}, W.ownsRow n0 e size v n xs → 36 ≠ e → (W.setCell ⟨wb, i, none⟩ u).ownsRow n0 e size v n xs := fun ho hne => ho.kept hg (.inr (blk_ne ho h.blk (fun e => hne e.symm)))
  refine ⟨h.lo, by have := h.blk.set i u; rw [hc] at this; exact this, hT h.rowE (by decide), hT h.rowO (by decide), fun r hr => hT (h.attrs r hr) (by decide), hT h.new (by decide), fun r hr => hT (h.kids r hr) (by decide), h.far, h.keep.grown hg (fun k e => .inl (by obtain rfl := Option.some.inj e; exact h.inW)) (fun k e => by obtain rfl := Option.some.inj e; exact h.lo) h.size, h.inE, h.inO, h.inW, by rw [World.size_setCell]; exact h.size⟩
/-- The beginning. -/
theorem WrI.push0 {n0 wb : Nat} {F : Nat → Prop} {T W : World} {els : List XW} {op : List Nat} {more : Bool} {code : Int} {es : List QW} {ev ov : Value} {q : QW} (h : WrI n0 wb els op more code es ev ov W) (hq : AttrsW 58 n0 W q.1.attrs q.2.1) (hk : KeepF n0 F T W) (hF : ∀ g, FootW wb es ev ov g → F g ∨ T.heap.size ≤ g) (hw : F wb) :
    PushW n0 wb F T more code es q ev ov ev ov es.length (es.flatMap wCells) op.length (intCells op.reverse) W :=
  ⟨h.lo, h.blk, h.elems.row, by have := h.opened; unfold IntsAt at this; rw [List.length_reverse] at this; exact this, h.elems.attrs, hq, h.elems.kids, h.far, hk, fun g hg => hF g (.inr (.inr (.inl hg))), fun g hg => hF g (.inr (.inl hg)), hw, h.base⟩
/-- The end. -/
theorem PushW.done {n0 wb n : Nat} {F : Nat → Prop} {T W : World} {els : List XW} {op : List Nat} {more : Bool} {code : Int} {es : List QW} {vE vO : Value} {q : QW} (h : PushW n0 wb F T more code es q vE vO vE vO (es.length + 1) (es.flatMap wCells ++ wCells q) (op.length + 1) (intCells op.reverse ++ [.int .i64 n]) W)
    (hte : es.map (·.1) = els) (hap : ∀ (i j : Nat) (q r : QW) (g : Nat), es[i]? = some q → es[j]? = some r → i ≠ j → q.2.2.ownBlock = some g → r.2.2.ownBlock ≠ some g) (hk0 : q.1.kids = []) (hk1 : q.2.2 = .slice none 0 0)
    (hes : ∀ r ∈ es, ∀ g, (Has r.2.2 g ∨ Has r.2.1 g) → F g ∨ T.heap.size ≤ g) (hqa : ∀ g, Has q.2.1 g → T.heap.size ≤ g) :
    WrI n0 wb (els ++ [q.1]) (n :: op) more code (es ++ [q]) vE vO W ∧ KeepF n0 F T W ∧ ∀ k, FootW wb (es ++ [q]) vE vO k → F k ∨ T.heap.size ≤ k := by
  refine ⟨⟨h.lo, h.blk, ⟨?_, by rw [List.map_append, hte]; rfl, ?_, ?_, ?_⟩, ?_, ?_⟩, h.keep, ?_⟩
  · rw [List.length_append, List.flatMap_append, List.flatMap_cons, List.flatMap_nil, List.append_nil]
    exact h.rowE
  · intro r hr
    rcases List.mem_append.1 hr with hr | hr
    · exact h.attrs r hr
    · obtain rfl := List.mem_singleton.1 hr
      exact h.new
  · intro r hr
    rcases List.mem_append.1 hr with hr | hr
    · exact h.kids r hr
    · obtain rfl := List.mem_singleton.1 hr
      rw [hk0, hk1]
      exact World.ownsRow_nil _ _ _ _
  · intro i j r r' k hi hj hij hk
    have hno : ∀ (a : Nat) (s : QW), (es ++ [q])[a]? = some s → (∃ g, s.2.2.ownBlock = some g) → es[a]? = some s := fun a s ha ⟨g, hg⟩ => by
      by_cases hl : a < es.length
      · rwa [List.getElem?_append_left hl] at ha
      · rw [List.getElem?_append_right (by omega)] at ha
        have := List.mem_of_getElem? ha
        obtain rfl := List.mem_singleton.1 this
        rw [hk1] at hg
        cases hg
    intro hk2
    exact hap i j r r' k (hno i r hi ⟨k, hk⟩) (hno j r' hj ⟨k, hk2⟩) hij hk hk2
  · unfold IntsAt
    rw [List.length_reverse, List.length_cons, List.reverse_cons]
    have : intCells (op.reverse ++ [n]) = intCells op.reverse ++ [.int .i64 n] := by simp [intCells]
    rw [this]
    exact h.rowO
  · intro g hg r hr
    rcases List.mem_append.1 hr with hr | hr
    · exact h.far g hg r hr
    · obtain rfl := List.mem_singleton.1 hr
      rw [hk1]
      intro e
      cases e
  · intro k hk
    rcases hk with rfl | hk | hk | ⟨r, hr, hk⟩
    · exact .inl h.inW
    · exact h.inO k hk
    · exact h.inE k hk
    · rcases List.mem_append.1 hr with hr | hr
      · exact hes r hr k hk
      · obtain rfl := List.mem_singleton.1 hr
        rcases hk with hk | hk
        · rw [hk1] at hk
          cases hk
        · exact .inr (hqa k hk)
end Go.Proofs.Ytajnpmhgldfgfaa
