/- A writer of elements as it lies; elements in rows, which blocks they hold. -/
import Derived.Test.YtajnpmhgldfgfaaXoH
namespace Go.Proofs.Ytajnpmhgldfgfaa
open Go.RowKit
set_option linter.unusedVariables false

/-- An element, its attributes' slice, its kids' slice. -/
abbrev QW := XW × Value × Value
def wCells (q : QW) : List Value := [.string q.1.name, .int .i64 0, .int .i64 q.1.up, q.2.1, q.2.2, .string q.1.text]
def aCells (x : ByteArray × ByteArray) : List Value := [.string x.1, .string x.2, .int .i64 0]
theorem wCells_len (q : QW) : (wCells q).length = 6 := rfl
theorem aCells_len (x : ByteArray × ByteArray) : (aCells x).length = 3 := rfl
/-- Attributes that lie in a row of their own. -/
def AttrsW (tA : TypeId) (n0 : Nat) (W : World) (l : List (ByteArray × ByteArray)) (v : Value) : Prop := W.ownsRow n0 tA 3 v l.length (l.flatMap aCells)
/-- A block that an own value holds. -/
def Has (v : Value) (k : Nat) : Prop := v.ownBlock = some k
/-- Elements in a row: of which no two share their kids' block. -/
structure ElemsW (tE tA : TypeId) (n0 : Nat) (els : List XW) (es : List QW) (ev : Value) (W : World) : Prop where
  row : W.ownsRow n0 tE 6 ev es.length (es.flatMap wCells)
  told : es.map (·.1) = els
  attrs : ∀ q ∈ es, AttrsW tA n0 W q.1.attrs q.2.1
  kids : ∀ q ∈ es, IntsAt n0 W q.1.kids q.2.2
  apart : ∀ (i j : Nat) (q r : QW) (g : Nat), es[i]? = some q → es[j]? = some r → i ≠ j → q.2.2.ownBlock = some g → r.2.2.ownBlock ≠ some g
/-- The blocks that elements hold: those that a change may turn. -/
def FootE (es : List QW) (ev : Value) (k : Nat) : Prop := Has ev k ∨ ∃ q ∈ es, Has q.2.2 k ∨ Has q.2.1 k
/-- Nothing but these blocks has turned. -/
structure KeepF (n0 : Nat) (F : Nat → Prop) (W W' : World) : Prop where
  below : Below n0 W W'
  rest : ∀ k, k < W.heap.size → ¬ F k → W'.heap[k]? = W.heap[k]?
theorem KeepF.refl (n0 : Nat) (F : Nat → Prop) (W : World) : KeepF n0 F W W := ⟨Below.refl _ _, fun _ _ _ => rfl⟩
theorem KeepF.of_below {n0 : Nat} {F : Nat → Prop} {W W' : World} (h : Below W.heap.size W W') (hb : n0 ≤ W.heap.size) : KeepF n0 F W W' := ⟨h.mono hb, fun k hk _ => h.block k hk⟩
theorem KeepF.trans {n0 : Nat} {F G : Nat → Prop} {a b c : World} (h : KeepF n0 F a b) (k : KeepF n0 G b c) (hG : ∀ i, G i → F i ∨ a.heap.size ≤ i) : KeepF n0 F a c :=
  ⟨h.below.trans k.below, fun i hi hF => (k.rest i (Nat.lt_of_lt_of_le hi h.below.size) (fun hg => by rcases hG i hg with h1 | h1; exact hF h1; omega)).trans (h.rest i hi hF)⟩
theorem own_foot {n0 size n : Nat} {e : TypeId} {v : Value} {xs : List Value} {F : Nat → Prop} {W W' : World} (h : W.ownsRow n0 e size v n xs) (k : KeepF n0 F W W') (hd : ∀ g, Has v g → ¬ F g) : W'.ownsRow n0 e size v n xs :=
  own_keep h fun g hg => k.rest g (own_lt h hg) (hd g hg)
theorem ElemsW.foot {tE tA : TypeId} {n0 : Nat} {els : List XW} {es : List QW} {ev : Value} {F : Nat → Prop} {W W' : World} (h : ElemsW tE tA n0 els es ev W) (k : KeepF n0 F W W') (hd : ∀ g, FootE es ev g → ¬ F g) : ElemsW tE tA n0 els es ev W' :=
  ⟨own_foot h.row k fun g hg => hd g (.inl hg), h.told, fun q hq => own_foot (h.attrs q hq) k fun g hg => hd g (.inr ⟨q, hq, .inr hg⟩), fun q hq => own_foot (h.kids q hq) k fun g hg => hd g (.inr ⟨q, hq, .inl hg⟩), h.apart⟩
theorem ElemsW.below {tE tA : TypeId} {n0 : Nat} {els : List XW} {es : List QW} {ev : Value} {W W' : World} (h : ElemsW tE tA n0 els es ev W) (hB : Below W.heap.size W W') : ElemsW tE tA n0 els es ev W' :=
  ⟨own_below h.row hB, h.told, fun q hq => own_below (h.attrs q hq) hB, fun q hq => own_below (h.kids q hq) hB, h.apart⟩
theorem ElemsW.lt {tE tA : TypeId} {n0 : Nat} {els : List XW} {es : List QW} {ev : Value} {W : World} (h : ElemsW tE tA n0 els es ev W) {g : Nat} (hg : FootE es ev g) : n0 ≤ g ∧ g < W.heap.size := by
  rcases hg with hg | ⟨q, hq, hg | hg⟩
  · exact ⟨(h.row.lt g hg).1, own_lt h.row hg⟩
  · exact ⟨((h.kids q hq).lt g hg).1, own_lt (h.kids q hq) hg⟩
  · exact ⟨((h.attrs q hq).lt g hg).1, own_lt (h.attrs q hq) hg⟩
theorem ElemsW.len {tE tA : TypeId} {n0 : Nat} {els : List XW} {es : List QW} {ev : Value} {W : World} (h : ElemsW tE tA n0 els es ev W) : es.length = els.length := by rw [← h.told, List.length_map]
theorem ElemsW.nil (tE tA : TypeId) (n0 : Nat) (W : World) : ElemsW tE tA n0 [] [] (.slice none 0 0) W :=
  ⟨World.ownsRow_nil _ _ _ _, rfl, fun q hq => (nomatch hq), fun q hq => (nomatch hq), fun i j q r g h => by simp at h⟩
/-- A writer: its elements, those that are open (the innermost first), was there a root more, its first error. -/
structure WrI (n0 wb : Nat) (els : List XW) (op : List Nat) (more : Bool) (code : Int) (es : List QW) (ev ov : Value) (W : World) : Prop where
  lo : n0 ≤ wb
  blk : BlkAt W wb 36 #[ev, ov, .bool more, .int .i64 code]
  elems : ElemsW 57 58 n0 els es ev W
  opened : IntsAt n0 W op.reverse ov
  far : ∀ g, Has ov g → ∀ q ∈ es, q.2.2.ownBlock ≠ some g
def FootW (wb : Nat) (es : List QW) (ev ov : Value) (k : Nat) : Prop := k = wb ∨ Has ov k ∨ FootE es ev k
theorem WrI.lt {n0 wb : Nat} {els : List XW} {op : List Nat} {more : Bool} {code : Int} {es : List QW} {ev ov : Value} {W : World} (h : WrI n0 wb els op more code es ev ov W) {g : Nat} (hg : FootW wb es ev ov g) : n0 ≤ g ∧ g < W.heap.size := by
  rcases hg with rfl | hg | hg
  · exact ⟨h.lo, h.blk.lt⟩
  · exact ⟨(h.opened.lt g hg).1, own_lt h.opened hg⟩
  · exact h.elems.lt hg
theorem WrI.foot {n0 wb : Nat} {els : List XW} {op : List Nat} {more : Bool} {code : Int} {es : List QW} {ev ov : Value} {F : Nat → Prop} {W W' : World} (h : WrI n0 wb els op more code es ev ov W) (k : KeepF n0 F W W') (hd : ∀ g, FootW wb es ev ov g → ¬ F g) : WrI n0 wb els op more code es ev ov W' :=
  ⟨h.lo, (k.rest wb h.blk.lt (hd wb (.inl rfl))).trans h.blk, h.elems.foot k fun g hg => hd g (.inr (.inr hg)), own_foot h.opened k fun g hg => hd g (.inr (.inl hg)), h.far⟩
theorem WrI.below {n0 wb : Nat} {els : List XW} {op : List Nat} {more : Bool} {code : Int} {es : List QW} {ev ov : Value} {W W' : World} (h : WrI n0 wb els op more code es ev ov W) (hB : Below W.heap.size W W') : WrI n0 wb els op more code es ev ov W' :=
  ⟨h.lo, h.blk.below hB h.blk.lt, h.elems.below hB, own_below h.opened hB, h.far⟩
theorem WrI.base {n0 wb : Nat} {els : List XW} {op : List Nat} {more : Bool} {code : Int} {es : List QW} {ev ov : Value} {W : World} (h : WrI n0 wb els op more code es ev ov W) : n0 ≤ W.heap.size := by have := h.lo; have := h.blk.lt; omega
/-- A store into the writer's own block. -/
theorem WrI.set {n0 wb i : Nat} {els : List XW} {op : List Nat} {more more' : Bool} {code code' : Int} {es : List QW} {ev ov : Value} {W : World} (h : WrI n0 wb els op more code es ev ov W) (u : Value)
    (hc : #[ev, ov, .bool more, .int .i64 code].setIfInBounds i u = #[ev, ov, .bool more', .int .i64 code']) :
    WrI n0 wb els op more' code' es ev ov (W.setCell ⟨wb, i, none⟩ u) ∧ KeepF n0 (FootW wb es ev ov) W (W.setCell ⟨wb, i, none⟩ u) := by
  have hk : KeepF n0 (fun k => k = wb) W (W.setCell ⟨wb, i, none⟩ u) := ⟨(Below.refl _ _).setCell (p := ⟨wb, i, none⟩) h.lo _, fun k hk hne => (grown_set W wb i u).block k hk (fun e => hne (Option.some.inj e))⟩
  have hrow : ∀ g, Has ev g → ¬ g = wb := fun g hg e => blk_ne h.elems.row h.blk (by decide) (e ▸ hg)
  have hov : ∀ g, Has ov g → ¬ g = wb := fun g hg e => blk_ne h.opened h.blk (by decide) (e ▸ hg)
  refine ⟨⟨h.lo, by have := h.blk.set i u; rw [hc] at this; exact this, h.elems.foot hk (fun g hg e => ?_), own_foot h.opened hk hov, h.far⟩, ⟨hk.below, fun k hk' hf => hk.rest k hk' (fun e => hf (.inl e))⟩⟩
  rcases hg with hg | ⟨q, hq, hg | hg⟩
  · exact hrow g hg e
  · exact blk_ne (h.elems.kids q hq) h.blk (by decide) (e ▸ hg)
  · exact blk_ne (h.elems.attrs q hq) h.blk (by decide) (e ▸ hg)
end Go.Proofs.Ytajnpmhgldfgfaa
