/- One region of Print's: an element is put behind the open ones, in every order. Written by a program (mkXoR.py). -/
import Derived.Test.YtajnpmhgldfgfaaXoH0
namespace Go.Proofs.Ytajnpmhgldfgfaa
open Go.RowKit Go.Shelf
set_option linter.unusedVariables false
attribute [local go_sem] Oper.semAt_some

/-- The row and its box on the way. -/
structure RowE (base Bo : Nat) (W0 : World) (vS vR : Value) (k : Nat) (xs : List Value) (W : World) : Prop where
  lo : base ≤ Bo
  box : BlkAt W Bo 30 #[vS]
  row : W.ownsRow base 57 6 vR k xs
  keep : KeepE base W0 W
  size : base ≤ W.heap.size
theorem RowE.alloc {base Bo k : Nat} {W0 W : World} {vS vR : Value} {xs : List Value} (h : RowE base Bo W0 vS vR k xs W) (o : Obj) : RowE base Bo W0 vS vR k xs (W.alloc o) :=
  ⟨h.lo, h.box.alloc _, h.row.alloc _, h.keep.trans (KeepE.of_below ((Below.refl _ W).alloc (Nat.le_refl _) _) h.size), by have := h.size; simp; omega⟩
theorem RowE.app {base Bo k k' : Nat} {W0 W W' : World} {vR v' : Value} {xs xs' : List Value} (h : RowE base Bo W0 vR vR k xs W) (hown : W'.ownsRow base 57 6 v' k' xs') (hgrow : W.grownBy W' vR.ownBlock) : RowE base Bo W0 vR v' k' xs' W' := by
  have h1 := h.size
  exact ⟨h.lo, h.box.grown hgrow (fun e => blk_ne h.row h.box (by decide) e.symm), hown, h.keep.trans ⟨(Below.refl base _).grown hgrow h1 (fun k e => (h.row.lt k e).1), fun ty h1 h2 => KeepT.grown h.row h1 hgrow, KeepN.grown h.row hgrow⟩, Nat.le_trans h1 hgrow.size⟩
theorem RowE.set {base Bo k : Nat} {W0 W : World} {vS v' : Value} {xs : List Value} (h : RowE base Bo W0 vS v' k xs W) : RowE base Bo W0 v' v' k xs (W.setCell ⟨Bo, 0, none⟩ v') :=
  ⟨h.lo, h.box.set 0 _, h.row.kept (grown_set W Bo 0 _) (.inr (blk_ne h.row h.box (by decide))), h.keep.trans ⟨(Below.refl _ _).setCell (p := ⟨Bo, 0, none⟩) h.lo _, fun ty h1 h2 => KeepT.blk h.box h2 (grown_set W Bo 0 v'), KeepN.blk h.box (grown_set W Bo 0 v')⟩, by rw [World.size_setCell]; exact h.size⟩

/-- What holds on the way, by which operations are done. -/
def ElInv (c0 c2 c3 c4 c6 c8 c9 c10 c11 c12 c13 c14 c15 c16 c17 c18 c19 c20 c21 c22 c23 c24 c25 : Value) (Bw Bo g o nn cc x1 base L : Nat) (ov : Value) (xs : List Value) (y : YE) (W0 : World) (l : Array Bool) (a : Act) (W : World) : Prop :=
  ∃ (b0 b1 b2 b3 b4 b5 b6 b7 b8 : Bool) (gT : Nat) (v' : Value), l = #[b0, b1, b2, b3, b4, b5, b6, b7, b8] ∧
    (b2 = true → b1 = true) ∧ (b4 = true → b2 = true ∧ b3 = true) ∧ (b5 = true → b4 = true) ∧ (b6 = true → b5 = true) ∧ (b7 = true → b0 = true ∧ b6 = true) ∧ (b8 = true → b7 = true) ∧
    a = { tmps := #[c0, (.pointer (some ⟨Bw, 0, none⟩)), c2, c3, c4, (.pointer (some ⟨Bo, 0, none⟩)), c6, (.int .i64 (x1 : Nat)), c8, c9, c10, c11, c12, c13, c14, c15, c16, c17, c18, c19, c20, c21, c22, c23, c24, c25, (cond b0 ov undef), (cond b1 (.pointer (some ⟨Bw, 0, none⟩)) undef), (cond b2 (.slice (some ⟨g, o, none⟩) nn cc) undef), (cond b3 (.int .i64 (x1 : Nat)) undef), (cond b4 (.pointer (some ⟨g, o + x1 * 6, none⟩)) undef), (cond b5 (.agg (eCells y)) undef), (cond b6 (.slice (some ⟨gT, 0, none⟩) 1 1) undef), (cond b7 v' undef), undef, undef, undef, undef, undef, undef, undef], defers := [] } ∧
    RowE base Bo W0 (cond b8 v' ov) (cond b7 v' ov) (cond b7 (L + 1) L) (cond b7 (xs ++ (eCells y).toList) xs) W ∧ (b6 = true → b7 = false → BlkAt W gT 57 (eCells y))
end Go.Proofs.Ytajnpmhgldfgfaa
