/- Words for the walk of xout.Print. -/
import Derived.Test.YtajnpmhgldfgfaaXoG
import Derived.Test.YtajnpmhgldfgfaaXwGx
import Derived.Shelf.RegionOpen
import Derived.Laws.EntriesVeiled
namespace Go.Proofs.Ytajnpmhgldfgfaa
open Go.RowKit Go.Shelf
set_option linter.unusedVariables false
attribute [local go_sem] Oper.semAt_some

theorem slE : SlT Try.prog 30 57 6 96 := SlT.mk Try.underlying30 (z := .agg #[.string ⟨#[]⟩, .int .i64 0, .int .i64 0, .slice none 0 0, .slice none 0 0, .string ⟨#[]⟩]) (by kernel_rfl) rfl (by decide) (by decide)
/-- What an append of an element leaves. -/
structure KeepE (base : Nat) (W W' : World) : Prop where
  below : Below base W W'
  types : ∀ ty, ty ≠ 57 → ty ≠ 30 → KeepT ty W W'
  others : KeepN W W'
theorem KeepE.v {base : Nat} {a b : World} (h : KeepE base a b) : KeepV base a b := ⟨h.below, fun ty _ _ h3 h4 => h.types ty h3 h4, h.others⟩
theorem KeepE.trans {base : Nat} {a b c : World} (h : KeepE base a b) (k : KeepE base b c) : KeepE base a c := ⟨h.below.trans k.below, fun ty h1 h2 => (h.types ty h1 h2).trans (k.types ty h1 h2), fun i o h1 hc => k.others i o (h.others i o h1 hc) hc⟩
theorem KeepE.of_below {base : Nat} {a b : World} (h : Below a.heap.size a b) (hb : base ≤ a.heap.size) : KeepE base a b := ⟨h.mono hb, fun _ _ _ => KeepT.of_below h, KeepN.of_below h⟩
theorem BdAt.keepE {base b : Nat} {v : Value} {l : List UInt8} {W W' : World} (h : BdAt base b v l W) (k : KeepE base W W') : BdAt base b v l W' := by
  obtain ⟨p, hp, hb⟩ := h.blk
  exact ⟨h.lo, ⟨p, hp, k.types 64 (by decide) (by decide) _ _ hb⟩, (k.types 5 (by decide) (by decide)).owns h.row⟩
/-- One more open element. -/
theorem OpI.push {base Bo k : Nat} {Y : Nat → YE} {op : List Nat} {ov v' : Value} {V w1 : World} {tmp : Obj} (h : OpI base Bo Y op ov V) (hb : base ≤ V.heap.size)
    (hown : w1.ownsRow base 57 6 v' (op.length + 1) (oCells Y op ++ (eCells (Y k)).toList)) (hgrow : (V.alloc tmp).grownBy w1 ov.ownBlock) :
    BlkAt w1 Bo 30 #[ov] ∧ OpI base Bo Y (k :: op) v' (w1.setCell ⟨Bo, 0, none⟩ v') ∧ KeepE base V (w1.setCell ⟨Bo, 0, none⟩ v') := by
  have ha := h.box.alloc tmp
  have hra := h.row.alloc tmp
  have hb1 : BlkAt w1 Bo 30 #[ov] := ha.grown hgrow (fun e => blk_ne hra ha (by decide) e.symm)
  have hr2 : (w1.setCell ⟨Bo, 0, none⟩ v').ownsRow base 57 6 v' (k :: op).length (oCells Y (k :: op)) := by
    rw [oCells_cons]
    exact hown.kept (grown_set w1 Bo 0 _) (.inr (blk_ne hown hb1 (by decide)))
  have g1 : KeepE base V (V.alloc tmp) := KeepE.of_below ((Below.refl _ V).alloc (Nat.le_refl _) _) hb
  have g2 : KeepE base (V.alloc tmp) w1 := ⟨(Below.refl base _).grown hgrow (by simp; omega) (fun k e => (hra.lt k e).1), fun ty h1 h2 => KeepT.grown hra h1 hgrow, KeepN.grown hra hgrow⟩
  have g3 : KeepE base w1 (w1.setCell ⟨Bo, 0, none⟩ v') := ⟨(Below.refl _ _).setCell (p := ⟨Bo, 0, none⟩) h.lo _, fun ty h1 h2 => KeepT.blk hb1 h2 (grown_set w1 Bo 0 v'), KeepN.blk hb1 (grown_set w1 Bo 0 v')⟩
  exact ⟨hb1, ⟨h.lo, hb1.set 0 _, hr2⟩, (g1.trans g2).trans g3⟩
/-- What the iterator turns is neither the text nor the open elements. -/
theorem OpI.ownR {base Bo B0 : Nat} {Y : Nat → YE} {op : List Nat} {ov : Value} {W W' : World} {row : Option Nat} (h : OpI base Bo Y op ov W) (hg : W.grownBy W' row) (hr : ∀ r, row = some r → B0 ≤ r ∧ ∃ o : Obj, W.heap[r]? = some o ∧ RwW o = true) : OpI base Bo Y op ov W' := by
  have hne : ∀ (b : Nat) (cs : Array Value) (t : TypeId), t ≠ 81 → t ≠ 82 → W.heap[b]? = some (.cells cs t (0, 0)) → some b ≠ row := fun b cs t h1 h2 hb e => by
    obtain ⟨_, o, ho, hc⟩ := hr b e.symm
    rw [hb] at ho
    cases ho
    unfold RwW at hc
    simp [h1, h2] at hc
  refine ⟨h.lo, h.box.grown hg (hne _ _ _ (by decide) (by decide) h.box), h.row.kept hg ?_⟩
  rcases h.row.2 with ⟨e, _⟩ | ⟨g, cap, cur, e, _, hgg, _⟩
  · subst e; exact .inl rfl
  · subst e; exact .inr (hne _ _ _ (by decide) (by decide) hgg)
theorem BdAt.ownR {base b B0 : Nat} {v : Value} {l : List UInt8} {W W' : World} {row : Option Nat} (h : BdAt base b v l W) (hg : W.grownBy W' row) (hr : ∀ r, row = some r → B0 ≤ r ∧ ∃ o : Obj, W.heap[r]? = some o ∧ RwW o = true) : BdAt base b v l W' := by
  have hne : ∀ (b : Nat) (cs : Array Value) (t : TypeId), t ≠ 81 → t ≠ 82 → W.heap[b]? = some (.cells cs t (0, 0)) → some b ≠ row := fun b cs t h1 h2 hb e => by
    obtain ⟨_, o, ho, hc⟩ := hr b e.symm
    rw [hb] at ho
    cases ho
    unfold RwW at hc
    simp [h1, h2] at hc
  obtain ⟨p, hp, hb⟩ := h.blk
  refine h.grown hg (hne _ _ _ (by decide) (by decide) hb).symm ?_
  rcases h.row.2 with ⟨e, _⟩ | ⟨g, cap, cur, e, _, hgg, _⟩
  · subst e; exact .inl rfl
  · subst e; exact .inr (hne _ _ _ (by decide) (by decide) hgg)
/-- What Print tells of elements. -/
def printE (els : List XW) : List UInt8 × Int := printX els (validE els) (walkY ((depthsX (upsE els)).getD []) els.length 0)
/-- What holds while Print goes: the text, the open elements. -/
structure PrI (w : World) (ev : Value) (E : Nat → XW) (Y : Nat → YE) (Bb Bo Bs : Nat) (fv : Value) (pre : List (Nat × Nat)) (V : World) : Prop where
  opened : ∃ ov, OpI w.heap.size Bo Y (prAll E pre).2 ov V
  text : ∃ v, BdAt w.heap.size Bb v (prAll E pre).1 V
  shut : BlkAt V Bs 70 #[fv]
  doc : BlkAt V w.heap.size 32 #[ev]
  below : Below w.heap.size w V
theorem PrI.ownR {w : World} {ev : Value} {E : Nat → XW} {Y : Nat → YE} {Bb Bo Bs B0 : Nat} {fv : Value} {pre : List (Nat × Nat)} {W W' : World} {row : Option Nat} (h : PrI w ev E Y Bb Bo Bs fv pre W) (hB0 : w.heap.size ≤ B0) (hg : W.grownBy W' row) (hr : ∀ r, row = some r → B0 ≤ r ∧ ∃ o : Obj, W.heap[r]? = some o ∧ RwW o = true) : PrI w ev E Y Bb Bo Bs fv pre W' := by
  obtain ⟨ov, h1⟩ := h.opened
  obtain ⟨v, h2⟩ := h.text
  have hne : ∀ (b : Nat) (cs : Array Value) (t : TypeId), t ≠ 81 → t ≠ 82 → W.heap[b]? = some (.cells cs t (0, 0)) → some b ≠ row := fun b cs t h1 h2 hb e => by
    obtain ⟨_, o, ho, hc⟩ := hr b e.symm
    rw [hb] at ho
    cases ho
    unfold RwW at hc
    simp [h1, h2] at hc
  exact ⟨⟨ov, h1.ownR hg hr⟩, ⟨v, h2.ownR hg hr⟩, h.shut.grown hg (hne _ _ _ (by decide) (by decide) h.shut), h.doc.grown hg (hne _ _ _ (by decide) (by decide) h.doc), h.below.grown hg h.below.size (fun k e => by have := (hr k e).1; omega)⟩
theorem keepWB_put {n D Bd Be : Nat} (hn : n ≤ D) (h1 : Bd < D) (h2 : Be < D) (W : World) (o o' : Obj) (ho : W.heap[D]? = some o) (hc : o.isCells = false) : KeepWB n Bd Be W (W.putObj D o') := by
  have hg := grownBy_putObj' W D o'
  have hl := (Array.getElem?_eq_some_iff.1 ho).1
  exact ⟨keepW_put hn W o o' ho hc, hg.block Bd (by omega) (fun e => by cases e; omega), hg.block Be (by omega) (fun e => by cases e; omega)⟩
theorem KeepV.wb {n Bd Be : Nat} {base : Nat} {W W' : World} (h : KeepV base W W') (hn : n ≤ base) {a b : Value} (h1 : Boxed W Bd 32 a) (h2 : Boxed W Be 3 b) : KeepWB n Bd Be W W' := by
  refine ⟨⟨h.below.mono hn, h.types _ (by decide) (by decide) (by decide) (by decide), h.types _ (by decide) (by decide) (by decide) (by decide)⟩, ?_, ?_⟩
  · have h3 : W'.heap[Bd]? = _ := h.types 32 (by decide) (by decide) (by decide) (by decide) _ _ h1
    show W'.heap[Bd]? = W.heap[Bd]?
    rw [h3]
    exact (show W.heap[Bd]? = _ from h1).symm
  · have h3 : W'.heap[Be]? = _ := h.types 3 (by decide) (by decide) (by decide) (by decide) _ _ h2
    show W'.heap[Be]? = W.heap[Be]?
    rw [h3]
    exact (show W.heap[Be]? = _ from h2).symm
theorem KeepV.from {base B : Nat} {W W' : World} (h : KeepV base W W') : KeepsFrom B W W' := ⟨h.below.size, fun k o _ h1 h2 => h.others k o h1 h2⟩
def yeNone : YE := ⟨⟨#[]⟩, 0, 0, none, 0, 0, none, 0, 0, ⟨#[]⟩⟩
abbrev yAt (ys : List YE) (k : Nat) : YE := ys[k]?.getD yeNone
abbrev eAt (els : List XW) (k : Nat) : XW := els[k]?.getD default
theorem WDoc.at_ {W : World} {ev : Value} {els : List XW} {ys : List YE} (h : WDoc W ev els ys) {k : Nat} (hk : k < els.length) : WEl W (yAt ys k) (eAt els k) := by
  have hy : ys[k]? = some (ys[k]'(by rw [h.len]; exact hk)) := List.getElem?_eq_getElem _
  have he : els[k]? = some els[k] := List.getElem?_eq_getElem hk
  have := h.each k _ _ hy he
  unfold yAt eAt
  rw [hy, he]
  exact this
theorem SmX.at_ {els : List XW} (h : SmX els) {k : Nat} (hk : k < els.length) : SmE (eAt els k) := by
  have he : els[k]? = some els[k] := List.getElem?_eq_getElem hk
  unfold eAt
  rw [he]
  exact h.2 _ (List.getElem_mem hk)
theorem WDoc.nmOk {W : World} {ev : Value} {els : List XW} {ys : List YE} (h : WDoc W ev els ys) (hs : SmX els) {op : List Nat} (ho : ∀ k ∈ op, k < els.length) : NmOk (eAt els) (yAt ys) op := fun k hk => by
  have h1 := h.at_ (ho k hk)
  have h2 := hs.at_ (ho k hk)
  exact ⟨h1.name, by rw [h1.name]; exact h2.name, h1.leaf⟩
theorem endT_len (e : XW) : (endT e).length ≤ e.name.size + 3 := by
  unfold endT
  split
  · exact Nat.zero_le _
  · have := bl_len e.name
    simp only [List.length_cons, List.length_append, List.length_nil]
    omega
theorem shutT_le {E : Nat → XW} {d m : Nat} : ∀ op : List Nat, (∀ k ∈ op, (endT (E k)).length ≤ m) → (shutT E d op).1.length ≤ op.length * m
  | [], _ => Nat.zero_le _
  | k :: t, hm => by
    rw [shutT]
    split
    · have h1 := shutT_le (d := d) t (fun j hj => hm j (List.mem_cons_of_mem _ hj))
      have h2 := hm k List.mem_cons_self
      simp only [List.length_append, List.length_cons, Nat.succ_mul]
      omega
    · exact Nat.zero_le _
theorem attrs_len : ∀ (l : List (ByteArray × ByteArray)), (∀ x ∈ l, x.1.size ≤ 1000000 ∧ x.2.size ≤ 1000000) → (l.flatMap attrT).length ≤ l.length * 10000000
  | [], _ => Nat.zero_le _
  | x :: t, h => by
    have h1 := attrs_len t (fun y hy => h y (List.mem_cons_of_mem _ hy))
    obtain ⟨h2, h3⟩ := h x List.mem_cons_self
    have h4 := escX_len true (bl x.2)
    have h5 := bl_len x.2
    have h6 := bl_len x.1
    rw [List.flatMap_cons, List.length_append, List.length_cons, Nat.succ_mul]
    have h7 : (attrT x).length ≤ 10000000 := by
      unfold attrT
      simp only [List.length_cons, List.length_append, List.length_nil]
      omega
    omega
theorem beginT_len {e : XW} (h : SmE e) : (beginT e).length ≤ 100000000000 := by
  have h1 := attrs_len e.attrs h.each
  have h2 := Nat.mul_le_mul_right 10000000 h.attrs
  have h3 := bl_len e.name
  have h4 := h.name
  have h5 := escX_len false (bl e.text)
  have h6 := bl_len e.text
  have h7 := h.text
  unfold beginT
  rw [List.length_append, List.length_append, List.length_cons]
  split
  · simp only [List.length_cons, List.length_nil]; omega
  · simp only [List.length_cons]; omega
/-- What comes of Print. -/
def PrintR (els : List XW) (w : World) (e : Ending) (w' : World) : Prop :=
  e = .returned (.tuple #[.string ⟨(printE els).1.toArray⟩, .int .i64 (printE els).2]) ∧ Below w.heap.size w w'

end Go.Proofs.Ytajnpmhgldfgfaa
