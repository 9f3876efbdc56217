/- The cutter as it lies: its text, its tokens, the Text that is gathered. -/
import Derived.Test.YtlldpmjnledhgaaGreatDoorXkF
import Derived.Test.YtlldpmjnledhgaaGreatDoorXkAL
namespace Go.Proofs.YtlldpmjnledhgaaGreatDoor
open Go.RowKit
set_option linter.unusedVariables false

def attrCells (a : XA) : List Value := [.string ⟨a.name.toArray⟩, .string ⟨a.value.toArray⟩, .int .i64 a.place]
def tokCells (q : XT × Value) : List Value := [.int .i64 q.1.kind, .int .i64 q.1.place, .string ⟨q.1.name.toArray⟩, .string ⟨q.1.text.toArray⟩, q.2, .bool q.1.empty]
/-- A token's attributes. -/
def AttrsAt (base : Nat) (w : World) (l : List XA) (v : Value) : Prop := w.ownsRow base 43 3 v l.length (l.flatMap attrCells)
/-- The cutter. -/
structure CutI (base cb : Nat) (s : ByteArray) (c : XS) (ts : List (XT × Value)) (out p v : Value) (w : World) : Prop where
  hcb : base ≤ cb
  blk : BlkAt w cb 95 (cutCells s c.place out p v c.since)
  self : SelfP cb p
  text : w.ownsRow base 5 1 v c.text.length (Lib.byteCells c.text)
  toks : w.ownsRow base 60 6 out ts.length (ts.flatMap tokCells)
  told : ts.map (·.1) = c.out
  attrs : ∀ q ∈ ts, AttrsAt base w q.1.attrs q.2
def CutOf (base cb : Nat) (s : ByteArray) (c : XS) (w : World) : Prop := ∃ ts out p v, CutI base cb s c ts out p v w
/-- What stays: all ahead of the call, all attributes. -/
def KeepX (base : Nat) (w w' : World) : Prop := Below base w w' ∧ KeepT 43 w w' ∧ KeepT 28 w w'
theorem KeepX.refl (base : Nat) (w : World) : KeepX base w w := ⟨Below.refl _ _, KeepT.refl _ _, KeepT.refl _ _⟩
theorem KeepX.trans {base : Nat} {a b c : World} (h : KeepX base a b) (k : KeepX base b c) : KeepX base a c := ⟨h.1.trans k.1, h.2.1.trans k.2.1, h.2.2.trans k.2.2⟩
theorem KeepX.of_below {base : Nat} {a b : World} (h : Below a.heap.size a b) (hb : base ≤ a.heap.size) : KeepX base a b := ⟨h.mono hb, KeepT.of_below h, KeepT.of_below h⟩
theorem KeepX.blk {base : Nat} {a b : World} (h : KeepX base a b) {r : Nat} {cs : Array Value} (hr : BlkAt a r 28 cs) : BlkAt b r 28 cs := h.2.2 r cs hr
/-- A block that is newer than the call. -/
theorem KeepX.fresh {base r : Nat} {w a b : World} (h : KeepX base w a) (hg : a.grownBy b (some r)) (hr : w.heap.size ≤ r) (hb : base ≤ w.heap.size) : KeepX base w b := by
  have key : ∀ t, KeepT t w a → KeepT t w b := fun t hk k cur h1 => by
    have hlt := (Array.getElem?_eq_some_iff.1 h1).1
    have hs := h.1.size
    rw [hg.block k (by omega) (fun e => by have := Option.some.inj e; omega)]
    exact hk k cur h1
  refine ⟨h.1.trans ⟨hg.os, hg.tape, hg.output, hg.size, fun k hk => hg.block k (by have := h.1.size; omega) (fun e => by have := Option.some.inj e; omega)⟩, key _ h.2.1, key _ h.2.2⟩
/-- The cutter stays if nothing that is there turns. -/
theorem CutI.below {base cb : Nat} {s : ByteArray} {c : XS} {ts : List (XT × Value)} {out p v : Value} {w w' : World} (h : CutI base cb s c ts out p v w) (hB : Below w.heap.size w w') : CutI base cb s c ts out p v w' :=
  ⟨h.hcb, h.blk.below hB h.blk.lt, h.self, own_keep h.text (fun g hg => hB.block g (own_lt h.text hg)), own_keep h.toks (fun g hg => hB.block g (own_lt h.toks hg)), h.told, fun q hq => own_keep (h.attrs q hq) (fun g hg => hB.block g (own_lt (h.attrs q hq) hg))⟩

set_option maxRecDepth 100000 in
theorem slTok : SlT Tryz.prog 79 60 6 80 := SlT.mk Tryz.underlying79 (z := .agg #[.int .i64 0, .int .i64 0, .string ⟨#[]⟩, .string ⟨#[]⟩, .slice none 0 0, .bool false]) (by kernel_rfl) rfl (by decide) (by decide)
set_option maxRecDepth 100000 in
theorem slAttr : SlT Tryz.prog 34 43 3 40 := SlT.mk Tryz.underlying34 (z := .agg #[.string ⟨#[]⟩, .string ⟨#[]⟩, .int .i64 0]) (by kernel_rfl) rfl (by decide) (by decide)
theorem infoTok : (Tryz.prog.info? 60).map (fun i => (i.zero, i.size, i.bytes)) = some (some (.agg #[.int .i64 0, .int .i64 0, .string ⟨#[]⟩, .string ⟨#[]⟩, .slice none 0 0, .bool false]), 6, 80) := by kernel_rfl
theorem infoAttr : (Tryz.prog.info? 43).map (fun i => (i.zero, i.size, i.bytes)) = some (some (.agg #[.string ⟨#[]⟩, .string ⟨#[]⟩, .int .i64 0]), 3, 40) := by kernel_rfl

/-- Other tokens: the cutter's block is not the tokens' row, nor the Text's. -/
theorem CutI.apart {base cb : Nat} {s : ByteArray} {c : XS} {ts : List (XT × Value)} {out p v : Value} {w : World} (h : CutI base cb s c ts out p v w) : v.ownBlock ≠ some cb ∧ out.ownBlock ≠ some cb ∧ (∀ g, v.ownBlock = some g → out.ownBlock ≠ some g) :=
  ⟨blk_ne h.text h.blk (by decide), blk_ne h.toks h.blk (by decide), fun g hg => own_ne h.text h.toks (by decide) hg⟩

/-- The cutter but for its Text. -/
structure CutM (base cb : Nat) (s : ByteArray) (place since : Nat) (ts : List (XT × Value)) (out p v : Value) (w : World) : Prop where
  hcb : base ≤ cb
  blk : BlkAt w cb 95 (cutCells s place out p v since)
  toks : w.ownsRow base 60 6 out ts.length (ts.flatMap tokCells)
  attrs : ∀ q ∈ ts, AttrsAt base w q.1.attrs q.2
theorem CutI.toM {base cb : Nat} {s : ByteArray} {c : XS} {ts : List (XT × Value)} {out p v : Value} {w : World} (h : CutI base cb s c ts out p v w) : CutM base cb s c.place c.since ts out p v w := ⟨h.hcb, h.blk, h.toks, h.attrs⟩
theorem CutM.toI {base cb : Nat} {s : ByteArray} {c : XS} {ts : List (XT × Value)} {out p v : Value} {w : World} (h : CutM base cb s c.place c.since ts out p v w) (hs : SelfP cb p) (ht : w.ownsRow base 5 1 v c.text.length (Lib.byteCells c.text)) (ho : ts.map (·.1) = c.out) : CutI base cb s c ts out p v w :=
  ⟨h.hcb, h.blk, hs, ht, h.toks, ho, h.attrs⟩
theorem CutM.apart {base cb : Nat} {s : ByteArray} {pl si : Nat} {ts : List (XT × Value)} {out p v : Value} {w : World} (h : CutM base cb s pl si ts out p v w) : out.ownBlock ≠ some cb := blk_ne h.toks h.blk (by decide)
/-- The cutter's block alone turns. -/
theorem CutM.set {base cb : Nat} {s : ByteArray} {pl si pl' si' : Nat} {ts : List (XT × Value)} {out p v p' v' : Value} {w w' : World} (h : CutM base cb s pl si ts out p v w) (hg : w.grownBy w' (some cb)) (hb : BlkAt w' cb 95 (cutCells s pl' out p' v' si')) :
    CutM base cb s pl' si' ts out p' v' w' ∧ KeepX base w w' := by
  have hk : KeepT 43 w w' := KeepT.blk h.blk (by decide) hg
  refine ⟨⟨h.hcb, hb, h.toks.kept hg (.inr h.apart), fun q hq => hk.owns (h.attrs q hq)⟩, ?_, hk, KeepT.blk h.blk (by decide) hg⟩
  exact ⟨hg.os, hg.tape, hg.output, hg.size, fun k hk => hg.block k (by have := h.hcb; have := h.blk.lt; omega) (fun e => by have := Option.some.inj e; have := h.hcb; omega)⟩
/-- A row of bytes alone turns. -/
theorem CutM.bytes {base cb : Nat} {s : ByteArray} {pl si : Nat} {ts : List (XT × Value)} {out p v u : Value} {n : Nat} {xs : List Value} {w w' : World} (h : CutM base cb s pl si ts out p v w) (hu : w.ownsRow base 5 1 u n xs) (hB : Below base w w') (hf : ∀ k, k < w.heap.size → u.ownBlock ≠ some k → w'.heap[k]? = w.heap[k]?) :
    CutM base cb s pl si ts out p v w' ∧ KeepX base w w' := by
  have hb : ∀ (k : Nat) (cur : Array Value) (t : TypeId), w.heap[k]? = some (Obj.cells cur t (0, 0)) → t ≠ 5 → w'.heap[k]? = some (Obj.cells cur t (0, 0)) := fun k cur t hk ht => by
    rw [hf k (Array.getElem?_eq_some_iff.1 hk).1 (fun e => ?_)]
    · exact hk
    · obtain ⟨c, hc, _⟩ := own_at hu e
      rw [hk] at hc
      cases hc
      exact ht rfl
  have hk : KeepT 43 w w' := fun k cur h1 => hb k cur _ h1 (by decide)
  refine ⟨⟨h.hcb, hb _ _ _ h.blk (by decide), own_keep h.toks (fun g hg => ?_), fun q hq => hk.owns (h.attrs q hq)⟩, hB, hk, fun k cur h1 => hb k cur _ h1 (by decide)⟩
  obtain ⟨c, hc, _⟩ := own_at h.toks hg
  rw [hb g c _ hc (by decide), hc]
/-- One more token. -/
theorem CutM.push {base cb g : Nat} {s : ByteArray} {pl si : Nat} {ts : List (XT × Value)} {out p v : Value} {w w2 : World} {q : XT × Value} {cap : Nat} (h : CutM base cb s pl si ts out p v w) (hA : AttrsAt base w q.1.attrs q.2)
    (hown : w2.ownsRow base 60 6 (.slice (some ⟨g, 0, none⟩) (ts.length + 1) cap) (ts.length + 1) (ts.flatMap tokCells ++ tokCells q)) (hgrow : (w.alloc (.cells (tokCells q).toArray 60)).grownBy w2 out.ownBlock) :
    CutM base cb s pl si (ts ++ [q]) (.slice (some ⟨g, 0, none⟩) (ts.length + 1) cap) p v (w2.setCell ⟨cb, 2, none⟩ (.slice (some ⟨g, 0, none⟩) (ts.length + 1) cap)) ∧ KeepX base w (w2.setCell ⟨cb, 2, none⟩ (.slice (some ⟨g, 0, none⟩) (ts.length + 1) cap)) := by
  have hbl : base ≤ w.heap.size := by have := h.hcb; have := h.blk.lt; omega
  have hb2 : BlkAt w2 cb _ _ := (h.blk.alloc (.cells (tokCells q).toArray 60)).grown hgrow (fun e => h.apart e.symm)
  have hk1 : KeepT 43 w w2 := (KeepT.of_below ((Below.refl _ w).alloc (Nat.le_refl _) _)).trans (KeepT.grown (h.toks.alloc _) (by decide) hgrow)
  have hk2 : KeepT 43 w2 (w2.setCell ⟨cb, 2, none⟩ (.slice (some ⟨g, 0, none⟩) (ts.length + 1) cap)) := KeepT.blk hb2 (by decide) (grown_set w2 cb 2 _)
  have hne := blk_ne hown hb2 (by decide)
  have hd1 : KeepT 28 w w2 := (KeepT.of_below ((Below.refl _ w).alloc (Nat.le_refl _) _)).trans (KeepT.grown (h.toks.alloc _) (by decide) hgrow)
  have hd2 : KeepT 28 w2 (w2.setCell ⟨cb, 2, none⟩ (.slice (some ⟨g, 0, none⟩) (ts.length + 1) cap)) := KeepT.blk hb2 (by decide) (grown_set w2 cb 2 _)
  refine ⟨⟨h.hcb, hb2.set 2 _, ?_, ?_⟩, ?_, hk1.trans hk2, hd1.trans hd2⟩
  · have := hown.kept (grown_set w2 cb 2 (.slice (some ⟨g, 0, none⟩) (ts.length + 1) cap)) (.inr hne)
    simpa using this
  · intro x hx
    rw [List.mem_append] at hx
    rcases hx with hx | hx
    · exact (hk1.trans hk2).owns (h.attrs x hx)
    · simp at hx
      subst hx
      exact (hk1.trans hk2).owns hA
  · exact (((Below.refl base w).alloc hbl _).grown hgrow (by simp; omega) (fun k e => (h.toks.lt k e).1)).setCell (p := ⟨cb, 2, none⟩) h.hcb _
/-- The Text stays when a token comes. -/
theorem CutM.push_text {base cb g n cap : Nat} {ts : List (XT × Value)} {out v : Value} {w w2 : World} {o : Obj} {u : Value} {m : Nat} {ys xs : List Value} (hv : w.ownsRow base 5 1 v n xs) (ht : w.ownsRow base 60 6 out m ys) (hc : v.ownBlock ≠ some cb) (hgrow : (w.alloc o).grownBy w2 out.ownBlock) :
    (w2.setCell ⟨cb, 2, none⟩ u).ownsRow base 5 1 v n xs := by
  have h1 : w2.ownsRow base 5 1 v n xs := by
    refine own_keep hv fun g hg => ?_
    rw [hgrow.block g (by have := own_lt hv hg; simp; omega) (fun e => own_ne hv ht (by decide) hg e.symm)]
    exact Below.heap_alloc w _ g (own_lt hv hg)
  exact h1.kept (grown_set w2 cb 2 u) (.inr hc)

set_option maxRecDepth 100000 in
set_option maxHeartbeats 1000000 in
theorem add_in {base cb : Nat} {s x : ByteArray} {c : XS} {a : Nat} {w : World} (h : CutOf base cb s c w) (hx : c.text.length + x.size ≤ 140737488355328) :
    Calls Tryz.prog 74 #[.pointer (some ⟨cb, 0, none⟩), .int .i64 a, .string x] w fun e w' => e = .returned (.tuple #[]) ∧ CutOf base cb s (addX c a x.data.toList) w' ∧ KeepX base w w' := by
  by_cases h0 : x.data.toList = []
  · have hx0 : x = ⟨#[]⟩ := by
      obtain ⟨⟨l⟩⟩ := x
      simp at h0
      rw [h0]
    subst hx0
    have ha : addX c a [] = c := if_pos rfl
    have HH := Lib.hid h
    clear h h0
    go_enter Tryz.func74, Tryz.ntmps74
    go_wp2
    refine bodyPost_ret (results_none rfl _ _ _) rfl ?_
    exact ⟨rfl, by rw [ha]; exact HH.out, KeepX.refl _ _⟩
  · have hem : x.toList.isEmpty = false := by rw [ByteArray.toList_eq]; simpa using h0
    obtain ⟨ts, out, p, v, h⟩ := h
    obtain ⟨A1, A2, A3⟩ := h.apart
    have hf := h.blk.frozen 5
    have hc5 := h.blk.cell 5
    have HH := Lib.hid h
    have hs : x.size = x.data.toList.length := by simp
    have HX := Lib.hid h0
    have HS := Lib.hid hs
    obtain ⟨n, hn⟩ : ∃ n, c.text.length = n := ⟨_, rfl⟩
    -- what the two ways come to
    have hend : ∀ (si : Nat) (w1 w2 : World) (v' : Value), si = (if c.text = [] then a else c.since) → CutM base cb s c.place si ts out p v w1 → KeepX base w w1 → w1.ownsRow base 5 1 v c.text.length (Lib.byteCells c.text) →
        BlkAt w2 cb 95 (cutCells s c.place out (selfV cb) v' si) → w2.ownsRow base 5 1 v' (c.text.length + x.size) (Lib.byteCells (c.text ++ x.data.toList)) → Below base w1 w2 → FrB w1 w2 cb v → CutOf base cb s (addX c a x.data.toList) w2 ∧ KeepX base w w2 := by
      intro si w1 w2 v' hsi hM hK hv1 hb2 hv2 hB2 hF2
      have ha : addX c a x.data.toList = { c with since := si, text := c.text ++ x.data.toList } := by rw [hsi]; exact if_neg h0
      have hk : ∀ (k : Nat) (cur : Array Value) (t : TypeId), w1.heap[k]? = some (Obj.cells cur t (0, 0)) → t ≠ 5 → t ≠ 95 → w2.heap[k]? = some (Obj.cells cur t (0, 0)) := fun k cur t hk ht hc => by
        rw [hF2 k (Array.getElem?_eq_some_iff.1 hk).1 (fun e => ?_) (fun e => ?_)]
        · exact hk
        · subst e
          rw [show w1.heap[k]? = _ from hM.blk] at hk
          cases hk
          exact hc rfl
        · obtain ⟨d, hd, _⟩ := own_at hv1 e
          rw [hk] at hd
          cases hd
          exact ht rfl
      have hkA : KeepT 43 w1 w2 := fun k cur h1 => hk k cur _ h1 (by decide) (by decide)
      refine ⟨?_, hK.trans ⟨hB2, hkA, fun k cur h1 => hk k cur _ h1 (by decide) (by decide)⟩⟩
      rw [ha]
      refine ⟨ts, out, selfV cb, v', ⟨h.hcb, hb2, .inr rfl, ?_, ?_, h.told, fun q hq => hkA.owns (hM.attrs q hq)⟩⟩
      · rw [show ({ c with since := si, text := c.text ++ x.data.toList } : XS).text.length = c.text.length + x.size from by simp]
        exact hv2
      · refine own_keep hM.toks fun g hg => ?_
        obtain ⟨d, hd, _⟩ := own_at hM.toks hg
        rw [hk g d _ hd (by decide) (by decide), hd]
    have HE := Lib.hid hend
    clear h hs hend h0
    go_enter Tryz.func74, Tryz.ntmps74
    by_cases h00 : n = 0
    · subst h00
      have ht0 : c.text = [] := List.length_eq_zero_iff.1 hn
      have HN := Lib.hid hn
      have HT := Lib.hid ht0
      have hb5 : BlkAt (w.setCell ⟨cb, 5, none⟩ (.int .i64 a)) cb 95 (cutCells s c.place out p v a) := HH.out.blk.set 5 _
      have hv5 : (w.setCell ⟨cb, 5, none⟩ (.int .i64 a)).ownsRow base 5 1 v c.text.length (Lib.byteCells c.text) := HH.out.text.kept (grown_set _ _ _ _) (.inr A1)
      have hM := HH.out.toM.set (grown_set w cb 5 (.int .i64 a)) hb5
      have H5 := Lib.hid (And.intro hb5 (And.intro hv5 hM))
      clear hn ht0 hb5 hv5 hM
      go_wp2_with fail
      refine (len_in HH.out.blk HH.out.text).mono ?_
      rintro e w1 ⟨rfl, rfl⟩
      rw [HN.out]
      go_wp2_with (go_at_call 70; refine (write_in HH.out.hcb HH.out.self H5.out.1 H5.out.2.1 hx).mono ?_)
      rintro e w2 ⟨rfl, v', hb2, hv2, hB2, hF2⟩
      have HF := Lib.hid (HE.out a _ w2 v' (by rw [if_pos HT.out]) H5.out.2.2.1 H5.out.2.2.2 H5.out.2.1 hb2 hv2 hB2 hF2)
      clear hb2 hv2 hB2 hF2
      go_wp2
      go_end0
      exact ⟨rfl, HF.out⟩
    · have ht0 : ¬ c.text = [] := fun e => h00 (by rw [← hn, e]; rfl)
      have hz : ((n : Int) == 0) = false := beq_eq_false_iff_ne.2 (by omega)
      have HN := Lib.hid hn
      have HT := Lib.hid ht0
      clear hn ht0
      go_wp2_with fail
      refine (len_in HH.out.blk HH.out.text).mono ?_
      rintro e w1 ⟨rfl, rfl⟩
      rw [HN.out]
      go_wp2_with (go_at_call 70; refine (write_in HH.out.hcb HH.out.self HH.out.blk HH.out.text hx).mono ?_)
      rintro e w2 ⟨rfl, v', hb2, hv2, hB2, hF2⟩
      have HF := Lib.hid (HE.out c.since _ w2 v' (by rw [if_neg HT.out]) HH.out.toM (KeepX.refl _ _) HH.out.text hb2 hv2 hB2 hF2)
      clear hb2 hv2 hB2 hF2
      go_wp2
      go_end0
      exact ⟨rfl, HF.out⟩
end Go.Proofs.YtlldpmjnledhgaaGreatDoor
