/- The walks of xout's leaf and begin. -/
import Derived.Test.YtajnpmhgldfgfaaXoB
import Derived.Test.YtajnpmhgldfgfaaXoE
import Derived.Test.YtajnpmhgldfgfaaXtBk
import Derived.Test.YtajnpmhgldfgfaaXkX
import Derived.Deep.RegionHeld3
namespace Go.Proofs.Ytajnpmhgldfgfaa
open Go.RowKit
set_option linter.unusedVariables false

/-- What writing into a builder leaves: all below, and all blocks but bytes' and builders'. -/
structure KeepU (base : Nat) (W W' : World) : Prop where
  below : Below base W W'
  types : ∀ ty, ty ≠ 5 → ty ≠ 64 → KeepT ty W W'
  others : KeepN W W'
theorem KeepU.refl (base : Nat) (W : World) : KeepU base W W := ⟨Below.refl _ _, fun _ _ _ => KeepT.refl _ _, fun _ _ h _ => h⟩
theorem KeepU.trans {base : Nat} {a b c : World} (h : KeepU base a b) (k : KeepU base b c) : KeepU base a c := ⟨h.below.trans k.below, fun ty h1 h2 => (h.types ty h1 h2).trans (k.types ty h1 h2), fun i o h1 hc => k.others i o (h.others i o h1 hc) hc⟩
theorem KeepU.of_below {base : Nat} {a b : World} (h : Below a.heap.size a b) (hb : base ≤ a.heap.size) : KeepU base a b := ⟨h.mono hb, fun _ _ _ => KeepT.of_below h, KeepN.of_below h⟩
theorem KeepU.blk {base : Nat} {a b : World} (h : KeepU base a b) {r : Nat} {t : TypeId} {cs : Array Value} (hr : BlkAt a r t cs) (h1 : t ≠ 5) (h2 : t ≠ 64) : BlkAt b r t cs := h.types t h1 h2 r cs hr
theorem bd_writeU {base cb : Nat} {x : ByteArray} {v : Value} {l : List UInt8} {w : World} (h : BdAt base cb v l w) (hlen : l.length + x.size ≤ 140737488355328) :
    Calls Try.prog 21 #[.pointer (some ⟨cb, 0, none⟩), .string x] w fun e w' => e = .returned (.tuple #[.int .i64 x.size, .nilIface]) ∧ ∃ v', BdAt base cb v' (l ++ bl x) w' ∧ KeepU base w w' := by
  obtain ⟨p, -, hb⟩ := h.blk
  have hr := h.row
  refine (bd_write h hlen).mono ?_
  rintro e w' ⟨rfl, v', h1, h2, h3⟩
  refine ⟨rfl, v', h1, h2, fun ty t1 t2 k cur hk => ?_, fun k o hk hc => ?_⟩
  · rw [h3 k (Array.getElem?_eq_some_iff.1 hk).1 (fun e => ?_) (fun e => ?_)]
    · exact hk
    · subst e
      rw [show w.heap[k]? = _ from hb] at hk
      cases hk
      exact t2 rfl
    · exact blk_ne hr (show BlkAt w k ty cur from hk) (fun e => t1 e.symm) e
  · rw [h3 k (Array.getElem?_eq_some_iff.1 hk).1 (fun e => ?_) (fun e => ?_)]
    · exact hk
    · subst e
      rw [show w.heap[k]? = _ from hb] at hk
      cases hk
      cases hc
    · rcases hr.2 with ⟨e2, _⟩ | ⟨g, cap, cur, e2, _, hg, _⟩
      · rw [e2] at e; simp [Value.ownBlock] at e
      · rw [e2] at e
        simp only [Value.ownBlock, Option.some.injEq] at e
        subst e
        rw [hk] at hg
        cases hg
        cases hc
theorem WEl.kn {W : World} {y : YE} {e : XW} (h : WEl W y e) : y.kn = e.kids.length := by
  obtain ⟨a, c, h1, -⟩ := h.kids
  rw [List.length_map] at h1
  injection h1
theorem WEl.leaf {W : World} {y : YE} {e : XW} (h : WEl W y e) : leafB e = (decide (y.kn = 0) && (bl y.tx).isEmpty) := by
  unfold leafB
  rw [h.text, h.kn]
  congr 1
  cases e.kids <;> simp

set_option maxRecDepth 100000 in
set_option maxHeartbeats 4000000 in
theorem leaf_any (y : YE) (W : World) : Calls Try.prog 20 #[.agg (eCells y)] W fun e W' => e = .returned (.bool (decide (y.kn = 0) && (bl y.tx).isEmpty)) ∧ Below W.heap.size W W' := by
  obtain ⟨ynm, ypl, yup, yab, yan, yac, ykb, ykn, ykc, ytx⟩ := y
  have hE : ytx.toList = ytx.data.toList := ByteArray.toList_eq ..
  by_cases h1 : ykn = 0
  · subst h1
    by_cases h2 : ytx.data.toList = []
    · have E1 : (ytx.toList == []) = true := by rw [hE, h2]; rfl
      have E2 : ytx.toList.isEmpty = true := by rw [hE, h2]; rfl
      have HR := Lib.hid (show (bl ytx).isEmpty = true by unfold bl; rw [h2]; rfl)
      clear hE h2
      go_enter Try.func20, Try.ntmps20
      go_wp2
      go_ret
      exact ⟨by simp only [HR.out]; rfl, (Below.refl _ _).alloc (Nat.le_refl _) _⟩
    · have E1 : (ytx.toList == []) = false := by rw [hE]; exact beq_eq_false_iff_ne.2 h2
      have E2 : ytx.toList.isEmpty = false := by rw [hE, List.isEmpty_eq_false_iff]; exact h2
      have HR := Lib.hid (show (bl ytx).isEmpty = false by unfold bl; rw [List.isEmpty_eq_false_iff]; exact h2)
      clear hE h2
      go_enter Try.func20, Try.ntmps20
      go_wp2
      go_ret
      exact ⟨by simp only [HR.out]; rfl, (Below.refl _ _).alloc (Nat.le_refl _) _⟩
  · have E1 : ((ykn : Int) == 0) = false := beq_eq_false_iff_ne.2 (by omega)
    have HR := Lib.hid (decide_eq_false h1)
    clear hE h1
    go_enter Try.func20, Try.ntmps20
    go_wp2
    go_ret
    exact ⟨by simp only [HR.out]; rfl, (Below.refl _ _).alloc (Nat.le_refl _) _⟩
/-- A text of several parts. -/
theorem bl_append (a b : ByteArray) : bl (a ++ b) = bl a ++ bl b := by unfold bl; rw [ByteArray.data_append, Array.toList_append]
theorem bl_len (a : ByteArray) : (bl a).length = a.size := by simp [bl]

set_option maxRecDepth 100000 in
set_option maxHeartbeats 16000000 in
theorem begin_any {b : Nat} {v : Value} {acc : List UInt8} {w0 W : World} {y : YE} {e : XW} (hb : BdAt w0.heap.size b v acc W) (hB0 : Below w0.heap.size w0 W) (hE : WEl w0 y e) (hs : SmE e) (hacc : acc.length ≤ 1000000000000) :
    Calls Try.prog 23 #[.pointer (some ⟨b, 0, none⟩), .agg (eCells y)] W fun en W' => en = .returned (.tuple #[]) ∧ ∃ v', BdAt w0.heap.size b v' (acc ++ beginT e) W' ∧ KeepU w0.heap.size W W' := by
  have hlf := hE.leaf
  obtain ⟨l, hl1, hl2⟩ := hE.attrs
  obtain ⟨n, hnn⟩ : ∃ n, l.length = n := ⟨_, rfl⟩
  have hn1 : n ≤ 1000 := by have := hs.attrs; rw [← hl2] at this; unfold pairsOf at this; rw [List.length_map, hnn] at this; exact this
  have hlz : ∀ (i : Nat) (x : ByteArray × ByteArray × Int), l[i]? = some x → x.1.size ≤ 1000000 ∧ x.2.1.size ≤ 1000000 := fun i x hx => hs.each (x.1, x.2.1) (by rw [← hl2]; exact List.mem_map_of_mem (List.mem_of_getElem? hx))
  have z1 : y.nm.size ≤ 1000000 := by rw [hE.name]; exact hs.name
  have z2 : y.tx.size ≤ 1000000 := by rw [hE.text]; exact hs.text
  have HLf := Lib.hid (fun X => leaf_any y X)
  have HBT := Lib.hid (show beginT e = (60 :: bl y.nm) ++ ((pairsOf l).flatMap attrT ++ (if leafB e then [47, 62] else 62 :: escX false (bl y.tx))) by unfold beginT; rw [hl2, hE.name, hE.text])
  obtain ⟨ynm, ypl, yup, yab, yan, yac, ykb, ykn, ykc, ytx⟩ := y
  simp only at z1 z2 hl1 hlf HBT
  obtain ⟨aA, aC, hsl, hA2⟩ := hl1
  rw [hnn] at hsl
  have hyan : yan = n := by injection hsl
  have hyab : yab = aA := by injection hsl
  subst hyan
  subst hyab
  have HA2 := Lib.hid hA2
  have HB0 := Lib.hid hB0
  have HN := Lib.hid hnn
  have HLZ := Lib.hid hlz
  have HLB := Lib.hid hlf
  have HES := Lib.hid (fun (X : World) => escape_any ytx z2 false X)
  obtain ⟨W1, hW1⟩ : ∃ W1, W.alloc (.cells (eCells ⟨ynm, ypl, yup, yab, yan, yac, ykb, ykn, ykc, ytx⟩) 57) = W1 := ⟨_, rfl⟩
  have hB1 : Below W.heap.size W W1 := by rw [← hW1]; exact (Below.refl _ W).alloc (Nat.le_refl _) _
  have HU1 := Lib.hid (KeepU.of_below hB1 hB0.size)
  have hb1 : BlkAt W1 W.heap.size 57 #[.string ynm, .int .i64 ypl, .int .i64 yup, .slice yab yan yac, .slice ykb ykn ykc, .string ytx] := by rw [← hW1]; exact BlkAt.new _ _ _
  have HBd1 := Lib.hid (hb.below hB1)
  have HBK1 := Lib.hid hb1
  have c0 := hb1.cell 0
  clear hb hE hs hl2 hnn hlz hA2 hlf hB1 hb1 hsl hB0
  go_enter Try.func23, Try.ntmps23
  go_upto_region 1 with (fail)
  clear hW1
  go_upto_region 2 with (go_at_call 21; (refine (bd_writeU HBd1.out (by rw [ByteArray.size_append]; have : (⟨#[60]⟩ : ByteArray).size = 1 := rfl; omega)).mono ?_); rintro _ w2 ⟨rfl, v2, hb2, hU2⟩; have HBd2 := Lib.hid hb2; have HU2 := Lib.hid hU2; have HBK2 := Lib.hid (hU2.blk HBK1.out (by decide) (by decide)); have d3 := HBK2.out.cell 3; clear hb2 hU2)
  go_wp2
  go_loopw [14] (fun x V => ∃ (i : Nat) (v3 : Value), x = .int .i64 (i : Nat) ∧ i ≤ yan ∧ BdAt w0.heap.size b v3 (acc ++ ((60 :: bl ynm) ++ (pairsOf (l.take i)).flatMap attrT)) V ∧ KeepU w0.heap.size w2 V ∧ acc.length + (60 :: bl ynm).length + ((pairsOf (l.take i)).flatMap attrT).length ≤ 1000000000000 + 1000001 + 10000000 * i) (fun x V => yan - (intOf x).toNat)
  case atStart => exact ⟨0, v2, rfl, Nat.zero_le _, by simpa [bl, ByteArray.data_append, pairsOf] using HBd2.out, KeepU.refl _ _, by simp [pairsOf]; omega⟩
  case round =>
    rename World => wr
    obtain ⟨i, v3, rfl, hi, hb3, hU3, hz3⟩ := hrel
    have HBd3 := Lib.hid hb3
    have HU3 := Lib.hid hU3
    have HBK3 := Lib.hid (hU3.blk HBK2.out (by decide) (by decide))
    obtain ⟨acc3, hacc3⟩ : ∃ acc3, acc ++ ((60 :: bl ynm) ++ (pairsOf (l.take i)).flatMap attrT) = acc3 := ⟨_, rfl⟩
    rw [hacc3] at HBd3
    have hl3 : acc3.length ≤ 1000000000000 + 1000001 + 10000000 * i := by rw [← hacc3]; simp only [List.length_append] at hz3 ⊢; omega
    have HA3 := Lib.hid hacc3
    have HZ3 := Lib.hid hz3
    clear hb3 hU3 d3 hacc3 hz3
    have HBw := Lib.hid (show Below w0.heap.size w0 wr from ((HB0.out.trans HU1.out.below).trans HU2.out.below).trans HU3.out.below)
    by_cases hlt : i < yan
    · obtain ⟨x, hx⟩ : ∃ x, l[i]? = some x := ⟨_, List.getElem?_eq_getElem (by rw [HN.out]; exact hlt)⟩
      obtain ⟨zx1, zx2⟩ := HLZ.out i x hx
      obtain ⟨ba, oa, rfl, hba, g⟩ := HA2.out (fun h0 => by have h1 := HN.out; rw [h0] at h1; have h3 : (0 : Nat) = yan := h1; omega)
      obtain ⟨r0, r1, r2⟩ := g i x hx
      have s0 := (HBw.out.cell (p := ⟨ba, oa + i * 3, none⟩) hba).trans r0
      have s1 := (HBw.out.cell (p := ⟨ba, oa + i * 3 + 1, none⟩) hba).trans r1
      have s2 := (HBw.out.cell (p := ⟨ba, oa + i * 3 + 2, none⟩) hba).trans r2
      obtain ⟨x0, x1, x2⟩ := x
      simp only at zx1 zx2
      have htk : (pairsOf (l.take (i + 1))).flatMap attrT = (pairsOf (l.take i)).flatMap attrT ++ attrT (x0, x1) := by
        unfold pairsOf
        rw [List.take_add_one, hx]
        simp [List.flatMap_append]
      obtain ⟨es, hes⟩ : ∃ es : ByteArray, es.data.toList = escX true (bl x1) := ⟨⟨(escX true (bl x1)).toArray⟩, rfl⟩
      have hes2 : (⟨(escX true x1.data.toList).toArray⟩ : ByteArray) = es := ByteArray.ext (by rw [← hes])
      have hez : es.size ≤ 6000000 := by
        have h1 := escX_len true (bl x1)
        rw [← hes] at h1
        have h2 : es.data.toList.length = es.size := by simp
        have h3 := bl_len x1
        omega
      have HE1 := Lib.hid (show ∀ X : World, Calls Try.prog 35 #[.string x1, .bool true] X fun e w' => e = .returned (.string es) ∧ Below X.heap.size X w' from fun X => by
        have := escape_any x1 zx2 true X
        rwa [hes2] at this)
      have HTK := Lib.hid htk
      have ez1 : (⟨#[32]⟩ : ByteArray).size ≤ 2 := by decide
      have ez2 : (⟨#[61, 34]⟩ : ByteArray).size ≤ 2 := by decide
      have ez3 : (⟨#[34]⟩ : ByteArray).size ≤ 2 := by decide
      obtain ⟨t1, ht1⟩ : ∃ t1, (⟨#[32]⟩ : ByteArray) ++ x0 = t1 := ⟨_, rfl⟩
      obtain ⟨t2, ht2⟩ : ∃ t2, t1 ++ (⟨#[61, 34]⟩ : ByteArray) = t2 := ⟨_, rfl⟩
      obtain ⟨t3, ht3⟩ : ∃ t3, t2 ++ es = t3 := ⟨_, rfl⟩
      obtain ⟨t4, ht4⟩ : ∃ t4, t3 ++ (⟨#[34]⟩ : ByteArray) = t4 := ⟨_, rfl⟩
      have k1 : t1.size ≤ 1000002 := by rw [← ht1, ByteArray.size_append]; omega
      have k2 : t2.size ≤ 1000004 := by rw [← ht2, ByteArray.size_append]; omega
      have k3 : t3.size ≤ 7000004 := by rw [← ht3, ByteArray.size_append]; omega
      have k4 : t4.size ≤ 7000006 := by rw [← ht4, ByteArray.size_append]; omega
      have HAT := Lib.hid (show attrT (x0, x1) = bl t4 by
        rw [← ht4, ← ht3, ← ht2, ← ht1]
        unfold attrT
        simp only [bl_append]
        rw [show bl es = escX true (bl x1) from hes]
        simp [bl])
      have m1 : ∀ w, (Op.stringOp .add (⟨#[32]⟩ : ByteArray) x0).run Try.prog w = .ok (.string t1) w := fun w => by rw [← ht1]; exact run_string_add_sum w _ _ (by omega)
      have m2 : ∀ w, (Op.stringOp .add t1 (⟨#[61, 34]⟩ : ByteArray)).run Try.prog w = .ok (.string t2) w := fun w => by rw [← ht2]; exact run_string_add_sum w _ _ (by omega)
      have m3 : ∀ w, (Op.stringOp .add t2 es).run Try.prog w = .ok (.string t3) w := fun w => by rw [← ht3]; exact run_string_add_sum w _ _ (by omega)
      have m4 : ∀ w, (Op.stringOp .add t3 (⟨#[34]⟩ : ByteArray)).run Try.prog w = .ok (.string t4) w := fun w => by rw [← ht4]; exact run_string_add_sum w _ _ (by omega)
      have q1 : (0 : Int) ≤ (i : Int) := by omega
      have q2 : (i : Int) < (yan : Int) := by omega
      obtain ⟨W4, hW4⟩ : ∃ W4, wr.alloc (.cells #[.string x0, .string x1, .int .i64 x2] 58) = W4 := ⟨_, rfl⟩
      have hB4 : Below wr.heap.size wr W4 := by rw [← hW4]; exact (Below.refl _ wr).alloc (Nat.le_refl _) _
      have hb4 : BlkAt W4 wr.heap.size 58 #[.string x0, .string x1, .int .i64 x2] := by rw [← hW4]; exact BlkAt.new _ _ _
      have HBd4 := Lib.hid (HBd3.out.below hB4)
      have HU4 := Lib.hid (HU3.out.trans (KeepU.of_below hB4 HBw.out.size))
      have HBK4 := Lib.hid hb4
      have hz4 := hB4.size
      have HZ4 := Lib.hid (Nat.le_trans HBw.out.size hB4.size)
      have u0 := hb4.cell 0
      have u1 := hb4.cell 1
      clear hx g r0 r1 r2 htk hes hes2 hb4 hB4 ht1 ht2 ht3 ht4 ez1 ez2 ez3
      go_upto_region 5 with (fail)
      clear hW4
      go_region_held3 (fun W => W.cell? ⟨wr.heap.size, 0, none⟩ = some (.string x0) ∧ W.cell? ⟨wr.heap.size, 1, none⟩ = some (.string x1)) (go_keep)
        (first
          | (go_at_call 35; refine (HE1.out _).mono ?_; rintro _ w5 ⟨rfl, hB5⟩; replace hB5 : Below W4.heap.size W4 w5 := ((Below.refl _ W4).drew).trans hB5; have HB5 := Lib.hid hB5; have f0 := (HBK4.out.below hB5 HBK4.out.lt).cell 0; have f1 := (HBK4.out.below hB5 HBK4.out.lt).cell 1; clear hB5)
          | (go_at_call 21; refine (bd_writeU (HBd4.out.below HB5.out) (by omega)).mono ?_; rintro _ w6 ⟨rfl, v6, hb6, hU6⟩; have HBd6 := Lib.hid hb6; have HU6 := Lib.hid ((HU4.out.trans (KeepU.of_below HB5.out HZ4.out)).trans hU6); have hk6 := hU6.blk (HBK4.out.below HB5.out HBK4.out.lt) (by decide) (by decide); have f0 := hk6.cell 0; have f1 := hk6.cell 1; clear hb6 hU6 hk6))
      go_wp2
      go_roundw
      case rel => exact ⟨i + 1, v6, by go_num, hlt, by rw [HTK.out, ← List.append_assoc (60 :: bl ynm), ← List.append_assoc acc, HA3.out, HAT.out]; exact HBd6.out, HU6.out, by rw [HTK.out, HAT.out, List.length_append, bl_len]; have := HZ3.out; omega⟩
      case measure => simp [intOf]; omega
    · obtain rfl : i = yan := by omega
      have hall : pairsOf (l.take i) = pairsOf l := by rw [List.take_of_length_le (by rw [HN.out]; exact Nat.le_refl _)]
      rw [hall] at HA3
      obtain ⟨lf, hlf⟩ : ∃ lf, leafB e = lf := ⟨_, rfl⟩
      have hlf2 := hlf
      rw [HLB.out] at hlf2
      have HL2 := Lib.hid (fun (X : World) => show Calls Try.prog 20 #[.agg #[.string ynm, .int .i64 ypl, .int .i64 yup, .slice yab i yac, .slice ykb ykn ykc, .string ytx]] X fun en W' => en = .returned (.bool lf) ∧ Below X.heap.size X W' from by
        exact (HLf.out X).mono fun en W' ⟨h1, h2⟩ => ⟨by rw [h1]; exact congrArg (fun q => Ending.returned (.bool q)) hlf2, h2⟩)
      have e0 := HBK3.out.cell 0
      have e1 := HBK3.out.cell 1
      have e2 := HBK3.out.cell 2
      have e3 := HBK3.out.cell 3
      have e4 := HBK3.out.cell 4
      have e5 := HBK3.out.cell 5
      have hbt := HBT.out
      rw [hlf] at hbt
      have HBT2 := Lib.hid hbt
      have HX := Lib.hid (fun (X : World) (h : KeepU w0.heap.size w2 X) => (HU1.out.trans HU2.out).trans h)
      clear hall hlf hlf2 hbt HBT HLB
      cases lf with
      | true =>
        have HR := Lib.hid (show acc ++ beginT e = acc3 ++ bl (⟨#[47, 62]⟩ : ByteArray) by rw [HBT2.out, ← HA3.out]; simp [bl])
        have ez : (⟨#[47, 62]⟩ : ByteArray).size ≤ 2 := by decide
        go_wp2_with (first
          | (go_at_call 20; refine (HL2.out _).mono ?_; rintro _ w4 ⟨rfl, hB4⟩; have HBd4 := Lib.hid (HBd3.out.below hB4); have HU4 := Lib.hid (HU3.out.trans (KeepU.of_below hB4 HBw.out.size)); clear hB4)
          | (go_at_call 21; refine (bd_writeU HBd4.out (by omega)).mono ?_; rintro _ w6 ⟨rfl, v6, hb6, hU6⟩; have HBd6 := Lib.hid hb6; have HU6 := Lib.hid (HU4.out.trans hU6); clear hb6 hU6))
        refine bodyPost_ret (results_none rfl _ _ _) rfl ?_
        exact ⟨rfl, v6, by rw [HR.out]; exact HBd6.out, HX.out _ HU6.out⟩
      | false =>
        obtain ⟨es, hes⟩ : ∃ es : ByteArray, es.data.toList = escX false (bl ytx) := ⟨⟨(escX false (bl ytx)).toArray⟩, rfl⟩
        have hes2 : (⟨(escX false ytx.data.toList).toArray⟩ : ByteArray) = es := ByteArray.ext (by rw [← hes])
        have hez : es.size ≤ 6000000 := by
          have h1 := escX_len false (bl ytx)
          rw [← hes] at h1
          have h2 : es.data.toList.length = es.size := by simp
          have h3 := bl_len ytx
          omega
        have HE1 := Lib.hid (show ∀ X : World, Calls Try.prog 35 #[.string ytx, .bool false] X fun e w' => e = .returned (.string es) ∧ Below X.heap.size X w' from fun X => by
          have := HES.out X
          rwa [hes2] at this)
        have HR := Lib.hid (show acc ++ beginT e = acc3 ++ bl ((⟨#[62]⟩ : ByteArray) ++ es) by
          rw [HBT2.out, ← HA3.out, bl_append, show bl es = escX false (bl ytx) from hes]
          simp [bl])
        have ez : (⟨#[62]⟩ : ByteArray).size ≤ 2 := by decide
        clear hes hes2
        go_wp2_with (first
          | (go_at_call 20; refine (HL2.out _).mono ?_; rintro _ w4 ⟨rfl, hB4⟩; have HBd4 := Lib.hid (HBd3.out.below hB4); have HU4 := Lib.hid (HU3.out.trans (KeepU.of_below hB4 HBw.out.size)); have HS4 := Lib.hid (Nat.le_trans HBw.out.size hB4.size); have f5 := (HBK3.out.below hB4 HBK3.out.lt).cell 5; clear hB4)
          | (go_at_call 35; refine (HE1.out _).mono ?_; rintro _ w5 ⟨rfl, hB5⟩; have HBd5 := Lib.hid (HBd4.out.below hB5); have HU5 := Lib.hid (HU4.out.trans (KeepU.of_below hB5 HS4.out)); clear hB5)
          | (go_at_call 21; refine (bd_writeU HBd5.out (by rw [ByteArray.size_append]; omega)).mono ?_; rintro _ w6 ⟨rfl, v6, hb6, hU6⟩; have HBd6 := Lib.hid hb6; have HU6 := Lib.hid (HU5.out.trans hU6); clear hb6 hU6))
        go_end0
        exact ⟨rfl, v6, by rw [HR.out]; exact HBd6.out, HX.out _ HU6.out⟩
end Go.Proofs.Ytajnpmhgldfgfaa
