/- The walk of Print's closure that closes elements. -/
import Derived.Test.YtajnpmhgldfgfaaXoF
import Derived.Deep.LoopGhost
import Derived.WalkSmall
namespace Go.Proofs.Ytajnpmhgldfgfaa
open Go.RowKit
set_option linter.unusedVariables false

/-- What Print's steps leave: all below, and all blocks but bytes', builders', open elements'. -/
structure KeepV (base : Nat) (W W' : World) : Prop where
  below : Below base W W'
  types : ∀ ty, ty ≠ 5 → ty ≠ 64 → ty ≠ 57 → ty ≠ 30 → KeepT ty W W'
  others : KeepN W W'
theorem KeepV.refl (base : Nat) (W : World) : KeepV base W W := ⟨Below.refl _ _, fun _ _ _ _ _ => KeepT.refl _ _, fun _ _ h _ => h⟩
theorem KeepV.trans {base : Nat} {a b c : World} (h : KeepV base a b) (k : KeepV base b c) : KeepV base a c := ⟨h.below.trans k.below, fun ty h1 h2 h3 h4 => (h.types ty h1 h2 h3 h4).trans (k.types ty h1 h2 h3 h4), fun i o h1 hc => k.others i o (h.others i o h1 hc) hc⟩
theorem KeepU.v {base : Nat} {a b : World} (h : KeepU base a b) : KeepV base a b := ⟨h.below, fun ty h1 h2 _ _ => h.types ty h1 h2, h.others⟩
theorem KeepV.of_below {base : Nat} {a b : World} (h : Below a.heap.size a b) (hb : base ≤ a.heap.size) : KeepV base a b := (KeepU.of_below h hb).v
theorem KeepV.set {base B i : Nat} {t : TypeId} {cs : Array Value} {W : World} (u : Value) (hb : BlkAt W B t cs) (hB : base ≤ B) (ht : t = 30 ∨ t = 57) : KeepV base W (W.setCell ⟨B, i, none⟩ u) :=
  ⟨(Below.refl _ _).setCell (p := ⟨B, i, none⟩) hB _, fun ty h1 h2 h3 h4 => KeepT.blk hb (by rcases ht with rfl | rfl; exact h4; exact h3) (grown_set W B i u), KeepN.blk hb (grown_set W B i u)⟩
def oCells (Y : Nat → YE) (op : List Nat) : List Value := op.reverse.flatMap fun k => (eCells (Y k)).toList
theorem oCells_len (Y : Nat → YE) (op : List Nat) : (oCells Y op).length = op.length * 6 := by
  unfold oCells
  induction op with
  | nil => rfl
  | cons k t ih => rw [List.reverse_cons, List.flatMap_append, List.length_append, ih]; simp; omega
theorem oCells_cons (Y : Nat → YE) (k : Nat) (t : List Nat) : oCells Y (k :: t) = oCells Y t ++ (eCells (Y k)).toList := by unfold oCells; rw [List.reverse_cons, List.flatMap_append]; simp
/-- The open elements as they lie. -/
structure OpI (base Bo : Nat) (Y : Nat → YE) (op : List Nat) (ov : Value) (W : World) : Prop where
  lo : base ≤ Bo
  box : BlkAt W Bo 30 #[ov]
  row : W.ownsRow base 57 6 ov op.length (oCells Y op)
theorem OpI.keepU {base Bo : Nat} {Y : Nat → YE} {op : List Nat} {ov : Value} {W W' : World} (h : OpI base Bo Y op ov W) (k : KeepU base W W') : OpI base Bo Y op ov W' :=
  ⟨h.lo, k.blk h.box (by decide) (by decide), (k.types 57 (by decide) (by decide)).owns h.row⟩
theorem OpI.below {base Bo : Nat} {Y : Nat → YE} {op : List Nat} {ov : Value} {W W' : World} (h : OpI base Bo Y op ov W) (k : Below W.heap.size W W') : OpI base Bo Y op ov W' :=
  ⟨h.lo, h.box.below k h.box.lt, own_below h.row k⟩
theorem OpI.form {base Bo : Nat} {Y : Nat → YE} {k : Nat} {t : List Nat} {ov : Value} {W : World} (h : OpI base Bo Y (k :: t) ov W) : ∃ g cap, ov = .slice (some ⟨g, 0, none⟩) (t.length + 1) cap ∧ t.length + 1 ≤ cap ∧ base ≤ g ∧ g < W.heap.size := by
  rcases h.row.2 with ⟨_, hz⟩ | ⟨g, cap, cur, hv, h1, h2, h3, h4⟩
  · simp at hz
  · exact ⟨g, cap, hv, h3, h1, (Array.getElem?_eq_some_iff.1 h2).1⟩
theorem OpI.cells {base Bo g cap k : Nat} {Y : Nat → YE} {t : List Nat} {W : World} (h : OpI base Bo Y (k :: t) (.slice (some ⟨g, 0, none⟩) (t.length + 1) cap) W) :
    W.cell? ⟨g, t.length * 6, none⟩ = some (.string (Y k).nm) ∧ W.cell? ⟨g, t.length * 6 + 1, none⟩ = some (.int .i64 (Y k).pl) ∧ W.cell? ⟨g, t.length * 6 + 2, none⟩ = some (.int .i64 (Y k).up) ∧ W.cell? ⟨g, t.length * 6 + 3, none⟩ = some (.slice (Y k).ab (Y k).an (Y k).ac) ∧ W.cell? ⟨g, t.length * 6 + 4, none⟩ = some (.slice (Y k).kb (Y k).kn (Y k).kc) ∧ W.cell? ⟨g, t.length * 6 + 5, none⟩ = some (.string (Y k).tx) := by
  have hr := h.row
  rw [oCells_cons] at hr
  have hz := oCells_len Y t
  have hc : ∀ i, i < 6 → W.cell? ⟨g, t.length * 6 + i, none⟩ = (eCells (Y k)).toList[i]? := fun i hi => by
    rw [World.ownsRow.cellAt hr (t.length * 6 + i) (by first | omega | (simp only [List.length_cons]; omega)), List.getElem?_append_right (by omega), hz, Nat.add_sub_cancel_left]
  exact ⟨hc 0 (by omega), hc 1 (by omega), hc 2 (by omega), hc 3 (by omega), hc 4 (by omega), hc 5 (by omega)⟩
theorem OpI.pop {base Bo g cap k : Nat} {Y : Nat → YE} {t : List Nat} {W : World} (h : OpI base Bo Y (k :: t) (.slice (some ⟨g, 0, none⟩) (t.length + 1) cap) W) :
    OpI base Bo Y t (.slice (some ⟨g, 0, none⟩) t.length cap) (W.setCell ⟨Bo, 0, none⟩ (.slice (some ⟨g, 0, none⟩) t.length cap)) ∧ KeepV base W (W.setCell ⟨Bo, 0, none⟩ (.slice (some ⟨g, 0, none⟩) t.length cap)) := by
  have hr := h.row
  rw [oCells_cons] at hr
  have r2 := ownsRow_pop (oCells_len Y t) hr
  exact ⟨⟨h.lo, h.box.set 0 _, r2.kept (grown_set W Bo 0 _) (.inr (blk_ne r2 h.box (by decide)))⟩, KeepV.set _ h.box h.lo (.inl rfl)⟩
theorem BdAt.far {base b B i : Nat} {v : Value} {l : List UInt8} {W : World} {t : TypeId} {cs : Array Value} (h : BdAt base b v l W) (hb : BlkAt W B t cs) (h1 : t ≠ 5) (h2 : t ≠ 64) (u : Value) : BdAt base b v l (W.setCell ⟨B, i, none⟩ u) := by
  obtain ⟨p, hp, hk⟩ := h.blk
  refine h.grown (grown_set W B i u) (fun e => ?_) (.inr (blk_ne h.row hb (fun e => h1 e.symm)))
  have e' := Option.some.inj e
  subst e'
  have hb' : W.heap[B]? = _ := hb
  rw [show W.heap[B]? = _ from hk] at hb'
  cases hb'
  exact h2 rfl
/-- The names of open elements are what they are. -/
def NmOk (E : Nat → XW) (Y : Nat → YE) (op : List Nat) : Prop := ∀ k ∈ op, (Y k).nm = (E k).name ∧ (Y k).nm.size ≤ 1000000 ∧ leafB (E k) = (decide ((Y k).kn = 0) && (bl (Y k).tx).isEmpty)
/-- What comes of closing. -/
def ShutR (base Bo Bb : Nat) (E : Nat → XW) (Y : Nat → YE) (d : Nat) (op : List Nat) (acc : List UInt8) (W : World) (e : Ending) (W' : World) : Prop :=
  e = .returned (.tuple #[]) ∧ ∃ ov' v', OpI base Bo Y (shutT E d op).2 ov' W' ∧ BdAt base Bb v' (acc ++ (shutT E d op).1) W' ∧ KeepV base W W'

set_option maxRecDepth 100000 in
set_option maxHeartbeats 16000000 in
theorem shut_any {base Bo Bb : Nat} {E : Nat → XW} {Y : Nat → YE} {op : List Nat} {ov v : Value} {acc : List UInt8} {d : Nat} {W : World} (hO : OpI base Bo Y op ov W) (hB : BdAt base Bb v acc W) (hbase : base ≤ W.heap.size) (hNm : NmOk E Y op) (hl : op.length ≤ 1000000) (hacc : acc.length ≤ 10000000000000) :
    Calls Try.prog 19 #[.int .i64 (d : Nat), .pointer (some ⟨Bo, 0, none⟩), .pointer (some ⟨Bb, 0, none⟩)] W (ShutR base Bo Bb E Y d op acc W) := by
  have HO := Lib.hid hO
  have HB := Lib.hid hB
  have HN := Lib.hid hNm
  clear hO hB hNm
  go_enter Try.func19, Try.ntmps19
  go_wp2
  go_loopg [4] op.length (fun g _ wx => ∃ (op' : List Nat) (acc' : List UInt8) (ov' v' : Value), op'.length = g ∧ (∀ k ∈ op', k ∈ op) ∧ op'.length ≤ op.length ∧ acc'.length ≤ acc.length + (op.length - op'.length) * 1000003 ∧ acc' ++ (shutT E d op').1 = acc ++ (shutT E d op).1 ∧ (shutT E d op').2 = (shutT E d op).2 ∧ OpI base Bo Y op' ov' wx ∧ BdAt base Bb v' acc' wx ∧ KeepV base W wx)
  case atStart => exact ⟨op, acc, ov, v, rfl, fun k h => h, Nat.le_refl _, by omega, rfl, rfl, HO.out, HB.out, KeepV.refl _ _⟩
  case round =>
    obtain ⟨op', acc', ov', v', hg, hin, hle, hal, hs1, hs2, hO, hB, hK⟩ := hrel
    have HO2 := Lib.hid hO
    have HB2 := Lib.hid hB
    have HK2 := Lib.hid hK
    have HS1 := Lib.hid hs1
    have HS2 := Lib.hid hs2
    have HIN := Lib.hid hin
    have hbs := Nat.le_trans hbase hK.below.size
    by_cases hd : op'.length ≤ d
    · obtain ⟨a, c, rfl⟩ := ownsRow_slice' hO.row
      have c0 := hO.box.cell 0
      have hst := shutT_stop (E := E) hd
      have HST := Lib.hid hst
      have hdI : ¬ (d : Int) < (op'.length : Int) := by omega
      clear hs1 hs2 hin hO hB hK hst hg
      go_wp2
      go_end0
      exact ⟨rfl, _, v', by rw [← HS2.out, HST.out]; exact HO2.out, by rw [← HS1.out, HST.out, List.append_nil]; exact HB2.out, HK2.out⟩
    · cases op' with
      | nil => exact absurd (Nat.zero_le d) hd
      | cons k t =>
        obtain ⟨g, cap, rfl, hcap, hgb, hgl⟩ := hO.form
        obtain ⟨s0, s1, s2, s3, s4, s5⟩ := hO.cells
        have c0 := hO.box.cell 0
        obtain ⟨n1, n2, n3⟩ := HN.out k (hin k List.mem_cons_self)
        have hst := shutT_step (E := E) (d := d) (k := k) (t := t) (by simp only [List.length_cons] at hd; omega)
        have HST := Lib.hid hst
        obtain ⟨y, hy⟩ : ∃ y, Y k = y := ⟨_, rfl⟩
        rw [hy] at s0 s1 s2 s3 s4 s5 n1 n2 n3
        obtain ⟨u, hu⟩ : ∃ u, t.length = u := ⟨_, rfl⟩
        simp only [List.length_cons] at hg hd hle hal
        rw [hu] at s0 s1 s2 s3 s4 s5 hcap hg hd hle hal HO2 c0
        have HU := Lib.hid hu
        have HP := Lib.hid (fun (X : World) (hX : OpI base Bo Y (k :: t) (.slice (some ⟨g, 0, none⟩) (u + 1) cap) X) => show OpI base Bo Y t (.slice (some ⟨g, 0, none⟩) u cap) (X.setCell ⟨Bo, 0, none⟩ (.slice (some ⟨g, 0, none⟩) u cap)) ∧ KeepV base X (X.setCell ⟨Bo, 0, none⟩ (.slice (some ⟨g, 0, none⟩) u cap)) from by
          rw [← HU.out] at hX ⊢
          exact hX.pop)
        have HLf := Lib.hid (fun X => leaf_any y X)
        obtain ⟨lf, hlf⟩ : ∃ lf, leafB (E k) = lf := ⟨_, rfl⟩
        rw [hlf] at n3
        have hend : endT (E k) = if lf then [] else 60 :: 47 :: (bl y.nm ++ [62]) := by unfold endT; rw [hlf, n1]
        have HEnd := Lib.hid hend
        have HN3 := Lib.hid n3
        have HIN2 := Lib.hid (fun (j : Nat) (hj : j ∈ t) => hin j (List.mem_cons_of_mem _ hj))
        obtain ⟨ynm, ypl, yup, yab, yan, yac, ykb, ykn, ykc, ytx⟩ := y
        simp only at s0 s1 s2 s3 s4 s5 n2 HEnd
        have HL2 := Lib.hid (fun (X : World) => show Calls Try.prog 20 #[.agg #[.string ynm, .int .i64 ypl, .int .i64 yup, .slice yab yan yac, .slice ykb ykn ykc, .string ytx]] X fun en W' => en = .returned (.bool lf) ∧ Below X.heap.size X W' from
          (HLf.out X).mono fun en W' ⟨h1, h2⟩ => ⟨by rw [h1]; exact congrArg (fun q => Ending.returned (.bool q)) HN3.out.symm, h2⟩)
        obtain ⟨W4, hW4⟩ : ∃ W4, wr.alloc (.cells #[.string ynm, .int .i64 ypl, .int .i64 yup, .slice yab yan yac, .slice ykb ykn ykc, .string ytx] 57) = W4 := ⟨_, rfl⟩
        have hB4 : Below wr.heap.size wr W4 := by rw [← hW4]; exact (Below.refl _ wr).alloc (Nat.le_refl _) _
        have hb4 : BlkAt W4 wr.heap.size 57 #[.string ynm, .int .i64 ypl, .int .i64 yup, .slice yab yan yac, .slice ykb ykn ykc, .string ytx] := by rw [← hW4]; exact BlkAt.new _ _ _
        have HBK4 := Lib.hid hb4
        have HO4 := Lib.hid (HO2.out.below hB4)
        have HB4 := Lib.hid (HB2.out.below hB4)
        have HK4 := Lib.hid (HK2.out.trans (KeepV.of_below hB4 hbs))
        have HZ4 := Lib.hid (Nat.le_trans hbs hB4.size)
        have hdI : (d : Int) < (u : Int) + 1 := by omega
        have hu1 : (u : Int) + 1 - 1 = (u : Int) := by omega
        have hucap : (u : Int) ≤ (cap : Int) := by omega
        have hucap2 : u ≤ cap := by omega
        have b0 := HBK4.out.cell 0
        have b1 := HBK4.out.cell 1
        have b2 := HBK4.out.cell 2
        have b3 := HBK4.out.cell 3
        have b4 := HBK4.out.cell 4
        have b5 := HBK4.out.cell 5
        have x0 := HO4.out.box.cell 0
        clear hs1 hs2 hin hO hB hK hst hu hlf n1 n3 hend hy hB4 hb4
        obtain rfl : gk = u + 1 := by omega
        go_upto_region 2 with (fail)
        clear hW4 c0
        cases lf with
        | true =>
          go_wp2_with (go_at_call 20; refine (HL2.out _).mono ?_; rintro _ w5 ⟨rfl, hB5⟩; have HO5 := Lib.hid (HO4.out.below hB5); have HBd5 := Lib.hid (HB4.out.below hB5); have HK5 := Lib.hid (HK4.out.trans (KeepV.of_below hB5 HZ4.out)); have x1 := HO5.out.box.cell 0; have x2 := HO5.out.box.frozen 0; clear hB5)
          go_roundg u
          case measure => omega
          case rel =>
            have hp := HP.out w5 HO5.out
            refine ⟨t, acc', _, v', HU.out, HIN2.out, by rw [HU.out]; omega, Nat.le_trans hal (Nat.add_le_add_left (Nat.mul_le_mul_right _ (by have := HU.out; omega)) _), ?_, ?_, hp.1, HBd5.out.far HO5.out.box (by decide) (by decide) _, HK5.out.trans hp.2⟩
            · rw [← HS1.out, HST.out, HEnd.out]; simp
            · rw [← HS2.out, HST.out]
        | false =>
          have ez1 : (⟨#[60, 47]⟩ : ByteArray).size ≤ 2 := by decide
          have ez2 : (⟨#[62]⟩ : ByteArray).size ≤ 1 := by decide
          have HEn := Lib.hid (show endT (E k) = bl ((⟨#[60, 47]⟩ : ByteArray) ++ ynm ++ ⟨#[62]⟩) by rw [HEnd.out, bl_append, bl_append]; simp [bl])
          go_wp2_with (first
            | (go_at_call 20; refine (HL2.out _).mono ?_; rintro _ w5 ⟨rfl, hB5⟩; have HO5 := Lib.hid (HO4.out.below hB5); have HBd5 := Lib.hid (HB4.out.below hB5); have HK5 := Lib.hid (HK4.out.trans (KeepV.of_below hB5 HZ4.out)); have y0 := (HBK4.out.below hB5 HBK4.out.lt).cell 0; clear hB5)
            | (go_at_call 21; refine (bd_writeU HBd5.out (by simp only [ByteArray.size_append]; omega)).mono ?_; rintro _ w6 ⟨rfl, v6, hb6, hU6⟩; have HBd6 := Lib.hid hb6; have HO6 := Lib.hid (HO5.out.keepU hU6); have HK6 := Lib.hid (HK5.out.trans hU6.v); have x1 := HO6.out.box.cell 0; have x2 := HO6.out.box.frozen 0; clear hb6 hU6))
          go_roundg u
          case measure => omega
          case rel =>
            have hp := HP.out w6 HO6.out
            refine ⟨t, _, _, v6, HU.out, HIN2.out, by rw [HU.out]; omega, ?_, ?_, ?_, hp.1, HBd6.out.far HO6.out.box (by decide) (by decide) _, HK6.out.trans hp.2⟩
            · rw [HU.out, List.length_append, bl_len]
              simp only [ByteArray.size_append]
              omega
            · rw [← HS1.out, HST.out, HEn.out]; simp
            · rw [← HS2.out, HST.out]
end Go.Proofs.Ytajnpmhgldfgfaa
