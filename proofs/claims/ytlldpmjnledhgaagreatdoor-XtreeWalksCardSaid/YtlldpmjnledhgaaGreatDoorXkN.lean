/- The walk of the cutter's close: the refusals. -/
import Derived.Test.YtlldpmjnledhgaaGreatDoorXkM
namespace Go.Proofs.YtlldpmjnledhgaaGreatDoor
open Go.RowKit
set_option linter.unusedVariables false

theorem get_list (s : ByteArray) (k : Nat) (h : k < s.size) : s.data.toList[k]? = some s[k] := by
  have := drop_cons s k h
  have h2 : (s.data.toList.drop k)[0]? = some s[k] := by rw [this]; rfl
  simpa using h2
theorem get_none (s : ByteArray) (k : Nat) (h : s.size ≤ k) : s.data.toList[k]? = none := by simp; exact h
theorem byte_ne {s : ByteArray} {k : Nat} {c : UInt8} (h : k < s.size) (hc : s.data.toList[k]? ≠ some c) : ¬ (s[k].toNat : Int) = (c.toNat : Int) := fun e => hc (by
  rw [get_list s k h]
  congr 1
  exact UInt8.toNat_inj.1 (by omega))
theorem byte_eq {s : ByteArray} {k : Nat} {c : UInt8} (h : k < s.size) (hc : s.data.toList[k]? = some c) : (s[k].toNat : Int) = (c.toNat : Int) := by
  rw [get_list s k h] at hc
  rw [Option.some.inj hc]
theorem wrap_in {x : Int} (h0 : 0 ≤ x) (h1 : x < 4611686018427387904) : IntKind.i64.wrap x = x := by
  simp [IntKind.wrap, IntKind.bits, IntKind.signed]
  omega
abbrev dg0 : Obj := .cells #[.int .i64 0, .int .i64 0, .string ⟨#[]⟩] 28
/-- The result's cell, as a call lays it first. -/
theorem res_keep {w W : World} (h : Below (w.alloc dg0).heap.size (w.alloc dg0) W) : BlkAt W w.heap.size 28 #[.int .i64 0, .int .i64 0, .string ⟨#[]⟩] :=
  (BlkAt.new w _ _).below h (BlkAt.new w _ _).lt
theorem res_cells {W : World} {r : Nat} {a b c : Value} (h : BlkAt W r 28 #[a, b, c]) : (W.cell? ⟨r, 0, none⟩ = some a ∧ W.cell? ⟨r, 1, none⟩ = some b ∧ W.cell? ⟨r, 2, none⟩ = some c) ∧ W.frozen? ⟨r, 0, none⟩ = false ∧ W.frozen? ⟨r, 1, none⟩ = false ∧ W.frozen? ⟨r, 2, none⟩ = false :=
  ⟨⟨h.cell 0, h.cell 1, h.cell 2⟩, h.frozen 0, h.frozen 1, h.frozen 2⟩
theorem three_sets {W : World} {r : Nat} {a b c : Value} (x y z : Value) (h : BlkAt W r 28 #[a, b, c]) :
    BlkAt (((W.setCell ⟨r, 0, none⟩ x).setCell ⟨r, 1, none⟩ y).setCell ⟨r, 2, none⟩ z) r 28 #[x, y, z] ∧ W.grownBy (((W.setCell ⟨r, 0, none⟩ x).setCell ⟨r, 1, none⟩ y).setCell ⟨r, 2, none⟩ z) (some r) := by
  refine ⟨((h.set 0 x).set 1 y).set 2 z, rfl, rfl, rfl, by simp, ?_⟩
  intro k hk hne
  have h1 : k ≠ r := fun e => hne (by rw [e])
  rw [Below.heap_setCell _ _ _ k h1, Below.heap_setCell _ _ _ k h1, Below.heap_setCell _ _ _ k h1]
theorem grown_below {base r : Nat} {W Y : World} (h : W.grownBy Y (some r)) (hr : base ≤ r) (hb : base ≤ W.heap.size) : Below base W Y :=
  ⟨h.os, h.tape, h.output, h.size, fun k hk => h.block k (by omega) (fun e => by have := Option.some.inj e; omega)⟩
/-- What a step comes to. -/
def StepR (base cb : Nat) (s : ByteArray) (w : World) (r : XR XS) (e : Ending) (w' : World) : Prop :=
  match r with
  | .none => True
  | .bad er => e = .returned (errV er) ∧ KeepX base w w'
  | .ok c' => e = .returned okV ∧ CutOf base cb s c' w' ∧ KeepX base w w'
/-- One more token, behind which the cutter goes on at e. -/
def tokR (c : XS) (r : XR (XT × Nat)) : XR XS :=
  match r with
  | .none => .none
  | .bad e => .bad e
  | .ok (t, e) => .ok { c with out := c.out ++ [t], place := e }
/-- A refusal's cell alone turns. -/
theorem CutI.diag {base cb r : Nat} {s : ByteArray} {c : XS} {ts : List (XT × Value)} {out p v : Value} {W Y : World} {cs : Array Value} (h : CutI base cb s c ts out p v W) (hr : BlkAt W r 28 cs) (hb : base ≤ r) (hg : W.grownBy Y (some r)) :
    CutI base cb s c ts out p v Y := by
  have hk : KeepT 43 W Y := KeepT.blk hr (by decide) hg
  have hcr : cb ≠ r := fun e => by
    subst e
    have h1 := h.blk
    rw [BlkAt, show W.heap[cb]? = _ from hr] at h1
    cases h1
  exact ⟨h.hcb, h.blk.grown hg (fun e => hcr (Option.some.inj e)), h.self, h.text.kept hg (.inr (blk_ne h.text hr (by decide))), h.toks.kept hg (.inr (blk_ne h.toks hr (by decide))), h.told, fun q hq => hk.owns (h.attrs q hq)⟩
/-- The end of a step that tells one more token. -/
theorem tok_end {base cb r g cap : Nat} {s : ByteArray} {c : XS} {ts : List (XT × Value)} {out p v : Value} {W w3 : World} {q : XT × Value} (h : CutI base cb s c ts out p v W) (hr : BlkAt W r 28 #[.int .i64 0, .int .i64 0, .string ⟨#[]⟩]) (hbr : base ≤ r) (hA : AttrsAt base W q.1.attrs q.2)
    (hown : w3.ownsRow base 60 6 (.slice (some ⟨g, 0, none⟩) (ts.length + 1) cap) (ts.length + 1) (ts.flatMap tokCells ++ tokCells q)) (hgrow : (W.alloc (.cells (tokCells q).toArray 60)).grownBy w3 out.ownBlock) :
    (BlkAt w3 cb 95 (cutCells s c.place out p v c.since) ∧ BlkAt w3 r 28 #[.int .i64 0, .int .i64 0, .string ⟨#[]⟩]) ∧
    ∀ e : Nat, BlkAt (((((w3.setCell ⟨cb, 2, none⟩ (.slice (some ⟨g, 0, none⟩) (ts.length + 1) cap)).setCell ⟨cb, 1, none⟩ (.int .i64 e)).setCell ⟨r, 0, none⟩ (.int .i64 0)).setCell ⟨r, 1, none⟩ (.int .i64 0)).setCell ⟨r, 2, none⟩ (.string ⟨#[]⟩)) r 28 #[.int .i64 0, .int .i64 0, .string ⟨#[]⟩] ∧ CutOf base cb s { c with out := c.out ++ [q.1], place := e } (((((w3.setCell ⟨cb, 2, none⟩ (.slice (some ⟨g, 0, none⟩) (ts.length + 1) cap)).setCell ⟨cb, 1, none⟩ (.int .i64 e)).setCell ⟨r, 0, none⟩ (.int .i64 0)).setCell ⟨r, 1, none⟩ (.int .i64 0)).setCell ⟨r, 2, none⟩ (.string ⟨#[]⟩)) ∧ KeepX base W ((w3.setCell ⟨cb, 2, none⟩ (.slice (some ⟨g, 0, none⟩) (ts.length + 1) cap)).setCell ⟨cb, 1, none⟩ (.int .i64 e)) ∧ ((w3.setCell ⟨cb, 2, none⟩ (.slice (some ⟨g, 0, none⟩) (ts.length + 1) cap)).setCell ⟨cb, 1, none⟩ (.int .i64 e)).grownBy (((((w3.setCell ⟨cb, 2, none⟩ (.slice (some ⟨g, 0, none⟩) (ts.length + 1) cap)).setCell ⟨cb, 1, none⟩ (.int .i64 e)).setCell ⟨r, 0, none⟩ (.int .i64 0)).setCell ⟨r, 1, none⟩ (.int .i64 0)).setCell ⟨r, 2, none⟩ (.string ⟨#[]⟩)) (some r) ∧ cb ≠ r := by
  have hor := blk_ne h.toks hr (by decide)
  have b3 := (h.blk.alloc (.cells (tokCells q).toArray 60)).grown hgrow (fun e => h.apart.2.1 e.symm)
  have r3 := (hr.alloc (.cells (tokCells q).toArray 60)).grown hgrow (fun e => hor e.symm)
  refine ⟨⟨b3, r3⟩, fun e => ?_⟩
  obtain ⟨hM, hK⟩ := h.toM.push hA hown hgrow
  have hT := CutM.push_text (u := .slice (some ⟨g, 0, none⟩) (ts.length + 1) cap) h.text h.toks h.apart.1 hgrow (cb := cb) (ts := ts) (g := g) (cap := cap)
  have hcr : cb ≠ r := fun e => by
    subst e
    have h1 := h.blk
    rw [BlkAt, show W.heap[cb]? = _ from hr] at h1
    cases h1
  have b4 := b3.set 2 (.slice (some ⟨g, 0, none⟩) (ts.length + 1) cap)
  have b5 := b4.set 1 (.int .i64 e)
  have g5 := grown_set (w3.setCell ⟨cb, 2, none⟩ (.slice (some ⟨g, 0, none⟩) (ts.length + 1) cap)) cb 1 (.int .i64 e)
  obtain ⟨hM5, hK5⟩ := hM.set (pl' := e) (si' := c.since) g5 b5
  have hT5 := hT.kept g5 (.inr h.apart.1)
  have hI5 : CutI base cb s { c with out := c.out ++ [q.1], place := e } (ts ++ [q]) _ p v _ := CutM.toI (c := { c with out := c.out ++ [q.1], place := e }) hM5 h.self hT5 (by simp [h.told])
  have r5 := (r3.far (p := ⟨cb, 2, none⟩) (fun e => hcr e.symm) (.slice (some ⟨g, 0, none⟩) (ts.length + 1) cap)).far (p := ⟨cb, 1, none⟩) (fun e => hcr e.symm) (.int .i64 e)
  have hS := three_sets (.int .i64 0) (.int .i64 0) (.string ⟨#[]⟩) r5
  exact ⟨hS.1, ⟨_, _, _, _, hI5.diag r5 hbr hS.2⟩, hK.trans hK5, hS.2, hcr⟩
theorem closeX_no {s : List UInt8} {ca n b : Nat} (hn : nameX (s.drop (ca + 2)) = n) (hb : blanksX (s.drop (ca + 2 + n)) = b) (h : n = 0 ∨ s[ca + 2 + n + b]? ≠ some 62) : closeX s ca = .bad ⟨11, ca, wEnd⟩ := by
  unfold closeX
  simp only [hn, hb]
  rw [if_pos h]
theorem closeX_yes {s : List UInt8} {ca n b : Nat} (hn : nameX (s.drop (ca + 2)) = n) (hb : blanksX (s.drop (ca + 2 + n)) = b) (h0 : n ≠ 0) (h : s[ca + 2 + n + b]? = some 62) : closeX s ca = .ok (⟨2, ca, (s.drop (ca + 2)).take n, [], [], false⟩, ca + 2 + n + b + 1) := by
  unfold closeX
  simp only [hn, hb]
  rw [if_neg (by simp [h0, h])]

set_option maxRecDepth 100000 in
set_option maxHeartbeats 3200000 in
theorem close_bad {base cb : Nat} {s : ByteArray} {c : XS} {w : World} (hs : s.size ≤ 1000000) (h : CutOf base cb s c w) (hno : c.out.length ≤ 1000000) (hca : c.place + 2 ≤ s.size) {n b : Nat} (hn : nameX (s.data.toList.drop (c.place + 2)) = n) (hb : blanksX (s.data.toList.drop (c.place + 2 + n)) = b) (hbad : n = 0 ∨ s.data.toList[c.place + 2 + n + b]? ≠ some 62) :
    Calls Tryz.prog 60 #[.pointer (some ⟨cb, 0, none⟩)] w fun e w' => StepR base cb s w (tokR c (closeX s.data.toList c.place)) e w' := by
  obtain ⟨ts, out, p, v, h⟩ := h
  obtain ⟨A1, A2, A3⟩ := h.apart
  have hbs : base ≤ w.heap.size := by have := h.hcb; have := h.blk.lt; omega
  obtain ⟨ca, hcc⟩ : ∃ ca, c.place = ca := ⟨_, rfl⟩
  rw [hcc] at hn hb hbad
  have hls : s.data.toList.length = s.size := by simp
  have hn1 := nameX_le (s.data.toList.drop (ca + 2))
  rw [hn, List.length_drop, hls] at hn1
  have hb1 := blanksX_le (s.data.toList.drop (ca + 2 + n))
  rw [hb, List.length_drop, hls] at hb1
  rw [hcc] at hca
  have HA := Lib.hid (fun W => nameLen_any (s.extract (ca + 2) s.size) (by simp; omega) W)
  have HB := Lib.hid (fun W => blanks_any (s.extract (ca + 2 + n) s.size) (by simp; omega) W)
  rw [extract_drop, hn] at HA
  rw [extract_drop, hb] at HB
  obtain ⟨N, hN⟩ : ∃ N, ts.length = N := ⟨_, rfl⟩
  have hNo : N ≤ 1000000 := by rw [← hN]; have := congrArg List.length h.told; simp at this; omega
  obtain ⟨ao, ac, rfl⟩ := ownsRow_slice' h.toks
  have hw0 := h.blk
  rw [hcc, hN] at hw0
  -- the cutter's cells, wherever the walk stands
  have HK := Lib.hid (fun (W : World) (hW : Below (w.alloc dg0).heap.size (w.alloc dg0) W) => (show W.cell? ⟨cb, 0, none⟩ = some (.string s) ∧ W.cell? ⟨cb, 1, none⟩ = some (.int .i64 ca) ∧ W.cell? ⟨cb, 2, none⟩ = some (.slice ao N ac) from
    have h1 := (hw0.alloc dg0).below hW (hw0.alloc _).lt
    ⟨h1.cell 0, h1.cell 1, h1.cell 2⟩))
  have HH := Lib.hid h
  have HCC := Lib.hid hcc
  have HN := Lib.hid hN
  obtain ⟨k0a, k1a, k2a⟩ := HK.out _ (Below.refl _ _)
  clear k2a
  -- the end at a refusal
  have hbad : ∀ (W : World), Below (w.alloc dg0).heap.size (w.alloc dg0) W → ∀ Y : World, W.grownBy Y (some w.heap.size) → KeepX base w Y := by
    intro W hW Y hY
    have h1 : Below w.heap.size w Y := (((Below.refl _ w).alloc (Nat.le_refl _) _).trans (hW.mono (by simp))).trans (grown_below hY (Nat.le_refl _) (by have := hW.size; simp at this; omega))
    exact KeepX.of_below h1 hbs
  have HBAD := Lib.hid hbad
  clear hbad
  have HR := Lib.hid (show tokR c (closeX s.data.toList c.place) = .bad ⟨11, ca, wEnd⟩ by rw [hcc, closeX_no hn hb hbad]; rfl)
  rcases hbad with hb0 | hb0
  · subst hb0
    clear h hcc hls hn hb hw0 hN
    go_enter Tryz.func60, Tryz.ntmps60
    go_wp2_with (first
            | (go_at_call 77; refine (HA.out _).mono ?_; rintro e w1 ⟨rfl, hW1⟩; obtain ⟨k10, k11, k12⟩ := HK.out w1 hW1; clear k12)
            | (go_at_call 79; refine (HB.out _).mono ?_; rintro e w2 ⟨rfl, hW2⟩; have HW2 := Lib.hid (hW1.trans (hW2.mono hW1.size)); obtain ⟨k20, k21, k22⟩ := HK.out w2 HW2.out; clear k10 k11)
            | (go_at_call 52; refine (wrong_any _ _ _).mono ?_; rintro e w3 ⟨rfl, hW3⟩; have HW3 := Lib.hid (HW2.out.trans (hW3.mono HW2.out.size)); have hr := (res_keep HW3.out); obtain ⟨⟨r0, r1, r2⟩, f0, f1, f2⟩ := res_cells hr))
    have hT := three_sets (.int .i64 11) (.int .i64 ca) (.string ⟨#[101, 110, 100]⟩) hr
    refine bodyPost_ret (results_c rfl rfl aggDiag rfl hT.1) rfl ?_
    rw [HR.out]
    exact ⟨rfl, HBAD.out _ HW3.out _ hT.2⟩
  · by_cases hn0 : n = 0
    · subst hn0
      clear h hcc hls hn hb hw0 hb0 hN
      go_enter Tryz.func60, Tryz.ntmps60
      go_wp2_with (first
              | (go_at_call 77; refine (HA.out _).mono ?_; rintro e w1 ⟨rfl, hW1⟩; obtain ⟨k10, k11, k12⟩ := HK.out w1 hW1; clear k12)
              | (go_at_call 79; refine (HB.out _).mono ?_; rintro e w2 ⟨rfl, hW2⟩; have HW2 := Lib.hid (hW1.trans (hW2.mono hW1.size)); obtain ⟨k20, k21, k22⟩ := HK.out w2 HW2.out; clear k10 k11)
              | (go_at_call 52; refine (wrong_any _ _ _).mono ?_; rintro e w3 ⟨rfl, hW3⟩; have HW3 := Lib.hid (HW2.out.trans (hW3.mono HW2.out.size)); have hr := (res_keep HW3.out); obtain ⟨⟨r0, r1, r2⟩, f0, f1, f2⟩ := res_cells hr))
      have hT := three_sets (.int .i64 11) (.int .i64 ca) (.string ⟨#[101, 110, 100]⟩) hr
      refine bodyPost_ret (results_c rfl rfl aggDiag rfl hT.1) rfl ?_
      rw [HR.out]
      exact ⟨rfl, HBAD.out _ HW3.out _ hT.2⟩
    have hnz : ((n : Int) == 0) = false := beq_eq_false_iff_ne.2 (by omega)
    by_cases hlt : ca + 2 + n + b < s.size
    · have hne : ¬ (s[ca + 2 + n + b].toNat : Int) = 62 := byte_ne hlt hb0
      have hne2 : ((s[ca + 2 + n + b].toNat : Int) != 62) = true := by simp [bne, hne]
      clear h hcc hls hn hb hw0 hb0 hN
      go_enter Tryz.func60, Tryz.ntmps60
      go_wp2_with (first
              | (go_at_call 77; refine (HA.out _).mono ?_; rintro e w1 ⟨rfl, hW1⟩; obtain ⟨k10, k11, k12⟩ := HK.out w1 hW1; clear k12)
              | (go_at_call 79; refine (HB.out _).mono ?_; rintro e w2 ⟨rfl, hW2⟩; have HW2 := Lib.hid (hW1.trans (hW2.mono hW1.size)); obtain ⟨k20, k21, k22⟩ := HK.out w2 HW2.out; clear k10 k11)
              | (go_at_call 52; refine (wrong_any _ _ _).mono ?_; rintro e w3 ⟨rfl, hW3⟩; have HW3 := Lib.hid (HW2.out.trans (hW3.mono HW2.out.size)); have hr := (res_keep HW3.out); obtain ⟨⟨r0, r1, r2⟩, f0, f1, f2⟩ := res_cells hr))
      have hT := three_sets (.int .i64 11) (.int .i64 ca) (.string ⟨#[101, 110, 100]⟩) hr
      refine bodyPost_ret (results_c rfl rfl aggDiag rfl hT.1) rfl ?_
      rw [HR.out]
      exact ⟨rfl, HBAD.out _ HW3.out _ hT.2⟩
    · clear h hcc hls hn hb hw0 hb0 hN
      go_enter Tryz.func60, Tryz.ntmps60
      go_wp2_with (first
              | (go_at_call 77; refine (HA.out _).mono ?_; rintro e w1 ⟨rfl, hW1⟩; obtain ⟨k10, k11, k12⟩ := HK.out w1 hW1; clear k12)
              | (go_at_call 79; refine (HB.out _).mono ?_; rintro e w2 ⟨rfl, hW2⟩; have HW2 := Lib.hid (hW1.trans (hW2.mono hW1.size)); obtain ⟨k20, k21, k22⟩ := HK.out w2 HW2.out; clear k10 k11)
              | (go_at_call 52; refine (wrong_any _ _ _).mono ?_; rintro e w3 ⟨rfl, hW3⟩; have HW3 := Lib.hid (HW2.out.trans (hW3.mono HW2.out.size)); have hr := (res_keep HW3.out); obtain ⟨⟨r0, r1, r2⟩, f0, f1, f2⟩ := res_cells hr))
      have hT := three_sets (.int .i64 11) (.int .i64 ca) (.string ⟨#[101, 110, 100]⟩) hr
      refine bodyPost_ret (results_c rfl rfl aggDiag rfl hT.1) rfl ?_
      rw [HR.out]
      exact ⟨rfl, HBAD.out _ HW3.out _ hT.2⟩

end Go.Proofs.YtlldpmjnledhgaaGreatDoor
