/- The walks of wrong, fine, and of the cutter's finish and close. -/
import Derived.Test.YtlldpmjnledhgaaGreatDoorXkG
import Derived.Test.YtlldpmjnledhgaaGreatDoorXkJ
import Derived.Deep.AppendLies
import Derived.Deep.RegionHeld3
import Derived.Deep.RegionLaw
import Derived.BigQuiet
namespace Go.Proofs.YtlldpmjnledhgaaGreatDoor
open Go.RowKit
set_option linter.unusedVariables false

abbrev dgv (code at_ : Int) (what : ByteArray) : Value := .agg #[.int .i64 code, .int .i64 at_, .string what]
abbrev okV : Value := dgv 0 0 ⟨#[]⟩
/-- A refusal as it is told. -/
abbrev errV (e : XE) : Value := dgv e.code e.place ⟨e.what.toArray⟩
theorem aggDiag : AggT Tryz.prog 28 3 := ⟨_, Tryz.underlying28, rfl, by kernel_rfl⟩

/-- A call's results: a struct in a cell, alone or behind others. -/
theorem results_c {P : Program} {fn : Func} {p : Tmp} {ty : TypeId} (hf : fn.results = #[.cell p ty]) {tmps : Array Value} {w : World} {g n : Nat} {t : TypeId} {cs : Array Value}
    (hp : tmps.getD p undef = .pointer (some ⟨g, 0, none⟩)) (T : AggT P ty n) (hn : cs.size = n) (h : BlkAt w g t cs) :
    (results fn tmps).run P w = .ok (.agg cs) w := by
  have hl := T.load hn h
  have hp' : tmps[p]?.getD undef = .pointer (some ⟨g, 0, none⟩) := by simpa using hp
  simp only [results, hf]
  simp [hp', asAddr, hl]
theorem results_tc {P : Program} {fn : Func} {p u : Tmp} {ty : TypeId} (hf : fn.results = #[.tmp u, .cell p ty]) {tmps : Array Value} {w : World} {g n : Nat} {t : TypeId} {cs : Array Value}
    (hp : tmps.getD p undef = .pointer (some ⟨g, 0, none⟩)) (T : AggT P ty n) (hn : cs.size = n) (h : BlkAt w g t cs) :
    (results fn tmps).run P w = .ok (.tuple #[tmps.getD u undef, .agg cs]) w := by
  have hl := T.load hn h
  have hp' : tmps[p]?.getD undef = .pointer (some ⟨g, 0, none⟩) := by simpa using hp
  simp only [results, hf]
  simp [hp', asAddr, hl]
theorem results_ttc {P : Program} {fn : Func} {p u v : Tmp} {ty : TypeId} (hf : fn.results = #[.tmp u, .tmp v, .cell p ty]) {tmps : Array Value} {w : World} {g n : Nat} {t : TypeId} {cs : Array Value}
    (hp : tmps.getD p undef = .pointer (some ⟨g, 0, none⟩)) (T : AggT P ty n) (hn : cs.size = n) (h : BlkAt w g t cs) :
    (results fn tmps).run P w = .ok (.tuple #[tmps.getD u undef, tmps.getD v undef, .agg cs]) w := by
  have hl := T.load hn h
  have hp' : tmps[p]?.getD undef = .pointer (some ⟨g, 0, none⟩) := by simpa using hp
  simp only [results, hf]
  simp [hp', asAddr, hl]

set_option maxRecDepth 20000 in
set_option maxHeartbeats 800000 in
theorem wrong_any (at_ : Int) (what : ByteArray) (w : World) :
    Calls Tryz.prog 52 #[.int .i64 at_, .string what] w fun e w' => e = .returned (dgv 11 at_ what) ∧ Below w.heap.size w w' := by
  go_enter Tryz.func52, Tryz.ntmps52
  go_wp2
  refine bodyPost_ret (results_c rfl rfl aggDiag rfl (BlkAt.new w _ _)) rfl ?_
  exact ⟨rfl, (Below.refl _ w).alloc (Nat.le_refl _) _⟩

set_option maxRecDepth 20000 in
set_option maxHeartbeats 800000 in
theorem fine_any (code at_ : Int) (what : ByteArray) (w : World) :
    Calls Tryz.prog 35 #[dgv code at_ what] w fun e w' => e = .returned (.bool (code == 0)) ∧ Below w.heap.size w w' := by
  go_enter Tryz.func35, Tryz.ntmps35
  go_wp2
  go_ret
  exact ⟨rfl, (Below.refl _ w).alloc (Nat.le_refl _) _⟩

set_option maxRecDepth 100000 in
set_option maxHeartbeats 3200000 in
theorem finish_in {base cb : Nat} {s : ByteArray} {c : XS} {w : World} (h : CutOf base cb s c w) (hn : c.out.length ≤ 1000000) :
    Calls Tryz.prog 47 #[.pointer (some ⟨cb, 0, none⟩)] w fun e w' => e = .returned (.tuple #[]) ∧ CutOf base cb s (finX c) w' ∧ KeepX base w w' := by
  obtain ⟨ts, out, p, v, h⟩ := h
  obtain ⟨A1, A2, A3⟩ := h.apart
  have HH := Lib.hid h
  by_cases h0 : c.text = []
  · have hf : finX c = { c with text := [] } := by unfold finX; rw [if_pos h0]
    have HF := Lib.hid hf
    have HN := Lib.hid (show c.text.length = 0 by rw [h0]; rfl)
    clear h h0 hf
    go_enter Tryz.func47, Tryz.ntmps47
    go_wp2_with fail
    refine (len_in HH.out.blk HH.out.text).mono ?_
    rintro e w1 ⟨rfl, rfl⟩
    rw [HN.out]
    go_wp2_with (go_at_call 64; refine (reset_in HH.out.blk).mono ?_)
    rintro e w2 ⟨rfl, hg, hz, hb⟩
    have HM := Lib.hid (HH.out.toM.set hg hb)
    clear hg hz hb
    go_wp2
    go_end0
    refine ⟨rfl, ⟨ts, out, .pointer none, .slice none 0 0, ?_⟩, HM.out.2⟩
    rw [HF.out]
    exact CutM.toI (c := { c with text := [] }) HM.out.1 (.inl rfl) (World.ownsRow_nil _ _ _ _) HH.out.told
  · have hfn : finX c = { c with out := c.out ++ [⟨3, c.since, [], c.text, [], false⟩], text := [] } := by unfold finX; rw [if_neg h0]
    have HF := Lib.hid hfn
    obtain ⟨m, hm⟩ : ∃ m, c.text.length = m := ⟨_, rfl⟩
    obtain ⟨N, hN⟩ : ∃ N, ts.length = N := ⟨_, rfl⟩
    have hNo : N ≤ 1000000 := by rw [← hN]; have := congrArg List.length h.told; simp at this; omega
    have hm0 : 0 < m := by rw [← hm]; exact List.length_pos_iff.2 h0
    have HM := Lib.hid hm
    have HT0 := Lib.hid h0
    have HD := Lib.hid (show CutM base cb s c.place c.since ts out p v w.drew from ⟨h.hcb, h.blk.drew, h.toks.drew, fun q hq => (h.attrs q hq).drew⟩)
    have HTd := Lib.hid h.text.drew
    obtain ⟨ao, ac, rfl⟩ := ownsRow_slice' h.toks
    have hk2 : w.cell? ⟨cb, 2, none⟩ = some (.slice ao N ac) := by rw [← hN]; exact h.blk.cell 2
    have hk5 : w.cell? ⟨cb, 5, none⟩ = some (.int .i64 c.since) := h.blk.cell 5
    obtain ⟨i0, hi0, hz0, hz1, hz2⟩ := info_parts infoTok
    have hbs : base ≤ w.heap.size := by have := h.hcb; have := h.blk.lt; omega
    have HN := Lib.hid hN
    clear h hfn hm h0 hN A1 A2 A3
    obtain ⟨si, hsi⟩ : ∃ si, c.since = si := ⟨_, rfl⟩
    have HS := Lib.hid hsi
    rw [hsi] at hk5
    clear hsi
    go_enter Tryz.func47, Tryz.ntmps47
    go_wp2_with fail
    refine (len_in HH.out.blk HH.out.text).mono ?_
    rintro e w ⟨rfl, rfl⟩
    rw [HM.out]
    go_wp2_with fail
    go_region_law (first
        | (go_simp; go_at_call 63; refine (string_in HD.out.blk HTd.out HT0.out).mono ?_; rintro e w1 ⟨rfl, hB1, hF1⟩; have hM1 := (HD.out.bytes HTd.out hB1 hF1); have k2 : w1.cell? ⟨cb, 2, none⟩ = some (.slice ao N ac) := (by rw [← HN.out]; exact hM1.1.blk.cell 2); have k2a : (w1.alloc (Obj.cells #[.int .i64 3, .int .i64 si, .string ⟨#[]⟩, .string ⟨c.text.toArray⟩, .slice none 0 0, .bool false] 60)).cell? ⟨cb, 2, none⟩ = some (.slice ao N ac) := (by rw [← HN.out]; exact (hM1.1.blk.alloc _).cell 2); have k5 : w1.cell? ⟨cb, 5, none⟩ = some (.int .i64 si) := (by rw [← HS.out]; exact hM1.1.blk.cell 5); have k5a : (w1.alloc (Obj.cells #[.int .i64 3, .int .i64 si, .string ⟨#[]⟩, .string ⟨c.text.toArray⟩, .slice none 0 0, .bool false] 60)).cell? ⟨cb, 5, none⟩ = some (.int .i64 si) := (by rw [← HS.out]; exact (hM1.1.blk.alloc _).cell 5))
        | (refine step_append_lies _ (by rfl) _ _ _ (by rfl) base 60 i0 _ 6 80 Tryz.underlying79 hi0 hz0 hz1 hz2 rfl (by omega) (.slice ao N ac) N (ts.flatMap tokCells) (by rfl) (by have := hM1.1.toks.alloc (.cells #[.int .i64 3, .int .i64 si, .string ⟨#[]⟩, .string ⟨c.text.toArray⟩, .slice none 0 0, .bool false] 60); rw [HN.out] at this; exact this) ⟨w1.heap.size, 0, none⟩ 1 1 [.int .i64 3, .int .i64 si, .string ⟨#[]⟩, .string ⟨c.text.toArray⟩, .slice none 0 0, .bool false] (by rfl) (by rfl) (World.news_of_block (cs := #[.int .i64 3, .int .i64 si, .string ⟨#[]⟩, .string ⟨c.text.toArray⟩, .slice none 0 0, .bool false]) (t := 60) (fr := (0, 0)) (heap_alloc_new w1 _)) (by simp [Value.oneCell']) (by omega) (by unfold maxLen; omega) (by omega) (by have := hB1.size; have e0 : w.drew.heap.size = w.heap.size := rfl; simp; omega) (w1.heap.size + 1) (by simp) ?_; intro gg cap w2 hown1 hgrow hat hlt1; have b2 : BlkAt w2 cb 95 (cutCells s c.place (.slice ao ts.length ac) p v c.since) := ((hM1.1.blk.alloc _).grown hgrow (fun e => hM1.1.apart (by rw [HN.out]; exact e.symm))); have f2 := b2.frozen 2; have k22 : w2.cell? ⟨cb, 2, none⟩ = some (.slice ao N ac) := (by rw [← HN.out]; exact b2.cell 2); have k52 : w2.cell? ⟨cb, 5, none⟩ = some (.int .i64 si) := (by rw [← HS.out]; exact b2.cell 5); have k53 : (w2.setCell ⟨cb, 2, none⟩ (.slice (some ⟨gg, 0, none⟩) (N + 1) cap)).cell? ⟨cb, 5, none⟩ = some (.int .i64 si) := (by rw [← HS.out]; exact (b2.set 2 _).cell 5)))
    all_goals
      rw [← HN.out, ← HS.out] at hown1
      rw [← HN.out, ← HS.out] at hgrow
      have hP := hM1.1.push (q := (⟨3, c.since, [], c.text, [], false⟩, .slice none 0 0)) (World.ownsRow_nil _ _ _ _) hown1 hgrow
      rw [HN.out] at hP
      have HK := Lib.hid ((show KeepX base w w.drew from ⟨(Below.refl _ w).drew, KeepT.refl _ _, KeepT.refl _ _⟩).trans (hM1.2.trans hP.2))
      have HP := Lib.hid hP.1
      clear hP hown1 hgrow hM1 hB1 hF1 k2 k2a k5 k5a k22 k52 k53 b2 f2 hat hlt1 hk2 hk5
      go_wp2_with (go_at_call 64; refine (reset_in HP.out.blk).mono ?_)
      rintro e w4 ⟨rfl, hg, hz, hb⟩
      have HM := Lib.hid (HP.out.set hg hb)
      clear hg hz hb
      go_wp2
      go_end0
      refine ⟨rfl, ⟨ts ++ [(⟨3, c.since, [], c.text, [], false⟩, .slice none 0 0)], .slice (some ⟨gg, 0, none⟩) (N + 1) cap, .pointer none, .slice none 0 0, ?_⟩, HK.out.trans HM.out.2⟩
      rw [HF.out]
      exact CutM.toI (c := { c with out := c.out ++ [⟨3, c.since, [], c.text, [], false⟩], text := [] }) HM.out.1 (.inl rfl) (World.ownsRow_nil _ _ _ _) (by simp [HH.out.told])
end Go.Proofs.YtlldpmjnledhgaaGreatDoor
