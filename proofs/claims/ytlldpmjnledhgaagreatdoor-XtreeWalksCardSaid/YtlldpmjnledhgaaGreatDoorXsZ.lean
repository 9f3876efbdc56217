/- The walk of xtok.Cut, at every text. -/
import Derived.Test.YtlldpmjnledhgaaGreatDoorXsN
import Derived.Test.YtlldpmjnledhgaaGreatDoorXkP
namespace Go.Proofs.YtlldpmjnledhgaaGreatDoor
open Go.RowKit
set_option linter.unusedVariables false

set_option maxRecDepth 20000 in
theorem strings_clone (s : ByteArray) (hlim : s.size ≤ 281474976710656) (w : World) :
    Calls Tryz.prog 45 #[.string s] w fun e w' => e = .returned (.string s) ∧ Below w.heap.size w w' := by
  go_enter Tryz.func45, Tryz.ntmps45
  go_wp2_with fail
  refine (Tryz.stringslite_Clone s _ hlim).mono ?_
  rintro e w' ⟨rfl, hB⟩
  go_wp2
  go_ret
  exact ⟨rfl, hB⟩

/-- The tokens as they are told. -/
def ToldAt (base : Nat) (w : World) (out : Value) (l : List XT) : Prop :=
  ∃ ts : List (XT × Value), w.ownsRow base 60 6 out ts.length (ts.flatMap tokCells) ∧ ts.map (·.1) = l ∧ ∀ q ∈ ts, AttrsAt base w q.1.attrs q.2
/-- What Cut comes to. -/
def CutR (w : World) (R : XR (List XT)) (e : Ending) (w' : World) : Prop :=
  match R with
  | .none => True
  | .bad er => e = .returned (.tuple #[.slice none 0 0, errV er]) ∧ Below w.heap.size w w'
  | .ok l => ∃ out, e = .returned (.tuple #[out, okV]) ∧ ToldAt w.heap.size w' out l ∧ Below w.heap.size w w'
/-- The loop of Cut. -/
def CutG (base cb : Nat) (s : ByteArray) (R : XR (List XT)) (W0 : World) (W : World) : Prop :=
  ∃ c n, CutOf base cb s c W ∧ cutG bigF s.data.toList n c = R ∧ c.out.length ≤ 2 * c.place ∧ c.text.length ≤ 4 * c.place ∧ c.place ≤ s.size ∧ KeepX base W0 W
theorem charsX_code {s : List UInt8} {e : XE} (h : charsX s = some e) : e.code = 11 := by
  unfold charsX at h
  split at h
  · simp only [Option.some.injEq] at h; subst h; rfl
  · split at h
    · simp only [Option.some.injEq] at h; subst h; rfl
    · cases h
def cutMu (cb : Nat) (s : ByteArray) (W : World) : Nat := s.size - (intOf ((W.cell? ⟨cb, 1, none⟩).getD undef)).toNat
theorem cutMu_of {base cb : Nat} {s : ByteArray} {c : XS} {W : World} (h : CutOf base cb s c W) : cutMu cb s W = s.size - c.place := by
  obtain ⟨ts, out, p, v, h⟩ := h
  unfold cutMu
  rw [show W.cell? ⟨cb, 1, none⟩ = some (.int .i64 c.place) from h.blk.cell 1]
  simp [intOf]
theorem CutOf.below {base cb : Nat} {s : ByteArray} {c : XS} {w w' : World} (h : CutOf base cb s c w) (hB : Below w.heap.size w w') : CutOf base cb s c w' := by
  obtain ⟨ts, out, p, v, h⟩ := h
  exact ⟨ts, out, p, v, h.below hB⟩
theorem CutOf.new {base : Nat} {s : ByteArray} {w : World} (hb : base ≤ w.heap.size) : CutOf base w.heap.size s ⟨0, [], [], 0⟩ (w.alloc (.cells #[.string s, .int .i64 0, .slice none 0 0, .pointer none, .slice none 0 0, .int .i64 0] 95)) :=
  ⟨[], .slice none 0 0, .pointer none, .slice none 0 0, hb, BlkAt.new w _ _, .inl rfl, World.ownsRow_nil _ _ _ _, World.ownsRow_nil _ _ _ _, rfl, fun _ h => by cases h⟩

set_option maxRecDepth 100000 in
set_option maxHeartbeats 16000000 in
theorem cut_good {s : ByteArray} {w : World} {m : Int} {R : XR (List XT)} (hs : s.size ≤ 60000) (hm : w.cell? ⟨0, 0, none⟩ = some (.int .i64 m)) (hc : charsX s.data.toList = none) (hT : FoldTab w) (hrun : cutG bigF s.data.toList (s.data.toList.length + 1) ⟨0, [], [], 0⟩ = R) (hR : R ≠ .none) :
    Calls Tryz.prog 34 #[.string s] w fun e w' => CutR w R e w' := by
  have HC := Lib.hid hc
  have HRun := Lib.hid hrun
  have HRn := Lib.hid hR
  have HFT := Lib.hid (fun (W : World) (hW : Below w.heap.size w W) => hT.below hW)
  have hml := block_lt' hm
  have HM := Lib.hid (fun (W : World) (hW : Below w.heap.size w W) => (show W.cell? ⟨0, 0, none⟩ = some (.int .i64 m) from by rw [hW.cell (p := ⟨0, 0, none⟩) hml]; exact hm))
  have HCL := Lib.hid (fun W => strings_clone s (by omega) W)
  clear hc hrun hm hml hT hR
  go_enter Tryz.func34, Tryz.ntmps34
  go_wp2_with (first
    | (go_at_call 44; refine (chars_any s hs _).mono ?_; rintro e w1 ⟨he, hW1⟩; rw [HC.out] at he; obtain rfl := he; have HW1 := Lib.hid (show Below (w.heap.size + 1) (w.alloc dg0) w1 from hW1.mono (by simp)); have hz1 := hW1.size; simp only [World.size_alloc] at hz1)
    | (go_at_call 35; refine (fine_any 0 0 ⟨#[]⟩ _).mono ?_; rintro en w2 ⟨rfl, hW2⟩; have hz2 := hW2.size; simp only [World.size_alloc] at hz2; have HW2 := Lib.hid ((HW1.out.alloc (by omega) dg0).trans (hW2.mono (by simp; omega))))
    | (go_at_call 45; refine (HCL.out _).mono ?_; rintro en w3 ⟨rfl, hW3⟩; have hz3 := hW3.size; have HW3 := Lib.hid (HW2.out.trans (hW3.mono (by omega)))))
  obtain ⟨W4, hW4⟩ : ∃ W4, w3.alloc (Obj.cells #[.string s, .int .i64 0, .slice none 0 0, .pointer none, .slice none 0 0, .int .i64 0] 95) = W4 := ⟨_, rfl⟩
  obtain ⟨cb, hcb⟩ : ∃ cb, w3.heap.size = cb := ⟨_, rfl⟩
  have hC4 : CutOf (w.heap.size + 1) cb s ⟨0, [], [], 0⟩ W4 := by rw [← hW4, ← hcb]; exact CutOf.new (by omega)
  have hB4 : Below (w.heap.size + 1) (w.alloc dg0) W4 := by rw [← hW4]; exact HW3.out.alloc (by omega) _
  rw [hW4, hcb]
  have H0 := Lib.hid (show CutG (w.heap.size + 1) cb s R W4 W4 from ⟨_, _, hC4, HRun.out, by simp, by simp, by simp, KeepX.refl _ _⟩)
  have HLow := Lib.hid (fun (W : World) (hK : KeepX (w.heap.size + 1) W4 W) => (show Below (w.heap.size + 1) (w.alloc dg0) W from hB4.trans hK.1))
  have HRes := Lib.hid (fun (W : World) (hB : Below (w.heap.size + 1) (w.alloc dg0) W) => (show BlkAt W w.heap.size 28 #[.int .i64 0, .int .i64 0, .string ⟨#[]⟩] from (BlkAt.new w _ _).below hB (by omega)))
  have HLw := Lib.hid (fun (W : World) (hB : Below (w.heap.size + 1) (w.alloc dg0) W) => (show Below w.heap.size w W from ((Below.refl _ w).alloc (Nat.le_refl _) dg0).trans (hB.mono (by omega))))
  have hcbs : w.heap.size + 1 ≤ cb := by omega
  clear hW4 hC4 hB4 hW1 hW2 hW3 hz1 hz2 hz3 hcb
  go_loopw [6] (fun x W => CutG (w.heap.size + 1) cb s R W4 W) (fun x W => cutMu cb s W)
  case atStart => exact H0.out
  case round =>
    obtain ⟨c, nn, hC, hrun, l1, l2, l3, hK⟩ := hrel
    have HK := Lib.hid hK
    have HCd := Lib.hid (hC.below (Below.refl _ wr).drew)
    have HMu := Lib.hid (cutMu_of hC)
    have hk : wr.cell? ⟨cb, 0, none⟩ = some (.string s) ∧ wr.cell? ⟨cb, 1, none⟩ = some (.int .i64 c.place) := by
      obtain ⟨ts, out, p, v, h⟩ := hC
      exact ⟨h.blk.cell 0, h.blk.cell 1⟩
    obtain ⟨k0, k1⟩ := hk
    have hmd := HM.out wr.drew ((HLw.out _ (HLow.out _ HK.out)).drew)
    have hsz := (HLow.out _ HK.out).size
    simp only [World.size_alloc] at hsz
    have HKd := Lib.hid (show KeepX (w.heap.size + 1) W4 wr.drew from HK.out.trans ⟨(Below.refl _ wr).drew, KeepT.refl _ _, KeepT.refl _ _⟩)
    obtain ⟨pl, hpl⟩ : ∃ pl, c.place = pl := ⟨_, rfl⟩
    rw [hpl] at k1
    by_cases hlt : c.place < s.size
    · have hlt2 : pl < s.size := by omega
      have hls : s.data.toList.length = s.size := by simp
      have hftd := HFT.out wr.drew ((HLw.out _ (HLow.out _ HK.out)).drew)
      cases nn with
      | zero => exact absurd hrun.symm HRn.out
      | succ nk =>
        rw [cutG, if_neg (by omega)] at hrun
        cases hv : nextF bigF s.data.toList c with
        | none => rw [hv] at hrun; exact absurd hrun.symm HRn.out
        | ok c' =>
          rw [hv] at hrun
          have hr : cutG bigF s.data.toList nk c' = R := hrun
          have hg := nextF_grows (by omega) hv
          have hgt := nextF_text (by omega) hv
          have hgo := nextF_out (by omega) hv
          have h2 : c.place < c'.place := hg.1
          have h4 : c'.out.length ≤ 2 * c'.place := by omega
          have h5 : c'.text.length ≤ 4 * c'.place := by omega
          have hg2 : c'.place ≤ s.size := by omega
          clear hrun hg hgt hgo
          have HN := Lib.hid (next_all (f := bigF) (by omega) hmd hftd HCd.out (by omega) (by omega) hlt hv (by intro h; cases h))
          have HR2 := Lib.hid hr
          have hc3 : c'.place ≤ s.size := by omega
          clear hC hK hv hr hmd hls hftd
          go_wp2
          go_region_held3 (fun w' => w'.cell? ⟨cb, 0, none⟩ = some (.string s) ∧ w'.cell? ⟨cb, 1, none⟩ = some (.int .i64 pl)) (go_keep) (fail)
          go_wp2_with (first
            | (go_at_call 46; refine HN.out.mono ?_; rintro en w5 ⟨rfl, hC5, hK5⟩; have HC5 := Lib.hid hC5; have HK5 := Lib.hid (HKd.out.trans hK5); clear hC5 hK5; have hsz5 := (HLow.out _ HK5.out).size; simp only [World.size_alloc] at hsz5)
            | (go_at_call 35; refine (fine_any 0 0 ⟨#[]⟩ _).mono ?_; rintro en w6 ⟨rfl, hW6⟩; have HA6 := Lib.hid ((Below.refl _ w5).alloc (Nat.le_refl _) dg0 |>.trans (hW6.mono (by simp)))))
          go_roundw
          case rel => exact ⟨c', nk, HC5.out.below HA6.out, HR2.out, h4, h5, hc3, HK5.out.trans (KeepX.of_below HA6.out (by omega))⟩
          case measure => rw [HMu.out, cutMu_of (HC5.out.below HA6.out)]; omega
        | bad e =>
          rw [hv] at hrun
          have he : e.code ≠ 0 := by rw [nextF_code hv]; decide
          have HRb := Lib.hid (show (XR.bad e : XR (List XT)) = R from hrun)
          clear hrun
          have HN := Lib.hid (next_all (f := bigF) (by omega) hmd hftd HCd.out (by omega) (by omega) hlt hv (by intro h; cases h))
          have hez : ((e.code : Int) == 0) = false := beq_eq_false_iff_ne.2 (by omega)
          clear hC hK hv hmd hls hftd
          go_wp2
          go_region_held3 (fun w' => w'.cell? ⟨cb, 0, none⟩ = some (.string s) ∧ w'.cell? ⟨cb, 1, none⟩ = some (.int .i64 pl)) (go_keep) (fail)
          go_wp2_with (first
            | (go_at_call 46; refine HN.out.mono ?_; rintro en w5 ⟨rfl, hK5⟩; have HK5 := Lib.hid (HKd.out.trans hK5); clear hK5; have hsz5 := (HLow.out _ HK5.out).size; simp only [World.size_alloc] at hsz5)
            | (go_at_call 35; refine (fine_any e.code e.place ⟨e.what.toArray⟩ _).mono ?_; rintro en w6 ⟨rfl, hW6⟩; have HB6 := Lib.hid (((HLow.out _ HK5.out).alloc (by omega) (.cells #[.int .i64 e.code, .int .i64 e.place, .string ⟨e.what.toArray⟩] 28)).trans (hW6.mono (by simp; omega))); have hd6 := ((BlkAt.new w5 28 #[.int .i64 e.code, .int .i64 e.place, .string ⟨e.what.toArray⟩]).below hW6 (by simp)); have hr6 := (HRes.out _ HB6.out); obtain ⟨⟨r0, r1, r2⟩, g0, g1, g2⟩ := res_cells hr6; obtain ⟨⟨d0, d1, d2⟩, _, _, _⟩ := res_cells hd6))
          go_region
          all_goals
            have hT := three_sets (.int .i64 e.code) (.int .i64 e.place) (.string ⟨e.what.toArray⟩) hr6.drew
            go_wp2
            refine bodyPost_ret (results_tc rfl rfl aggDiag rfl hT.1) rfl ?_
            rw [← HRb.out]
            exact ⟨rfl, (HLw.out _ HB6.out).drew.trans (grown_below hT.2 (Nat.le_refl _) (by have := (HLw.out _ HB6.out).size; exact this))⟩
    · have hlt2 : ¬ pl < s.size := by omega
      have hRe : R = .ok (finX c).out := by
        have hls : s.data.toList.length = s.size := by simp
        cases nn with
        | zero => exact absurd hrun.symm HRn.out
        | succ nk => rw [cutG, if_pos (by omega)] at hrun; exact hrun.symm
      have HF := Lib.hid (finish_in HCd.out (by omega))
      have HRe := Lib.hid hRe
      clear hC hK hrun hmd hRe
      go_wp2
      go_region_held3 (fun w' => w'.cell? ⟨cb, 0, none⟩ = some (.string s) ∧ w'.cell? ⟨cb, 1, none⟩ = some (.int .i64 pl)) (go_keep) (fail)
      go_wp2_with (go_at_call 47; refine HF.out.mono ?_; rintro en w5 ⟨rfl, ⟨ts, out, p, v, hI⟩, hK5⟩; have HI := Lib.hid hI; have HB5 := Lib.hid (HLow.out _ (HKd.out.trans hK5)); have c52 := hI.blk.cell 2; have hr5 := (HRes.out _ HB5.out); obtain ⟨⟨r0, r1, r2⟩, g0, g1, g2⟩ := res_cells hr5; clear hI hK5)
      have hT := three_sets (.int .i64 0) (.int .i64 0) (.string ⟨#[]⟩) hr5
      refine bodyPost_ret (results_tc rfl rfl aggDiag rfl hT.1) rfl ?_
      rw [HRe.out]
      have hzz : ∀ t, t ≠ 28 → KeepT t w5 (((w5.setCell ⟨w.heap.size, 0, none⟩ (.int .i64 0)).setCell ⟨w.heap.size, 1, none⟩ (.int .i64 0)).setCell ⟨w.heap.size, 2, none⟩ (.string ⟨#[]⟩)) := fun t ht => KeepT.blk hr5 ht hT.2
      refine ⟨out, rfl, ⟨ts, ownsRow_mono ((hzz _ (by decide)).owns HI.out.toks) (by omega), HI.out.told, fun q hq => ownsRow_mono ((hzz _ (by decide)).owns (HI.out.attrs q hq)) (by omega)⟩, (HLw.out _ HB5.out).trans (grown_below hT.2 (Nat.le_refl _) (by have := (HLw.out _ HB5.out).size; exact this))⟩
set_option maxRecDepth 100000 in
set_option maxHeartbeats 16000000 in
theorem cut_bad {s : ByteArray} {w : World} {er : XE} (hs : s.size ≤ 60000) (hc : charsX s.data.toList = some er) :
    Calls Tryz.prog 34 #[.string s] w fun e w' => e = .returned (.tuple #[.slice none 0 0, errV er]) ∧ Below w.heap.size w w' := by
  have HC := Lib.hid hc
  have hez : ((er.code : Int) == 0) = false := by
    have hcode : er.code = 11 := by
      unfold charsX at hc
      split at hc
      · simp only [Option.some.injEq] at hc; subst hc; rfl
      · split at hc
        · simp only [Option.some.injEq] at hc; subst hc; rfl
        · cases hc
    rw [hcode]; rfl
  clear hc
  go_enter Tryz.func34, Tryz.ntmps34
  go_wp2_with (first
    | (go_at_call 44; refine (chars_any s hs _).mono ?_; rintro e w1 ⟨he, hW1⟩; rw [HC.out] at he; obtain rfl := he; have HW1 := Lib.hid (show Below (w.heap.size + 1) (w.alloc dg0) w1 from hW1.mono (by simp)); have hz1 := hW1.size; simp only [World.size_alloc] at hz1)
    | (go_at_call 35; refine (fine_any er.code er.place ⟨er.what.toArray⟩ _).mono ?_; rintro en w2 ⟨rfl, hW2⟩; have HB6 := Lib.hid ((HW1.out.alloc (by omega) (.cells #[.int .i64 er.code, .int .i64 er.place, .string ⟨er.what.toArray⟩] 28)).trans (hW2.mono (by simp; omega))); have hd6 := ((BlkAt.new w1 28 #[.int .i64 er.code, .int .i64 er.place, .string ⟨er.what.toArray⟩]).below hW2 (by simp)); have hr6 : BlkAt w2 w.heap.size 28 #[.int .i64 0, .int .i64 0, .string ⟨#[]⟩] := (BlkAt.new w _ _).below HB6.out (by simp); obtain ⟨⟨r0, r1, r2⟩, g0, g1, g2⟩ := res_cells hr6; obtain ⟨⟨d0, d1, d2⟩, _, _, _⟩ := res_cells hd6))
  go_region
  all_goals
    have hT := three_sets (.int .i64 er.code) (.int .i64 er.place) (.string ⟨er.what.toArray⟩) hr6.drew
    go_wp2
    refine bodyPost_ret (results_tc rfl rfl aggDiag rfl hT.1) rfl ?_
    exact ⟨rfl, (((Below.refl _ w).alloc (Nat.le_refl _) dg0).trans (HB6.out.mono (by omega))).drew.trans (grown_below hT.2 (Nat.le_refl _) (by have := HB6.out.size; simp at this; exact Nat.le_of_lt this))⟩
/-- Cut, at every text. -/
theorem cut_all {s : ByteArray} {w : World} {m : Int} {R : XR (List XT)} (hs : s.size ≤ 60000) (hm : w.cell? ⟨0, 0, none⟩ = some (.int .i64 m)) (hT : FoldTab w) (hv : cutF s.data.toList = R) (hR : R ≠ .none) :
    Calls Tryz.prog 34 #[.string s] w fun e w' => CutR w R e w' := by
  unfold cutF at hv
  cases hc : charsX s.data.toList with
  | none =>
    rw [hc] at hv
    exact cut_good hs hm hc hT hv hR
  | some er =>
    rw [hc] at hv
    subst hv
    exact cut_bad hs hc
theorem cutF_some {s : List UInt8} (h : s.length < bigF) : cutF s ≠ .none := by
  unfold cutF
  cases charsX s with
  | some e => exact nofun
  | none => exact cutG_some h _ _ (by show _ < _ + 0; omega) (Nat.zero_le _)
end Go.Proofs.YtlldpmjnledhgaaGreatDoor
