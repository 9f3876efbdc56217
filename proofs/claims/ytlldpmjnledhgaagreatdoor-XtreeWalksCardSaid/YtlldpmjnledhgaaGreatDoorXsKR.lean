/- The walk of the cutter's skip: a remark. The walk of the cutter's raw: a Text that stands as it is. -/
import Derived.Test.YtlldpmjnledhgaaGreatDoorXkW
import Derived.Test.YtlldpmjnledhgaaGreatDoorXpAL
namespace Go.Proofs.YtlldpmjnledhgaaGreatDoor
open Go.RowKit
set_option linter.unusedVariables false

/-- A step that tells a place alone. -/
def placeR (c : XS) (R : XR Nat) : XR XS :=
  match R with
  | .none => .none
  | .bad e => .bad e
  | .ok e => .ok { c with place := e }
/-- The place is set ahead of the answer's cell. -/
theorem place_set {base cb : Nat} {s : ByteArray} {c : XS} {ts : List (XT × Value)} {out p v : Value} {w : World} (e : Nat) (h : CutI base cb s c ts out p v w) :
    CutOf base cb s { c with place := e } ((w.setCell ⟨cb, 1, none⟩ (.int .i64 e)).alloc dg0) ∧ KeepX base w ((w.setCell ⟨cb, 1, none⟩ (.int .i64 e)).alloc dg0) := by
  have b5 := h.blk.set 1 (.int .i64 e)
  have g5 := grown_set w cb 1 (.int .i64 e)
  obtain ⟨hM5, hK5⟩ := h.toM.set (pl' := e) (si' := c.since) g5 b5
  have hT5 := h.text.kept g5 (.inr h.apart.1)
  have hI5 : CutI base cb s { c with place := e } ts out p v _ := CutM.toI (c := { c with place := e }) hM5 h.self hT5 h.told
  have hB : Below (w.setCell ⟨cb, 1, none⟩ (.int .i64 e)).heap.size (w.setCell ⟨cb, 1, none⟩ (.int .i64 e)) ((w.setCell ⟨cb, 1, none⟩ (.int .i64 e)).alloc dg0) := (Below.refl _ _).alloc (Nat.le_refl _) _
  refine ⟨⟨_, _, _, _, hI5.below hB⟩, hK5.trans (KeepX.of_below hB ?_)⟩
  have h1 := hK5.1.size
  have := h.hcb
  have := h.blk.lt
  omega

set_option maxRecDepth 100000 in
set_option maxHeartbeats 3200000 in
theorem skip_in {base cb : Nat} {s : ByteArray} {c : XS} {w : World} {m : Int} (hs : s.size ≤ 1000000) (hm : w.cell? ⟨0, 0, none⟩ = some (.int .i64 m)) (h : CutOf base cb s c w) (hca : c.place + 4 ≤ s.size) :
    Calls Tryz.prog 58 #[.pointer (some ⟨cb, 0, none⟩)] w fun e w' => StepR base cb s w (placeR c (skipX s.data.toList c.place)) e w' := by
  obtain ⟨ts, out, p, v, h⟩ := h
  have hbs : base ≤ w.heap.size := by have := h.hcb; have := h.blk.lt; omega
  obtain ⟨ca, hcc⟩ : ∃ ca, c.place = ca := ⟨_, rfl⟩
  have hls : s.data.toList.length = s.size := by simp
  rw [hcc] at hca
  have hml := block_lt' hm
  have hw0 := h.blk
  rw [hcc] at hw0
  have HK := Lib.hid (fun (W : World) (hW : Below (w.alloc dg0).heap.size (w.alloc dg0) W) => (show W.cell? ⟨cb, 0, none⟩ = some (.string s) ∧ W.cell? ⟨cb, 1, none⟩ = some (.int .i64 ca) ∧ W.cell? ⟨0, 0, none⟩ = some (.int .i64 m) from
    have h1 := (hw0.alloc dg0).below hW (hw0.alloc _).lt
    ⟨h1.cell 0, h1.cell 1, by rw [hW.cell (p := ⟨0, 0, none⟩) (by rw [World.size_alloc]; exact Nat.lt_succ_of_lt hml), World.cell?_of_block (Below.heap_alloc w dg0 _ hml)]; exact hm⟩))
  obtain ⟨k0a, k1a, kma⟩ := HK.out _ (Below.refl _ _)
  have hbad : ∀ (W : World), Below (w.alloc dg0).heap.size (w.alloc dg0) W → ∀ Y : World, W.grownBy Y (some w.heap.size) → KeepX base w Y := by
    intro W hW Y hY
    have h1 : Below w.heap.size w Y := (((Below.refl _ w).alloc (Nat.le_refl _) _).trans (hW.mono (by simp))).trans (grown_below hY (Nat.le_refl _) (by have := hW.size; simp at this; omega))
    exact KeepX.of_below h1 hbs
  have HBAD := Lib.hid hbad
  have HI := Lib.hid (fun W hmW => (Tryz.strings_Index (s.extract (ca + 4) s.size) ⟨#[45, 45]⟩ m W (by simp; omega) hmW))
  rw [extract_drop, show (⟨#[45, 45]⟩ : ByteArray).data.toList = [45, 45] from rfl] at HI
  have hcl := hw0.lt
  have hcr : ¬ cb = w.heap.size := by omega
  have hcr2 : ¬ w.heap.size = cb := by omega
  have HH := Lib.hid h
  have HBS := Lib.hid hbs
  have HCC := Lib.hid hcc
  obtain ⟨R, hR⟩ : ∃ R, placeR c (skipX s.data.toList c.place) = R := ⟨_, rfl⟩
  rw [hR]
  unfold skipX at hR
  rw [hcc] at hR
  rcases Int.lt_or_le (Lib.index (s.data.toList.drop (ca + 4)) [45, 45]) 0 with hn | hn
  · rw [if_pos (.inl hn)] at hR
    have hi : Lib.index (s.data.toList.drop (ca + 4)) [45, 45] = -1 := by have := Lib.index_ge (s.data.toList.drop (ca + 4)) [45, 45]; omega
    rw [hi] at HI
    have HR := Lib.hid hR
    clear h hcc hls hw0 hbad hR hm hn hi
    go_enter Tryz.func58, Tryz.ntmps58
    go_wp2_with (first
            | (go_at_call 76; refine (HI.out _ kma).mono ?_; rintro e w1 ⟨rfl, rfl⟩)
            | (go_at_call 52; refine (wrong_any _ _ _).mono ?_; rintro e w3 ⟨rfl, hW3⟩; have HW3 := Lib.hid hW3; have hr := (res_keep HW3.out); obtain ⟨⟨r0, r1, r2⟩, f0, f1, f2⟩ := res_cells hr))
    have hT := three_sets (.int .i64 11) (.int .i64 ca) (.string ⟨#[114, 101, 109, 97, 114, 107]⟩) hr
    refine bodyPost_ret (results_c rfl rfl aggDiag rfl hT.1) rfl ?_
    rw [← HR.out]
    exact ⟨rfl, HBAD.out _ HW3.out _ hT.2⟩
  · obtain ⟨n, hi⟩ : ∃ n : Nat, Lib.index (s.data.toList.drop (ca + 4)) [45, 45] = (n : Int) := ⟨(Lib.index (s.data.toList.drop (ca + 4)) [45, 45]).toNat, by omega⟩
    have hfit := index_fit hn (by decide)
    rw [hi, List.length_drop, hls] at hfit
    simp only [Int.toNat_natCast, List.length_cons, List.length_nil] at hfit
    rw [hi] at HI hR
    simp only [Int.toNat_natCast] at hR
    by_cases he : ca + 4 + n + 2 = s.size
    · rw [if_pos (.inr (by rw [hls]; exact he))] at hR
      have hz : ((ca : Int) + 4 + n + 2 == (s.size : Int)) = true := beq_iff_eq.2 (by omega)
      have HR := Lib.hid hR
      clear h hcc hls hw0 hbad hR hm hn hi
      go_enter Tryz.func58, Tryz.ntmps58
      go_wp2_with (first
              | (go_at_call 76; refine (HI.out _ kma).mono ?_; rintro e w1 ⟨rfl, rfl⟩)
              | (go_at_call 52; refine (wrong_any _ _ _).mono ?_; rintro e w3 ⟨rfl, hW3⟩; have HW3 := Lib.hid hW3; have hr := (res_keep HW3.out); obtain ⟨⟨r0, r1, r2⟩, f0, f1, f2⟩ := res_cells hr))
      have hT := three_sets (.int .i64 11) (.int .i64 ca) (.string ⟨#[114, 101, 109, 97, 114, 107]⟩) hr
      refine bodyPost_ret (results_c rfl rfl aggDiag rfl hT.1) rfl ?_
      rw [← HR.out]
      exact ⟨rfl, HBAD.out _ HW3.out _ hT.2⟩
    rw [if_neg (by rw [hls]; omega)] at hR
    have hz : ((ca : Int) + 4 + n + 2 == (s.size : Int)) = false := beq_eq_false_iff_ne.2 (by omega)
    have hex : (s.extract (ca + 4 + n) s.size).data.toList = s.data.toList.drop (ca + 4 + n) := extract_drop s (ca + 4 + n)
    by_cases hp : Lib.hasPrefix (s.data.toList.drop (ca + 4 + n)) [45, 45, 62] = false
    · rw [if_pos hp] at hR
      have HP := Lib.hid (show Lib.hasPrefix (s.extract (ca + 4 + n) s.size).data.toList [45, 45, 62] = false by rw [hex]; exact hp)
      have HR := Lib.hid hR
      clear h hcc hls hw0 hbad hR hm hn hi hex hp
      go_enter Tryz.func58, Tryz.ntmps58
      go_wp2_with (first
              | (go_at_call 76; refine (HI.out _ kma).mono ?_; rintro e w1 ⟨rfl, rfl⟩)
              | (go_at_call 56; refine (Tryz.strings_HasPrefix _ _ _).mono ?_; rintro e w2 ⟨rfl, rfl⟩; rw [HP.out])
              | (go_at_call 52; refine (wrong_any _ _ _).mono ?_; rintro e w3 ⟨rfl, hW3⟩; have HW3 := Lib.hid hW3; have hr := (res_keep HW3.out); obtain ⟨⟨r0, r1, r2⟩, f0, f1, f2⟩ := res_cells hr))
      have hT := three_sets (.int .i64 11) (.int .i64 ((ca : Int) + 4 + n)) (.string ⟨#[45, 45]⟩) hr
      refine bodyPost_ret (results_c rfl rfl aggDiag rfl hT.1) rfl ?_
      rw [← HR.out]
      exact ⟨rfl, HBAD.out _ HW3.out _ hT.2⟩
    · rw [if_neg hp] at hR
      have hp1 : Lib.hasPrefix (s.data.toList.drop (ca + 4 + n)) [45, 45, 62] = true := by simpa using hp
      have HP := Lib.hid (show Lib.hasPrefix (s.extract (ca + 4 + n) s.size).data.toList [45, 45, 62] = true by rw [hex]; exact hp1)
      have HR := Lib.hid hR
      have hE := place_set (ca + 4 + n + 3) h
      rw [show ((ca + 4 + n + 3 : Nat) : Int) = (ca : Int) + 4 + n + 3 from by omega] at hE
      have HE := Lib.hid hE
      have fz := hw0.frozen 1
      clear h hcc hls hw0 hbad hR hm hn hi hex hp hp1 hE
      go_enter Tryz.func58, Tryz.ntmps58
      go_wp2_with (first
              | (go_at_call 76; refine (HI.out _ kma).mono ?_; rintro e w1 ⟨rfl, rfl⟩)
              | (go_at_call 56; refine (Tryz.strings_HasPrefix _ _ _).mono ?_; rintro e w2 ⟨rfl, rfl⟩; rw [HP.out]))
      have hz1 : (w.setCell ⟨cb, 1, none⟩ (.int .i64 ((ca : Int) + 4 + n + 3))).heap.size = w.heap.size := World.size_setCell _ _ _
      have hN := BlkAt.new (w.setCell ⟨cb, 1, none⟩ (.int .i64 ((ca : Int) + 4 + n + 3))) 28 #[.int .i64 0, .int .i64 0, .string ⟨#[]⟩]
      rw [hz1] at hN
      refine bodyPost_ret (v := okV) ?_ rfl ?_
      · exact results_c rfl rfl aggDiag rfl hN
      · rw [← HR.out]
        exact ⟨rfl, HE.out.1, HE.out.2⟩
end Go.Proofs.YtlldpmjnledhgaaGreatDoor
namespace Go.Proofs.YtlldpmjnledhgaaGreatDoor
open Go.RowKit
set_option linter.unusedVariables false

def rawR (c : XS) (R : XR (List UInt8 × Nat)) : XR XS :=
  match R with
  | .none => .none
  | .bad e => .bad e
  | .ok (x, e) => .ok { addX c c.place x with place := e }

set_option maxRecDepth 100000 in
set_option maxHeartbeats 3200000 in
theorem raw_in {base cb : Nat} {s : ByteArray} {c : XS} {w : World} {m : Int} (hs : s.size ≤ 1000000) (hm : w.cell? ⟨0, 0, none⟩ = some (.int .i64 m)) (h : CutOf base cb s c w) (hct : c.text.length ≤ 10000000) (hca : c.place + 9 ≤ s.size) :
    Calls Tryz.prog 57 #[.pointer (some ⟨cb, 0, none⟩)] w fun e w' => StepR base cb s w (rawR c (rawX s.data.toList c.place)) e w' := by
  obtain ⟨ts, out, p, v, h⟩ := h
  have hbs : base ≤ w.heap.size := by have := h.hcb; have := h.blk.lt; omega
  obtain ⟨ca, hcc⟩ : ∃ ca, c.place = ca := ⟨_, rfl⟩
  have hls : s.data.toList.length = s.size := by simp
  rw [hcc] at hca
  have hml := block_lt' hm
  have hw0 := h.blk
  rw [hcc] at hw0
  have HK := Lib.hid (fun (W : World) (hW : Below (w.alloc dg0).heap.size (w.alloc dg0) W) => (show W.cell? ⟨cb, 0, none⟩ = some (.string s) ∧ W.cell? ⟨cb, 1, none⟩ = some (.int .i64 ca) ∧ W.cell? ⟨0, 0, none⟩ = some (.int .i64 m) from
    have h1 := (hw0.alloc dg0).below hW (hw0.alloc _).lt
    ⟨h1.cell 0, h1.cell 1, by rw [hW.cell (p := ⟨0, 0, none⟩) (by rw [World.size_alloc]; exact Nat.lt_succ_of_lt hml), World.cell?_of_block (Below.heap_alloc w dg0 _ hml)]; exact hm⟩))
  obtain ⟨k0a, k1a, kma⟩ := HK.out _ (Below.refl _ _)
  have hbad : ∀ (W : World), Below (w.alloc dg0).heap.size (w.alloc dg0) W → ∀ Y : World, W.grownBy Y (some w.heap.size) → KeepX base w Y := by
    intro W hW Y hY
    have h1 : Below w.heap.size w Y := (((Below.refl _ w).alloc (Nat.le_refl _) _).trans (hW.mono (by simp))).trans (grown_below hY (Nat.le_refl _) (by have := hW.size; simp at this; omega))
    exact KeepX.of_below h1 hbs
  have HBAD := Lib.hid hbad
  have HI := Lib.hid (fun W hmW => (Tryz.strings_Index (s.extract (ca + 9) s.size) ⟨#[93, 93, 62]⟩ m W (by simp; omega) hmW))
  rw [extract_drop, show (⟨#[93, 93, 62]⟩ : ByteArray).data.toList = [93, 93, 62] from rfl] at HI
  have hcl := hw0.lt
  have hcr : ¬ cb = w.heap.size := by omega
  have hcr2 : ¬ w.heap.size = cb := by omega
  have HH := Lib.hid h
  have HBS := Lib.hid hbs
  have HCC := Lib.hid hcc
  obtain ⟨R, hR⟩ : ∃ R, rawR c (rawX s.data.toList c.place) = R := ⟨_, rfl⟩
  rw [hR]
  unfold rawX at hR
  rw [hcc] at hR
  rcases Int.lt_or_le (Lib.index (s.data.toList.drop (ca + 9)) [93, 93, 62]) 0 with hn | hn
  · rw [if_pos hn] at hR
    have hi : Lib.index (s.data.toList.drop (ca + 9)) [93, 93, 62] = -1 := by have := Lib.index_ge (s.data.toList.drop (ca + 9)) [93, 93, 62]; omega
    rw [hi] at HI
    have HR := Lib.hid hR
    clear h hcc hls hw0 hbad hR hm hn hi
    go_enter Tryz.func57, Tryz.ntmps57
    go_wp2_with (first
            | (go_at_call 76; refine (HI.out _ kma).mono ?_; rintro e w1 ⟨rfl, rfl⟩)
            | (go_at_call 52; refine (wrong_any _ _ _).mono ?_; rintro e w3 ⟨rfl, hW3⟩; have HW3 := Lib.hid hW3; have hr := (res_keep HW3.out); obtain ⟨⟨r0, r1, r2⟩, f0, f1, f2⟩ := res_cells hr))
    have hT := three_sets (.int .i64 11) (.int .i64 ca) (.string ⟨#[67, 68, 65, 84, 65]⟩) hr
    refine bodyPost_ret (results_c rfl rfl aggDiag rfl hT.1) rfl ?_
    rw [← HR.out]
    exact ⟨rfl, HBAD.out _ HW3.out _ hT.2⟩
  · obtain ⟨n, hi⟩ : ∃ n : Nat, Lib.index (s.data.toList.drop (ca + 9)) [93, 93, 62] = (n : Int) := ⟨(Lib.index (s.data.toList.drop (ca + 9)) [93, 93, 62]).toNat, by omega⟩
    have hfit := index_fit hn (by decide)
    rw [hi, List.length_drop, hls] at hfit
    simp only [Int.toNat_natCast, List.length_cons, List.length_nil] at hfit
    rw [if_neg (by omega), hi] at hR
    rw [hi] at HI
    simp only [Int.toNat_natCast] at hR
    have hex : (s.extract (ca + 9) (ca + 9 + n)).data.toList = (s.data.toList.drop (ca + 9)).take n := by
      have h1 := extract_list s (ca + 9) (ca + 9 + n)
      rwa [show ca + 9 + n - (ca + 9) = n by omega] at h1
    have HLN := Lib.hid (fun W hmW => lines_any (s.extract (ca + 9) (ca + 9 + n)) (by simp; omega) m W hmW)
    have hll := linesX_len ((s.data.toList.drop (ca + 9)).take n)
    obtain ⟨ln, hln⟩ : ∃ ln, linesX ((s.data.toList.drop (ca + 9)).take n) = ln := ⟨_, rfl⟩
    rw [hex, hln] at HLN
    rw [hln] at hR hll
    have hll2 : ln.length ≤ 1000000 := by rw [List.length_take, List.length_drop, hls] at hll; omega
    have HAZ := Lib.hid (size_mk ln)
    have HR := Lib.hid hR
    have q0 : IntKind.i64.wrap ((ca : Int) + 9 + n) = (ca : Int) + 9 + n := wrap_in (by omega) (by omega)
    have q8 : (0 : Int) ≤ (ca : Int) + 9 + n := by omega
    have q1 : (0 : Int) ≤ (ca : Int) + 9 := by omega
    have q2 : (ca : Int) + 9 ≤ (ca : Int) + 9 + n := by omega
    have q3 : (ca : Int) + 9 + n ≤ s.size := by omega
    have q4 : ((ca : Int) + 9).toNat = ca + 9 := by omega
    have q5 : ((ca : Int) + 9 + n).toNat = ca + 9 + n := by omega
    clear h hcc hls hw0 hbad hR hm hn hi hex hln hll
    go_enter Tryz.func57, Tryz.ntmps57
    go_wp2_with (go_at_call 76; refine (HI.out _ kma).mono ?_; rintro e w1 ⟨rfl, rfl⟩)
    go_region_law (first
            | (go_simp; go_at_call 71; refine (HLN.out _ (by exact kma)).mono ?_; rintro e w2 ⟨rfl, hW2⟩; have HW2 := Lib.hid (((Below.refl (w.alloc dg0).heap.size (w.alloc dg0)).drew).trans hW2); obtain ⟨k20, k21, k22⟩ := HK.out _ HW2.out)
            | (go_simp; go_at_call 74; refine (add_in (c := c) (a := ca) ⟨ts, out, p, v, HH.out.below (((Below.refl _ w).alloc (Nat.le_refl _) _).trans (HW2.out.mono (by simp)))⟩ (by rw [HAZ.out]; omega)).mono ?_; rintro e w4 ⟨rfl, ⟨ts4, out4, p4, v4, hI4⟩, hK4⟩; have hr4 := (hK4.blk (res_keep HW2.out)); have q6 : w4.cell? ⟨cb, 1, none⟩ = some (.int .i64 (addX c ca ln).place) := (hI4.blk.cell 1); have q7 := hI4.blk.frozen 1; obtain ⟨⟨r0, r1, r2⟩, g0, g1, g2⟩ := res_cells hr4))
    all_goals
      go_wp2
      have hE := place_end (e := ca + 9 + n + 3) hI4 hr4 HBS.out
      rw [show ((ca + 9 + n + 3 : Nat) : Int) = (ca : Int) + 9 + n + 3 from by omega] at hE
      refine bodyPost_ret (results_c rfl rfl aggDiag rfl hE.1) rfl ?_
      rw [← HR.out]
      refine ⟨rfl, ?_, ((KeepX.of_below (((Below.refl _ w).alloc (Nat.le_refl _) _).trans (HW2.out.mono (by simp))) HBS.out).trans (hK4.trans hE.2.2.1)).fresh hE.2.2.2 (Nat.le_refl _) HBS.out⟩
      rw [HCC.out]
      exact hE.2.1
end Go.Proofs.YtlldpmjnledhgaaGreatDoor
