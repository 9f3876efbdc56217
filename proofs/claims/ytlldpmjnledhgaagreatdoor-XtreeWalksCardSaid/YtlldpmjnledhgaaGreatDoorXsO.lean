/- The walk of the cutter's order. -/
import Derived.Test.YtlldpmjnledhgaaGreatDoorXsKR
import Derived.Test.YtlldpmjnledhgaaGreatDoorXsF
namespace Go.Proofs.YtlldpmjnledhgaaGreatDoor
open Go.RowKit
set_option linter.unusedVariables false

theorem fold_low (x : UInt8) (c : UInt8) (h1 : 97 ≤ c.toNat) (h2 : c.toNat ≤ 122) : Lib.foldEq x c = ((if 65 ≤ x ∧ x ≤ 90 then x + 32 else x) == c) := by
  unfold Lib.foldEq
  rw [Bool.eq_iff_iff, decide_eq_true_eq, beq_iff_eq, ← UInt8.toNat_inj]
  by_cases h : 65 ≤ x ∧ x ≤ 90
  · rw [if_pos h]
    have a1 : 65 ≤ x.toNat := h.1
    have a2 : x.toNat ≤ 90 := h.2
    have e : (x + 32).toNat = x.toNat + 32 := by rw [UInt8.toNat_add]; show (x.toNat + 32) % 256 = _; omega
    rw [e]; omega
  · rw [if_neg h]
    have : ¬ (65 ≤ x.toNat ∧ x.toNat ≤ 90) := h
    omega
theorem fold_xml (l : List UInt8) : Lib.equalFold l [120, 109, 108] = foldXml l := by
  unfold foldXml
  match l with
  | [] => rfl
  | [a] => simp [Lib.equalFold]
  | [a, b] => simp [Lib.equalFold]
  | [a, b, c] =>
    rw [Lib.equalFold, Lib.equalFold, Lib.equalFold, fold_low a 120 (by decide) (by decide), fold_low b 109 (by decide) (by decide), fold_low c 108 (by decide) (by decide)]
    simp [Lib.equalFold]
  | a :: b :: c :: d :: l => simp [Lib.equalFold]

set_option maxRecDepth 100000 in
set_option maxHeartbeats 6400000 in
theorem order_in {base cb : Nat} {s : ByteArray} {c : XS} {w : World} {m : Int} (hs : s.size ≤ 1000000) (hm : w.cell? ⟨0, 0, none⟩ = some (.int .i64 m)) (hT : FoldTab w) (h : CutOf base cb s c w) (hca : c.place + 2 ≤ s.size) :
    Calls Tryz.prog 59 #[.pointer (some ⟨cb, 0, none⟩)] w fun e w' => StepR base cb s w (placeR c (orderX s.data.toList c.place)) e w' := by
  obtain ⟨ts, out, p, v, h⟩ := h
  have hbs : base ≤ w.heap.size := by have := h.hcb; have := h.blk.lt; omega
  obtain ⟨ca, hcc⟩ : ∃ ca, c.place = ca := ⟨_, rfl⟩
  have hls : s.data.toList.length = s.size := by simp
  rw [hcc] at hca
  have hml := block_lt' hm
  have hw0 := h.blk
  rw [hcc] at hw0
  have HK := Lib.hid (fun (W : World) (hW : Below (w.alloc dg0).heap.size (w.alloc dg0) W) => (show W.cell? ⟨cb, 0, none⟩ = some (.string s) ∧ W.cell? ⟨cb, 1, none⟩ = some (.int .i64 ca) ∧ W.cell? ⟨0, 0, none⟩ = some (.int .i64 m) ∧ FoldTab W ∧ BlkAt W w.heap.size 28 #[.int .i64 0, .int .i64 0, .string ⟨#[]⟩] ∧ CutI base cb s c ts out p v W from
    have h1 := (hw0.alloc dg0).below hW (hw0.alloc _).lt
    have h2 : Below w.heap.size w W := ((Below.refl _ w).alloc (Nat.le_refl _) dg0).trans (hW.mono (by simp))
    ⟨h1.cell 0, h1.cell 1, by rw [hW.cell (p := ⟨0, 0, none⟩) (by rw [World.size_alloc]; exact Nat.lt_succ_of_lt hml), World.cell?_of_block (Below.heap_alloc w dg0 _ hml)]; exact hm, hT.below h2, res_keep hW, h.below h2⟩))
  obtain ⟨k0a, k1a, kma, _⟩ := HK.out _ (Below.refl _ _)
  have hbad : ∀ (W : World), Below (w.alloc dg0).heap.size (w.alloc dg0) W → ∀ Y : World, W.grownBy Y (some w.heap.size) → KeepX base w Y := by
    intro W hW Y hY
    have h1 : Below w.heap.size w Y := (((Below.refl _ w).alloc (Nat.le_refl _) _).trans (hW.mono (by simp))).trans (grown_below hY (Nat.le_refl _) (by have := hW.size; simp at this; omega))
    exact KeepX.of_below h1 hbs
  have HBAD := Lib.hid hbad
  obtain ⟨k, hk⟩ : ∃ k, nameX (s.data.toList.drop (ca + 2)) = k := ⟨_, rfl⟩
  have hkl := nameX_le (s.data.toList.drop (ca + 2))
  rw [hk, List.length_drop, hls] at hkl
  obtain ⟨nm, hnm⟩ : ∃ nm, (s.data.toList.drop (ca + 2)).take k = nm := ⟨_, rfl⟩
  have hnl : nm.length = k := by rw [← hnm, List.length_take, List.length_drop, hls]; omega
  have HA := Lib.hid (fun W => nameLen_any (s.extract (ca + 2) s.size) (by simp; omega) W)
  rw [extract_drop, hk] at HA
  have hex : (s.extract (ca + 2) (ca + 2 + k)) = ⟨nm.toArray⟩ := by
    have h1 := extract_list s (ca + 2) (ca + 2 + k)
    rw [show ca + 2 + k - (ca + 2) = k from by omega, hnm] at h1
    rw [← h1]
  have HI := Lib.hid (fun W hmW => (Tryz.strings_Index (s.extract (ca + 2 + k) s.size) ⟨#[63, 62]⟩ m W (by simp; omega) hmW))
  rw [extract_drop, show (⟨#[63, 62]⟩ : ByteArray).data.toList = [63, 62] from rfl] at HI
  have HFo := Lib.hid (fun W hW => fold_any ⟨nm.toArray⟩ ⟨#[120, 109, 108]⟩ W (by rw [size_mk]; omega) (by
    intro j b hj
    have hb : b ∈ [(120 : UInt8), 109, 108] := List.mem_of_getElem? hj
    simp only [List.mem_cons, List.not_mem_nil, or_false] at hb
    rcases hb with rfl | rfl | rfl <;> decide) hW)
  rw [show (⟨#[120, 109, 108]⟩ : ByteArray).data.toList = [120, 109, 108] from rfl, show (⟨nm.toArray⟩ : ByteArray).data.toList = nm from rfl, fold_xml] at HFo
  have hcl := hw0.lt
  have hcr : ¬ cb = w.heap.size := by omega
  have hcr2 : ¬ w.heap.size = cb := by omega
  have HBS := Lib.hid hbs
  have HEX := Lib.hid hex
  have HSZ := Lib.hid (size_mk nm)
  have HNL := Lib.hid hnl
  obtain ⟨R, hR⟩ : ∃ R, placeR c (orderX s.data.toList c.place) = R := ⟨_, rfl⟩
  rw [hR]
  unfold orderX at hR
  simp only [] at hR
  rw [hcc, hk, hnm] at hR
  have q1 : IntKind.i64.wrap ((ca : Int) + 2 + k) = (ca : Int) + 2 + k := wrap_in (by omega) (by omega)
  have q2 : (0 : Int) ≤ (ca : Int) + 2 + k := by omega
  have q3 : (ca : Int) + 2 + k ≤ s.size := by omega
  have q4 : (0 : Int) ≤ (ca : Int) + 2 := by omega
  have q5 : (ca : Int) + 2 ≤ (ca : Int) + 2 + k := by omega
  have q6 : ((ca : Int) + 2).toNat = ca + 2 := by omega
  have q7 : ((ca : Int) + 2 + k).toNat = ca + 2 + k := by omega
  have q8 : (ca : Int) + 2 ≤ s.size := by omega
  obtain ⟨n, hn⟩ : ∃ n, Lib.index (s.data.toList.drop (ca + 2 + k)) [63, 62] = n := ⟨_, rfl⟩
  have hnb := Lib.index_ge (s.data.toList.drop (ca + 2 + k)) [63, 62]
  have hroom : 0 ≤ n → n.toNat + 2 ≤ s.size - (ca + 2 + k) := by
    intro h0
    have := index_fit (l := s.data.toList.drop (ca + 2 + k)) (p := [63, 62]) (by rw [hn]; exact h0) (by decide)
    rw [hn, List.length_drop, hls] at this
    exact this
  rw [hn] at HI hR hnb
  have HHR := Lib.hid hroom
  obtain ⟨fo, hfo⟩ : ∃ fo, foldXml nm = fo := ⟨_, rfl⟩
  rw [hfo] at HFo hR
  have HR := Lib.hid hR
  clear h hcc hls hw0 hbad hR hm hn hk hnm hex hT hnl hroom hfo
  go_enter Tryz.func59, Tryz.ntmps59
  go_wp2
  go_region_held3 (fun w' => w'.cell? ⟨cb, 0, none⟩ = some (.string s)) (go_keep) ((go_at_call 77; refine (HA.out _).mono ?_; rintro e w1 ⟨rfl, hW1⟩; have HW1 := Lib.hid (((Below.refl (w.alloc dg0).heap.size (w.alloc dg0)).drew).trans hW1); obtain ⟨k10, k11, k1m, _⟩ := HK.out w1 HW1.out))
  rw [HEX.out]
  obtain ⟨k10, k11, k1m, k1f, k1d, k1i⟩ := HK.out w1 HW1.out
  have hnl := HNL.out
  have hsz := HSZ.out
  by_cases hk0 : k = 0
  · have En : nm.isEmpty = true := by rw [List.isEmpty_iff]; exact List.length_eq_zero_iff.1 (by omega)
    have HRb := Lib.hid (show (XR.bad ⟨11, ca, wOrder⟩ : XR XS) = R from by have := HR.out; rw [if_pos (.inl hk0)] at this; exact this)
    clear hk0 hsz
    go_wp2_with (first
      | (go_at_call 76; refine (HI.out _ (by first | exact k1m | assumption)).mono ?_; rintro e w2 ⟨rfl, rfl⟩)
      | (go_at_call 52; refine (wrong_any _ _ _).mono ?_; rintro e w4 ⟨rfl, hW4⟩; have HW4 := Lib.hid (HW1.out.trans (hW4.mono HW1.out.size)); have hr := (res_keep HW4.out); obtain ⟨⟨r0, r1, r2⟩, f0, f1, f2⟩ := res_cells hr))
    have hT := three_sets (.int .i64 11) (.int .i64 ca) (.string ⟨#[111, 114, 100, 101, 114]⟩) hr
    refine bodyPost_ret (results_c rfl rfl aggDiag rfl hT.1) rfl ?_
    rw [← HRb.out]
    exact ⟨rfl, HBAD.out _ HW4.out _ hT.2⟩
  · have En : nm.isEmpty = false := by
      rw [Bool.eq_false_iff]
      intro e
      rw [List.isEmpty_iff] at e
      rw [e] at hnl
      exact hk0 hnl.symm
    by_cases hn0 : n < 0
    · have HRb := Lib.hid (show (XR.bad ⟨11, ca, wOrder⟩ : XR XS) = R from by have := HR.out; rw [if_pos (.inr (.inl hn0))] at this; exact this)
      clear hk0 hsz
      go_wp2_with (first
        | (go_at_call 76; refine (HI.out _ (by first | exact k1m | assumption)).mono ?_; rintro e w2 ⟨rfl, rfl⟩)
        | (go_at_call 52; refine (wrong_any _ _ _).mono ?_; rintro e w4 ⟨rfl, hW4⟩; have HW4 := Lib.hid (HW1.out.trans (hW4.mono HW1.out.size)); have hr := (res_keep HW4.out); obtain ⟨⟨r0, r1, r2⟩, f0, f1, f2⟩ := res_cells hr))
      have hT := three_sets (.int .i64 11) (.int .i64 ca) (.string ⟨#[111, 114, 100, 101, 114]⟩) hr
      refine bodyPost_ret (results_c rfl rfl aggDiag rfl hT.1) rfl ?_
      rw [← HRb.out]
      exact ⟨rfl, HBAD.out _ HW4.out _ hT.2⟩
    · have hroom := HHR.out (by omega)
      obtain ⟨N, hN⟩ : ∃ N : Nat, n = (N : Int) := ⟨n.toNat, by omega⟩
      subst hN
      rw [Int.toNat_natCast] at hroom
      cases fo with
      | false =>
        have HRb := Lib.hid (show (XR.ok { c with place := ca + 2 + k + N + 2 } : XR XS) = R from by have := HR.out; rw [if_neg (by rintro (h | h | h); exact hk0 h; exact hn0 h; cases h.1)] at this; exact this)
        have hl1 : ((⟨nm.toArray⟩ : ByteArray).size : Int) = k := by rw [hsz, hnl]
        clear hk0 hsz hn0
        go_wp2_with (first
          | (go_at_call 76; refine (HI.out _ (by first | exact k1m | assumption)).mono ?_; rintro e w2 ⟨rfl, rfl⟩)
          | (go_at_call 78; refine (HFo.out _ (by exact k1f)).mono ?_; rintro e w3 ⟨rfl, hW3⟩; have HW3 := Lib.hid (HW1.out.trans (hW3.mono HW1.out.size)); obtain ⟨k30, k31, k3m, k3f, k3d, k3i⟩ := HK.out _ HW3.out; have f31 := k3i.blk.frozen 1; obtain ⟨⟨r0, r1, r2⟩, g0, g1, g2⟩ := res_cells k3d))
        have hE := place_end (e := ca + 2 + k + N + 2) k3i k3d HBS.out
        rw [show ((ca + 2 + k + N + 2 : Nat) : Int) = (ca : Int) + 2 + k + N + 2 from by omega] at hE
        refine bodyPost_ret (results_c rfl rfl aggDiag rfl hE.1) rfl ?_
        rw [← HRb.out]
        refine ⟨rfl, ?_, ((KeepX.of_below (((Below.refl _ w).alloc (Nat.le_refl _) _).trans (HW3.out.mono (by simp))) HBS.out).trans hE.2.2.1).fresh hE.2.2.2 (Nat.le_refl _) HBS.out⟩
        exact hE.2.1
      | true =>
        by_cases hc0 : ca = 0
        · have HRb := Lib.hid (show (XR.ok { c with place := ca + 2 + k + N + 2 } : XR XS) = R from by have := HR.out; rw [if_neg (by rintro (h | h | h); exact hk0 h; exact hn0 h; exact absurd h.2 (by omega))] at this; exact this)
          have hc1 : ¬ (0 : Int) < (ca : Int) := by omega
          clear hk0 hsz hn0 hc0
          go_wp2_with (first
            | (go_at_call 76; refine (HI.out _ (by first | exact k1m | assumption)).mono ?_; rintro e w2 ⟨rfl, rfl⟩)
            | (go_at_call 78; refine (HFo.out _ (by exact k1f)).mono ?_; rintro e w3 ⟨rfl, hW3⟩; have HW3 := Lib.hid (HW1.out.trans (hW3.mono HW1.out.size)); obtain ⟨k30, k31, k3m, k3f, k3d, k3i⟩ := HK.out _ HW3.out; have f31 := k3i.blk.frozen 1; obtain ⟨⟨r0, r1, r2⟩, g0, g1, g2⟩ := res_cells k3d))
          have hE := place_end (e := ca + 2 + k + N + 2) k3i k3d HBS.out
          rw [show ((ca + 2 + k + N + 2 : Nat) : Int) = (ca : Int) + 2 + k + N + 2 from by omega] at hE
          refine bodyPost_ret (results_c rfl rfl aggDiag rfl hE.1) rfl ?_
          rw [← HRb.out]
          refine ⟨rfl, ?_, ((KeepX.of_below (((Below.refl _ w).alloc (Nat.le_refl _) _).trans (HW3.out.mono (by simp))) HBS.out).trans hE.2.2.1).fresh hE.2.2.2 (Nat.le_refl _) HBS.out⟩
          exact hE.2.1
        · have HRb := Lib.hid (show (XR.bad ⟨11, ca, wOrder⟩ : XR XS) = R from by have := HR.out; rw [if_pos (.inr (.inr ⟨rfl, by omega⟩))] at this; exact this)
          have hc1 : (0 : Int) < (ca : Int) := by omega
          clear hk0 hsz hn0 hc0
          go_wp2_with (first
            | (go_at_call 76; refine (HI.out _ (by first | exact k1m | assumption)).mono ?_; rintro e w2 ⟨rfl, rfl⟩)
            | (go_at_call 78; refine (HFo.out _ (by exact k1f)).mono ?_; rintro e w3 ⟨rfl, hW3⟩; have HW3 := Lib.hid (HW1.out.trans (hW3.mono HW1.out.size)); obtain ⟨k30, k31, k3m, k3f, k3d, k3i⟩ := HK.out _ HW3.out)
            | (go_at_call 52; refine (wrong_any _ _ _).mono ?_; rintro e w4 ⟨rfl, hW4⟩; have HW4 := Lib.hid (HW3.out.trans (hW4.mono HW3.out.size)); have hr := (res_keep HW4.out); obtain ⟨⟨r0, r1, r2⟩, f0, f1, f2⟩ := res_cells hr))
          have hT := three_sets (.int .i64 11) (.int .i64 ca) (.string ⟨#[111, 114, 100, 101, 114]⟩) hr
          refine bodyPost_ret (results_c rfl rfl aggDiag rfl hT.1) rfl ?_
          rw [← HRb.out]
          exact ⟨rfl, HBAD.out _ HW4.out _ hT.2⟩
end Go.Proofs.YtlldpmjnledhgaaGreatDoor
