/- The walk of the cutter's open: a name alone. -/
import Derived.Test.YtmhhkekokfpppaaDoorXkR
import Derived.Test.YtmhhkekokfpppaaDoorXkY
namespace Go.Proofs.YtmhhkekokfpppaaDoor
open Go.RowKit
set_option linter.unusedVariables false

set_option maxRecDepth 100000 in
set_option maxHeartbeats 32000000 in
theorem open_bare {base cb : Nat} {s : ByteArray} {c : XS} {w : World} {f : Nat} (hs : s.size ≤ 1000000) (h : CutOf base cb s c w) (hno : c.out.length ≤ 1000000) (hca : c.place + 1 ≤ s.size) (hv : BareX s.data.toList c.place) :
    Calls Tryd.prog 32 #[.pointer (some ⟨cb, 0, none⟩)] w fun en w' => StepR base cb s w (tokR c (openX (f + 1) s.data.toList c.place)) en w' := by
  obtain ⟨ts, out, p, v, h⟩ := h
  have hbs : base ≤ w.heap.size := by have := h.hcb; have := h.blk.lt; omega
  have HR := Lib.hid (show tokR c (openX (f + 1) s.data.toList c.place) = .bad ⟨11, c.place, wBegin⟩ by rw [openX_bare hv]; rfl)
  obtain ⟨hn0, hb0, hp1, hp2⟩ := hv
  obtain ⟨ca, hcc⟩ : ∃ ca, c.place = ca := ⟨_, rfl⟩
  rw [hcc] at hca hn0 hb0 hp1 hp2 HR ⊢
  obtain ⟨n, hn⟩ : ∃ n, nameX (s.data.toList.drop (ca + 1)) = n := ⟨_, rfl⟩
  rw [hn] at hn0 hb0 hp1 hp2
  have hls : s.data.toList.length = s.size := by simp
  have hn1 := nameX_le (s.data.toList.drop (ca + 1))
  rw [hn, List.length_drop, hls] at hn1
  obtain ⟨N, hN⟩ : ∃ N, ts.length = N := ⟨_, rfl⟩
  have hNo : N ≤ 1000000 := by rw [← hN]; have := congrArg List.length h.told; simp at this; omega
  obtain ⟨ao, ac, rfl⟩ := ownsRow_slice' h.toks
  have HA := Lib.hid (fun W => nameLen_any (s.extract (ca + 1) s.size) (by simp; omega) W)
  rw [extract_drop, hn] at HA
  obtain ⟨nm, hnm⟩ : ∃ nm, (s.data.toList.drop (ca + 1)).take n = nm := ⟨_, rfl⟩
  have hex : (s.extract (ca + 1) (ca + 1 + n)) = ⟨nm.toArray⟩ := by
    have h1 := extract_list s (ca + 1) (ca + 1 + n)
    rw [show ca + 1 + n - (ca + 1) = n from by omega, hnm] at h1
    rw [← h1]
  have HEX := Lib.hid hex
  have hw0 := h.blk
  rw [hcc, hN] at hw0
  have HK0 := Lib.hid (fun (W : World) (hW : Below (w.alloc dg0).heap.size (w.alloc dg0) W) => (show W.cell? ⟨cb, 0, none⟩ = some (.string s) ∧ W.cell? ⟨cb, 1, none⟩ = some (.int .i64 ca) from
    have h1 := (hw0.alloc dg0).below hW (hw0.alloc _).lt
    ⟨h1.cell 0, h1.cell 1⟩))
  obtain ⟨k0a, k1a⟩ := HK0.out _ (Below.refl _ _)
  have HBS := Lib.hid hbs
  have HH := Lib.hid h
  have HCC := Lib.hid hcc
  have HN := Lib.hid hN
  have hcl := hw0.lt
  have hcr : ¬ cb = w.heap.size := by omega
  have hcr2 : ¬ w.heap.size = cb := by omega
  have hnz : ((n : Int) == 0) = false := beq_eq_false_iff_ne.2 (by omega)
  obtain ⟨i0, hi0, hz0, hz1, hz2'⟩ := info_parts infoTok
  have q1 : IntKind.i64.wrap ((ca : Int) + 1 + n) = (ca : Int) + 1 + n := wrap_in (by omega) (by omega)
  have q2 : (0 : Int) ≤ (ca : Int) + 1 + n := by omega
  have q3 : (ca : Int) + 1 + n ≤ s.size := by omega
  have q4 : (0 : Int) ≤ (ca : Int) + 1 := by omega
  have q5 : (ca : Int) + 1 ≤ (ca : Int) + 1 + n := by omega
  have q6 : ((ca : Int) + 1).toNat = ca + 1 := by omega
  have q7 : ((ca : Int) + 1 + n).toNat = ca + 1 + n := by omega
  have hcan : ca + 1 + n ≤ s.size := by omega
  have HBl := Lib.hid (fun W => blanks_any (s.extract (ca + 1 + n) s.size) (by simp; omega) W)
  rw [extract_drop, hb0] at HBl
  have HP1 := Lib.hid (show Lib.hasPrefix (s.extract (ca + 1 + n) s.size).data.toList [62] = false by rw [extract_drop]; exact hp1)
  have HP2 := Lib.hid (show Lib.hasPrefix (s.extract (ca + 1 + n) s.size).data.toList [47, 62] = false by rw [extract_drop]; exact hp2)
  clear h hcc hn hls hnm hex hw0 hN hbs hb0 hp1 hp2
  go_enter Tryd.func32, Tryd.ntmps32
  go_wp2
  go_step3
  go_wp2_with (go_at_call 47; refine (HA.out _).mono ?_; rintro en w1 ⟨rfl, hW1⟩; have HW1 := Lib.hid hW1; have hz1w := hW1.size; simp only [World.size_alloc] at hz1w; obtain ⟨k10, k11⟩ := HK0.out w1 hW1)
  have m0 := World.new_ne w1 _ k10
  have m1 := World.new_ne w1 _ k11
  go_region_held3 (fun w' => w'.cell? ⟨cb, 0, none⟩ = some (.string s) ∧ w'.cell? ⟨cb, 1, none⟩ = some (.int .i64 ca)) (go_keep) (fail)
  have HT5 := Lib.hid (show BlkAt (w1.alloc (Obj.cells #[.int .i64 1, .int .i64 ca, .string (s.extract (ca + 1) (ca + 1 + n)), .string ⟨#[]⟩, .slice none 0 0, .bool false] 32)).drew w1.heap.size 32 #[.int .i64 1, .int .i64 ca, .string ⟨nm.toArray⟩, .string ⟨#[]⟩, .slice none 0 0, .bool false] from by rw [HEX.out]; exact (BlkAt.new w1 _ _).drew)
  obtain ⟨tb, htb⟩ : ∃ tb, w1.heap.size = tb := ⟨_, rfl⟩
  obtain ⟨W5, hW5⟩ : ∃ W5, (w1.alloc (Obj.cells #[.int .i64 1, .int .i64 ca, .string (s.extract (ca + 1) (ca + 1 + n)), .string ⟨#[]⟩, .slice none 0 0, .bool false] 32)).drew = W5 := ⟨_, rfl⟩
  have hz5 : W5.heap.size = tb + 1 := by rw [← hW5, ← htb]; simp
  have h15 : Below w1.heap.size w1 W5 := by rw [← hW5]; exact ((Below.refl _ w1).alloc (Nat.le_refl _) _).drew
  rw [htb] at h15 hz1w
  rw [hW5, htb] at HT5
  rw [hW5, htb]
  -- what stays in the loop
  have HK := Lib.hid (fun (W : World) (hW : Below tb W5 W) => HK0.out W (HW1.out.trans ((h15.trans hW).mono (by simp; omega))))
  have HLow := Lib.hid (fun (W : World) (hW : Below tb W5 W) => (show Below w.heap.size w W from ((Below.refl _ w).alloc (Nat.le_refl _) dg0).trans ((HW1.out.trans ((h15.trans hW).mono (by simp; omega))).mono (by simp))))
  have HRes := Lib.hid (fun (W : World) (hW : Below tb W5 W) => (show BlkAt W w.heap.size 27 #[.int .i64 0, .int .i64 0, .string ⟨#[]⟩] from res_keep (HW1.out.trans ((h15.trans hW).mono (by simp; omega)))))
  have hbtb : base ≤ tb := by have := HBS.out; omega
  have htr : ¬ tb = w.heap.size := by omega
  have htr2 : ¬ w.heap.size = tb := by omega
  have htc : ¬ tb = cb := by omega
  have htc2 : ¬ cb = tb := by omega
  clear hW5 k0a k1a k10 k11 m0 m1 h15 hW1 q1 q2 q3 q4 q5 q6 q7 htb
  go_wp2
  go_step3
  go_wp2
  go_loopw [3] (fun x W => x = .int .i64 ((ca : Int) + 1 + n) ∧ W = W5) (fun x W => 0)
  case atStart => exact ⟨rfl, rfl⟩
  case round =>
    obtain ⟨rfl, rfl⟩ := hrel
    obtain ⟨k0, k1⟩ := HK.out _ (Below.refl _ _)
    go_wp2_with (first
      | (go_at_call 49; refine (HBl.out _).mono ?_; rintro en w2 ⟨rfl, hW2⟩; have HW2 := Lib.hid (hW2.mono (show tb ≤ _ by omega)); obtain ⟨k20, k21⟩ := HK.out _ HW2.out)
      | (go_at_call 27; refine (Tryd.strings_HasPrefix _ _ _).mono ?_; rintro en w3 ⟨rfl, rfl⟩; first | rw [HP1.out] | rw [HP2.out])
      | (go_at_call 22; refine (wrong_any _ _ _).mono ?_; rintro en w4 ⟨rfl, hW4⟩; have HW4 := Lib.hid (HW2.out.trans (hW4.mono (by have := HW2.out.size; omega))); have hr := (HRes.out _ HW4.out); obtain ⟨⟨r0, r1, r2⟩, g0, g1, g2⟩ := res_cells hr))
    have hT := three_sets (.int .i64 11) (.int .i64 ca) (.string ⟨#[98, 101, 103, 105, 110]⟩) hr
    refine bodyPost_ret (results_c rfl rfl aggDiag rfl hT.1) rfl ?_
    rw [HR.out]
    have hlow := HLow.out _ HW4.out
    exact ⟨rfl, KeepX.of_below (hlow.trans (grown_below hT.2 (Nat.le_refl _) hlow.size)) HBS.out⟩
end Go.Proofs.YtmhhkekokfpppaaDoor
