/- The walk of the cutter's open, at any number of attributes, whatever it comes to. -/
import Derived.Test.YtlldpmjnledhgaaGreatDoorXsAo
import Derived.Test.YtlldpmjnledhgaaGreatDoorXpMO
import Derived.Test.YtlldpmjnledhgaaGreatDoorXkOR
namespace Go.Proofs.YtlldpmjnledhgaaGreatDoor
open Go.RowKit
set_option linter.unusedVariables false

/-- A begin's answer out of its attributes' one. -/
def goR (ca : Nat) (nm : List UInt8) (G : XR (List XA × Bool × Nat)) : XR (XT × Nat) :=
  match G with
  | .none => .none
  | .bad e => .bad e
  | .ok (l, em, e) => .ok (⟨1, ca, nm, [], l, em⟩, e)
theorem openX_goR {f : Nat} {s : List UInt8} {ca : Nat} (h : nameX (s.drop (ca + 1)) ≠ 0) : openX f s ca = goR ca ((s.drop (ca + 1)).take (nameX (s.drop (ca + 1)))) (openGo s ca f [] (ca + 1 + nameX (s.drop (ca + 1)))) := by
  unfold openX goR
  simp only [if_neg h]
  split <;> rename_i h2 <;> rw [h2]
theorem openGo_step2 {s : List UInt8} {ca f : Nat} {l : List XA} {at_ : Nat} {G : XR (List XA × Bool × Nat)} (h : openGo s ca f l at_ = G) (hG : G ≠ .none) :
    ∃ k, blanksX (s.drop at_) = k ∧ ((Lib.hasPrefix (s.drop (at_ + k)) [62] = true ∧ G = .ok (l, false, at_ + k + 1)) ∨
      (Lib.hasPrefix (s.drop (at_ + k)) [62] = false ∧ Lib.hasPrefix (s.drop (at_ + k)) [47, 62] = true ∧ G = .ok (l, true, at_ + k + 2)) ∨
      (Lib.hasPrefix (s.drop (at_ + k)) [62] = false ∧ Lib.hasPrefix (s.drop (at_ + k)) [47, 62] = false ∧ k = 0 ∧ G = .bad ⟨11, ca, wBegin⟩) ∨
      (Lib.hasPrefix (s.drop (at_ + k)) [62] = false ∧ Lib.hasPrefix (s.drop (at_ + k)) [47, 62] = false ∧ k ≠ 0 ∧ ∃ f' er, attrX f' s ca l (at_ + k) = .bad er ∧ G = .bad er) ∨
      (Lib.hasPrefix (s.drop (at_ + k)) [62] = false ∧ Lib.hasPrefix (s.drop (at_ + k)) [47, 62] = false ∧ k ≠ 0 ∧ ∃ f' a e1, attrX f' s ca l (at_ + k) = .ok (a, e1) ∧ openGo s ca f' (l ++ [a]) e1 = G)) := by
  cases f with
  | zero => exact absurd h.symm hG
  | succ f =>
    rw [openGo] at h
    refine ⟨_, rfl, ?_⟩
    split at h
    · rename_i h1
      exact .inl ⟨h1, h.symm⟩
    · rename_i h1
      split at h
      · rename_i h2
        exact .inr (.inl ⟨by simpa using h1, h2, h.symm⟩)
      · rename_i h2
        split at h
        · rename_i h3
          exact .inr (.inr (.inl ⟨by simpa using h1, by simpa using h2, h3, h.symm⟩))
        · rename_i h3
          split at h
          · exact absurd h.symm hG
          · rename_i er ha
            exact .inr (.inr (.inr (.inl ⟨by simpa using h1, by simpa using h2, h3, f, er, ha, h.symm⟩)))
          · rename_i a e1 ha
            exact .inr (.inr (.inr (.inr ⟨by simpa using h1, by simpa using h2, h3, f, a, e1, ha, h⟩)))
/-- The loop of an element: the token's block with its row. -/
def OpnG (B tb : Nat) (s : ByteArray) (ca : Nat) (nm : List UInt8) (G : XR (List XA × Bool × Nat)) (WT : World) (p : Value) (W : World) : Prop :=
  ∃ k l v f, p = .int .i64 (k : Nat) ∧ k ≤ s.size ∧ openGo s.data.toList ca f l k = G ∧ l.length ≤ k ∧
    BlkAt W tb 60 #[.int .i64 1, .int .i64 ca, .string ⟨nm.toArray⟩, .string ⟨#[]⟩, v, .bool false] ∧ AttrsAt B W l v ∧ Below B WT W

set_option maxRecDepth 100000 in
set_option maxHeartbeats 64000000 in
theorem open_all {base cb : Nat} {s : ByteArray} {c : XS} {w : World} {f : Nat} {R : XR (XT × Nat)} (hs : s.size ≤ 1000000) (h : CutOf base cb s c w) (hno : c.out.length ≤ 1000000) (hca : c.place + 1 ≤ s.size) (hv : openX f s.data.toList c.place = R) (hR : R ≠ .none) :
    Calls Tryz.prog 61 #[.pointer (some ⟨cb, 0, none⟩)] w fun en w' => StepR base cb s w (tokR c R) en w' := by
  by_cases hn00 : nameX (s.data.toList.drop (c.place + 1)) = 0
  · rw [← hv]; exact open_no hs h hca hn00
  obtain ⟨ts, out, p, v, h⟩ := h
  have hbs : base ≤ w.heap.size := by have := h.hcb; have := h.blk.lt; omega
  rw [openX_goR hn00] at hv
  obtain ⟨n, hn⟩ : ∃ n, nameX (s.data.toList.drop (c.place + 1)) = n := ⟨_, rfl⟩
  rw [hn] at hv hn00
  have hn0 := hn00
  obtain ⟨G, hgo⟩ : ∃ G, openGo s.data.toList c.place f [] (c.place + 1 + n) = G := ⟨_, rfl⟩
  rw [hgo] at hv
  have hG : G ≠ .none := fun e => hR (by rw [← hv, e]; rfl)
  subst hv
  clear hR hn00
  obtain ⟨ca, hcc⟩ : ∃ ca, c.place = ca := ⟨_, rfl⟩
  rw [hcc] at hca hn hgo ⊢
  have HGn := Lib.hid hG
  have hls : s.data.toList.length = s.size := by simp
  have hn1 := nameX_le (s.data.toList.drop (ca + 1))
  rw [hn, List.length_drop, hls] at hn1
  obtain ⟨N, hN⟩ : ∃ N, ts.length = N := ⟨_, rfl⟩
  have hNo : N ≤ 1000000 := by rw [← hN]; have := congrArg List.length h.told; simp at this; omega
  obtain ⟨ao, ac, rfl⟩ := ownsRow_slice' h.toks
  have HA := Lib.hid (fun W => nameLen_any (s.extract (ca + 1) s.size) (by simp; omega) W)
  rw [extract_drop, hn] at HA
  obtain ⟨nm, hnm⟩ : ∃ nm, (s.data.toList.drop (ca + 1)).take n = nm := ⟨_, rfl⟩
  rw [hnm]
  have hex : (s.extract (ca + 1) (ca + 1 + n)) = ⟨nm.toArray⟩ := by
    have h1 := extract_list s (ca + 1) (ca + 1 + n)
    rw [show ca + 1 + n - (ca + 1) = n from by omega, hnm] at h1
    rw [← h1]
  have HEX := Lib.hid hex
  have hw0 := h.blk
  rw [hcc, hN] at hw0
  have HK0 := Lib.hid (fun (W : World) (hW : Below (w.alloc dg0).heap.size (w.alloc dg0) W) => (show W.cell? ⟨cb, 0, none⟩ = some (.string s) ∧ W.cell? ⟨cb, 1, none⟩ = some (.int .i64 ca) from
    have h1 := (hw0.alloc dg0).below hW (hw0.alloc _).lt
    ⟨h1.cell 0, h1.cell 1⟩))
  obtain ⟨k0a, k1a⟩ := HK0.out _ (Below.refl _ _)
  have HBS := Lib.hid hbs
  have HH := Lib.hid h
  have HCC := Lib.hid hcc
  have HN := Lib.hid hN
  have HGO := Lib.hid hgo
  have hcl := hw0.lt
  have hcr : ¬ cb = w.heap.size := by omega
  have hcr2 : ¬ w.heap.size = cb := by omega
  have hnz : ((n : Int) == 0) = false := beq_eq_false_iff_ne.2 (by omega)
  obtain ⟨i0, hi0, hz0, hz1, hz2'⟩ := info_parts infoTok
  have q1 : IntKind.i64.wrap ((ca : Int) + 1 + n) = (ca : Int) + 1 + n := wrap_in (by omega) (by omega)
  have q2 : (0 : Int) ≤ (ca : Int) + 1 + n := by omega
  have q3 : (ca : Int) + 1 + n ≤ s.size := by omega
  have q4 : (0 : Int) ≤ (ca : Int) + 1 := by omega
  have q5 : (ca : Int) + 1 ≤ (ca : Int) + 1 + n := by omega
  have q6 : ((ca : Int) + 1).toNat = ca + 1 := by omega
  have q7 : ((ca : Int) + 1 + n).toNat = ca + 1 + n := by omega
  have hcan : ca + 1 + n ≤ s.size := by omega
  clear h hcc hn hgo hG hls hnm hex hw0 hN hbs
  go_enter Tryz.func61, Tryz.ntmps61
  go_wp2
  go_step3
  go_wp2_with (go_at_call 77; refine (HA.out _).mono ?_; rintro en w1 ⟨rfl, hW1⟩; have HW1 := Lib.hid hW1; have hz1w := hW1.size; simp only [World.size_alloc] at hz1w; obtain ⟨k10, k11⟩ := HK0.out w1 hW1)
  have m0 := World.new_ne w1 _ k10
  have m1 := World.new_ne w1 _ k11
  go_region_held3 (fun w' => w'.cell? ⟨cb, 0, none⟩ = some (.string s) ∧ w'.cell? ⟨cb, 1, none⟩ = some (.int .i64 ca)) (go_keep) (fail)
  have HT5 := Lib.hid (show BlkAt (w1.alloc (Obj.cells #[.int .i64 1, .int .i64 ca, .string (s.extract (ca + 1) (ca + 1 + n)), .string ⟨#[]⟩, .slice none 0 0, .bool false] 60)).drew w1.heap.size 60 #[.int .i64 1, .int .i64 ca, .string ⟨nm.toArray⟩, .string ⟨#[]⟩, .slice none 0 0, .bool false] from by rw [HEX.out]; exact (BlkAt.new w1 _ _).drew)
  obtain ⟨tb, htb⟩ : ∃ tb, w1.heap.size = tb := ⟨_, rfl⟩
  obtain ⟨W5, hW5⟩ : ∃ W5, (w1.alloc (Obj.cells #[.int .i64 1, .int .i64 ca, .string (s.extract (ca + 1) (ca + 1 + n)), .string ⟨#[]⟩, .slice none 0 0, .bool false] 60)).drew = W5 := ⟨_, rfl⟩
  have hz5 : W5.heap.size = tb + 1 := by rw [← hW5, ← htb]; simp
  have h15 : Below w1.heap.size w1 W5 := by rw [← hW5]; exact ((Below.refl _ w1).alloc (Nat.le_refl _) _).drew
  rw [htb] at h15 hz1w
  rw [hW5, htb] at HT5
  rw [hW5, htb]
  -- what stays in the loop
  have HK := Lib.hid (fun (W : World) (hW : Below tb W5 W) => HK0.out W (HW1.out.trans ((h15.trans hW).mono (by simp; omega))))
  have HLow := Lib.hid (fun (W : World) (hW : Below tb W5 W) => (show Below w.heap.size w W from ((Below.refl _ w).alloc (Nat.le_refl _) dg0).trans ((HW1.out.trans ((h15.trans hW).mono (by simp; omega))).mono (by simp))))
  have HRes := Lib.hid (fun (W : World) (hW : Below tb W5 W) => (show BlkAt W w.heap.size 28 #[.int .i64 0, .int .i64 0, .string ⟨#[]⟩] from res_keep (HW1.out.trans ((h15.trans hW).mono (by simp; omega)))))
  have H0 := Lib.hid (show OpnG tb tb s ca nm G W5 (.int .i64 ((ca + 1 + n : Nat) : Int)) W5 from ⟨ca + 1 + n, [], .slice none 0 0, f, rfl, hcan, HGO.out, Nat.zero_le _, HT5.out, World.ownsRow_nil _ _ _ _, Below.refl _ _⟩)
  have hbtb : base ≤ tb := by have := HBS.out; omega
  have htr : ¬ tb = w.heap.size := by omega
  have htr2 : ¬ w.heap.size = tb := by omega
  have htc : ¬ tb = cb := by omega
  have htc2 : ¬ cb = tb := by omega
  clear hW5 k0a k1a k10 k11 m0 m1 h15 hW1 q1 q2 q3 q4 q5 q6 q7 htb
  go_wp2
  go_step3
  go_wp2
  go_loopw [3] (fun x W => OpnG tb tb s ca nm G W5 x W) (fun x W => s.size + 1 - (intOf x).toNat)
  case atStart => have := H0.out; push_cast at this; exact this
  case round =>
    obtain ⟨k, l, v5, f2, rfl, hk, hgo2, hlk, hT, hAt, hW⟩ := hrel
    obtain ⟨kk, hkk, hcase⟩ := openGo_step2 hgo2 HGn.out
    have hls : s.data.toList.length = s.size := by simp
    have hkl := blanksX_le (s.data.toList.drop k)
    rw [hkk, List.length_drop, hls] at hkl
    have HBl := Lib.hid (fun W => blanks_any (s.extract k s.size) (by simp; omega) W)
    rw [extract_drop, hkk] at HBl
    have HW := Lib.hid hW
    have HT := Lib.hid hT
    have HAt := Lib.hid hAt
    have hsz := hW.size
    rw [hz5] at hsz
    have hbz : tb ≤ wr.heap.size := by omega
    obtain ⟨k0, k1⟩ := HK.out _ hW
    clear hls hkk hgo2 hW hT hAt
    rcases hcase with ⟨hp1, hGe⟩ | ⟨hp1, hp2, hGe⟩ | ⟨hp1, hp2, hk0, hGe⟩ | ⟨hp1, hp2, hk0, f3, er, ha, hGe⟩ | ⟨hp1, hp2, hk0, f3, a, e1, ha, hgo3⟩
    · have HP1 := Lib.hid (show Lib.hasPrefix (s.extract (k + kk) s.size).data.toList [62] = true by rw [extract_drop]; exact hp1)
      obtain ⟨av, cv, rfl⟩ := ownsRow_slice' HAt.out
      have HGe := Lib.hid hGe
      clear hp1 hGe
      go_wp2_with (first
        | (go_at_call 79; refine (HBl.out _).mono ?_; rintro en w2 ⟨rfl, hW2⟩; have hz2 := hW2.size; have HW2 := Lib.hid (HW.out.trans (hW2.mono hbz)); have HT2 := Lib.hid (HT.out.below hW2 HT.out.lt); have HAt2 := Lib.hid (own_keep HAt.out (fun g hg => hW2.block g (own_lt HAt.out hg))); obtain ⟨k20, k21⟩ := HK.out _ HW2.out)
        | (go_at_call 56; refine (Tryz.strings_HasPrefix _ _ _).mono ?_; rintro en w3 ⟨rfl, rfl⟩; rw [HP1.out]))
      have hlow := HLow.out _ HW2.out
      have hI2 := HH.out.below hlow
      have HI := Lib.hid (show CutI base cb s c ts (.slice ao ts.length ac) p v (w3).drew from ⟨hI2.hcb, hI2.blk.drew, hI2.self, hI2.text.drew, hI2.toks.drew, hI2.told, fun q hq => (hI2.attrs q hq).drew⟩)
      have HRr := Lib.hid (show BlkAt (w3).drew w.heap.size 28 #[.int .i64 0, .int .i64 0, .string ⟨#[]⟩] from (HRes.out _ HW2.out).drew)
      have HKX := Lib.hid (show KeepX base w (w3).drew from KeepX.of_below hlow.drew HBS.out)
      have HAb := Lib.hid (show AttrsAt base (w3).drew l (.slice av l.length cv) from (ownsRow_mono HAt2.out hbtb).drew)
      have hzW : base ≤ (w3).heap.size := Nat.le_trans HBS.out hlow.size
      obtain ⟨V, hV⟩ : ∃ V, w3 = V := ⟨_, rfl⟩
      rw [hV] at HI HRr HKX HAb hzW
      have HTV := Lib.hid (show BlkAt V tb 60 #[.int .i64 1, .int .i64 ca, .string ⟨nm.toArray⟩, .string ⟨#[]⟩, .slice av l.length cv, .bool false] from by rw [← hV]; exact HT2.out)
      rw [hV]
      have c20 : V.cell? ⟨cb, 2, none⟩ = some (.slice ao N ac) := by rw [← HN.out]; exact HI.out.blk.cell 2
      have c2a : (V.drew.alloc (Obj.cells #[.int .i64 1, .int .i64 ca, .string ⟨nm.toArray⟩, .string ⟨#[]⟩, .slice av l.length cv, .bool false] 60)).cell? ⟨cb, 2, none⟩ = some (.slice ao N ac) := by rw [← HN.out]; exact (HI.out.blk.alloc _).cell 2
      have c2b : (V.alloc (Obj.cells #[.int .i64 1, .int .i64 ca, .string ⟨nm.toArray⟩, .string ⟨#[]⟩, .slice av l.length cv, .bool false] 60)).cell? ⟨cb, 2, none⟩ = some (.slice ao N ac) := c2a
      have t0 := HTV.out.cell 0
      have t1 := HTV.out.cell 1
      have t2 := HTV.out.cell 2
      have t3 := HTV.out.cell 3
      have t4 := HTV.out.cell 4
      have t5 := HTV.out.cell 5
      clear hV k20 k21 hW2 hI2 hlow
      go_region_law ((refine step_append_lies _ (by rfl) _ _ _ (by rfl) base 60 i0 _ 6 80 Tryz.underlying79 hi0 hz0 hz1 hz2' rfl (by omega) (.slice ao N ac) N (ts.flatMap tokCells) (by rfl) (by have := HI.out.toks.alloc (.cells #[.int .i64 1, .int .i64 ca, .string ⟨nm.toArray⟩, .string ⟨#[]⟩, .slice av l.length cv, .bool false] 60); rw [HN.out] at this; exact this) ⟨V.heap.size, 0, none⟩ 1 1 [.int .i64 1, .int .i64 ca, .string ⟨nm.toArray⟩, .string ⟨#[]⟩, .slice av l.length cv, .bool false] (by rfl) (by rfl) (World.news_of_block (cs := #[.int .i64 1, .int .i64 ca, .string ⟨nm.toArray⟩, .string ⟨#[]⟩, .slice av l.length cv, .bool false]) (t := 60) (fr := (0, 0)) (heap_alloc_new V.drew _)) (by simp [Value.oneCell']) (by omega) (by unfold maxLen; omega) (by omega) (by have e0 : V.drew.heap.size = V.heap.size := rfl; simp; omega) (V.heap.size + 1) (by simp) ?_; intro gg cap w8 hown1 hgrow hat hlt1; obtain ⟨⟨b3, r3⟩, hend⟩ := (tok_end (q := (⟨1, ca, nm, [], l, false⟩, .slice av l.length cv)) HI.out HRr.out HBS.out HAb.out (by rw [HN.out]; exact hown1) (by rw [HN.out]; exact hgrow)); have f2 := b3.frozen 2; have f1 := b3.frozen 1; have d2 := b3.cell 2; have d1 : w8.cell? ⟨cb, 1, none⟩ = some (.int .i64 c.place) := b3.cell 1; obtain ⟨⟨r0, r1, r2⟩, g0, g1, g2⟩ := res_cells r3))
      all_goals
        rw [HN.out] at hend
        have hE := hend (k + (kk + 1))
        rw [show (((k + (kk + 1) : Nat)) : Int) = (k : Int) + ((kk : Int) + 1) from by omega] at hE
        have HE := Lib.hid hE
        clear hend hE hown1 hgrow hat hlt1 b3 r3 c20 c2a c2b t0 t1 t2 t3 t4 t5
        go_wp2
        refine bodyPost_ret (results_c rfl rfl aggDiag rfl HE.out.1) rfl ?_
        rw [HGe.out]
        exact ⟨rfl, HE.out.2.1, (HKX.out.trans HE.out.2.2.1).fresh HE.out.2.2.2.1 (Nat.le_refl _) HBS.out⟩
    · have HP1 := Lib.hid (show Lib.hasPrefix (s.extract (k + kk) s.size).data.toList [62] = false by rw [extract_drop]; exact hp1)
      have HP2 := Lib.hid (show Lib.hasPrefix (s.extract (k + kk) s.size).data.toList [47, 62] = true by rw [extract_drop]; exact hp2)
      obtain ⟨av, cv, rfl⟩ := ownsRow_slice' HAt.out
      have HGe := Lib.hid hGe
      clear hp1 hp2 hGe
      go_wp2_with (first
        | (go_at_call 79; refine (HBl.out _).mono ?_; rintro en w2 ⟨rfl, hW2⟩; have hz2 := hW2.size; have HW2 := Lib.hid (HW.out.trans (hW2.mono hbz)); have HT2 := Lib.hid (HT.out.below hW2 HT.out.lt); have HAt2 := Lib.hid (own_keep HAt.out (fun g hg => hW2.block g (own_lt HAt.out hg))); obtain ⟨k20, k21⟩ := HK.out _ HW2.out; have ft5 : w2.frozen? ⟨tb, 5, none⟩ = false := (HT2.out.frozen 5); have ct5 := (HT2.out.cell 5))
        | (go_at_call 56; refine (Tryz.strings_HasPrefix _ _ _).mono ?_; rintro en w3 ⟨rfl, rfl⟩; first | rw [HP1.out] | rw [HP2.out]))
      have HT3 := Lib.hid (HT2.out.set 5 (.bool true))
      have HW3 := Lib.hid (HW2.out.setCell (p := ⟨tb, 5, none⟩) (Nat.le_refl _) (.bool true))
      have HAt3 := Lib.hid (HAt2.out.kept (grown_set _ tb 5 (.bool true)) (.inr (blk_ne HAt2.out HT2.out (by decide))))
      have hlow := HLow.out _ HW3.out
      have hI2 := HH.out.below hlow
      have HI := Lib.hid (show CutI base cb s c ts (.slice ao ts.length ac) p v (w3.setCell ⟨tb, 5, none⟩ (.bool true)).drew from ⟨hI2.hcb, hI2.blk.drew, hI2.self, hI2.text.drew, hI2.toks.drew, hI2.told, fun q hq => (hI2.attrs q hq).drew⟩)
      have HRr := Lib.hid (show BlkAt (w3.setCell ⟨tb, 5, none⟩ (.bool true)).drew w.heap.size 28 #[.int .i64 0, .int .i64 0, .string ⟨#[]⟩] from (HRes.out _ HW3.out).drew)
      have HKX := Lib.hid (show KeepX base w (w3.setCell ⟨tb, 5, none⟩ (.bool true)).drew from KeepX.of_below hlow.drew HBS.out)
      have HAb := Lib.hid (show AttrsAt base (w3.setCell ⟨tb, 5, none⟩ (.bool true)).drew l (.slice av l.length cv) from (ownsRow_mono HAt3.out hbtb).drew)
      have hzW : base ≤ (w3.setCell ⟨tb, 5, none⟩ (.bool true)).heap.size := Nat.le_trans HBS.out hlow.size
      obtain ⟨V, hV⟩ : ∃ V, w3.setCell ⟨tb, 5, none⟩ (.bool true) = V := ⟨_, rfl⟩
      rw [hV] at HI HRr HKX HAb hzW
      have HTV := Lib.hid (show BlkAt V tb 60 #[.int .i64 1, .int .i64 ca, .string ⟨nm.toArray⟩, .string ⟨#[]⟩, .slice av l.length cv, .bool true] from by rw [← hV]; exact HT3.out)
      rw [hV]
      have c20 : V.cell? ⟨cb, 2, none⟩ = some (.slice ao N ac) := by rw [← HN.out]; exact HI.out.blk.cell 2
      have c2a : (V.drew.alloc (Obj.cells #[.int .i64 1, .int .i64 ca, .string ⟨nm.toArray⟩, .string ⟨#[]⟩, .slice av l.length cv, .bool true] 60)).cell? ⟨cb, 2, none⟩ = some (.slice ao N ac) := by rw [← HN.out]; exact (HI.out.blk.alloc _).cell 2
      have c2b : (V.alloc (Obj.cells #[.int .i64 1, .int .i64 ca, .string ⟨nm.toArray⟩, .string ⟨#[]⟩, .slice av l.length cv, .bool true] 60)).cell? ⟨cb, 2, none⟩ = some (.slice ao N ac) := c2a
      have t0 := HTV.out.cell 0
      have t1 := HTV.out.cell 1
      have t2 := HTV.out.cell 2
      have t3 := HTV.out.cell 3
      have t4 := HTV.out.cell 4
      have t5 := HTV.out.cell 5
      clear hV k20 k21 hW2 hI2 hlow ft5 ct5
      go_region_law ((refine step_append_lies _ (by rfl) _ _ _ (by rfl) base 60 i0 _ 6 80 Tryz.underlying79 hi0 hz0 hz1 hz2' rfl (by omega) (.slice ao N ac) N (ts.flatMap tokCells) (by rfl) (by have := HI.out.toks.alloc (.cells #[.int .i64 1, .int .i64 ca, .string ⟨nm.toArray⟩, .string ⟨#[]⟩, .slice av l.length cv, .bool true] 60); rw [HN.out] at this; exact this) ⟨V.heap.size, 0, none⟩ 1 1 [.int .i64 1, .int .i64 ca, .string ⟨nm.toArray⟩, .string ⟨#[]⟩, .slice av l.length cv, .bool true] (by rfl) (by rfl) (World.news_of_block (cs := #[.int .i64 1, .int .i64 ca, .string ⟨nm.toArray⟩, .string ⟨#[]⟩, .slice av l.length cv, .bool true]) (t := 60) (fr := (0, 0)) (heap_alloc_new V.drew _)) (by simp [Value.oneCell']) (by omega) (by unfold maxLen; omega) (by omega) (by have e0 : V.drew.heap.size = V.heap.size := rfl; simp; omega) (V.heap.size + 1) (by simp) ?_; intro gg cap w8 hown1 hgrow hat hlt1; obtain ⟨⟨b3, r3⟩, hend⟩ := (tok_end (q := (⟨1, ca, nm, [], l, true⟩, .slice av l.length cv)) HI.out HRr.out HBS.out HAb.out (by rw [HN.out]; exact hown1) (by rw [HN.out]; exact hgrow)); have f2 := b3.frozen 2; have f1 := b3.frozen 1; have d2 := b3.cell 2; have d1 : w8.cell? ⟨cb, 1, none⟩ = some (.int .i64 c.place) := b3.cell 1; obtain ⟨⟨r0, r1, r2⟩, g0, g1, g2⟩ := res_cells r3))
      all_goals
        rw [HN.out] at hend
        have hE := hend (k + (kk + 2))
        rw [show (((k + (kk + 2) : Nat)) : Int) = (k : Int) + ((kk : Int) + 2) from by omega] at hE
        have HE := Lib.hid hE
        clear hend hE hown1 hgrow hat hlt1 b3 r3 c20 c2a c2b t0 t1 t2 t3 t4 t5
        go_wp2
        refine bodyPost_ret (results_c rfl rfl aggDiag rfl HE.out.1) rfl ?_
        rw [HGe.out]
        exact ⟨rfl, HE.out.2.1, (HKX.out.trans HE.out.2.2.1).fresh HE.out.2.2.2.1 (Nat.le_refl _) HBS.out⟩
    · have HP1 := Lib.hid (show Lib.hasPrefix (s.extract (k + kk) s.size).data.toList [62] = false by rw [extract_drop]; exact hp1)
      have HP2 := Lib.hid (show Lib.hasPrefix (s.extract (k + kk) s.size).data.toList [47, 62] = false by rw [extract_drop]; exact hp2)
      have HGe := Lib.hid hGe
      have hkz : ((kk : Int) == 0) = true := beq_iff_eq.2 (by omega)
      clear hp1 hp2 hGe hk0
      go_wp2_with (first
        | (go_at_call 79; refine (HBl.out _).mono ?_; rintro en w2 ⟨rfl, hW2⟩; have hz2 := hW2.size; have HW2 := Lib.hid (HW.out.trans (hW2.mono hbz)); obtain ⟨k20, k21⟩ := HK.out _ HW2.out)
        | (go_at_call 56; refine (Tryz.strings_HasPrefix _ _ _).mono ?_; rintro en w3 ⟨rfl, rfl⟩; first | rw [HP1.out] | rw [HP2.out])
        | (go_at_call 52; refine (wrong_any _ _ _).mono ?_; rintro en w4 ⟨rfl, hW4⟩; have HW4 := Lib.hid (HW2.out.trans (hW4.mono (by have := HW2.out.size; omega))); have hr := (HRes.out _ HW4.out); obtain ⟨⟨r0, r1, r2⟩, g0, g1, g2⟩ := res_cells hr))
      have hT := three_sets (.int .i64 11) (.int .i64 ca) (.string ⟨#[98, 101, 103, 105, 110]⟩) hr
      refine bodyPost_ret (results_c rfl rfl aggDiag rfl hT.1) rfl ?_
      rw [HGe.out]
      have hlow := HLow.out _ HW4.out
      exact ⟨rfl, KeepX.of_below (hlow.trans (grown_below hT.2 (Nat.le_refl _) hlow.size)) HBS.out⟩
    · have HP1 := Lib.hid (show Lib.hasPrefix (s.extract (k + kk) s.size).data.toList [62] = false by rw [extract_drop]; exact hp1)
      have HP2 := Lib.hid (show Lib.hasPrefix (s.extract (k + kk) s.size).data.toList [47, 62] = false by rw [extract_drop]; exact hp2)
      have Ha := Lib.hid ha
      have HGe := Lib.hid hGe
      have hez : ((er.code : Int) == 0) = false := by rw [attrX_code ha]; rfl
      have hkz : ((kk : Int) == 0) = false := beq_eq_false_iff_ne.2 (by omega)
      have HHb := Lib.hid (fun (W : World) (hW : Below tb W5 W) => (show BlkAt W cb 95 (cutCells s ca (.slice ao N ac) p v c.since) from by
        have := (HH.out.below (HLow.out W hW)).blk
        rw [HCC.out, HN.out] at this
        exact this))
      have HAT := Lib.hid (fun (W : World) (hW : Below tb W5 W) (hT : BlkAt W tb 60 #[.int .i64 1, .int .i64 ca, .string ⟨nm.toArray⟩, .string ⟨#[]⟩, v5, .bool false]) (hA : AttrsAt tb W l v5) => (show Calls Tryz.prog 80 #[.pointer (some ⟨cb, 0, none⟩), .pointer (some ⟨tb, 0, none⟩), .int .i64 ((k : Int) + kk)] W fun en w' => AttrQ tb tb l (.bad er) (.int .i64 1) (.int .i64 ca) (.string ⟨nm.toArray⟩) (.string ⟨#[]⟩) (.bool false) W en w' from by
        have := attr_bad (B := tb) (at_ := k + kk) hs (HHb.out W hW) hT hA (by omega) (Nat.le_refl _) (by omega) Ha.out
        push_cast at this
        exact this))
      clear hp1 hp2 ha hGe
      go_wp2_with (first
        | (go_at_call 79; refine (HBl.out _).mono ?_; rintro en w2 ⟨rfl, hW2⟩; have hz2 := hW2.size; have HW2 := Lib.hid (HW.out.trans (hW2.mono hbz)); have HT2 := Lib.hid (HT.out.below hW2 HT.out.lt); have HAt2 := Lib.hid (own_keep HAt.out (fun g hg => hW2.block g (own_lt HAt.out hg))); obtain ⟨k20, k21⟩ := HK.out _ HW2.out)
        | (go_at_call 56; refine (Tryz.strings_HasPrefix _ _ _).mono ?_; rintro en w3 ⟨rfl, rfl⟩; first | rw [HP1.out] | rw [HP2.out])
        | (go_at_call 80; refine (HAT.out _ HW2.out HT2.out HAt2.out).mono ?_; rintro en w4 ⟨rfl, hB4⟩; have hz4 := hB4.size; have HW4 := Lib.hid (HW2.out.trans (hB4.mono (by omega))); clear hB4)
        | (go_at_call 35; refine (fine_any er.code er.place ⟨er.what.toArray⟩ _).mono ?_; rintro en w6 ⟨rfl, hW6⟩; have HW6 := Lib.hid ((HW4.out.alloc (by omega) _).trans (hW6.mono (by simp; omega))); have hr := (HRes.out _ HW6.out); obtain ⟨⟨r0, r1, r2⟩, g0, g1, g2⟩ := res_cells hr; have hd := ((BlkAt.new w4 28 #[.int .i64 er.code, .int .i64 er.place, .string ⟨er.what.toArray⟩]).below hW6 (by simp)); obtain ⟨⟨d0, d1, d2⟩, e0, e1, e2⟩ := res_cells hd))
      have hT := three_sets (.int .i64 er.code) (.int .i64 er.place) (.string ⟨er.what.toArray⟩) hr
      refine bodyPost_ret (results_c rfl rfl aggDiag rfl hT.1) rfl ?_
      rw [HGe.out]
      have hlow := HLow.out _ HW6.out
      exact ⟨rfl, KeepX.of_below (hlow.trans (grown_below hT.2 (Nat.le_refl _) hlow.size)) HBS.out⟩
    · have HP1 := Lib.hid (show Lib.hasPrefix (s.extract (k + kk) s.size).data.toList [62] = false by rw [extract_drop]; exact hp1)
      have HP2 := Lib.hid (show Lib.hasPrefix (s.extract (k + kk) s.size).data.toList [47, 62] = false by rw [extract_drop]; exact hp2)
      obtain ⟨x1, x2, x3⟩ := attrX_bd (show k + kk ≤ s.data.toList.length by simp; omega) ha
      have x2' : e1 ≤ s.size := by simpa using x2
      have HGo3 := Lib.hid hgo3
      have Ha := Lib.hid ha
      have hkz : ((kk : Int) == 0) = false := beq_eq_false_iff_ne.2 (by omega)
      have HHb := Lib.hid (fun (W : World) (hW : Below tb W5 W) => (show BlkAt W cb 95 (cutCells s ca (.slice ao N ac) p v c.since) from by
        have := (HH.out.below (HLow.out W hW)).blk
        rw [HCC.out, HN.out] at this
        exact this))
      have HAT := Lib.hid (fun (W : World) (hW : Below tb W5 W) (hT : BlkAt W tb 60 #[.int .i64 1, .int .i64 ca, .string ⟨nm.toArray⟩, .string ⟨#[]⟩, v5, .bool false]) (hA : AttrsAt tb W l v5) => (show Calls Tryz.prog 80 #[.pointer (some ⟨cb, 0, none⟩), .pointer (some ⟨tb, 0, none⟩), .int .i64 ((k : Int) + kk)] W fun en w' => AttrQ tb tb l (.ok (a, e1)) (.int .i64 1) (.int .i64 ca) (.string ⟨nm.toArray⟩) (.string ⟨#[]⟩) (.bool false) W en w' from by
        have := attr_ok (B := tb) (at_ := k + kk) hs (HHb.out W hW) hT hA (by omega) (Nat.le_refl _) (by omega) Ha.out
        push_cast at this
        exact this))
      clear hp1 hp2 ha hgo3 x3 x2
      go_wp2_with (first
        | (go_at_call 79; refine (HBl.out _).mono ?_; rintro en w2 ⟨rfl, hW2⟩; have hz2 := hW2.size; have HW2 := Lib.hid (HW.out.trans (hW2.mono hbz)); have HT2 := Lib.hid (HT.out.below hW2 HT.out.lt); have HAt2 := Lib.hid (own_keep HAt.out (fun g hg => hW2.block g (own_lt HAt.out hg))); obtain ⟨k20, k21⟩ := HK.out _ HW2.out)
        | (go_at_call 56; refine (Tryz.strings_HasPrefix _ _ _).mono ?_; rintro en w3 ⟨rfl, rfl⟩; first | rw [HP1.out] | rw [HP2.out])
        | (go_at_call 80; refine (HAT.out _ HW2.out HT2.out HAt2.out).mono ?_; rintro en w4 ⟨rfl, v', hT4, hA4, hB4⟩; have hz4 := hB4.size; have HW4 := Lib.hid (HW2.out.trans hB4); have HT4 := Lib.hid hT4; have HA4 := Lib.hid hA4; clear hT4 hA4 hB4)
        | (go_at_call 35; refine (fine_any 0 0 ⟨#[]⟩ _).mono ?_; rintro en w6 ⟨rfl, hW6⟩; have HW6 := Lib.hid ((HW4.out.alloc (by omega) dg0).trans (hW6.mono (by simp; omega))); have HT6 := Lib.hid ((HT4.out.alloc dg0).below hW6 (HT4.out.alloc _).lt); have HA6 := Lib.hid (own_keep (World.ownsRow.alloc HA4.out dg0) (fun g hg => hW6.block g (own_lt (World.ownsRow.alloc HA4.out dg0) hg)))))
      go_roundw
      case rel => exact ⟨e1, l ++ [a], v', f3, by go_num, x2', HGo3.out, by simp; omega, HT6.out, HA6.out, HW6.out⟩
      case measure => simp [intOf]; omega
end Go.Proofs.YtlldpmjnledhgaaGreatDoor
