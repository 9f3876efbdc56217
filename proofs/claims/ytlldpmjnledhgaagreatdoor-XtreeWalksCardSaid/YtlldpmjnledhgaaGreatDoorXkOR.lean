/- The walk of the cutter's close: the token. The walk of the cutter's open, where there is one attribute or none. -/
import Derived.Test.YtlldpmjnledhgaaGreatDoorXkN
namespace Go.Proofs.YtlldpmjnledhgaaGreatDoor
open Go.RowKit
set_option linter.unusedVariables false

set_option maxRecDepth 100000 in
set_option maxHeartbeats 16000000 in
theorem close_ok {base cb : Nat} {s : ByteArray} {c : XS} {w : World} (hs : s.size ≤ 1000000) (h : CutOf base cb s c w) (hno : c.out.length ≤ 1000000) (hca : c.place + 2 ≤ s.size) {n b : Nat} (hn : nameX (s.data.toList.drop (c.place + 2)) = n) (hb : blanksX (s.data.toList.drop (c.place + 2 + n)) = b) (hbad : ¬ (n = 0 ∨ s.data.toList[c.place + 2 + n + b]? ≠ some 62)) :
    Calls Tryz.prog 60 #[.pointer (some ⟨cb, 0, none⟩)] w fun e w' => StepR base cb s w (tokR c (closeX s.data.toList c.place)) e w' := by
  obtain ⟨ts, out, p, v, h⟩ := h
  obtain ⟨A1, A2, A3⟩ := h.apart
  have hbs : base ≤ w.heap.size := by have := h.hcb; have := h.blk.lt; omega
  obtain ⟨ca, hcc⟩ : ∃ ca, c.place = ca := ⟨_, rfl⟩
  rw [hcc] at hn hb hbad
  have hls : s.data.toList.length = s.size := by simp
  have hn1 := nameX_le (s.data.toList.drop (ca + 2))
  rw [hn, List.length_drop, hls] at hn1
  have hb1 := blanksX_le (s.data.toList.drop (ca + 2 + n))
  rw [hb, List.length_drop, hls] at hb1
  rw [hcc] at hca
  have HA := Lib.hid (fun W => nameLen_any (s.extract (ca + 2) s.size) (by simp; omega) W)
  have HB := Lib.hid (fun W => blanks_any (s.extract (ca + 2 + n) s.size) (by simp; omega) W)
  rw [extract_drop, hn] at HA
  rw [extract_drop, hb] at HB
  obtain ⟨N, hN⟩ : ∃ N, ts.length = N := ⟨_, rfl⟩
  have hNo : N ≤ 1000000 := by rw [← hN]; have := congrArg List.length h.told; simp at this; omega
  obtain ⟨ao, ac, rfl⟩ := ownsRow_slice' h.toks
  have hw0 := h.blk
  rw [hcc, hN] at hw0
  -- the cutter's cells, wherever the walk stands
  have HK := Lib.hid (fun (W : World) (hW : Below (w.alloc dg0).heap.size (w.alloc dg0) W) => (show W.cell? ⟨cb, 0, none⟩ = some (.string s) ∧ W.cell? ⟨cb, 1, none⟩ = some (.int .i64 ca) ∧ W.cell? ⟨cb, 2, none⟩ = some (.slice ao N ac) from
    have h1 := (hw0.alloc dg0).below hW (hw0.alloc _).lt
    ⟨h1.cell 0, h1.cell 1, h1.cell 2⟩))
  have HH := Lib.hid h
  have HCC := Lib.hid hcc
  have HN := Lib.hid hN
  obtain ⟨k0a, k1a, k2a⟩ := HK.out _ (Below.refl _ _)
  clear k2a
  -- the end at a refusal
  have hbad : ∀ (W : World), Below (w.alloc dg0).heap.size (w.alloc dg0) W → ∀ Y : World, W.grownBy Y (some w.heap.size) → KeepX base w Y := by
    intro W hW Y hY
    have h1 : Below w.heap.size w Y := (((Below.refl _ w).alloc (Nat.le_refl _) _).trans (hW.mono (by simp))).trans (grown_below hY (Nat.le_refl _) (by have := hW.size; simp at this; omega))
    exact KeepX.of_below h1 hbs
  have HBAD := Lib.hid hbad
  clear hbad
  have hn0 : n ≠ 0 := fun e => hbad (.inl e)
  have he : s.data.toList[ca + 2 + n + b]? = some 62 := by
    apply Decidable.byContradiction
    exact fun e => hbad (.inr e)
  have hlt : ca + 2 + n + b < s.size := by rw [← hls]; exact (List.getElem?_eq_some_iff.1 he).1
  have HR := Lib.hid (show tokR c (closeX s.data.toList c.place) = .ok { c with out := c.out ++ [⟨2, ca, (s.data.toList.drop (ca + 2)).take n, [], [], false⟩], place := ca + 2 + n + b + 1 } by rw [hcc, closeX_yes hn hb hn0 he]; rfl)
  have heq : (s[ca + 2 + n + b].toNat : Int) = 62 := byte_eq hlt he
  have heq2 : ((s[ca + 2 + n + b].toNat : Int) == 62) = true := beq_iff_eq.2 heq
  have hnz : ((n : Int) == 0) = false := beq_eq_false_iff_ne.2 (by omega)
  obtain ⟨i0, hi0, hz0, hz1, hz2'⟩ := info_parts infoTok
  clear h hcc hls hn hb hw0 hbad he hN
  go_enter Tryz.func60, Tryz.ntmps60
  go_wp2_with (first
          | (go_at_call 77; refine (HA.out _).mono ?_; rintro e w1 ⟨rfl, hW1⟩; obtain ⟨k10, k11, k12⟩ := HK.out w1 hW1; clear k12)
          | (go_at_call 79; refine (HB.out _).mono ?_; rintro e w2 ⟨rfl, hW2⟩; have HW2 := Lib.hid (hW1.trans (hW2.mono hW1.size)); obtain ⟨k20, k21, k22⟩ := HK.out w2 HW2.out; clear k10 k11))
  have hI2 := HH.out.below ((((Below.refl _ w).alloc (Nat.le_refl _) _).trans (HW2.out.mono (by simp))))
  have HI := Lib.hid (show CutI base cb s c ts (.slice ao ts.length ac) p v w2.drew from ⟨hI2.hcb, hI2.blk.drew, hI2.self, hI2.text.drew, hI2.toks.drew, hI2.told, fun q hq => (hI2.attrs q hq).drew⟩)
  have HR2 := Lib.hid (show BlkAt w2.drew w.heap.size 28 #[.int .i64 0, .int .i64 0, .string ⟨#[]⟩] from (res_keep HW2.out).drew)
  have HK2 := Lib.hid (show KeepX base w w2.drew from KeepX.of_below (show Below w.heap.size w w2.drew from (((Below.refl _ w).alloc (Nat.le_refl _) _).trans (HW2.out.mono (by simp))).drew) hbs)
  have hex : (s.extract (ca + 2) (ca + 2 + n)) = ⟨((s.data.toList.drop (ca + 2)).take n).toArray⟩ := by
    have h1 := extract_list s (ca + 2) (ca + 2 + n)
    rw [show ca + 2 + n - (ca + 2) = n from by omega] at h1
    rw [← h1]
  have HEX := Lib.hid hex
  have hz2 : base ≤ w2.heap.size := by have := HW2.out.size; simp at this; omega
  have k2a : (w2.drew.alloc (Obj.cells #[.int .i64 2, .int .i64 ca, .string (s.extract (ca + 2) (ca + 2 + n)), .string ⟨#[]⟩, .slice none 0 0, .bool false] 60)).cell? ⟨cb, 2, none⟩ = some (.slice ao N ac) := by rw [← HN.out]; exact (HI.out.blk.alloc _).cell 2
  have k2b : (w2.alloc (Obj.cells #[.int .i64 2, .int .i64 ca, .string (s.extract (ca + 2) (ca + 2 + n)), .string ⟨#[]⟩, .slice none 0 0, .bool false] 60)).cell? ⟨cb, 2, none⟩ = some (.slice ao N ac) := k2a
  clear hI2 hex hW1 hW2 A1 A2 A3
  have q1 : IntKind.i64.wrap ((ca : Int) + 2 + n) = (ca : Int) + 2 + n := wrap_in (by omega) (by omega)
  have q2 : (0 : Int) ≤ (ca : Int) + 2 + n := by omega
  have q3 : (ca : Int) + 2 + n ≤ s.size := by omega
  have q4 : (0 : Int) ≤ (ca : Int) + 2 := by omega
  have q5 : (ca : Int) + 2 ≤ (ca : Int) + 2 + n := by omega
  have q6 : ((ca : Int) + 2).toNat = ca + 2 := by omega
  have q7 : ((ca : Int) + 2 + n).toNat = ca + 2 + n := by omega
  go_region_law ((refine step_append_lies _ (by rfl) _ _ _ (by rfl) base 60 i0 _ 6 80 Tryz.underlying79 hi0 hz0 hz1 hz2' rfl (by omega) (.slice ao N ac) N (ts.flatMap tokCells) (by rfl) (by have := HI.out.toks.alloc (.cells #[.int .i64 2, .int .i64 ca, .string (s.extract (ca + 2) (ca + 2 + n)), .string ⟨#[]⟩, .slice none 0 0, .bool false] 60); rw [HN.out] at this; exact this) ⟨w2.heap.size, 0, none⟩ 1 1 [.int .i64 2, .int .i64 ca, .string (s.extract (ca + 2) (ca + 2 + n)), .string ⟨#[]⟩, .slice none 0 0, .bool false] (by rfl) (by rfl) (World.news_of_block (cs := #[.int .i64 2, .int .i64 ca, .string (s.extract (ca + 2) (ca + 2 + n)), .string ⟨#[]⟩, .slice none 0 0, .bool false]) (t := 60) (fr := (0, 0)) (heap_alloc_new w2.drew _)) (by simp [Value.oneCell']) (by omega) (by unfold maxLen; omega) (by omega) (by have e0 : w2.drew.heap.size = w2.heap.size := rfl; simp; omega) (w2.heap.size + 1) (by simp) ?_; intro gg cap w3 hown1 hgrow hat hlt1; obtain ⟨⟨b3, r3⟩, hend⟩ := (tok_end (q := (⟨2, ca, (s.data.toList.drop (ca + 2)).take n, [], [], false⟩, .slice none 0 0)) HI.out HR2.out hbs (World.ownsRow_nil _ _ _ _) (by rw [HN.out]; rw [HEX.out] at hown1; exact hown1) (by rw [HEX.out] at hgrow; rw [HN.out]; exact hgrow)); have f2 := b3.frozen 2; have f1 := b3.frozen 1; have c2 := b3.cell 2; have c1 : w3.cell? ⟨cb, 1, none⟩ = some (.int .i64 c.place) := b3.cell 1; obtain ⟨⟨r0, r1, r2⟩, g0, g1, g2⟩ := res_cells r3))
  all_goals
    rw [HN.out] at hend
    have hE := hend (ca + 2 + n + b + 1)
    rw [show (((ca + 2 + n + b + 1 : Nat)) : Int) = (ca : Int) + 2 + n + b + 1 from by omega] at hE
    have hcr : ¬ cb = w.heap.size := hE.2.2.2.2
    have hcr2 : ¬ w.heap.size = cb := fun e => hcr e.symm
    have HE := Lib.hid hE
    clear hend hE hown1 hgrow hat hlt1 b3 r3 k20 k21 k22 k2a k2b
    go_wp2
    refine bodyPost_ret (results_c rfl rfl aggDiag rfl HE.out.1) rfl ?_
    rw [HR.out]
    exact ⟨rfl, HE.out.2.1, (HK2.out.trans HE.out.2.2.1).fresh HE.out.2.2.2.1 (Nat.le_refl _) hbs⟩

theorem close_in {base cb : Nat} {s : ByteArray} {c : XS} {w : World} (hs : s.size ≤ 1000000) (h : CutOf base cb s c w) (hno : c.out.length ≤ 1000000) (hca : c.place + 2 ≤ s.size) :
    Calls Tryz.prog 60 #[.pointer (some ⟨cb, 0, none⟩)] w fun e w' => StepR base cb s w (tokR c (closeX s.data.toList c.place)) e w' := by
  by_cases hbad : nameX (s.data.toList.drop (c.place + 2)) = 0 ∨ s.data.toList[c.place + 2 + nameX (s.data.toList.drop (c.place + 2)) + blanksX (s.data.toList.drop (c.place + 2 + nameX (s.data.toList.drop (c.place + 2))))]? ≠ some 62
  · exact close_bad hs h hno hca rfl rfl hbad
  · exact close_ok hs h hno hca rfl rfl hbad
end Go.Proofs.YtlldpmjnledhgaaGreatDoor
namespace Go.Proofs.YtlldpmjnledhgaaGreatDoor
open Go.RowKit
set_option linter.unusedVariables false

theorem openGo_step {s : List UInt8} {ca f : Nat} {l l' : List XA} {at_ e : Nat} {em : Bool} (h : openGo s ca f l at_ = .ok (l', em, e)) (hl : l.length = 1 → l'.length ≤ 1) :
    ∃ k, blanksX (s.drop at_) = k ∧ ((Lib.hasPrefix (s.drop (at_ + k)) [62] = true ∧ l' = l ∧ em = false ∧ e = at_ + k + 1) ∨
      (Lib.hasPrefix (s.drop (at_ + k)) [62] = false ∧ Lib.hasPrefix (s.drop (at_ + k)) [47, 62] = true ∧ l' = l ∧ em = true ∧ e = at_ + k + 2) ∨
      (Lib.hasPrefix (s.drop (at_ + k)) [62] = false ∧ Lib.hasPrefix (s.drop (at_ + k)) [47, 62] = false ∧ k ≠ 0 ∧ ∃ f' a e1, attrX f' s ca l (at_ + k) = .ok (a, e1) ∧ openGo s ca f' (l ++ [a]) e1 = .ok (l', em, e))) := by
  cases f with
  | zero => cases h
  | succ f =>
    rw [openGo] at h
    refine ⟨_, rfl, ?_⟩
    split at h
    · rename_i h1
      cases h
      exact .inl ⟨h1, rfl, rfl, rfl⟩
    · rename_i h1
      split at h
      · rename_i h2
        cases h
        exact .inr (.inl ⟨by simpa using h1, h2, rfl, rfl, rfl⟩)
      · rename_i h2
        split at h
        · cases h
        · rename_i h3
          split at h
          · cases h
          · cases h
          · rename_i a e1 ha
            exact .inr (.inr ⟨by simpa using h1, by simpa using h2, h3, f, a, e1, ha, h⟩)
theorem openGo_len : ∀ (f : Nat) {s : List UInt8} {ca : Nat} {l l' : List XA} {at_ e : Nat} {em : Bool}, openGo s ca f l at_ = .ok (l', em, e) → l.length ≤ l'.length
  | 0, _, _, _, _, _, _, _, h => by cases h
  | f + 1, s, ca, l, l', at_, e, em, h => by
    rw [openGo] at h
    split at h
    · cases h; exact Nat.le_refl _
    · split at h
      · cases h; exact Nat.le_refl _
      · split at h
        · cases h
        · split at h
          · cases h
          · cases h
          · have := openGo_len f h
            simp at this
            omega
/-- The loop of an element: the token's block with its row. -/
def OpnL (B tb : Nat) (s : ByteArray) (ca : Nat) (nm : List UInt8) (L : List XA) (em : Bool) (e : Nat) (WT : World) (p : Value) (W : World) : Prop :=
  ∃ k l v f, p = .int .i64 (k : Nat) ∧ k ≤ s.size ∧ openGo s.data.toList ca f l k = .ok (L, em, e) ∧ (l = [] → v = .slice none 0 0) ∧
    BlkAt W tb 60 #[.int .i64 1, .int .i64 ca, .string ⟨nm.toArray⟩, .string ⟨#[]⟩, v, .bool false] ∧ AttrsAt B W l v ∧ Below B WT W
theorem openX_ok {f : Nat} {s : List UInt8} {ca e : Nat} {t : XT} (h : openX f s ca = .ok (t, e)) : ∃ n, nameX (s.drop (ca + 1)) = n ∧ n ≠ 0 ∧ openGo s ca f [] (ca + 1 + n) = .ok (t.attrs, t.empty, e) ∧ t = ⟨1, ca, (s.drop (ca + 1)).take n, [], t.attrs, t.empty⟩ := by
  unfold openX at h
  simp only at h
  split at h
  · cases h
  · rename_i h1
    split at h
    · cases h
    · cases h
    · rename_i l em e' hg
      cases h
      exact ⟨_, rfl, h1, hg, rfl⟩
theorem openX_no {f : Nat} {s : List UInt8} {ca : Nat} (h : nameX (s.drop (ca + 1)) = 0) : openX f s ca = .bad ⟨11, ca, wBegin⟩ := by
  unfold openX
  simp only [h, if_true]

set_option maxRecDepth 100000 in
set_option maxHeartbeats 16000000 in
theorem open_no {base cb : Nat} {s : ByteArray} {c : XS} {w : World} {f : Nat} (hs : s.size ≤ 1000000) (h : CutOf base cb s c w) (hca : c.place + 1 ≤ s.size) (hn : nameX (s.data.toList.drop (c.place + 1)) = 0) :
    Calls Tryz.prog 61 #[.pointer (some ⟨cb, 0, none⟩)] w fun e w' => StepR base cb s w (tokR c (openX f s.data.toList c.place)) e w' := by
  obtain ⟨ts, out, p, v, h⟩ := h
  have hbs : base ≤ w.heap.size := by have := h.hcb; have := h.blk.lt; omega
  have HR := Lib.hid (show tokR c (openX f s.data.toList c.place) = .bad ⟨11, c.place, wBegin⟩ by rw [openX_no hn]; rfl)
  obtain ⟨ca, hcc⟩ : ∃ ca, c.place = ca := ⟨_, rfl⟩
  rw [hcc] at hca hn HR
  have HA := Lib.hid (fun W => nameLen_any (s.extract (ca + 1) s.size) (by simp; omega) W)
  rw [extract_drop, hn] at HA
  have hw0 := h.blk
  rw [hcc] at hw0
  have HK := Lib.hid (fun (W : World) (hW : Below (w.alloc dg0).heap.size (w.alloc dg0) W) => (show W.cell? ⟨cb, 0, none⟩ = some (.string s) ∧ W.cell? ⟨cb, 1, none⟩ = some (.int .i64 ca) from
    have h1 := (hw0.alloc dg0).below hW (hw0.alloc _).lt
    ⟨h1.cell 0, h1.cell 1⟩))
  obtain ⟨k0a, k1a⟩ := HK.out _ (Below.refl _ _)
  have HBS := Lib.hid hbs
  have HCC := Lib.hid hcc
  clear h hcc hn hw0 hbs
  go_enter Tryz.func61, Tryz.ntmps61
  go_wp2
  go_step3
  go_wp2_with (first
    | (go_at_call 77; refine (HA.out _).mono ?_; rintro e w1 ⟨rfl, hW1⟩; have HW1 := Lib.hid hW1; obtain ⟨k10, k11⟩ := HK.out w1 hW1)
    | (go_at_call 52; refine (wrong_any _ _ _).mono ?_; rintro e w3 ⟨rfl, hW3⟩; have HW3 := Lib.hid (HW1.out.trans (hW3.mono HW1.out.size)); have hr := (res_keep HW3.out); obtain ⟨⟨r0, r1, r2⟩, f0, f1, f2⟩ := res_cells hr))
  have hT := three_sets (.int .i64 11) (.int .i64 ca) (.string ⟨#[98, 101, 103, 105, 110]⟩) hr
  rw [Exit.noGoto_ret]
  refine bodyPost_ret (results_c rfl rfl aggDiag rfl hT.1) rfl ?_
  rw [HCC.out, HR.out]
  have h1 : Below w.heap.size w _ := (((Below.refl _ w).alloc (Nat.le_refl _) _).trans (HW3.out.mono (by simp))).trans (grown_below hT.2 (Nat.le_refl _) (by have := HW3.out.size; simp at this; omega))
  exact ⟨rfl, KeepX.of_below h1 HBS.out⟩
end Go.Proofs.YtlldpmjnledhgaaGreatDoor
