/- The walk of the cutter's next, whatever stands there. -/
import Derived.Test.YtlldpmjnledhgaaGreatDoorXsP
import Derived.Test.YtlldpmjnledhgaaGreatDoorXsO
import Derived.Test.YtlldpmjnledhgaaGreatDoorXkOR
namespace Go.Proofs.YtlldpmjnledhgaaGreatDoor
open Go.RowKit
set_option linter.unusedVariables false

/-- A step's answer, laid into the caller's own cell. -/
theorem step_end {base cb : Nat} {s : ByteArray} {w w' : World} {R : XR XS} {e : Ending} (hbs : base ≤ w.heap.size) (h : StepR base cb s (w.alloc dg0).drew R e w') (hR : R ≠ .none) :
    ∃ code at_ what, e = .returned (dgv code at_ what) ∧ BlkAt w' w.heap.size 28 #[.int .i64 0, .int .i64 0, .string ⟨#[]⟩] ∧
      ∀ Y, w'.grownBy Y (some w.heap.size) → StepR base cb s w R (.returned (dgv code at_ what)) Y := by
  have hA : KeepX base w (w.alloc dg0).drew := KeepX.of_below ((Below.refl _ w).alloc (Nat.le_refl _) _).drew hbs
  cases R with
  | none => exact absurd rfl hR
  | bad er =>
    obtain ⟨rfl, hk⟩ := h
    exact ⟨_, _, _, rfl, hk.blk (BlkAt.new w _ _).drew, fun Y hY => ⟨rfl, (hA.trans hk).fresh hY (Nat.le_refl _) hbs⟩⟩
  | ok c' =>
    obtain ⟨rfl, ⟨ts, out, p, v, hI⟩, hk⟩ := h
    have hr := hk.blk (BlkAt.new w 28 #[.int .i64 0, .int .i64 0, .string ⟨#[]⟩]).drew
    exact ⟨_, _, _, rfl, hr, fun Y hY => ⟨rfl, ⟨ts, out, p, v, hI.diag hr hbs hY⟩, (hA.trans hk).fresh hY (Nat.le_refl _) hbs⟩⟩
theorem stepR_keep {base cb : Nat} {s : ByteArray} {w w1 w' : World} {R : XR XS} {e : Ending} (hk : KeepX base w w1) (h : StepR base cb s w1 R e w') : StepR base cb s w R e w' := by
  cases R with
  | none => trivial
  | bad er => exact ⟨h.1, hk.trans h.2⟩
  | ok c' => exact ⟨h.1, h.2.1, hk.trans h.2.2⟩
theorem pre_short {l : List UInt8} {p q : List UInt8} (hp : q <+: p) (h : Lib.hasPrefix l q = false) : Lib.hasPrefix l p = false := by
  unfold Lib.hasPrefix at *
  rw [Bool.eq_false_iff] at *
  exact fun e => h (List.isPrefixOf_iff_prefix.2 (hp.trans (List.isPrefixOf_iff_prefix.1 e)))

set_option maxRecDepth 100000 in
set_option maxHeartbeats 64000000 in
theorem next_all {base cb : Nat} {s : ByteArray} {c : XS} {w : World} {f : Nat} {m : Int} {R : XR XS} (hs : s.size ≤ 1000000) (hm : w.cell? ⟨0, 0, none⟩ = some (.int .i64 m)) (hT : FoldTab w) (h : CutOf base cb s c w) (hno : c.out.length ≤ 900000) (hct : c.text.length ≤ 10000000) (hlt : c.place < s.size)
    (hv : nextF f s.data.toList c = R) (hR : R ≠ .none) :
    Calls Tryz.prog 46 #[.pointer (some ⟨cb, 0, none⟩)] w fun e w' => StepR base cb s w R e w' := by
  have hbs : base ≤ w.heap.size := by obtain ⟨_, _, _, _, h⟩ := h; have := h.hcb; have := h.blk.lt; omega
  have hA : CutOf base cb s c (w.alloc dg0).drew := by
    obtain ⟨ts, out, p, v, h⟩ := h
    exact ⟨ts, out, p, v, h.below ((Below.refl _ w).alloc (Nat.le_refl _) _).drew⟩
  have hml := block_lt' hm
  have hmA : (w.alloc dg0).drew.cell? ⟨0, 0, none⟩ = some (.int .i64 m) := by
    show (w.alloc dg0).cell? _ = _
    rw [World.cell?_of_block (Below.heap_alloc w dg0 _ hml)]; exact hm
  have hTA : FoldTab (w.alloc dg0).drew := hT.below ((Below.refl _ w).alloc (Nat.le_refl _) _).drew
  have hls : s.data.toList.length = s.size := by simp
  have h0 : (s.data.toList.drop c.place)[0]? = some s[c.place] := by rw [drop_cons s _ hlt]; rfl
  obtain ⟨ca, hca⟩ : ∃ ca, c.place = ca := ⟨_, rfl⟩
  have hk : (w.alloc dg0).cell? ⟨cb, 0, none⟩ = some (.string s) ∧ (w.alloc dg0).cell? ⟨cb, 1, none⟩ = some (.int .i64 ca) := by
    obtain ⟨ts, out, p, v, h⟩ := hA
    rw [← hca]
    exact ⟨h.blk.cell 0, h.blk.cell 1⟩
  obtain ⟨k0, k1⟩ := hk
  have HBS := Lib.hid hbs
  have HR := Lib.hid hR
  have hrest : (s.extract ca s.size).data.toList = s.data.toList.drop ca := extract_drop s ca
  have hes : 0 < (s.extract ca s.size).size := by simp; omega
  have hca2 : ca < s.size := by omega
  have zz1 : (0 : Int) ≤ (ca : Int) := by omega
  have zz2 : (ca : Int) ≤ (s.size : Int) := by omega
  have h0c : (s.data.toList.drop ca)[0]? = some s[ca] := by rw [drop_cons s ca hca2]; rfl
  have hx0 : (s.extract ca s.size)[0] = s[ca] := by
    have h1 := get_list (s.extract ca s.size) 0 hes
    rw [hrest, h0c] at h1
    exact (Option.some.inj h1).symm
  have hv0 := hv
  unfold nextF at hv0
  simp only at hv0
  by_cases hc : s[ca] = 60
  · rw [hca, if_neg (by rw [h0c, hc]; simp)] at hv0
    have E1 : ((s[ca].toNat : Int) != 60) = false := by
      show (!((s[ca].toNat : Int) == 60)) = false
      rw [show ((s[ca].toNat : Int) == 60) = true from beq_yes hc]; rfl
    have E2 : (((s.extract ca s.size)[0].toNat : Int) != 60) = false := by rw [hx0]; exact E1
    have HFi := Lib.hid (finish_in hA (by omega))
    have hfo : (finX c).out.length ≤ 1000000 := by
      unfold finX
      simp only
      split
      · omega
      · simp; omega
    have hfp : (finX c).place = ca := hca
    by_cases hp1 : Lib.hasPrefix (s.data.toList.drop ca) cdataB = true
    · rw [if_pos hp1] at hv0
      have hl2 : ca + 9 ≤ s.size := by have := prefix_len hp1; simp [cdataB] at this; omega
      have hRR : rawR c (rawX s.data.toList c.place) = R := by
        rw [hca, ← hv0]
        unfold rawR
        split <;> rename_i hw <;> rw [hw] <;> simp only [hca]
      have HP1 := Lib.hid (show Lib.hasPrefix (s.extract ca s.size).data.toList [60, 33, 91, 67, 68, 65, 84, 65, 91] = true by rw [hrest]; exact hp1)
      have HCl := Lib.hid (raw_in hs hmA hA hct (by rw [hca]; exact hl2))
      rw [hRR] at HCl
      clear hA h hm hmA hml hls h0 h0c hrest hx0 hv0 hv hct hno hR hbs hfo hfp hc hT hTA hp1 hRR
      go_enter Tryz.func46, Tryz.ntmps46
      go_wp2
      go_region_held3 (fun w' => w'.cell? ⟨cb, 0, none⟩ = some (.string s) ∧ w'.cell? ⟨cb, 1, none⟩ = some (.int .i64 ca)) (go_keep) (fail)
      go_wp2_with (first
        | (go_at_call 56; refine (Tryz.strings_HasPrefix _ _ _).mono ?_; rintro en w3 ⟨rfl, rfl⟩; first | rw [HP1.out])
        | (go_at_call 57; refine HCl.out.mono ?_; rintro e w2 hst; obtain ⟨code, at1, what, rfl, hr, hY⟩ := step_end HBS.out hst HR.out; obtain ⟨⟨r0, r1, r2⟩, g0, g1, g2⟩ := res_cells hr; clear hst))
      have hT := three_sets (.int .i64 code) (.int .i64 at1) (.string what) hr
      refine bodyPost_ret (results_c rfl rfl aggDiag rfl hT.1) rfl ?_
      exact hY _ hT.2
    · rw [if_neg hp1] at hv0
      have HP1 := Lib.hid (show Lib.hasPrefix (s.extract ca s.size).data.toList [60, 33, 91, 67, 68, 65, 84, 65, 91] = false by rw [hrest]; exact Bool.eq_false_iff.2 hp1)
      clear hp1
      by_cases hp2 : Lib.hasPrefix (s.data.toList.drop ca) remarkB = true
      · rw [if_pos hp2] at hv0
        have hl2 : ca + 4 ≤ s.size := by have := prefix_len hp2; simp [remarkB] at this; omega
        have hRR : placeR c (skipX s.data.toList c.place) = R := by
          rw [hca, ← hv0]
          unfold placeR
          split <;> rename_i hw <;> rw [hw]
        have HP2 := Lib.hid (show Lib.hasPrefix (s.extract ca s.size).data.toList [60, 33, 45, 45] = true by rw [hrest]; exact hp2)
        have HCl := Lib.hid (skip_in hs hmA hA (by rw [hca]; exact hl2))
        rw [hRR] at HCl
        clear hA h hm hmA hml hls h0 h0c hrest hx0 hv0 hv hct hno hR hbs hfo hfp hc hT hTA hp2 hRR
        go_enter Tryz.func46, Tryz.ntmps46
        go_wp2
        go_region_held3 (fun w' => w'.cell? ⟨cb, 0, none⟩ = some (.string s) ∧ w'.cell? ⟨cb, 1, none⟩ = some (.int .i64 ca)) (go_keep) (fail)
        go_wp2_with (first
          | (go_at_call 56; refine (Tryz.strings_HasPrefix _ _ _).mono ?_; rintro en w3 ⟨rfl, rfl⟩; first | rw [HP1.out] | rw [HP2.out])
          | (go_at_call 58; refine HCl.out.mono ?_; rintro e w2 hst; obtain ⟨code, at1, what, rfl, hr, hY⟩ := step_end HBS.out hst HR.out; obtain ⟨⟨r0, r1, r2⟩, g0, g1, g2⟩ := res_cells hr; clear hst))
        have hT := three_sets (.int .i64 code) (.int .i64 at1) (.string what) hr
        refine bodyPost_ret (results_c rfl rfl aggDiag rfl hT.1) rfl ?_
        exact hY _ hT.2
      · rw [if_neg hp2] at hv0
        have HP2 := Lib.hid (show Lib.hasPrefix (s.extract ca s.size).data.toList [60, 33, 45, 45] = false by rw [hrest]; exact Bool.eq_false_iff.2 hp2)
        clear hp2
        by_cases hp3 : Lib.hasPrefix (s.data.toList.drop ca) [60, 63] = true
        · rw [if_pos hp3] at hv0
          have hl2 : ca + 2 ≤ s.size := by have := prefix_len hp3; simp at this; omega
          have hRR : placeR c (orderX s.data.toList c.place) = R := by
            rw [hca, ← hv0]
            unfold placeR
            split <;> rename_i hw <;> rw [hw]
          have HP3 := Lib.hid (show Lib.hasPrefix (s.extract ca s.size).data.toList [60, 63] = true by rw [hrest]; exact hp3)
          have HCl := Lib.hid (order_in hs hmA hTA hA (by rw [hca]; exact hl2))
          rw [hRR] at HCl
          clear hA h hm hmA hml hls h0 h0c hrest hx0 hv0 hv hct hno hR hbs hfo hfp hc hT hTA hp3 hRR
          go_enter Tryz.func46, Tryz.ntmps46
          go_wp2
          go_region_held3 (fun w' => w'.cell? ⟨cb, 0, none⟩ = some (.string s) ∧ w'.cell? ⟨cb, 1, none⟩ = some (.int .i64 ca)) (go_keep) (fail)
          go_wp2_with (first
            | (go_at_call 56; refine (Tryz.strings_HasPrefix _ _ _).mono ?_; rintro en w3 ⟨rfl, rfl⟩; first | rw [HP1.out] | rw [HP2.out] | rw [HP3.out])
            | (go_at_call 59; refine HCl.out.mono ?_; rintro e w2 hst; obtain ⟨code, at1, what, rfl, hr, hY⟩ := step_end HBS.out hst HR.out; obtain ⟨⟨r0, r1, r2⟩, g0, g1, g2⟩ := res_cells hr; clear hst))
          have hT := three_sets (.int .i64 code) (.int .i64 at1) (.string what) hr
          refine bodyPost_ret (results_c rfl rfl aggDiag rfl hT.1) rfl ?_
          exact hY _ hT.2
        · rw [if_neg hp3] at hv0
          have HP3 := Lib.hid (show Lib.hasPrefix (s.extract ca s.size).data.toList [60, 63] = false by rw [hrest]; exact Bool.eq_false_iff.2 hp3)
          clear hp3
          by_cases hp4 : Lib.hasPrefix (s.data.toList.drop ca) [60, 33] = true
          · rw [if_pos hp4] at hv0
            have hRR : (XR.bad ⟨11, ca, wDeclaration⟩ : XR XS) = R := hv0
            have HP4 := Lib.hid (show Lib.hasPrefix (s.extract ca s.size).data.toList [60, 33] = true by rw [hrest]; exact hp4)
            have HRR := Lib.hid hRR
            have hres : ∀ W : World, Below (w.alloc dg0).drew.heap.size (w.alloc dg0).drew W → BlkAt W w.heap.size 28 #[.int .i64 0, .int .i64 0, .string ⟨#[]⟩] := fun W hW => res_keep (w := w) (((Below.refl _ (w.alloc dg0)).drew).trans hW)
            have HRes := Lib.hid hres
            clear hA h hm hmA hml hls h0 h0c hrest hx0 hv0 hv hct hno hR hbs hfo hfp hc hT hTA hp4 hRR hres
            go_enter Tryz.func46, Tryz.ntmps46
            go_wp2
            go_region_held3 (fun w' => w'.cell? ⟨cb, 0, none⟩ = some (.string s) ∧ w'.cell? ⟨cb, 1, none⟩ = some (.int .i64 ca)) (go_keep) (fail)
            go_wp2_with (first
              | (go_at_call 56; refine (Tryz.strings_HasPrefix _ _ _).mono ?_; rintro en w3 ⟨rfl, rfl⟩; first | rw [HP1.out] | rw [HP2.out] | rw [HP3.out] | rw [HP4.out])
              | (go_at_call 52; refine (wrong_any _ _ _).mono ?_; rintro en w4 ⟨rfl, hW4⟩; have HW4 := Lib.hid hW4; have hr := HRes.out _ HW4.out; obtain ⟨⟨r0, r1, r2⟩, g0, g1, g2⟩ := res_cells hr))
            have hT := three_sets (.int .i64 11) (.int .i64 ca) (.string ⟨#[100, 101, 99, 108, 97, 114, 97, 116, 105, 111, 110]⟩) hr
            refine bodyPost_ret (results_c rfl rfl aggDiag rfl hT.1) rfl ?_
            rw [← HRR.out]
            have h1 : Below w.heap.size w _ := (((Below.refl _ w).alloc (Nat.le_refl _) dg0).drew.trans (HW4.out.mono (by simp))).trans (grown_below hT.2 (Nat.le_refl _) (by have := HW4.out.size; simp at this; omega))
            exact ⟨rfl, KeepX.of_below h1 HBS.out⟩
          · rw [if_neg hp4] at hv0
            have HP4 := Lib.hid (show Lib.hasPrefix (s.extract ca s.size).data.toList [60, 33] = false by rw [hrest]; exact Bool.eq_false_iff.2 hp4)
            clear hp4
            by_cases hp5 : Lib.hasPrefix (s.data.toList.drop ca) [60, 47] = true
            · rw [if_pos hp5] at hv0
              have hl2 : ca + 2 ≤ s.size := by have := prefix_len hp5; simp at this; omega
              have HP5 := Lib.hid (show Lib.hasPrefix (s.extract ca s.size).data.toList [60, 47] = true by rw [hrest]; exact hp5)
              have hRR : tokR (finX c) (closeX s.data.toList (finX c).place) = R := by
                rw [hfp, ← hv0]
                unfold tokR
                split <;> rename_i hw <;> rw [hw]
              have HCl := Lib.hid (fun (W : World) (hW : CutOf base cb s (finX c) W) => (show Calls Tryz.prog 60 #[.pointer (some ⟨cb, 0, none⟩)] W fun e w' => StepR base cb s W R e w' from by
                have := close_in hs hW hfo (by rw [hfp]; exact hl2)
                rw [hRR] at this
                exact this))
              clear hA h hm hmA hml hls h0 h0c hrest hx0 hv0 hv hct hno hR hbs hfo hfp hc hT hTA hp5 hRR
              go_enter Tryz.func46, Tryz.ntmps46
              go_wp2
              go_region_held3 (fun w' => w'.cell? ⟨cb, 0, none⟩ = some (.string s) ∧ w'.cell? ⟨cb, 1, none⟩ = some (.int .i64 ca)) (go_keep) (fail)
              go_wp2_with (first
                | (go_at_call 56; refine (Tryz.strings_HasPrefix _ _ _).mono ?_; rintro en w3 ⟨rfl, rfl⟩; first | rw [HP1.out] | rw [HP2.out] | rw [HP3.out] | rw [HP4.out] | rw [HP5.out])
                | (go_at_call 47; refine HFi.out.mono ?_; rintro e w1 ⟨rfl, hC1, hK1⟩; have HC1 := Lib.hid hC1; have HK1 := Lib.hid hK1; clear hC1 hK1)
                | (go_at_call 60; refine (HCl.out _ HC1.out).mono ?_; rintro e w2 hst; obtain ⟨code, at1, what, rfl, hr, hY⟩ := step_end HBS.out (stepR_keep HK1.out hst) HR.out; obtain ⟨⟨r0, r1, r2⟩, g0, g1, g2⟩ := res_cells hr; clear hst))
              have hT := three_sets (.int .i64 code) (.int .i64 at1) (.string what) hr
              refine bodyPost_ret (results_c rfl rfl aggDiag rfl hT.1) rfl ?_
              exact hY _ hT.2
            · rw [if_neg hp5] at hv0
              have HP5 := Lib.hid (show Lib.hasPrefix (s.extract ca s.size).data.toList [60, 47] = false by rw [hrest]; simpa using hp5)
              have hRR : tokR (finX c) (openX f s.data.toList (finX c).place) = R := by
                rw [hfp, ← hv0]
                unfold tokR
                split <;> rename_i hw <;> rw [hw]
              have HCl := Lib.hid (fun (W : World) (hW : CutOf base cb s (finX c) W) => (show Calls Tryz.prog 61 #[.pointer (some ⟨cb, 0, none⟩)] W fun e w' => StepR base cb s W R e w' from by
                have hRn : openX f s.data.toList (finX c).place ≠ .none := fun e => hR (by rw [← hRR, e]; rfl)
                have := open_all hs hW hfo (by rw [hfp]; omega) rfl hRn
                rw [hRR] at this
                exact this))
              clear hA h hm hmA hml hls h0 h0c hrest hx0 hv0 hv hct hno hR hbs hfo hfp hc hT hTA hp5 hRR
              go_enter Tryz.func46, Tryz.ntmps46
              go_wp2
              go_region_held3 (fun w' => w'.cell? ⟨cb, 0, none⟩ = some (.string s) ∧ w'.cell? ⟨cb, 1, none⟩ = some (.int .i64 ca)) (go_keep) (fail)
              go_wp2_with (first
                | (go_at_call 56; refine (Tryz.strings_HasPrefix _ _ _).mono ?_; rintro en w3 ⟨rfl, rfl⟩; first | rw [HP1.out] | rw [HP2.out] | rw [HP3.out] | rw [HP4.out] | rw [HP5.out])
                | (go_at_call 47; refine HFi.out.mono ?_; rintro e w1 ⟨rfl, hC1, hK1⟩; have HC1 := Lib.hid hC1; have HK1 := Lib.hid hK1; clear hC1 hK1)
                | (go_at_call 61; refine (HCl.out _ HC1.out).mono ?_; rintro e w2 hst; obtain ⟨code, at1, what, rfl, hr, hY⟩ := step_end HBS.out (stepR_keep HK1.out hst) HR.out; obtain ⟨⟨r0, r1, r2⟩, g0, g1, g2⟩ := res_cells hr; clear hst))
              have hT := three_sets (.int .i64 code) (.int .i64 at1) (.string what) hr
              refine bodyPost_ret (results_c rfl rfl aggDiag rfl hT.1) rfl ?_
              exact hY _ hT.2
  · have hv' : R = wordsR s c (wordsX f ((s.data.toList.drop c.place).take (endX s.data.toList c.place - c.place)) c.place []) := by
      rw [← hv]
      unfold nextF wordsR
      simp only
      rw [if_pos (by rw [h0]; subst hca; exact fun e => hc (Option.some.inj e))]
      split <;> rename_i hw <;> rw [hw]
    obtain ⟨RW, hRW⟩ : ∃ RW, wordsX f ((s.data.toList.drop c.place).take (endX s.data.toList c.place - c.place)) c.place [] = RW := ⟨_, rfl⟩
    rw [hRW] at hv'
    have hRn : RW ≠ .none := fun e => hR (by rw [hv', e]; rfl)
    have HW := Lib.hid (words_in hs hmA hA hct (Nat.le_of_lt hlt) hRW hRn)
    rw [← hv'] at HW
    have E1 : ((s[ca].toNat : Int) != 60) = true := by
      show (!((s[ca].toNat : Int) == 60)) = true
      rw [show ((s[ca].toNat : Int) == 60) = false from beq_no hc]; rfl
    have E2 : (((s.extract ca s.size)[0].toNat : Int) != 60) = true := by rw [hx0]; exact E1
    clear hA h hm hmA hml hls h0 h0c hrest hx0 hRW hv' hv hct hno hRn hR hbs hT hTA hv0
    go_enter Tryz.func46, Tryz.ntmps46
    go_wp2
    go_region_held3 (fun w' => w'.cell? ⟨cb, 0, none⟩ = some (.string s) ∧ w'.cell? ⟨cb, 1, none⟩ = some (.int .i64 ca)) (go_keep) (fail)
    go_wp2_with (go_at_call 55; refine HW.out.mono ?_; rintro e w1 hst; obtain ⟨code, at1, what, rfl, hr, hY⟩ := step_end HBS.out hst HR.out; obtain ⟨⟨r0, r1, r2⟩, g0, g1, g2⟩ := res_cells hr; clear hst)
    have hT := three_sets (.int .i64 code) (.int .i64 at1) (.string what) hr
    refine bodyPost_ret (results_c rfl rfl aggDiag rfl hT.1) rfl ?_
    exact hY _ hT.2
end Go.Proofs.YtlldpmjnledhgaaGreatDoor
