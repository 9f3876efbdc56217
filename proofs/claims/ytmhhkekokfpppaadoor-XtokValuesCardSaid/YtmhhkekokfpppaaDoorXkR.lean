/- The walk of the cutter's open, where there is one attribute or none. -/
import Derived.Test.YtmhhkekokfpppaaDoorXkO
import Derived.Test.YtmhhkekokfpppaaDoorXkO
namespace Go.Proofs.YtmhhkekokfpppaaDoor
open Go.RowKit
set_option linter.unusedVariables false

theorem openGo_step {s : List UInt8} {ca f : Nat} {l l' : List XA} {at_ e : Nat} {em : Bool} (h : openGo s ca f l at_ = .ok (l', em, e)) (hl : l.length = 1 → l'.length ≤ 1) :
    ∃ k, blanksX (s.drop at_) = k ∧ ((Lib.hasPrefix (s.drop (at_ + k)) [62] = true ∧ l' = l ∧ em = false ∧ e = at_ + k + 1) ∨
      (Lib.hasPrefix (s.drop (at_ + k)) [62] = false ∧ Lib.hasPrefix (s.drop (at_ + k)) [47, 62] = true ∧ l' = l ∧ em = true ∧ e = at_ + k + 2) ∨
      (Lib.hasPrefix (s.drop (at_ + k)) [62] = false ∧ Lib.hasPrefix (s.drop (at_ + k)) [47, 62] = false ∧ k ≠ 0 ∧ ∃ f' a e1, attrX f' s ca l (at_ + k) = .ok (a, e1) ∧ openGo s ca f' (l ++ [a]) e1 = .ok (l', em, e))) := by
  cases f with
  | zero => cases h
  | succ f =>
    rw [openGo] at h
    refine ⟨_, rfl, ?_⟩
    split at h
    · rename_i h1
      cases h
      exact .inl ⟨h1, rfl, rfl, rfl⟩
    · rename_i h1
      split at h
      · rename_i h2
        cases h
        exact .inr (.inl ⟨by simpa using h1, h2, rfl, rfl, rfl⟩)
      · rename_i h2
        split at h
        · cases h
        · rename_i h3
          split at h
          · cases h
          · cases h
          · rename_i a e1 ha
            exact .inr (.inr ⟨by simpa using h1, by simpa using h2, h3, f, a, e1, ha, h⟩)
theorem openGo_len : ∀ (f : Nat) {s : List UInt8} {ca : Nat} {l l' : List XA} {at_ e : Nat} {em : Bool}, openGo s ca f l at_ = .ok (l', em, e) → l.length ≤ l'.length
  | 0, _, _, _, _, _, _, _, h => by cases h
  | f + 1, s, ca, l, l', at_, e, em, h => by
    rw [openGo] at h
    split at h
    · cases h; exact Nat.le_refl _
    · split at h
      · cases h; exact Nat.le_refl _
      · split at h
        · cases h
        · split at h
          · cases h
          · cases h
          · have := openGo_len f h
            simp at this
            omega
/-- The loop of an element: the token's block with its row. -/
def OpnL (B tb : Nat) (s : ByteArray) (ca : Nat) (nm : List UInt8) (L : List XA) (em : Bool) (e : Nat) (WT : World) (p : Value) (W : World) : Prop :=
  ∃ k l v f, p = .int .i64 (k : Nat) ∧ k ≤ s.size ∧ openGo s.data.toList ca f l k = .ok (L, em, e) ∧ (l = [] → v = .slice none 0 0) ∧
    BlkAt W tb 32 #[.int .i64 1, .int .i64 ca, .string ⟨nm.toArray⟩, .string ⟨#[]⟩, v, .bool false] ∧ AttrsAt B W l v ∧ Below B WT W
theorem openX_ok {f : Nat} {s : List UInt8} {ca e : Nat} {t : XT} (h : openX f s ca = .ok (t, e)) : ∃ n, nameX (s.drop (ca + 1)) = n ∧ n ≠ 0 ∧ openGo s ca f [] (ca + 1 + n) = .ok (t.attrs, t.empty, e) ∧ t = ⟨1, ca, (s.drop (ca + 1)).take n, [], t.attrs, t.empty⟩ := by
  unfold openX at h
  simp only at h
  split at h
  · cases h
  · rename_i h1
    split at h
    · cases h
    · cases h
    · rename_i l em e' hg
      cases h
      exact ⟨_, rfl, h1, hg, rfl⟩
theorem openX_no {f : Nat} {s : List UInt8} {ca : Nat} (h : nameX (s.drop (ca + 1)) = 0) : openX f s ca = .bad ⟨11, ca, wBegin⟩ := by
  unfold openX
  simp only [h, if_true]

set_option maxRecDepth 100000 in
set_option maxHeartbeats 16000000 in
theorem open_no {base cb : Nat} {s : ByteArray} {c : XS} {w : World} {f : Nat} (hs : s.size ≤ 1000000) (h : CutOf base cb s c w) (hca : c.place + 1 ≤ s.size) (hn : nameX (s.data.toList.drop (c.place + 1)) = 0) :
    Calls Tryd.prog 32 #[.pointer (some ⟨cb, 0, none⟩)] w fun e w' => StepR base cb s w (tokR c (openX f s.data.toList c.place)) e w' := by
  obtain ⟨ts, out, p, v, h⟩ := h
  have hbs : base ≤ w.heap.size := by have := h.hcb; have := h.blk.lt; omega
  have HR := Lib.hid (show tokR c (openX f s.data.toList c.place) = .bad ⟨11, c.place, wBegin⟩ by rw [openX_no hn]; rfl)
  obtain ⟨ca, hcc⟩ : ∃ ca, c.place = ca := ⟨_, rfl⟩
  rw [hcc] at hca hn HR
  have HA := Lib.hid (fun W => nameLen_any (s.extract (ca + 1) s.size) (by simp; omega) W)
  rw [extract_drop, hn] at HA
  have hw0 := h.blk
  rw [hcc] at hw0
  have HK := Lib.hid (fun (W : World) (hW : Below (w.alloc dg0).heap.size (w.alloc dg0) W) => (show W.cell? ⟨cb, 0, none⟩ = some (.string s) ∧ W.cell? ⟨cb, 1, none⟩ = some (.int .i64 ca) from
    have h1 := (hw0.alloc dg0).below hW (hw0.alloc _).lt
    ⟨h1.cell 0, h1.cell 1⟩))
  obtain ⟨k0a, k1a⟩ := HK.out _ (Below.refl _ _)
  have HBS := Lib.hid hbs
  have HCC := Lib.hid hcc
  clear h hcc hn hw0 hbs
  go_enter Tryd.func32, Tryd.ntmps32
  go_wp2
  go_step3
  go_wp2_with (first
    | (go_at_call 47; refine (HA.out _).mono ?_; rintro e w1 ⟨rfl, hW1⟩; have HW1 := Lib.hid hW1; obtain ⟨k10, k11⟩ := HK.out w1 hW1)
    | (go_at_call 22; refine (wrong_any _ _ _).mono ?_; rintro e w3 ⟨rfl, hW3⟩; have HW3 := Lib.hid (HW1.out.trans (hW3.mono HW1.out.size)); have hr := (res_keep HW3.out); obtain ⟨⟨r0, r1, r2⟩, f0, f1, f2⟩ := res_cells hr))
  have hT := three_sets (.int .i64 11) (.int .i64 ca) (.string ⟨#[98, 101, 103, 105, 110]⟩) hr
  rw [Exit.noGoto_ret]
  refine bodyPost_ret (results_c rfl rfl aggDiag rfl hT.1) rfl ?_
  rw [HCC.out, HR.out]
  have h1 : Below w.heap.size w _ := (((Below.refl _ w).alloc (Nat.le_refl _) _).trans (HW3.out.mono (by simp))).trans (grown_below hT.2 (Nat.le_refl _) (by have := HW3.out.size; simp at this; omega))
  exact ⟨rfl, KeepX.of_below h1 HBS.out⟩
end Go.Proofs.YtmhhkekokfpppaaDoor
