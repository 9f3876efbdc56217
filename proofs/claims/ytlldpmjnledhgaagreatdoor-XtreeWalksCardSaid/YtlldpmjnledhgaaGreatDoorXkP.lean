/- The walk of xtok's chars. -/
import Derived.Test.YtlldpmjnledhgaaGreatDoorXkN
import Derived.Test.YtlldpmjnledhgaaGreatDoorUtI
namespace Go.Proofs.YtlldpmjnledhgaaGreatDoor
open Go.RowKit Go.Shelf
set_option linter.unusedVariables false
attribute [local go_sem] Oper.semAt_some

def CharsR (w : World) (o : Option XE) (e : Ending) (w' : World) : Prop :=
  (match o with | some er => e = .returned (errV er) | none => e = .returned okV) ∧ Below w.heap.size w w'
def offChar (p : Nat × Nat) : Bool := !charR (p.2 : Int)
theorem charsX_bytes {s : List UInt8} (h : checkL s ≠ s.length) : charsX s = some ⟨11, checkL s, wBytes⟩ := if_pos h
theorem charsX_done {s : List UInt8} (h0 : checkL s = s.length) (h : ∀ p ∈ allRunes s, offChar p = false) : charsX s = none := by
  unfold charsX
  rw [if_neg (by simp [h0]), List.find?_eq_none.2 (fun p hp => by have := h p hp; unfold offChar at this; simp only [this]; decide)]
theorem charsX_stop {s : List UInt8} {pre : List (Nat × Nat)} {x : Nat × Nat} (h0 : checkL s = s.length) (hp : pre ++ [x] <+: allRunes s) (h : ∀ q ∈ pre, offChar q = false) (hx : offChar x = true) : charsX s = some ⟨11, x.1, wCharacter⟩ := by
  unfold charsX
  rw [if_neg (by simp [h0])]
  show (match (allRunes s).find? offChar with | some p => some (⟨11, p.1, wCharacter⟩ : XE) | none => none) = _
  rw [find_prefix hp h hx]

set_option maxRecDepth 100000 in
set_option maxHeartbeats 3200000 in
theorem chars_any (s : ByteArray) (hs : s.size ≤ 60000) (w : World) :
    Calls Tryz.prog 44 #[.string s] w fun e w' => CharsR w (charsX s.data.toList) e w' := by
  have hls : s.data.toList.length = s.size := by simp
  refine (callsIn_wide (n := 3)).1 ?_
  refine callsIn_of_wp_marks Tryz.func44 rfl trivial ?_ rfl
  simp only [Tryz.ntmps44, List.size_toArray, List.length_cons, List.length_nil, Nat.reduceAdd, Nat.reduceSub, Array.replicate_succ, Array.replicate_zero, List.push_toArray, List.append_toArray, List.nil_append, List.cons_append]
  by_cases hck : checkL s.data.toList = s.size
  · have HCK := Lib.hid (show decide (checkL s.data.toList = s.size) = true by simp [hck])
    have HC := Lib.hid hck
    clear hck
    gi_wp2_with (first | (refine ⟨trivial, ?_⟩; gi_at_call 51; refine (callsIn_wide.2 (check_any _ (by omega) _)).mono ?_; rintro e w' ⟨rfl, rfl⟩; rw [HCK.out]) | (refine ⟨trivial, ?_⟩; gi_at_call 48; refine (callsIn_wide.2 (runes_any _ _)).mono ?_; rintro e w' ⟨rfl, rfl⟩))
    have bS := Boxed.new (w.alloc dg0) 9 (.string s)
    rw [World.size_alloc] at bS
    have bR : BlkAt ((w.alloc dg0).alloc (.cells #[.string s] 9)) w.heap.size 28 #[.int .i64 0, .int .i64 0, .string ⟨#[]⟩] := (BlkAt.new w _ _).alloc _
    have hB0 : Below w.heap.size w ((w.alloc dg0).alloc (.cells #[.string s] 9)) := ((Below.refl _ w).alloc (Nat.le_refl _) _).alloc (by simp) _
    obtain ⟨W0, hW0⟩ : ∃ W0, (w.alloc dg0).alloc (.cells #[.string s] 9) = W0 := ⟨_, rfl⟩
    have hz0 : W0.heap.size = w.heap.size + 2 := by rw [← hW0]; simp
    rw [hW0] at bS bR hB0 ⊢
    clear hW0
    refine wpIn_rangeFunc_ownG rfl (by omega) (gf := 65) (lb := #[.pointer (some ⟨w.heap.size + 1, 0, none⟩)]) rfl trivial (enters_of Tryz.func65 (by kernel_rfl) rfl)
      (runes_stops 2 (by omega) (w.heap.size + 1) s (by omega) _ bS) keepB_t (keepB_b (by omega)) (Below.refl _ _) (fun _ => rfl)
      (fun pre W => BlkAt W w.heap.size 28 #[.int .i64 0, .int .i64 0, .string ⟨#[]⟩] ∧ (∀ q ∈ pre, offChar q = false) ∧ Below w.heap.size w W ∧ w.heap.size + 2 ≤ W.heap.size)
      (fun c pre W => c = .ret ∧ ∃ p x, pre = p ++ [x] ∧ (∀ q ∈ p, offChar q = false) ∧ offChar x = true ∧ BlkAt W w.heap.size 28 #[.int .i64 11, .int .i64 x.1, .string ⟨wCharacter.toArray⟩] ∧ Below w.heap.size w W)
      ?hI ?hIx
      ⟨bR, by simp, hB0, by omega⟩
      (fun x => { tmps := #[.string s, undef, .pointer (some ⟨w.heap.size, 0, none⟩), .int .i64 (checkL s.data.toList), .bool true, .int .i64 x.1, .int .i64 x.2, .string s, .int .i64 s.size, .bool (decide (60000 < (s.size : Int))), undef, .tuple #[.int .i64 (checkL s.data.toList), .bool true], .string s, .tuple #[.int .i64 (checkL s.data.toList), .bool true], .int .i64 (checkL s.data.toList), .bool true, .bool true, .bool false, undef, undef, .string s, .func (.func 65) #[] #[.pointer (some ⟨w.heap.size + 1, 0, none⟩)], .int .i64 x.1, .int .i64 x.2, undef, undef, undef, undef, undef, undef], defers := [] }) ?assign ?body ?done ?stop
    case hI =>
      intro pre W W' row hs hg hr
      obtain ⟨h1, h2, h3, h4⟩ := hs
      exact ⟨blk_own _ _ (fun _ => #[.int .i64 0, .int .i64 0, .string ⟨#[]⟩]) () W W' row h1 hg (fun r e => (hr r e).2), h2, h3.grown hg h3.size (fun k e => by have := (hr k e).1; omega), Nat.le_trans h4 hg.size⟩
    case hIx =>
      intro c pre W W' row hs hg hr
      obtain ⟨hc, p, x, h1, h2, h3, h4, h5⟩ := hs
      exact ⟨hc, p, x, h1, h2, h3, blk_own _ _ (fun _ => #[.int .i64 11, .int .i64 x.1, .string ⟨wCharacter.toArray⟩]) () W W' row h4 hg (fun r e => (hr r e).2), h5.grown hg h5.size (fun k e => by have := (hr k e).1; omega)⟩
    case assign =>
      rintro l ⟨x1, x2⟩ W K hK
      simp only [encII]
      gi_wp2
      exact hK
    case body =>
      rintro l pre ⟨x1, x2⟩ W ⟨hv, hf, hB, hz⟩ hlt
      have HF := Lib.hid hf
      clear hs hlt hf bS hB0 bR
      by_cases hp : charR (x2 : Int) = true
      · have HP := Lib.hid hp
        have HO := Lib.hid (show offChar (x1, x2) = false by unfold offChar; simp [hp])
        clear hp
        gi_wp2_with (refine ⟨trivial, ?_⟩; gi_at_call 53; refine (callsIn_wide.2 (char_any _ _)).mono ?_; rintro e w' ⟨rfl, rfl⟩; rw [HP.out])
        refine ⟨(KeepsOthers.refl _).from _, KeepB.refl _ _, hv, ?_, hB, hz⟩
        intro q hq
        rw [List.mem_append] at hq
        rcases hq with hq | hq
        · exact HF.out q hq
        · simp at hq; subst hq; exact HO.out
      · have HP := Lib.hid (show charR (x2 : Int) = false by simpa using hp)
        have HO := Lib.hid (show offChar (x1, x2) = true by unfold offChar; simp [hp])
        clear hp
        gi_wp2_with (first | (refine ⟨trivial, ?_⟩; gi_at_call 53; refine (callsIn_wide.2 (char_any _ _)).mono ?_; rintro e w' ⟨rfl, rfl⟩; rw [HP.out]) | (refine ⟨trivial, ?_⟩; gi_at_call 52; refine (callsIn_wide.2 (wrong_any _ _ _)).mono ?_; rintro e w1 ⟨rfl, hB1⟩; have hv1 := (hv.below hB1 hv.lt); obtain ⟨⟨r0, r1, r2⟩, g0, g1, g2⟩ := res_cells hv1))
        have hT := three_sets (.int .i64 11) (.int .i64 x1) (.string ⟨#[99, 104, 97, 114, 97, 99, 116, 101, 114]⟩) hv1
        have hK1 : KeepsOthers W w1 := KeepsOthers.of_grownBy (grown_none hB1) (fun j o e => by cases e)
        exact ⟨(hK1.trans (((KeepsOthers.setCell _ _ _).trans (KeepsOthers.setCell _ _ _)).trans (KeepsOthers.setCell _ _ _))).from _, rfl, pre, (x1, x2), rfl, HF.out, HO.out, hT.1, (hB.trans (hB1.mono (by omega))).trans (grown_below hT.2 (Nat.le_refl _) (by have := hB1.size; omega))⟩
    case done =>
      rintro D ys W hD rfl ⟨hv, hf, hB, hz⟩ hK
      obtain ⟨⟨r0, r1, r2⟩, g0, g1, g2⟩ := res_cells hv
      have HN := Lib.hid (charsX_done (by rw [HC.out]; exact hls.symm) hf)
      have hT := three_sets (.int .i64 0) (.int .i64 0) (.string ⟨#[]⟩) hv
      gi_wp2
      obtain ⟨Y, hY⟩ : ∃ Y, ((W.setCell ⟨w.heap.size, 0, none⟩ (.int .i64 0)).setCell ⟨w.heap.size, 1, none⟩ (.int .i64 0)).setCell ⟨w.heap.size, 2, none⟩ (.string ⟨#[]⟩) = Y := ⟨_, rfl⟩
      rw [hY] at hT ⊢
      have hlD := (Array.getElem?_eq_some_iff.1 hK).1
      have hYD : Y.heap[D]? = _ := (hT.2.block D hlD (fun e => by have := Option.some.inj e; omega)).trans hK
      refine ⟨by simp, .inl ⟨_, _, rfl, run_takeDeferred hYD, ?_⟩⟩
      have z1 : BlkAt (Y.putObj D (.deferred none)) w.heap.size 28 #[.int .i64 0, .int .i64 0, .string ⟨#[]⟩] := hT.1.below (belowK_b (w := W0) (Nat.le_refl _) Y D _ _ (by omega) hYD rfl rfl) (by omega)
      refine ⟨_, results_c rfl rfl aggDiag rfl z1, ?_⟩
      unfold CharsR
      rw [HN.out]
      exact ⟨rfl, (hB.trans (grown_below hT.2 (Nat.le_refl _) (by omega))).trans (belowK_b (w := w) (Nat.le_refl _) Y D _ _ (by omega) hYD rfl rfl)⟩
    case stop =>
      rintro D c pre W hD hpre ⟨rfl, p, x, rfl, hf, hx, hv, hB⟩ hK
      have HN := Lib.hid (charsX_stop (by rw [HC.out]; exact hls.symm) hpre hf hx)
      gi_wp2
      refine ⟨by simp, .inl ⟨_, _, rfl, run_takeDeferred hK, ?_⟩⟩
      have z1 : BlkAt (W.putObj D (.deferred none)) w.heap.size 28 #[.int .i64 11, .int .i64 x.1, .string ⟨wCharacter.toArray⟩] := hv.below (belowK_b (w := W0) (Nat.le_refl _) W D _ _ (by omega) hK rfl rfl) (by omega)
      refine ⟨_, results_c rfl rfl aggDiag rfl z1, ?_⟩
      unfold CharsR
      rw [HN.out]
      exact ⟨rfl, hB.trans (belowK_b (w := w) (Nat.le_refl _) W D _ _ (by omega) hK rfl rfl)⟩
  · have HCK := Lib.hid (show decide (checkL s.data.toList = s.size) = false by simp [hck])
    have HC := Lib.hid (charsX_bytes (s := s.data.toList) (by rw [hls]; exact hck))
    obtain ⟨k, hk⟩ : ∃ k, checkL s.data.toList = k := ⟨_, rfl⟩
    rw [hk] at HC
    have HKK := Lib.hid hk
    clear hck hk
    gi_wp2_with (first | (refine ⟨trivial, ?_⟩; gi_at_call 51; refine (callsIn_wide.2 (check_any _ (by omega) _)).mono ?_; rintro e w' ⟨rfl, rfl⟩; rw [HCK.out, HKK.out]) | (refine ⟨trivial, ?_⟩; gi_at_call 52; refine (callsIn_wide.2 (wrong_any _ _ _)).mono ?_; rintro e w1 ⟨rfl, hB1⟩; have hr := (res_keep (W := w1) hB1); obtain ⟨⟨r0, r1, r2⟩, g0, g1, g2⟩ := res_cells hr))
    have hT := three_sets (.int .i64 11) (.int .i64 k) (.string ⟨#[98, 121, 116, 101, 115]⟩) hr
    refine ⟨_, results_c rfl rfl aggDiag rfl hT.1, ?_⟩
    unfold CharsR
    rw [HC.out]
    exact ⟨rfl, ((Below.refl _ w).alloc (Nat.le_refl _) _).trans ((hB1.mono (by simp)).trans (grown_below hT.2 (Nat.le_refl _) (by have := hB1.size; simp at this; omega)))⟩
end Go.Proofs.YtlldpmjnledhgaaGreatDoor
