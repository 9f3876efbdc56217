/- The walks of xtok.Name and of xout's plain. -/
import Derived.Test.YtajnpmhgldfgfaaXkJn
import Derived.Test.YtajnpmhgldfgfaaXkPc
import Derived.Test.YtajnpmhgldfgfaaResB
import Derived.Test.YtajnpmhgldfgfaaXkF0
import Derived.Test.YtajnpmhgldfgfaaOwB
import Derived.Test.YtajnpmhgldfgfaaXoA
namespace Go.Proofs.Ytajnpmhgldfgfaa
open Go.RowKit Go.Shelf
set_option linter.unusedVariables false
attribute [local go_sem] Oper.semAt_some

set_option maxRecDepth 100000 in
set_option maxHeartbeats 4000000 in
theorem nameB_any (s : ByteArray) (hs : s.size ≤ 9223372036854775807) (w : World) :
    Calls Try.prog 27 #[.string s] w fun e w' => e = .returned (.bool (nameB s)) ∧ Below w.heap.size w w' := by
  have hls : s.data.toList.length = s.size := by simp
  have hE : s.toList = s.data.toList := ByteArray.toList_eq ..
  obtain ⟨k, hk⟩ : ∃ k, checkL s.data.toList = k := ⟨_, rfl⟩
  obtain ⟨j, hj⟩ : ∃ j, nameX s.data.toList = j := ⟨_, rfl⟩
  have HC := Lib.hid (check_any s hs w)
  rw [hk] at HC
  have HNm := Lib.hid (fun (W : World) => nameLen_any s hs W)
  rw [hj] at HNm
  by_cases h1 : k = s.size
  · by_cases h2 : s.data.toList = []
    · have HR := Lib.hid (show nameB s = false by unfold nameB bl; rw [h2]; simp)
      have E1 : (decide (k = s.size)) = true := decide_eq_true h1
      have E2 : (s.toList != []) = false := by rw [hE, h2]; rfl
      have E3 : s.toList.isEmpty = true := by rw [hE, h2]; rfl
      rw [E1] at HC
      clear hk hj hE hls h1 h2
      go_enter Try.func27, Try.ntmps27
      go_wp2_with (go_at_call 36; refine HC.out.mono ?_; rintro e w' ⟨rfl, rfl⟩)
      go_ret
      exact ⟨by rw [HR.out]; rfl, Below.refl _ _⟩
    · have E1 : (decide (k = s.size)) = true := decide_eq_true h1
      have E2 : (s.toList != []) = true := by rw [hE]; exact bne_iff_ne.2 h2
      have E3 : s.toList.isEmpty = false := by rw [hE, List.isEmpty_eq_false_iff]; exact h2
      have HR := Lib.hid (show nameB s = ((j : Int) == (s.size : Int)) by
        unfold nameB bl
        rw [hk, hj, hls, decide_eq_true h1, Bool.true_and, List.isEmpty_eq_false_iff.2 h2, Bool.not_false, Bool.true_and]
        rw [Bool.eq_iff_iff, decide_eq_true_iff, beq_iff_eq]
        omega)
      rw [E1] at HC
      clear hk hj hE hls h1 h2
      go_enter Try.func27, Try.ntmps27
      go_wp2_with (first | (go_at_call 36; refine HC.out.mono ?_; rintro e w' ⟨rfl, rfl⟩) | (go_at_call 37; refine (HNm.out _).mono ?_; rintro e w2 ⟨rfl, hB⟩))
      go_ret
      exact ⟨by rw [HR.out]; rfl, hB⟩
  · have HR := Lib.hid (show nameB s = false by unfold nameB bl; rw [hk, hls, decide_eq_false h1]; simp)
    have E1 : (decide (k = s.size)) = false := decide_eq_false h1
    rw [E1] at HC
    clear hk hj hE hls h1
    go_enter Try.func27, Try.ntmps27
    go_wp2_with (go_at_call 36; refine HC.out.mono ?_; rintro e w' ⟨rfl, rfl⟩)
    go_ret
    exact ⟨by rw [HR.out]; rfl, Below.refl _ _⟩

set_option maxRecDepth 100000 in
set_option maxHeartbeats 3200000 in
theorem plain_any (s : ByteArray) (hs : s.size ≤ 9223372036854775807) (w : World) :
    Calls Try.prog 29 #[.string s] w fun e w' => e = .returned (.bool (plainB s)) ∧ Below w.heap.size w w' := by
  have hls : s.data.toList.length = s.size := by simp
  refine (callsIn_wide (n := 3)).1 ?_
  refine callsIn_of_wp_marks Try.func29 rfl trivial ?_ rfl
  simp only [Try.ntmps29, List.size_toArray, List.length_cons, List.length_nil, Nat.reduceAdd, Nat.reduceSub, Array.replicate_succ, Array.replicate_zero, List.push_toArray, List.append_toArray, List.nil_append, List.cons_append]
  by_cases hck : checkL s.data.toList = s.size
  · have HCK := Lib.hid (show decide (checkL s.data.toList = s.size) = true by simp [hck])
    have HC := Lib.hid hck
    clear hck
    gi_wp2_with (first | (refine ⟨trivial, ?_⟩; gi_at_call 36; refine (callsIn_wide.2 (check_any _ (by omega) _)).mono ?_; rintro e w' ⟨rfl, rfl⟩; rw [HCK.out]) | (refine ⟨trivial, ?_⟩; gi_at_call 40; refine (callsIn_wide.2 (runes_any _ _)).mono ?_; rintro e w' ⟨rfl, rfl⟩))
    have bS := Boxed.new (w.alloc (.cells #[.bool false] 4)) 9 (.string s)
    rw [World.size_alloc] at bS
    have bR : BlkAt ((w.alloc (.cells #[.bool false] 4)).alloc (.cells #[.string s] 9)) w.heap.size 4 #[.bool false] := (BlkAt.new w _ _).alloc _
    have hB0 : Below w.heap.size w ((w.alloc (.cells #[.bool false] 4)).alloc (.cells #[.string s] 9)) := ((Below.refl _ w).alloc (Nat.le_refl _) _).alloc (by simp) _
    obtain ⟨W0, hW0⟩ : ∃ W0, (w.alloc (.cells #[.bool false] 4)).alloc (.cells #[.string s] 9) = W0 := ⟨_, rfl⟩
    have hz0 : W0.heap.size = w.heap.size + 2 := by rw [← hW0]; simp
    rw [hW0] at bS bR hB0 ⊢
    clear hW0
    refine wpIn_rangeFunc_ownG rfl (by omega) (gf := 52) (lb := #[.pointer (some ⟨w.heap.size + 1, 0, none⟩)]) rfl trivial (enters_of Try.func52 (by kernel_rfl) rfl)
      (runes_stops 2 (by omega) (w.heap.size + 1) s (by omega) _ bS) keepB_t (keepB_b (by omega)) (Below.refl _ _) (fun _ => rfl)
      (fun pre W => BlkAt W w.heap.size 4 #[.bool false] ∧ (∀ q ∈ pre, offChar q = false) ∧ Below w.heap.size w W ∧ w.heap.size + 2 ≤ W.heap.size)
      (fun c pre W => c = .ret ∧ ∃ p x, pre = p ++ [x] ∧ (∀ q ∈ p, offChar q = false) ∧ offChar x = true ∧ BlkAt W w.heap.size 4 #[.bool false] ∧ Below w.heap.size w W)
      ?hI ?hIx
      ⟨bR, by simp, hB0, by omega⟩
      (fun x => { tmps := #[.string s, undef, .pointer (some ⟨w.heap.size, 0, none⟩), .int .i64 (checkL s.data.toList), .bool true, undef, .int .i64 x.2, .tuple #[.int .i64 (checkL s.data.toList), .bool true], .string s, .tuple #[.int .i64 (checkL s.data.toList), .bool true], .int .i64 (checkL s.data.toList), .bool true, .bool true, .bool false, .string s, .func (.func 52) #[] #[.pointer (some ⟨w.heap.size + 1, 0, none⟩)], .int .i64 x.1, .int .i64 x.2, undef, undef, undef], defers := [] }) ?assign ?body ?done ?stop
    case hI =>
      intro pre W W' row hs hg hr
      obtain ⟨h1, h2, h3, h4⟩ := hs
      exact ⟨blk_own _ _ (fun _ => #[.bool false]) () W W' row h1 hg (fun r e => (hr r e).2), h2, h3.grown hg h3.size (fun k e => by have := (hr k e).1; omega), Nat.le_trans h4 hg.size⟩
    case hIx =>
      intro c pre W W' row hs hg hr
      obtain ⟨hc, p, x, h1, h2, h3, h4, h5⟩ := hs
      exact ⟨hc, p, x, h1, h2, h3, blk_own _ _ (fun _ => #[.bool false]) () W W' row h4 hg (fun r e => (hr r e).2), h5.grown hg h5.size (fun k e => by have := (hr k e).1; omega)⟩
    case assign =>
      rintro l ⟨x1, x2⟩ W K hK
      simp only [encII]
      gi_wp2
      exact hK
    case body =>
      rintro l pre ⟨x1, x2⟩ W ⟨hv, hf, hB, hz⟩ hlt
      have HF := Lib.hid hf
      clear hs hlt hf bS hB0 bR
      by_cases hp : charR (x2 : Int) = true
      · have HP := Lib.hid hp
        have HO := Lib.hid (show offChar (x1, x2) = false by unfold offChar; simp [hp])
        clear hp
        gi_wp2_with (refine ⟨trivial, ?_⟩; gi_at_call 41; refine (callsIn_wide.2 (char_any _ _)).mono ?_; rintro e w' ⟨rfl, rfl⟩; rw [HP.out])
        refine ⟨(KeepsOthers.refl _).from _, KeepB.refl _ _, hv, ?_, hB, hz⟩
        intro q hq
        rw [List.mem_append] at hq
        rcases hq with hq | hq
        · exact HF.out q hq
        · simp at hq; subst hq; exact HO.out
      · have HP := Lib.hid (show charR (x2 : Int) = false by simpa using hp)
        have HO := Lib.hid (show offChar (x1, x2) = true by unfold offChar; simp [hp])
        have c0 := hv.cell 0
        have f0 := hv.frozen 0
        clear hp
        gi_wp2_with (refine ⟨trivial, ?_⟩; gi_at_call 41; refine (callsIn_wide.2 (char_any _ _)).mono ?_; rintro e w' ⟨rfl, rfl⟩; rw [HP.out])
        exact ⟨(KeepsOthers.setCell _ _ _).from _, rfl, pre, (x1, x2), rfl, HF.out, HO.out, hv.set 0 _, hB.setCell (p := ⟨w.heap.size, 0, none⟩) (Nat.le_refl _) _⟩
    case done =>
      rintro D ys W hD rfl ⟨hv, hf, hB, hz⟩ hK
      have c0 := hv.cell 0
      have f0 := hv.frozen 0
      have HN := Lib.hid (show plainB s = true from decide_eq_true (charsX_done (by rw [HC.out]; exact hls.symm) hf))
      gi_wp2
      obtain ⟨Y, hY⟩ : ∃ Y, W.setCell ⟨w.heap.size, 0, none⟩ (.bool true) = Y := ⟨_, rfl⟩
      have g1 : W.grownBy Y (some w.heap.size) := by rw [← hY]; exact grown_set W _ _ _
      have v1 : BlkAt Y w.heap.size 4 #[.bool true] := by rw [← hY]; exact hv.set 0 _
      rw [hY]
      have hlD := (Array.getElem?_eq_some_iff.1 hK).1
      have hYD : Y.heap[D]? = _ := (g1.block D hlD (fun e => by have := Option.some.inj e; omega)).trans hK
      refine ⟨by simp, .inl ⟨_, _, rfl, run_takeDeferred hYD, ?_⟩⟩
      have z1 : BlkAt (Y.putObj D (.deferred none)) w.heap.size 4 #[.bool true] := v1.below (belowK_b (w := W0) (Nat.le_refl _) Y D _ _ (by omega) hYD rfl rfl) (by omega)
      refine ⟨_, results_b rfl rfl Try.underlying4 z1, ?_⟩
      rw [HN.out]
      exact ⟨rfl, (hB.trans (grown_below g1 (Nat.le_refl _) (by omega))).trans (belowK_b (w := w) (Nat.le_refl _) Y D _ _ (by omega) hYD rfl rfl)⟩
    case stop =>
      rintro D c pre W hD hpre ⟨rfl, p, x, rfl, hf, hx, hv, hB⟩ hK
      have HN := Lib.hid (show plainB s = false from decide_eq_false (by unfold bl; rw [charsX_stop (by rw [HC.out]; exact hls.symm) hpre hf hx]; simp))
      gi_wp2
      refine ⟨by simp, .inl ⟨_, _, rfl, run_takeDeferred hK, ?_⟩⟩
      have z1 : BlkAt (W.putObj D (.deferred none)) w.heap.size 4 #[.bool false] := hv.below (belowK_b (w := W0) (Nat.le_refl _) W D _ _ (by omega) hK rfl rfl) (by omega)
      refine ⟨_, results_b rfl rfl Try.underlying4 z1, ?_⟩
      rw [HN.out]
      exact ⟨rfl, hB.trans (belowK_b (w := w) (Nat.le_refl _) W D _ _ (by omega) hK rfl rfl)⟩
  · have HCK := Lib.hid (show decide (checkL s.data.toList = s.size) = false by simp [hck])
    have HC := Lib.hid (show plainB s = false from decide_eq_false (by unfold bl; rw [charsX_bytes (s := s.data.toList) (by rw [hls]; exact hck)]; simp))
    clear hck
    gi_wp2_with (refine ⟨trivial, ?_⟩; gi_at_call 36; refine (callsIn_wide.2 (check_any _ (by omega) _)).mono ?_; rintro e w' ⟨rfl, rfl⟩; rw [HCK.out])
    refine ⟨_, results_b rfl rfl Try.underlying4 (BlkAt.new w _ _), ?_⟩
    rw [HC.out]
    exact ⟨rfl, (Below.refl _ w).alloc (Nat.le_refl _) _⟩
end Go.Proofs.Ytajnpmhgldfgfaa
