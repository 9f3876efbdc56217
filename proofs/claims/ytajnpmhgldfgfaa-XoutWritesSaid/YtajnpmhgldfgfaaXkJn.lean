/- The walk of xtok.nameLen. -/
import Derived.Test.YtajnpmhgldfgfaaUtI
import Derived.Test.YtajnpmhgldfgfaaXkAL
import Derived.Test.YtajnpmhgldfgfaaOw
import Derived.WalkKit
import Derived.ProofKit
import Derived.LoopTactic
import Derived.WalkSpells
import Derived.WalkLawsBesides
import Derived.RegionIn
import Derived.BigRegionIn
import Derived.Lib.Hide
import Derived.Outline
import Derived.Handy
namespace Go.Proofs.Ytajnpmhgldfgfaa
open Go.RowKit Go.Shelf
set_option linter.unusedVariables false
attribute [local go_sem] Oper.semAt_some
/-- A scope that no goto leaves. -/
theorem wpIn_scope_wide {n : Nat} {P : Program} {c : Code} {Q : Exit → Act → World → Prop} {a : Act} {w : World} (h : c.wpIn Fence.wide n P (Exit.noGoto Q) a w) : (Code.scope c).wpIn Fence.wide n P Q a w :=
  wpIn_wide.2 (wp_scope_straight (wpIn_wide.1 h))

set_option maxRecDepth 100000 in
set_option maxHeartbeats 1600000 in
theorem nameLen_any (s : ByteArray) (hs : s.size ≤ 9223372036854775807) (w : World) :
    Calls Try.prog 37 #[.string s] w fun e w' => e = .returned (.int .i64 (nameX s.data.toList : Nat)) ∧ Below w.heap.size w w' := by
  refine (callsIn_wide (n := 3)).1 ?_
  refine callsIn_of_wp_marks Try.func37 rfl trivial ?_ rfl
  simp only [Try.ntmps37, List.size_toArray, List.length_cons, List.length_nil, Nat.reduceAdd, Nat.reduceSub, Array.replicate_succ, Array.replicate_zero, List.push_toArray, List.append_toArray, List.nil_append, List.cons_append]
  gi_wp2
  refine wpIn_scope_wide ?_
  gi_wp2
  refine wpIn_label ?_
  gi_wp2_with (refine ⟨trivial, ?_⟩; gi_at_call 40; refine (callsIn_wide.2 (runes_any _ _)).mono ?_; rintro e w' ⟨rfl, rfl⟩)
  have bN := Boxed.new w 3 (.int .i64 s.size)
  have bS := Boxed.new (w.alloc (.cells #[.int .i64 s.size] 3)) 9 (.string s)
  rw [World.size_alloc] at bS
  have hB0 : Below w.heap.size w ((w.alloc (.cells #[.int .i64 s.size] 3)).alloc (.cells #[.string s] 9)) := ((Below.refl _ w).alloc (Nat.le_refl _) _).alloc (by simp) _
  refine wpIn_rangeFunc_ownG rfl (by omega) (gf := 52) (lb := #[.pointer (some ⟨w.heap.size + 1, 0, none⟩)]) rfl trivial (enters_of Try.func52 (by kernel_rfl) rfl)
    (runes_stops 2 (by omega) (w.heap.size + 1) s hs _ bS) keepB_t (keepB_b (by simp)) (Below.refl _ _) (fun _ => rfl)
    (fun pre W => Boxed W w.heap.size 3 (.int .i64 s.size) ∧ (∀ q ∈ pre, offName q = false) ∧ Below w.heap.size w W)
    (fun c pre W => c = .exit 0 ∧ ∃ p x, pre = p ++ [x] ∧ (∀ q ∈ p, offName q = false) ∧ offName x = true ∧ Boxed W w.heap.size 3 (.int .i64 x.1) ∧ Below w.heap.size w W)
    ?hI ?hIx
    ⟨bN.alloc _, by simp, hB0⟩
    (fun x => { tmps := #[.string s, undef, .int .i64 0, .pointer (some ⟨w.heap.size, 0, none⟩), .int .i64 x.1, .int .i64 x.2, .string s, .int .i64 s.size, .string s, .func (.func 52) #[] #[.pointer (some ⟨w.heap.size + 1, 0, none⟩)], .int .i64 x.1, .int .i64 x.2, undef, undef, undef, undef, undef, undef, undef, undef, undef, undef, undef, undef, undef, undef], defers := [] }) ?assign ?body ?done ?stop
  case hI =>
    intro pre W W' row hs hg hr
    obtain ⟨h1, h2, h3⟩ := hs
    exact ⟨boxed_own _ _ (fun _ => Value.int .i64 s.size) () W W' row h1 hg (fun r e => (hr r e).2), h2, h3.grown hg h3.size (fun k e => by have := (hr k e).1; simp at this; omega)⟩
  case hIx =>
    intro c pre W W' row hs hg hr
    obtain ⟨hc, p, x, h1, h2, h3, h4, h5⟩ := hs
    exact ⟨hc, p, x, h1, h2, h3, boxed_own _ _ (fun _ => Value.int .i64 x.1) () W W' row h4 hg (fun r e => (hr r e).2), h5.grown hg h5.size (fun k e => by have := (hr k e).1; simp at this; omega)⟩
  case assign =>
    rintro l ⟨x1, x2⟩ W K hK
    simp only [encII]
    gi_wp2
    exact hK
  case body =>
    rintro l pre ⟨x1, x2⟩ W ⟨hv, hf, hB⟩ hlt
    have hc := hv.cell
    have hfz := hv.frozen
    have HF := Lib.hid hf
    clear hs hlt hf bN bS hB0
    have hgo : ∀ (hx : offName (x1, x2) = false), (∀ q ∈ pre ++ [(x1, x2)], offName q = false) := by
      intro hx q hq
      rw [List.mem_append] at hq
      rcases hq with hq | hq
      · exact HF.out q hq
      · simp at hq; subst hq; exact hx
    have HG := Lib.hid hgo
    clear hgo
    by_cases hp : namePartR (x2 : Int) = true
    · have HP := Lib.hid hp
      by_cases h0 : x1 = 0
      · subst h0
        by_cases hst : nameStartR (x2 : Int) = true
        · have HS := Lib.hid hst
          have HO := Lib.hid (show offName (0, x2) = false by unfold offName; simp [hp, hst])
          clear hp hst
          gi_wp2_with (first | (refine ⟨trivial, ?_⟩; gi_at_call 49; refine (callsIn_wide.2 (namePart_any _ _)).mono ?_; rintro e w' ⟨rfl, rfl⟩; rw [HP.out]) | (refine ⟨trivial, ?_⟩; gi_at_call 50; refine (callsIn_wide.2 (nameStart_any _ _)).mono ?_; rintro e w' ⟨rfl, rfl⟩; rw [HS.out]))
          exact ⟨(KeepsOthers.refl _).from _, KeepB.refl _ _, hv, HG.out HO.out, hB⟩
        · have HS := Lib.hid (show nameStartR (x2 : Int) = false by simpa using hst)
          have HO := Lib.hid (show offName (0, x2) = true by unfold offName; simp [hp, hst])
          clear hp hst
          gi_wp2_with (first | (refine ⟨trivial, ?_⟩; gi_at_call 49; refine (callsIn_wide.2 (namePart_any _ _)).mono ?_; rintro e w' ⟨rfl, rfl⟩; rw [HP.out]) | (refine ⟨trivial, ?_⟩; gi_at_call 50; refine (callsIn_wide.2 (nameStart_any _ _)).mono ?_; rintro e w' ⟨rfl, rfl⟩; rw [HS.out]))
          exact ⟨(KeepsOthers.setCell _ _ _).from _, rfl, pre, (0, x2), rfl, HF.out, HO.out, hv.set _, hB.setCell (p := ⟨w.heap.size, 0, none⟩) (Nat.le_refl _) _⟩
      · have hz : ((x1 : Int) == 0) = false := beq_eq_false_iff_ne.2 (by omega)
        have HO := Lib.hid (show offName (x1, x2) = false by unfold offName; simp [hp, h0])
        clear hp
        gi_wp2_with (first | (refine ⟨trivial, ?_⟩; gi_at_call 49; refine (callsIn_wide.2 (namePart_any _ _)).mono ?_; rintro e w' ⟨rfl, rfl⟩; rw [HP.out]) | (refine ⟨trivial, ?_⟩))
        exact ⟨(KeepsOthers.refl _).from _, KeepB.refl _ _, hv, HG.out HO.out, hB⟩
    · have HP := Lib.hid (show namePartR (x2 : Int) = false by simpa using hp)
      have HO := Lib.hid (show offName (x1, x2) = true by unfold offName; simp [hp])
      clear hp
      gi_wp2_with (first | (refine ⟨trivial, ?_⟩; gi_at_call 49; refine (callsIn_wide.2 (namePart_any _ _)).mono ?_; rintro e w' ⟨rfl, rfl⟩; rw [HP.out]) | (refine ⟨trivial, ?_⟩))
      all_goals exact ⟨(KeepsOthers.setCell _ _ _).from _, rfl, pre, (x1, x2), rfl, HF.out, HO.out, hv.set _, hB.setCell (p := ⟨w.heap.size, 0, none⟩) (Nat.le_refl _) _⟩
  case done =>
    rintro D ys W hD rfl ⟨hv, hf, hB⟩ hK
    have hc := hv.cell
    have HN := Lib.hid (nameX_done hf)
    have hls : s.data.toList.length = s.size := by simp
    gi_wp2
    refine ⟨by simp, .inl ⟨_, _, rfl, run_takeDeferred hK, ?_⟩⟩
    exact ⟨_, results_tmp rfl _ _ _, by rw [HN.out, hls]; rfl, hB.trans (belowK_b (w := w) (Nat.le_refl _) W D _ _ (by simp at hD; omega) hK rfl rfl)⟩
  case stop =>
    rintro D c pre W hD hpre ⟨rfl, p, x, rfl, hf, hx, hv, hB⟩ hK
    have hc := hv.cell
    have HN := Lib.hid (nameX_stop hpre hf hx)
    gi_wp2
    refine ⟨by simp, .inl ⟨_, _, rfl, run_takeDeferred hK, ?_⟩⟩
    exact ⟨_, results_tmp rfl _ _ _, by rw [HN.out]; rfl, hB.trans (belowK_b (w := w) (Nat.le_refl _) W D _ _ (by simp at hD; omega) hK rfl rfl)⟩
end Go.Proofs.Ytajnpmhgldfgfaa
