/- The walk of chapter 10's word Real: the document's fields as real ones. -/
import Derived.Test.YtgdnibdahldekabProg
import Derived.Test.YtgdnibdahldekabPbX
import Derived.Test.YtgdnibdahldekabPfF
import Derived.Test.YtgdnibdahldekabRd
import Derived.Test.YtgdnibdahldekabMem
import Derived.StillTactics
import Derived.OwnWalk
import Derived.Laws.Pointers
import Derived.Deep.RegionHeld3
import Derived.Deep.AppendLies
import Derived.WalkKit
import Derived.ProofKit
import Derived.LoopTactic
import Derived.Lib.Hide
import Derived.Outline
import Derived.Handy
namespace Go.Proofs.Ytgdnibdahldekab
open Go.RowKit
set_option linter.unusedVariables false

theorem infoF : (Try.prog.info? 39).map (fun i => (i.zero, i.size, i.bytes)) = some (some (.agg #[.int .i64 0, .int .i64 0, .int .i64 0, .int .u64 0, .string ⟨#[]⟩]), 5, 48) := by kernel_rfl
set_option maxRecDepth 100000 in
set_option maxHeartbeats 3200000 in
theorem real_any (a : Option Addr) (c n : Nat) (fs : List Fld) (hn : fs.length = n) (hm : n ≤ 1000000) (w : World) (hr : RdF w a fs) :
    Calls Try.prog 30 #[.slice a n c] w fun e W' => ∃ v, e = .returned v ∧ W'.ownsRow w.heap.size 39 5 v n (fs.flatMap fldCells) ∧ Below w.heap.size w W' := by
  have HR := Lib.hid hr
  have HN := Lib.hid hn
  clear hr hn
  go_enter Try.func30, Try.ntmps30
  go_wp2
  go_loopw [3, 4] (fun b p wr => ∃ k : Nat, p = .int .i64 k ∧ k ≤ n ∧ wr.ownsRow w.heap.size 39 5 b k ((fs.take k).flatMap fldCells) ∧ Below w.heap.size w wr ∧ w.heap.size ≤ wr.heap.size) (fun _ p _ => n - (intOf p).toNat)
  case atStart => exact ⟨0, rfl, Nat.zero_le _, World.ownsRow_nil _ _ _ _, Below.refl _ _, Nat.le_refl _⟩
  case round =>
    obtain ⟨k, rfl, hk, hown, hB, hsz⟩ := hrel
    by_cases hlt : k < n
    · have hkl : k < fs.length := by have := HN.out; omega
      obtain ⟨g, rfl, hg1, hg2⟩ := (HR.out.below hB) k hkl
      have ef : fs.getD k zeroF = fs[k] := by rw [List.getD, List.getElem?_eq_getElem hkl]; rfl
      have hst : (fs.take (k + 1)).flatMap fldCells = (fs.take k).flatMap fldCells ++ fldCells fs[k] := by
        rw [List.take_add_one, List.getElem?_eq_getElem hkl, List.flatMap_append]; simp
      rw [ef] at hg2
      obtain ⟨f, hf⟩ : ∃ f, fs[k] = f := ⟨_, rfl⟩
      rw [hf] at hg2 hst
      obtain ⟨x0, x1, x2, x3, x4⟩ := f
      have HS := Lib.hid hst
      have p0 := hg2 0 (by omega)
      have p1 := hg2 1 (by omega)
      have p2 := hg2 2 (by omega)
      have p3 := hg2 3 (by omega)
      have p4 := hg2 4 (by omega)
      simp only [fldCells, List.getElem?_cons_succ, List.getElem?_cons_zero, Nat.add_zero] at p0 p1 p2 p3 p4
      clear hst hg2 ef hf hkl
      obtain ⟨g', hg', hg0, _⟩ := HR.out k (by have := HN.out; omega)
      simp only [Option.some.injEq, Addr.mk.injEq, and_true] at hg'
      subst hg'
      have ag : u3.ownBlock ≠ some g := fun e => by have := hown.lt g e; omega
      obtain ⟨i0, hi0, hz0, hz1, hz2⟩ := info_parts infoF
      go_wp2_with fail
      go_region_held3 (fun w' => w'.cell? ⟨g, k * 5, none⟩ = some (.int .i64 x0) ∧ w'.cell? ⟨g, k * 5 + 1, none⟩ = some (.int .i64 x1) ∧ w'.cell? ⟨g, k * 5 + 2, none⟩ = some (.int .i64 x2) ∧ w'.cell? ⟨g, k * 5 + 3, none⟩ = some (.int .u64 x3) ∧ w'.cell? ⟨g, k * 5 + 4, none⟩ = some (.string ⟨x4.toArray⟩))
        (first
          | go_keep
          | (go_split_ands
             refine ⟨?_, ?_, ?_, ?_, ?_⟩
             · (rw [hgrow.cell_far _ (by simp; omega) (Ne.symm ag)]; assumption)
             · (rw [hgrow.cell_far _ (by simp; omega) (Ne.symm ag)]; assumption)
             · (rw [hgrow.cell_far _ (by simp; omega) (Ne.symm ag)]; assumption)
             · (rw [hgrow.cell_far _ (by simp; omega) (Ne.symm ag)]; assumption)
             · (rw [hgrow.cell_far _ (by simp; omega) (Ne.symm ag)]; assumption)))
        ((refine step_append_lies _ (by rfl) _ _ _ (by rfl) w.heap.size 39 i0 _ 5 48 Try.underlying45 hi0 hz0 hz1 hz2 rfl (by omega) u3 k _ (by rfl) ((hown.alloc _).drew)
            ⟨wr.heap.size, 0, none⟩ 1 1 [.int .i64 x0, .int .i64 x1, .int .i64 x2, .int .u64 x3, .string ⟨x4.toArray⟩] (by rfl) (by rfl) (World.news_of_block (cs := #[.int .i64 x0, .int .i64 x1, .int .i64 x2, .int .u64 x3, .string ⟨x4.toArray⟩]) (t := 39) (fr := (0, 0)) (heap_alloc_new wr _)) (by simp [Value.oneCell'])
            (by omega) (by unfold maxLen; omega) (by omega) (by simp; omega) (wr.heap.size + 1) (by simp) ?_; intro gg cap w1 hown1 hgrow hat hlt1))
      have hB2 : Below w.heap.size w w1 := ((hB.alloc hsz _).drew).grown hgrow (by show w.heap.size ≤ (wr.alloc _).heap.size; simp; omega) (fun j ej => (hown.lt j ej).1)
      go_wp2
      go_roundw
      case rel => exact ⟨k + 1, by go_num, by omega, by rw [HS.out]; exact hown1, hB2, Nat.le_trans hsz (Nat.le_trans (by simp) hgrow.size)⟩
      case measure => simp [intOf]; omega
    · obtain rfl : k = n := by omega
      have hfin : (fs.take k).flatMap fldCells = fs.flatMap fldCells := by rw [List.take_of_length_le (by have := HN.out; omega)]
      have HF := Lib.hid hfin
      clear hfin
      go_wp2
      go_ret
      exact ⟨_, rfl, by rw [← HF.out]; exact hown, hB⟩
end Go.Proofs.Ytgdnibdahldekab
