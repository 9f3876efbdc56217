/- The walks of pbuf.PutVarint and of the document's own: each computes putV. -/
import Derived.Test.YtgdnibdahldekabProg
import Derived.Test.YtgdnibdahldekabPbA
import Derived.Test.YtgdnibdahldekabMem
import Derived.WalkKit
import Derived.ProofKit
import Derived.LoopTactic
import Derived.WalkSpells
import Derived.WalkLawsBesides
import Derived.Lib.Hide
import Derived.Outline
import Derived.Handy
namespace Go.Proofs.Ytgdnibdahldekab
open Go.RowKit
set_option linter.unusedVariables false


theorem slB : SlT Try.prog 92 5 1 1 := SlT.mk Try.underlying92 (z := .int .u8 0) (by kernel_rfl) rfl (by decide) (by decide)

set_option maxRecDepth 20000 in
set_option maxHeartbeats 800000 in
theorem putVarint_any (v : Nat) (hv : v < 18446744073709551616) (w : World) :
    Calls Try.prog 50 #[.int .u64 v] w fun e w' => e = .returned (str (putV v)) ∧ Below w.heap.size w w' := by
  go_enter Try.func50, Try.ntmps50
  go_wp2
  go_loopw [0, 3] (fun x s wr => ∃ (u : Nat) (l : List UInt8), x = .int .u64 u ∧ u ≤ v ∧ putV v = l ++ putV u ∧ l.length ≤ 10 ∧ wr.ownsRow w.heap.size 5 1 s l.length (l.map bv) ∧ Below w.heap.size w wr ∧ w.heap.size ≤ wr.heap.size)
    (fun x _ _ => (intOf x).toNat)
  case atStart => exact ⟨v, [], rfl, by omega, rfl, by simp, World.ownsRow_nil _ _ _ _, Below.refl _ _, by omega⟩
  case round =>
    obtain ⟨u, l, rfl, hu, h, hl, hown, hB, hsz⟩ := hrel
    have H := Lib.hid h
    clear h
    by_cases hlt : 128 ≤ u
    · have HP := Lib.hid (putV_big hlt)
      go_wp2_with (at_builtin; refine wpList_app _ rfl _ _ _ _ _ _ slB rfl _ w (hB.alloc hsz _) (by simp; omega) _ _ _ rfl (hown.alloc _) ⟨wr.heap.size, 0, none⟩ _ rfl rfl (cell_one_new _ _ _) ?c1 ?c2 ?_)
      case c1 => intro x hx; simp at hx; subst hx; rfl
      case c2 => omega
      intro v' w1 hown1 hB1 hsz1 _
      go_wp2
      go_roundw
      case rel => 
        refine ⟨u / 128, l ++ [UInt8.ofNat (u % 128 + 128)], by simp, by omega, by rw [H.out, HP.out]; simp, ?_, ?_, hB1, hsz1⟩
        · have h1 := putV_le v hv
          rw [H.out, HP.out] at h1
          simp at h1 ⊢; omega
        · rw [pv_or] at hown1
          simpa [bv] using hown1
      case measure => simp [intOf]; omega
    · go_wp2_with (at_builtin; refine wpList_app _ rfl _ _ _ _ _ _ slB rfl _ w (hB.alloc hsz _) (by simp; omega) _ _ _ rfl (hown.alloc _) ⟨wr.heap.size, 0, none⟩ _ rfl rfl (cell_one_new _ _ _) ?c1 ?c2 ?_)
      case c1 => intro x hx; simp at hx; subst hx; rfl
      case c2 => omega
      intro v' w1 hown1 hB1 hsz1 _
      rw [pv_byte u (by omega)] at hown1
      have ho : OwnB w1 w.heap.size 5 v' (l ++ [UInt8.ofNat u]) := by simpa [OwnB, bv] using hown1
      have hc := ho.convert (P := Try.prog) (src := 92) (dst := 9) Try.underlying92 Try.underlying5 Try.underlying9
      go_wp2
      go_ret
      exact ⟨by rw [H.out, putV_small (by omega)]; rfl, hB1⟩

set_option maxRecDepth 20000 in
set_option maxHeartbeats 800000 in
theorem refPutVarint_any (v : Nat) (hv : v < 18446744073709551616) (w : World) :
    Calls Try.prog 55 #[.int .u64 v] w fun e w' => e = .returned (str (putV v)) ∧ Below w.heap.size w w' := by
  go_enter Try.func55, Try.ntmps55
  go_wp2
  go_loopw [0, 3] (fun x s wr => ∃ (u : Nat) (l : List UInt8), x = .int .u64 u ∧ u ≤ v ∧ putV v = l ++ putV u ∧ l.length ≤ 10 ∧ wr.ownsRow w.heap.size 5 1 s l.length (l.map bv) ∧ Below w.heap.size w wr ∧ w.heap.size ≤ wr.heap.size)
    (fun x _ _ => (intOf x).toNat)
  case atStart => exact ⟨v, [], rfl, by omega, rfl, by simp, World.ownsRow_nil _ _ _ _, Below.refl _ _, by omega⟩
  case round =>
    obtain ⟨u, l, rfl, hu, h, hl, hown, hB, hsz⟩ := hrel
    have H := Lib.hid h
    clear h
    by_cases hlt : 128 ≤ u
    · have HP := Lib.hid (putV_big hlt)
      go_wp2_with (at_builtin; refine wpList_app _ rfl _ _ _ _ _ _ slB rfl _ w (hB.alloc hsz _) (by simp; omega) _ _ _ rfl (hown.alloc _) ⟨wr.heap.size, 0, none⟩ _ rfl rfl (cell_one_new _ _ _) ?c1 ?c2 ?_)
      case c1 => intro x hx; simp at hx; subst hx; rfl
      case c2 => omega
      intro v' w1 hown1 hB1 hsz1 _
      go_wp2
      go_roundw
      case rel => 
        refine ⟨u / 128, l ++ [UInt8.ofNat (u % 128 + 128)], by simp, by omega, by rw [H.out, HP.out]; simp, ?_, ?_, hB1, hsz1⟩
        · have h1 := putV_le v hv
          rw [H.out, HP.out] at h1
          simp at h1 ⊢; omega
        · rw [pv_rem] at hown1
          simpa [bv] using hown1
      case measure => simp [intOf]; omega
    · go_wp2_with (at_builtin; refine wpList_app _ rfl _ _ _ _ _ _ slB rfl _ w (hB.alloc hsz _) (by simp; omega) _ _ _ rfl (hown.alloc _) ⟨wr.heap.size, 0, none⟩ _ rfl rfl (cell_one_new _ _ _) ?c1 ?c2 ?_)
      case c1 => intro x hx; simp at hx; subst hx; rfl
      case c2 => omega
      intro v' w1 hown1 hB1 hsz1 _
      rw [pv_byte u (by omega)] at hown1
      have ho : OwnB w1 w.heap.size 5 v' (l ++ [UInt8.ofNat u]) := by simpa [OwnB, bv] using hown1
      have hc := ho.convert (P := Try.prog) (src := 92) (dst := 9) Try.underlying92 Try.underlying5 Try.underlying9
      go_wp2
      go_ret
      exact ⟨by rw [H.out, putV_small (by omega)]; rfl, hB1⟩
end Go.Proofs.Ytgdnibdahldekab
