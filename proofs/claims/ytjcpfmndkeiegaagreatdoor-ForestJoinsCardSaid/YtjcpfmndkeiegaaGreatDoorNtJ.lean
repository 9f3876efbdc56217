/- The walk of nat.guess. -/
import Derived.Test.YtjcpfmndkeiegaaGreatDoorNtHI
namespace Go.Proofs.YtjcpfmndkeiegaaGreatDoor
open Go.RowKit
set_option linter.unusedVariables false

/-- The loop of guess: what stays true of a digit and of what is left. -/
def GuessP (V1 V0 two U0 q r : Nat) : Prop := q * V1 + r = two ∧ ∀ Q, Q ≤ 4294967295 → Q * (V1 * 4294967296 + V0) ≤ two * 4294967296 + U0 → Q ≤ q
theorem guess_start {V1 V0 two U0 : Nat} (hV : 0 < V1) (hU : U0 < 4294967296) : GuessP V1 V0 two U0 (two / V1) (two % V1) := by
  refine ⟨by rw [Nat.mul_comm]; exact Nat.div_add_mod two V1, fun Q _ h => ?_⟩
  rw [Nat.le_div_iff_mul_le hV]
  have h1 : Q * (V1 * 4294967296 + V0) = Q * V1 * 4294967296 + Q * V0 := by grind
  rw [h1] at h
  generalize Q * V1 = a at *
  omega
theorem guess_big {V1 V0 two U0 q r : Nat} (h : GuessP V1 V0 two U0 q r) (hq : 4294967295 < q) : GuessP V1 V0 two U0 (q - 1) (r + V1) := by
  obtain ⟨h1, h2⟩ := h
  obtain ⟨p, rfl⟩ : ∃ p, q = p + 1 := ⟨q - 1, by omega⟩
  refine ⟨by rw [Nat.add_sub_cancel]; rw [Nat.add_mul] at h1; omega, fun Q hQ _ => by omega⟩
theorem guess_more {V1 V0 two U0 q r : Nat} (h : GuessP V1 V0 two U0 q r) (hq : r * 4294967296 + U0 < q * V0) : GuessP V1 V0 two U0 (q - 1) (r + V1) := by
  obtain ⟨h1, h2⟩ := h
  have hq0 : q ≠ 0 := by rintro rfl; omega
  obtain ⟨p, rfl⟩ : ∃ p, q = p + 1 := ⟨q - 1, by omega⟩
  refine ⟨by rw [Nat.add_sub_cancel]; rw [Nat.add_mul] at h1; omega, fun Q hQ h => ?_⟩
  have h3 := h2 Q hQ h
  rw [Nat.add_sub_cancel]
  apply Decidable.byContradiction
  intro hn
  obtain rfl : Q = p + 1 := by omega
  have h4 : (p + 1) * (V1 * 4294967296 + V0) = (p + 1) * V1 * 4294967296 + (p + 1) * V0 := by grind
  rw [h4] at h
  generalize (p + 1) * V1 = a at *
  omega
/-- A digit that is not too great. -/
theorem guess_end {V1 V0 two U0 q r : Nat} (h : GuessP V1 V0 two U0 q r) (hq : q * V0 ≤ r * 4294967296 + U0) : q * (V1 * 4294967296 + V0) ≤ two * 4294967296 + U0 := by
  obtain ⟨h1, h2⟩ := h
  have h4 : q * (V1 * 4294967296 + V0) = q * V1 * 4294967296 + q * V0 := by grind
  rw [h4]
  generalize q * V1 = a at *
  omega
theorem guess_rest {q V0 r U0 : Nat} (hq : q ≤ 4294967296) (hV : V0 < 4294967296) (hr : 4294967295 < r) : q * V0 ≤ r * 4294967296 + U0 := by
  have h1 := Nat.mul_le_mul hq (show V0 ≤ 4294967295 by omega)
  omega

set_option maxRecDepth 20000 in
set_option maxHeartbeats 16000000 in
theorem guess_any {w : World} {g off gv n cu cv U2 U1 U0 V1 V0 : Nat} (hn : 2 ≤ n) (hn2 : n ≤ 1000000) (hoff : off ≤ 4000000)
    (u2 : w.cell? ⟨g, off + n, none⟩ = some (.int .u32 (U2 : Int))) (u1 : w.cell? ⟨g, off + (n - 1), none⟩ = some (.int .u32 (U1 : Int))) (u0 : w.cell? ⟨g, off + (n - 2), none⟩ = some (.int .u32 (U0 : Int)))
    (v1 : w.cell? ⟨gv, n - 1, none⟩ = some (.int .u32 (V1 : Int))) (v0 : w.cell? ⟨gv, n - 2, none⟩ = some (.int .u32 (V0 : Int)))
    (hU2 : U2 ≤ V1) (hV1 : V1 < 4294967296) (hV1' : 2147483648 ≤ V1) (hU1 : U1 < 4294967296) (hU0 : U0 < 4294967296) (hV0 : V0 < 4294967296) :
    Calls Tryz.prog 156 #[.slice (some ⟨g, off, none⟩) (n + 1) cu, .slice (some ⟨gv, 0, none⟩) n cv] w fun e w' => ∃ q : Nat, e = .returned (.int .u64 (q : Int)) ∧ q ≤ 4294967296 ∧
      q * (V1 * 4294967296 + V0) ≤ (U2 * 4294967296 + U1) * 4294967296 + U0 ∧ (∀ Q, Q ≤ 4294967295 → Q * (V1 * 4294967296 + V0) ≤ (U2 * 4294967296 + U1) * 4294967296 + U0 → Q ≤ q) ∧ Below w.heap.size w w' := by
  obtain ⟨two, htwo⟩ : ∃ two, U2 * 4294967296 + U1 = two := ⟨_, rfl⟩
  rw [htwo]
  have hP0 := guess_start (V0 := V0) (two := two) (show 0 < V1 by omega) hU0
  have hq0 : two / V1 ≤ 4294967297 := by
    have : two < 4294967298 * V1 := by
      have := Nat.mul_le_mul_right 4294967296 hU2
      omega
    have := Nat.div_lt_of_lt_mul (by rw [Nat.mul_comm] at this; exact this : two < V1 * 4294967298)
    omega
  have hr0 : two % V1 ≤ 4294967295 := by have := Nat.mod_lt two (show 0 < V1 by omega); omega
  obtain ⟨u2I, h2⟩ : ∃ x : Int, (U2 : Int) = x := ⟨_, rfl⟩
  obtain ⟨u1I, h1⟩ : ∃ x : Int, (U1 : Int) = x := ⟨_, rfl⟩
  obtain ⟨u0I, h0⟩ : ∃ x : Int, (U0 : Int) = x := ⟨_, rfl⟩
  obtain ⟨v1I, k1⟩ : ∃ x : Int, (V1 : Int) = x := ⟨_, rfl⟩
  obtain ⟨v0I, k0⟩ : ∃ x : Int, (V0 : Int) = x := ⟨_, rfl⟩
  obtain ⟨tI, ht⟩ : ∃ x : Int, (two : Int) = x := ⟨_, rfl⟩
  have a1 : 0 ≤ u2I := by omega
  have a2 : u2I ≤ 4294967295 := by omega
  have a3 : 0 ≤ u1I := by omega
  have a4 : u1I ≤ 4294967295 := by omega
  have a5 : 0 ≤ u0I := by omega
  have a6 : u0I ≤ 4294967295 := by omega
  have a7 : 2147483648 ≤ v1I := by omega
  have a8 : v1I ≤ 4294967295 := by omega
  have a9 : 0 ≤ v0I := by omega
  have a10 : v0I ≤ 4294967295 := by omega
  have a11 : u2I * 4294967296 + u1I = tI := by omega
  have a12 : 0 ≤ tI := by omega
  have a13 : tI ≤ 18446744073709551615 := by omega
  have hor := or32 u2I u1I a1 a2 a3 a4
  rw [a11] at hor
  obtain ⟨q0, hq0'⟩ : ∃ q0, two / V1 = q0 := ⟨_, rfl⟩
  obtain ⟨r0, hr0'⟩ : ∃ r0, two % V1 = r0 := ⟨_, rfl⟩
  have hqI : tI / v1I = (q0 : Int) := by rw [← hq0', ← ht, ← k1]; simp
  have hrI : tI % v1I = (r0 : Int) := by rw [← hr0', ← ht, ← k1]; simp
  rw [hq0'] at hP0 hq0
  rw [hr0'] at hP0 hr0
  have HP0 := Lib.hid hP0
  have HQ0 := Lib.hid hq0
  have HR0 := Lib.hid hr0
  have HU0 := Lib.hid hU0
  have HV0 := Lib.hid hV0
  have HV1 := Lib.hid hV1
  have Hk1 := Lib.hid k1
  have Hk0 := Lib.hid k0
  have Hh0 := Lib.hid h0
  rw [h2] at u2
  rw [h1] at u1
  rw [h0] at u0
  rw [k1] at v1
  rw [k0] at v0
  have hnI : (2 : Int) ≤ (n : Int) := by omega
  have wy : IntKind.u64.wrap (u2I * 4294967296) = u2I * 4294967296 := by simp [IntKind.wrap, IntKind.bits, IntKind.signed]; omega
  clear hP0 hq0 hr0 hU2 hV1 hV1' hU1 hU0 hV0 h2 h1 h0 k1 k0 ht hq0' hr0' htwo
  go_enter Tryz.func156, Tryz.ntmps156
  go_wp2
  go_step3
  go_wp2_with fail
  go_region
  all_goals
    go_wp2_with fail
    go_region
    all_goals
      rw [hqI, hrI]
      clear hqI hrI hor wy a11 a12 a13 u2 u1 v1
      go_wp2
      go_step3
      go_wp2
      go_loopw [8, 9] (fun x y W => ∃ q r : Nat, x = .int .u64 q ∧ y = .int .u64 r ∧ GuessP V1 V0 two U0 q r ∧ q ≤ 4294967297 ∧ r ≤ 4294967295 ∧ Below w.heap.size w W) (fun x y W => (intOf x).toNat)
      case atStart => exact ⟨q0, r0, rfl, rfl, HP0.out, HQ0.out, HR0.out, (Below.refl _ w).drew.drew⟩
      case round =>
        obtain ⟨q, r, rfl, rfl, hP, hq, hr, hB⟩ := hrel
        have HP := Lib.hid hP
        have HB := Lib.hid hB
        have b0 := (hB.cell (block_lt' u0)).trans u0
        have c0 := (hB.cell (block_lt' v0)).trans v0
        obtain ⟨qI, hqI⟩ : ∃ x : Int, (q : Int) = x := ⟨_, rfl⟩
        obtain ⟨rI, hrI⟩ : ∃ x : Int, (r : Int) = x := ⟨_, rfl⟩
        have q1 : 0 ≤ qI := by omega
        have q2 : qI ≤ 4294967297 := by omega
        have r1 : 0 ≤ rI := by omega
        have r2 : rI ≤ 4294967295 := by omega
        have HqI := Lib.hid hqI
        have HrI := Lib.hid hrI
        have hor := or32 rI u0I r1 r2 a5 a6
        have wy : IntKind.u64.wrap (rI * 4294967296) = rI * 4294967296 := by simp [IntKind.wrap, IntKind.bits, IntKind.signed]; omega
        have hmb : q * V0 ≤ 4294967297 * 4294967295 := Nat.mul_le_mul hq (by have := HV0.out; omega)
        obtain ⟨mm, hmm⟩ : ∃ mm, q * V0 = mm := ⟨_, rfl⟩
        have hmI : qI * v0I = (mm : Int) := by rw [← hqI, ← Hk0.out, ← hmm]; simp
        obtain ⟨mI, hmI'⟩ : ∃ x : Int, (mm : Int) = x := ⟨_, rfl⟩
        have m0 : 0 ≤ mI := by omega
        have m1 : mI ≤ 18446744073709551615 := by rw [hmm] at hmb; omega
        rw [hmI'] at hmI
        have wm : IntKind.u64.wrap (qI * v0I) = mI := by rw [hmI]; simp [IntKind.wrap, IntKind.bits, IntKind.signed]; omega
        have HmI := Lib.hid hmI'
        have Hmm := Lib.hid hmm
        rw [hqI, hrI]
        by_cases hbig : 4294967295 < q
        · have hbI : (4294967295 : Int) < qI := by omega
          have HP2 := Lib.hid (guess_big hP hbig)
          have HQ := Lib.hid hq
          have hq1 : 1 ≤ q := by omega
          have hq2 : q ≤ 4294967297 := hq
          have HQ2 := Lib.hid hq2
          clear hP hB hqI hrI hmb hmm hmI' hbig hq hr hor wy wm hmI hq1 hq2
          go_wp2_with fail
          go_region
          all_goals
            have hq1 : 1 ≤ q := by have := HqI.out; omega
            have hq2 := HQ2.out
            by_cases hov : 4294967295 < r + V1
            · have hovI : (4294967295 : Int) < rI + v1I := by have := HrI.out; have := Hk1.out; omega
              have HOv := Lib.hid hov
              clear hov
              go_wp2
              rw [Exit.noGoto_ret]
              go_ret
              exact ⟨q - 1, by have h := HqI.out; rw [show ((q - 1 : Nat) : Int) = qI - 1 by omega]; rfl, by omega, guess_end HP2.out (guess_rest (by omega) HV0.out HOv.out), HP2.out.2, HB.out.drew⟩
            · have hovI : rI + v1I ≤ 4294967295 := by have := HrI.out; have := Hk1.out; omega
              have HOv := Lib.hid hov
              clear hov
              go_wp2
              go_roundw
              case rel => exact ⟨q - 1, r + V1, by have h := HqI.out; rw [show ((q - 1 : Nat) : Int) = qI - 1 by omega], by have h := HrI.out; have h2 := Hk1.out; rw [show ((r + V1 : Nat) : Int) = rI + v1I by omega], HP2.out, by omega, by have := HOv.out; omega, HB.out.drew⟩
              case measure => simp [intOf]; omega
        · have hbI : qI ≤ 4294967295 := by omega
          have D1 : decide ((4294967295 : Int) < qI) = false := decide_eq_false (by omega)
          by_cases hgt : r * 4294967296 + U0 < mm
          · have hgI : rI * 4294967296 + u0I < mI := by have := Hh0.out; omega
            have HP2 := Lib.hid (guess_more hP (by rw [hmm]; exact hgt))
            have HQ2 := Lib.hid hq
            clear hP hB hqI hrI hmb hmm hmI' hbig hq hr hgt hmI
            go_wp2_with fail
            go_quiet (fail)
            have HBl := Lib.hid (show Below w.heap.size w (wr.drewN nq) from ⟨HB.out.os, HB.out.tape, HB.out.output, HB.out.size, HB.out.block⟩)
            all_goals
              have hq1 : 1 ≤ q := by
                have h1 := HqI.out
                have h2 := Hmm.out
                apply Decidable.byContradiction
                intro hn
                obtain rfl : q = 0 := by omega
                rw [Nat.zero_mul] at h2
                have := HmI.out
                omega
              have hq2 := HQ2.out
              have hq1I : 1 ≤ qI := by have := HqI.out; omega
              by_cases hov : 4294967295 < r + V1
              · have hovI : (4294967295 : Int) < rI + v1I := by have := HrI.out; have := Hk1.out; omega
                have HOv := Lib.hid hov
                clear hov
                go_wp2
                rw [Exit.noGoto_ret]
                go_ret
                exact ⟨q - 1, by have h := HqI.out; rw [show ((q - 1 : Nat) : Int) = qI - 1 by omega]; rfl, by omega, guess_end HP2.out (guess_rest (by omega) HV0.out HOv.out), HP2.out.2, HBl.out⟩
              · have hovI : rI + v1I ≤ 4294967295 := by have := HrI.out; have := Hk1.out; omega
                have HOv := Lib.hid hov
                clear hov
                go_wp2
                go_roundw
                case rel => exact ⟨q - 1, r + V1, by have h := HqI.out; rw [show ((q - 1 : Nat) : Int) = qI - 1 by omega], by have h := HrI.out; have h2 := Hk1.out; rw [show ((r + V1 : Nat) : Int) = rI + v1I by omega], HP2.out, by omega, by have := HOv.out; omega, HBl.out⟩
                case measure => simp [intOf]; omega
          · have hgI : mI ≤ rI * 4294967296 + u0I := by have := Hh0.out; omega
            have HE := Lib.hid (guess_end hP (by rw [hmm]; omega))
            clear hP hB hqI hrI hmb hmm hmI' hbig hq hr hgt hmI
            go_wp2_with fail
            go_quiet (fail)
            have HBl := Lib.hid (show Below w.heap.size w (wr.drewN nq) from ⟨HB.out.os, HB.out.tape, HB.out.output, HB.out.size, HB.out.block⟩)
            all_goals
              go_wp2
              rw [Exit.noGoto_ret]
              go_ret
              exact ⟨q, by rw [HqI.out]; rfl, by have := HqI.out; omega, HE.out, HP.out.2, HBl.out⟩
end Go.Proofs.YtjcpfmndkeiegaaGreatDoor
