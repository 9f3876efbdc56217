/- The walks of the document's own words on characters: Check, Runes, Char, Chars (a copy of UtS for seats without hornbeamlaw6.told). -/
import Derived.Test.YtmhhkekokfpppaaDoorProg
import Derived.Test.YtmhhkekokfpppaaDoorUtR
import Derived.Test.YtmhhkekokfpppaaDoorUtC
import Derived.Test.YtmhhkekokfpppaaDoorTv
import Derived.Test.YtmhhkekokfpppaaDoorRd
import Derived.Test.YtmhhkekokfpppaaDoorXkL
import Derived.RegionIn
import Derived.BigRegionIn
import Derived.BigRegion
import Derived.WalkKit
import Derived.ProofKit
import Derived.LoopTactic
import Derived.LoopNIn
import Derived.LoopIn
import Derived.Lib.Hide
import Derived.Outline
import Derived.Handy
namespace Go.Proofs.YtmhhkekokfpppaaDoor
open Go.RowKit
set_option linter.unusedVariables false

set_option maxRecDepth 20000 in
set_option maxHeartbeats 800000 in
theorem refCheck_any (s : ByteArray) (hs : s.size ≤ 9223372036854775807) (w : World) :
    Calls Tryd.prog 15 #[.string s] w fun e w' => e = .returned (.tuple #[.int .i64 (checkL s.data.toList), .bool (decide (checkL s.data.toList = s.size))]) ∧ Below w.heap.size w w' := by
  go_enter Tryd.func15, Tryd.ntmps15
  go_wp2
  go_loopw [4] (fun a wr => ∃ (k : Nat), k ≤ s.size ∧ a = .int .i64 k ∧ checkL s.data.toList = k + checkL (s.data.toList.drop k) ∧ Below w.heap.size w wr)
      (fun a _ => s.size - (intOf a).toNat)
  case atStart => exact ⟨0, by omega, rfl, by simp, Below.refl _ _⟩
  case round =>
    obtain ⟨k, hk, rfl, h, hB⟩ := hrel
    have H := Lib.hid h
    clear h
    by_cases hlt : k < s.size
    · cases hn : nextL (s.data.toList.drop k) with
      | none =>
        have hc : nextL (s.extract k s.size).data.toList = none := by rw [extract_drop]; exact hn
        have HC := Lib.hid hc
        have hfin : checkL s.data.toList = k := by rw [H.out, checkL_none hn]; rfl
        have HF := Lib.hid hfin
        have hne : decide (checkL s.data.toList = s.size) = false := by rw [hfin]; simp; omega
        have HNE := Lib.hid hne
        clear hn hc hfin hne
        go_wp2_with fail
        refine (refChar_any _ (by simp; omega) (by simp; omega) _).mono ?_
        rintro e w2 ⟨rfl, hB2⟩
        rw [HC.out, nextRes_none]
        go_wp2_with fail
        go_ret2
        exact ⟨ret_ib (by rw [HF.out]) HNE.out.symm, hB.trans (hB2.mono hB.size)⟩
      | some p =>
        obtain ⟨r, n⟩ := p
        have hc : nextL (s.extract k s.size).data.toList = some (r, n) := by rw [extract_drop]; exact hn
        have HC := Lib.hid hc
        obtain ⟨n1, n2, n3, n4⟩ := nextL_bd hn
        simp at n2
        have hst : checkL s.data.toList = k + n + checkL (s.data.toList.drop (k + n)) := by rw [H.out, checkL_some hn, List.drop_drop]; omega
        have HS := Lib.hid hst
        have hz : ((n : Int) == 0) = false := beq_eq_false_iff_ne.2 (by omega)
        clear hn hc hst n4
        go_wp2_with fail
        refine (refChar_any _ (by simp; omega) (by simp; omega) _).mono ?_
        rintro e w2 ⟨rfl, hB2⟩
        rw [HC.out, nextRes_some]
        go_wp2_with fail
        go_roundw
        case rel => exact ⟨k + n, by omega, by go_num, HS.out, hB.trans (hB2.mono hB.size)⟩
        case measure => simp [intOf]; omega
    · obtain rfl : k = s.size := by omega
      have hfin : checkL s.data.toList = s.size := by rw [H.out, drop_end s _ (Nat.le_refl _), checkL_none (l := []) rfl]; rfl
      have HF := Lib.hid hfin
      go_wp2_with fail
      go_ret2
      exact ⟨ret_ib (by rw [HF.out]) (by rw [HF.out]; simp), hB⟩

attribute [local go_sem] Oper.semAt_some
theorem slI : SlT Tryd.prog 51 3 1 8 := SlT.mk Tryd.underlying51 (z := .int .i64 0) (by kernel_rfl) rfl (by decide) (by decide)
abbrev nv (k : Nat) : Value := .int .i64 k
theorem runesAt_cons (k r n : Nat) (t : List (Nat × Nat)) : runesAt k ((r, n) :: t) = (k, r) :: runesAt (k + n) t := rfl
set_option maxRecDepth 100000 in
set_option maxHeartbeats 2000000 in
theorem refRunes_any (s : ByteArray) (hs : s.size ≤ 100000) (w : World) :
    Calls Tryd.prog 16 #[.string s] w fun e W' => ∃ vA vB, e = .returned (.tuple #[vA, vB]) ∧
      W'.ownsRow w.heap.size 3 1 vA (allRunes s.data.toList).length ((allRunes s.data.toList).map fun p => nv p.1) ∧ W'.ownsRow w.heap.size 3 1 vB (allRunes s.data.toList).length ((allRunes s.data.toList).map fun p => nv p.2) ∧ Below w.heap.size w W' := by
  refine (callsIn_wide (n := 3)).1 ?_
  refine callsIn_of_wp Tryd.func16 rfl trivial ?_ rfl
  simp only [Tryd.ntmps16, List.size_toArray, List.length_cons, List.length_nil, Nat.reduceAdd, Nat.reduceSub, Array.replicate_succ, Array.replicate_zero, List.push_toArray, List.append_toArray, List.nil_append, List.cons_append]
  gi_wp2
  gi_loopw [4, 5, 6] (fun A B p wr => ∃ (k : Nat) (pre : List (Nat × Nat)), p = .int .i64 k ∧ k ≤ s.size ∧ pre.length ≤ k ∧ TR w.heap.size 3 3 1 1 [] w wr A pre.length (pre.map fun p => nv p.1) B pre.length (pre.map fun p => nv p.2) ∧ allRunes s.data.toList = pre ++ runesAt k (runesL (s.data.toList.drop k)))
    (fun _ _ p wr => s.size - (intOf p).toNat)
  case atStart => exact ⟨0, [], rfl, by omega, by simp, { rowA := World.ownsRow_nil _ _ _ _, rowB := World.ownsRow_nil _ _ _ _, apart := by simp [Value.ownBlock], stay := by simp, below := Below.refl _ _, room := Nat.le_refl _ }, rfl⟩
  case round =>
    obtain ⟨k, pre, rfl, hk, hpk, hT, h⟩ := hrel
    have H := Lib.hid h
    clear h
    by_cases hlt : k < s.size
    · cases hn : nextL (s.data.toList.drop k) with
      | none =>
        have hc : nextL (s.extract k s.size).data.toList = none := by rw [extract_drop]; exact hn
        have HC := Lib.hid hc
        have hfin : allRunes s.data.toList = pre := by rw [H.out, runesL_none hn]; simp [runesAt]
        have HF := Lib.hid hfin
        clear hn hc hfin
        gi_wp2_with (refine ⟨trivial, ?_⟩; gi_at_call 35; refine (callsIn_wide.2 (refChar_any _ (by simp; omega) (by simp; omega) _)).mono ?_; rintro e w2 ⟨rfl, hB2⟩; rw [HC.out, nextRes_none])
        have hT2 := hT.after hB2
        refine bodyPost_ret (results_tmp2 rfl _ _ _) rfl ?_
        exact ⟨_, _, rfl, by rw [HF.out]; exact hT2.rowA, by rw [HF.out]; exact hT2.rowB, hT2.below⟩
      | some p =>
        obtain ⟨r, n⟩ := p
        have hc : nextL (s.extract k s.size).data.toList = some (r, n) := by rw [extract_drop]; exact hn
        have HC := Lib.hid hc
        obtain ⟨n1, n2, n3, n4⟩ := nextL_bd hn
        simp at n2
        have hst : allRunes s.data.toList = (pre ++ [(k, r)]) ++ runesAt (k + n) (runesL (s.data.toList.drop (k + n))) := by
          rw [H.out, runesL_some hn, runesAt_cons, List.drop_drop]; simp
        have HS := Lib.hid hst
        have hz : ((n : Int) == 0) = false := beq_eq_false_iff_ne.2 (by omega)
        clear hn hc hst n4
        have hka : (pre.length + 1) * 8 ≤ 140737488355328 := by omega
        gi_wp2_with (first
          | (refine ⟨trivial, ?_⟩; gi_at_call 35; refine (callsIn_wide.2 (refChar_any _ (by simp; omega) (by simp; omega) _)).mono ?_; rintro e w2 ⟨rfl, hB2⟩; rw [HC.out, nextRes_some]; have hT2 := hT.after hB2)
          | (gi_at_builtin; refine TR.listA rfl _ _ _ slI rfl (hT2.alloc 3 #[nv k]) rfl rfl rfl (cell_one_new _ _ _) (by simp [Value.oneCell']) hka ?_; intro vA' w3 hTA)
          | (gi_at_builtin; refine TR.listB rfl _ _ _ slI rfl (hTA.alloc 3 #[nv r]) rfl rfl rfl (cell_one_new _ _ _) (by simp [Value.oneCell']) hka ?_; intro vB' w4 hTB))
        go_roundw
        case rel => exact ⟨k + n, pre ++ [(k, r)], by go_num, by omega, by simp; omega, by simpa using hTB.sub (L' := []) (by simp), HS.out⟩
        case measure => simp [intOf]; omega
    · obtain rfl : k = s.size := by omega
      have hfin : allRunes s.data.toList = pre := by rw [H.out, drop_end s _ (Nat.le_refl _), runesL_none (l := []) rfl]; simp [runesAt]
      have HF := Lib.hid hfin
      gi_wp2
      refine bodyPost_ret (results_tmp2 rfl _ _ _) rfl ?_
      exact ⟨_, _, rfl, by rw [HF.out]; exact hT.rowA, by rw [HF.out]; exact hT.rowB, hT.below⟩

set_option maxRecDepth 100000 in
set_option maxHeartbeats 8000000 in
theorem refC_any (r : Nat) (hr : r ≤ 1114111) (w : World) :
    Calls Tryd.prog 17 #[.int .i64 r] w fun e w' => e = .returned (.bool (charR (r : Int))) ∧ Below w.heap.size w w' := by
  have hcr : charR (r : Int) = decide (r = 9 ∨ r = 10 ∨ r = 13 ∨ (32 ≤ r ∧ r ≤ 55295) ∨ (57344 ≤ r ∧ r ≤ 65533) ∨ 65536 ≤ r) := by
    rw [Bool.eq_iff_iff, decide_eq_true_iff]
    exact charR_iff r hr
  rw [hcr]
  clear hcr
  by_cases h : r = 9 ∨ r = 10 ∨ r = 13 ∨ (32 ≤ r ∧ r ≤ 55295) ∨ (57344 ≤ r ∧ r ≤ 65533) ∨ 65536 ≤ r
  · rw [decide_eq_true h]
    rcases h with rfl | rfl | rfl | ⟨h1, h2⟩ | ⟨h1, h2⟩ | h1
    all_goals try (have hri : (65536 : Int) ≤ (r : Int) := by omega)
    all_goals
      go_enter Tryd.func17, Tryd.ntmps17
      go_wp2_with fail
      go_ret
      refine ⟨?_, Below.refl _ _⟩
      first
        | rfl
        | (refine congrArg (fun b => Ending.returned (Value.bool b)) (a₂ := true) ?_
           simp only [Bool.or_eq_true, beq_iff_eq, decide_eq_true_eq]
           omega)
  · rw [decide_eq_false h]
    have h9 : ¬ (r : Int) = 9 := by omega
    have h10 : ¬ (r : Int) = 10 := by omega
    have h13 : ¬ (r : Int) = 13 := by omega
    have hcs : (r : Int) < 32 ∨ ((55295 : Int) < r ∧ (r : Int) < 57344) ∨ r = 65534 ∨ r = 65535 := by omega
    have B9 : ((r : Int) == 9) = false := beq_eq_false_iff_ne.2 h9
    have B10 : ((r : Int) == 10) = false := beq_eq_false_iff_ne.2 h10
    have B13 : ((r : Int) == 13) = false := beq_eq_false_iff_ne.2 h13
    clear h
    rcases hcs with h1 | ⟨h1, h2⟩ | rfl | rfl
    · have D1 : decide ((32 : Int) ≤ (r : Int)) = false := decide_eq_false (by omega)
      have D3 : decide ((57344 : Int) ≤ (r : Int)) = false := decide_eq_false (by omega)
      have D5 : decide ((65536 : Int) ≤ (r : Int)) = false := decide_eq_false (by omega)
      clear h1
      go_enter Tryd.func17, Tryd.ntmps17
      go_wp2_with fail
      go_ret
      exact ⟨rfl, Below.refl _ _⟩
    · have D1 : decide ((32 : Int) ≤ (r : Int)) = true := decide_eq_true (by omega)
      have D2 : decide ((r : Int) ≤ (55295 : Int)) = false := decide_eq_false (by omega)
      have D3 : decide ((57344 : Int) ≤ (r : Int)) = false := decide_eq_false (by omega)
      have D5 : decide ((65536 : Int) ≤ (r : Int)) = false := decide_eq_false (by omega)
      clear h1 h2 h9 h10 h13
      go_enter Tryd.func17, Tryd.ntmps17
      go_wp2_with fail
      go_ret
      exact ⟨rfl, Below.refl _ _⟩
    all_goals
      go_enter Tryd.func17, Tryd.ntmps17
      go_wp2_with fail
      go_ret
      exact ⟨rfl, Below.refl _ _⟩
end Go.Proofs.YtmhhkekokfpppaaDoor
