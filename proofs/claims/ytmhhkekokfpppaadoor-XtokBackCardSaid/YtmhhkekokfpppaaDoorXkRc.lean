/- The walk of the document's own Chars. -/
import Derived.Test.YtmhhkekokfpppaaDoorUtSs
namespace Go.Proofs.YtmhhkekokfpppaaDoor
open Go.RowKit
set_option linter.unusedVariables false

/-- Of the characters from a place on: are all such that XML takes them? -/
def goodR (l : List (Nat × Nat)) : Bool := l.all fun p => charR (p.2 : Int)
theorem goodR_step (l : List (Nat × Nat)) (i : Nat) (h : i < l.length) : goodR (l.take (i + 1)) = (goodR (l.take i) && charR (((l[i]'h).2 : Nat) : Int)) := by
  unfold goodR
  rw [List.take_succ_eq_append_getElem h, List.all_append]
  simp
theorem charsX_good (l : List UInt8) : (charsX l = none) ↔ (checkL l = l.length ∧ goodR (allRunes l) = true) := by
  unfold charsX goodR
  by_cases h : checkL l = l.length
  · rw [if_neg (fun hn => hn h)]
    cases hf : (allRunes l).find? (fun p => !charR (p.2 : Int)) with
    | none =>
      simp only [true_iff]
      refine ⟨h, List.all_eq_true.2 fun p hp => ?_⟩
      have := List.find?_eq_none.1 hf p hp
      simpa using this
    | some p =>
      simp only [reduceCtorEq, false_iff]
      rintro ⟨_, ha⟩
      have h1 := List.find?_some hf
      have h2 := List.all_eq_true.1 ha p (List.mem_of_find?_eq_some hf)
      rw [h2] at h1
      cases h1
  · rw [if_pos h]
    simp [h]
theorem runesAt_bound : ∀ (t : List (Nat × Nat)) (k : Nat), (∀ p ∈ t, p.1 ≤ 1114111) → ∀ p ∈ runesAt k t, p.2 ≤ 1114111
  | [], _, _, _, hp => by cases hp
  | (r, n) :: t, k, h, p, hp => by
    rw [runesAt_cons] at hp
    rcases List.mem_cons.1 hp with rfl | hp
    · exact h (r, n) List.mem_cons_self
    · exact runesAt_bound t (k + n) (fun q hq => h q (List.mem_cons_of_mem _ hq)) p hp
theorem runesL_bound : ∀ (n : Nat) (l : List UInt8), l.length ≤ n → ∀ p ∈ runesL l, p.1 ≤ 1114111
  | n, l, hl, p, hp => by
    cases hn : nextL l with
    | none => rw [runesL_none hn] at hp; cases hp
    | some q =>
      obtain ⟨r, m⟩ := q
      obtain ⟨b1, b2, b3, b4⟩ := nextL_bd hn
      rw [runesL_some hn] at hp
      rcases List.mem_cons.1 hp with rfl | hp
      · unfold widthR at b4
        show r ≤ 1114111
        split at b4 <;> omega
      · match n with
        | 0 => omega
        | n + 1 => exact runesL_bound n (l.drop m) (by simp; omega) p hp
theorem allRunes_bound (l : List UInt8) : ∀ p ∈ allRunes l, p.2 ≤ 1114111 := runesAt_bound _ _ (runesL_bound _ l (Nat.le_refl _))

set_option maxRecDepth 100000 in
set_option maxHeartbeats 8000000 in
theorem refChars_any (s : ByteArray) (hs : s.size ≤ 100000) (w : World) :
    Calls Tryd.prog 8 #[.string s] w fun e w' => e = .returned (.bool (decide (charsX s.data.toList = none))) ∧ Below w.heap.size w w' := by
  have hls : s.data.toList.length = s.size := by simp
  have hg := charsX_good s.data.toList
  rw [hls] at hg
  have hres : decide (charsX s.data.toList = none) = (decide (checkL s.data.toList = s.size) && goodR (allRunes s.data.toList)) := by
    rw [Bool.eq_iff_iff, decide_eq_true_iff, Bool.and_eq_true, decide_eq_true_iff]
    exact hg
  rw [hres]
  have hbd := allRunes_bound s.data.toList
  have hLb := allRunes_le s.data.toList
  have hR1 := refCheck_any s (by omega) w
  have hR2 := fun W => refRunes_any s hs W
  obtain ⟨ok, hok⟩ : ∃ ok, decide (checkL s.data.toList = s.size) = ok := ⟨_, rfl⟩
  obtain ⟨L, hL⟩ : ∃ L, allRunes s.data.toList = L := ⟨_, rfl⟩
  rw [hok] at hR1
  simp only [hL] at hR2
  rw [hL] at hbd hLb
  rw [hok, hL]
  have HR1 := Lib.hid hR1
  have HR2 := Lib.hid hR2
  clear hR1 hR2
  clear hg hres hok hL
  go_enter Tryd.func8, Tryd.ntmps8
  go_wp2_with (first
    | (go_at_call 15; refine HR1.out.mono ?_; rintro e w1 ⟨rfl, hB1⟩; have HB1 := Lib.hid hB1; clear hB1)
    | (go_at_call 16; refine (HR2.out _).mono ?_; rintro e w2 ⟨vA, vB, rfl, hA, hT, hB2⟩; have HB2 := Lib.hid (HB1.out.trans (hB2.mono HB1.out.size)); have hrd := rdI_own (l := L.map fun p => (p.2 : Int)) (by simpa [List.map_map, Function.comp_def] using hT); obtain ⟨a, cp, rfl, hR⟩ := hrd; have HRd := Lib.hid hR; clear hA hT hB2 hR; simp only [List.length_map]))
  go_loopw [4, 7] (fun x p wr => ∃ k : Nat, p = .int .i64 k ∧ k ≤ L.length ∧ x = .bool (ok && goodR (L.take k)) ∧ Below w2.heap.size w2 wr) (fun x p wr => L.length - (intOf p).toNat)
  case atStart => exact ⟨0, rfl, Nat.zero_le _, by simp [goodR], Below.refl _ _⟩
  case round =>
    obtain ⟨k, rfl, hk, rfl, hB⟩ := hrel
    have HB := Lib.hid hB
    have HW := Lib.hid (HB2.out.trans (hB.mono HB2.out.size))
    by_cases hlt : k < L.length
    · obtain ⟨ga, rfl, ha1, ha2⟩ := (HRd.out.below hB) k (by simpa using hlt)
      have hge := goodR_step L k hlt
      have ea : (L.map fun p => (p.2 : Int)).getD k 0 = ((L[k].2 : Nat) : Int) := by simp [List.getD, hlt]
      have hrb : L[k].2 ≤ 1114111 := hbd _ (List.getElem_mem _)
      obtain ⟨r, hr⟩ : ∃ r, L[k].2 = r := ⟨_, rfl⟩
      rw [ea] at ha2
      rw [hr] at ha2 hge hrb
      have HC := Lib.hid (fun W => refC_any r hrb W)
      have HG := Lib.hid hge
      obtain ⟨b, hb⟩ : ∃ b, (ok && goodR (L.take k)) = b := ⟨_, rfl⟩
      rw [hb]
      have hN : (ok && goodR (L.take (k + 1))) = (b && charR (r : Int)) := by rw [HG.out, ← hb, Bool.and_assoc]
      have HN := Lib.hid hN
      clear hB hge ea hrb hr hb hN
      cases b with
      | true =>
        go_wp2_with (go_at_call 17; refine (HC.out _).mono ?_; rintro e w5 ⟨rfl, hB5⟩; have HB5 := Lib.hid hB5; clear hB5)
        go_roundw
        case rel => exact ⟨k + 1, by go_num, by omega, by rw [HN.out]; simp, HB.out.trans (HB5.out.mono HB.out.size)⟩
        case measure => simp [intOf]; omega
      | false =>
        go_wp2
        go_roundw
        case rel => exact ⟨k + 1, by go_num, by omega, by rw [HN.out]; simp, HB.out⟩
        case measure => simp [intOf]; omega
    · obtain rfl : k = L.length := by omega
      rw [List.take_length]
      clear hB
      go_wp2
      go_ret
      exact ⟨rfl, HW.out⟩
end Go.Proofs.YtmhhkekokfpppaaDoor
