/- The walks of the document's own names: Char, NameStart, NamePart, name, Name. -/
import Derived.Test.YtlldpmjnledhgaaGreatDoorProg
import Derived.Test.YtlldpmjnledhgaaGreatDoorUtW
import Derived.Test.YtlldpmjnledhgaaGreatDoorMem
import Derived.Test.YtlldpmjnledhgaaGreatDoorUtR
import Derived.Test.YtlldpmjnledhgaaGreatDoorUtNC
import Derived.Test.YtlldpmjnledhgaaGreatDoorXpAL
import Derived.WalkKit
import Derived.ProofKit
import Derived.LoopTactic
import Derived.WalkSpells
import Derived.WalkLawsBesides
import Derived.Lib.Hide
import Derived.Handy
namespace Go.Proofs.YtlldpmjnledhgaaGreatDoor
open Go.RowKit
set_option linter.unusedVariables false

theorem charR_eq (r : Int) : charR r = decide (r = 9 ∨ r = 10 ∨ r = 13 ∨ (32 ≤ r ∧ r ≤ 55295) ∨ (57344 ≤ r ∧ r ≤ 65533) ∨ (65536 ≤ r ∧ r ≤ 1114111)) := by
  unfold charR
  by_cases hz : r < 0 ∨ 1114112 ≤ r ∨ (55296 ≤ r ∧ r ≤ 57343)
  · rw [widthR_zero hz, decide_eq_decide]; omega
  · have := widthR_pos hz
    rw [decide_eq_decide]; omega

set_option maxRecDepth 20000 in
set_option maxHeartbeats 800000 in
theorem refIsChar_any (r : Int) (w : World) :
    Calls Tryz.prog 50 #[.int .i64 r] w fun e w' => e = .returned (.bool (charR r)) ∧ w = w' := by
  rw [charR_eq]
  go_enter Tryz.func50, Tryz.ntmps50
  go_wp2
  all_goals go_ret
  all_goals exact ⟨ret_bool (by first | (rw [Bool.eq_iff_iff]; done) | (rw [Bool.eq_iff_iff]; simp; done) | (rw [Bool.eq_iff_iff]; simp; (try simp only [beq_eq_false_iff_ne, ne_eq, beq_iff_eq] at *); omega)), rfl⟩

set_option maxRecDepth 20000 in
set_option maxHeartbeats 800000 in
theorem refNameStart_any (r : Int) (w : World) :
    Calls Tryz.prog 40 #[.int .i64 r] w fun e w' => e = .returned (.bool (nameStartR r)) ∧ w = w' := by
  go_enter Tryz.func40, Tryz.ntmps40
  go_wp2_with (go_at_call 50; refine (refIsChar_any _ _).mono ?_; rintro e w' ⟨rfl, rfl⟩)
  all_goals go_ret
  all_goals exact ⟨ret_bool (by rw [Bool.eq_iff_iff]; simp [nameStartR]; try (try simp only [beq_eq_false_iff_ne, ne_eq, beq_iff_eq] at *); first | omega | (generalize charR r = c; cases c <;> (try simp) <;> (try omega))), rfl⟩

set_option maxRecDepth 20000 in
set_option maxHeartbeats 800000 in
theorem refNamePart_any (r : Int) (w : World) :
    Calls Tryz.prog 41 #[.int .i64 r] w fun e w' => e = .returned (.bool (namePartR r)) ∧ w = w' := by
  cases hn : nameStartR r
  all_goals
    have HN := Lib.hid hn
    have hp : namePartR r = decide (nameStartR r = true ∨ (48 ≤ r ∧ r ≤ 57) ∨ r = 45 ∨ r = 46 ∨ r = 183) := rfl
    rw [hn] at hp
    have HP := Lib.hid hp
    clear hp hn
    go_enter Tryz.func41, Tryz.ntmps41
    go_wp2_with (go_at_call 40; refine (refNameStart_any _ _).mono ?_; rintro e w' ⟨rfl, rfl⟩; rw [HN.out])
    all_goals go_ret
    all_goals exact ⟨ret_bool (by first | (rw [HP.out, Bool.eq_iff_iff]; simp; try omega) | decide), rfl⟩

theorem runesAt_cons (k r n : Nat) (t : List (Nat × Nat)) : runesAt k ((r, n) :: t) = (k, r) :: runesAt (k + n) t := rfl
/-- What is read of a name so far. -/
structure NameTo (l : List UInt8) (k : Nat) (pre : List (Nat × Nat)) : Prop where
  runes : allRunes l = pre ++ runesAt k (runesL (l.drop k))
  check : checkL l = k + checkL (l.drop k)
  good : ∀ q ∈ pre, offName q = false
theorem NameTo.start (l : List UInt8) : NameTo l 0 [] := ⟨rfl, by simp, fun q h => by cases h⟩
theorem NameTo.step {l : List UInt8} {k r n : Nat} {pre : List (Nat × Nat)} (h : NameTo l k pre) (hn : nextL (l.drop k) = some (r, n)) (ho : offName (k, r) = false) : NameTo l (k + n) (pre ++ [(k, r)]) :=
  ⟨by rw [h.runes, runesL_some hn, runesAt_cons, List.drop_drop]; simp, by rw [h.check, checkL_some hn, List.drop_drop]; omega, fun q hq => by
    rcases List.mem_append.1 hq with h1 | h1
    · exact h.good q h1
    · rw [List.mem_singleton.1 h1]; exact ho⟩
/-- Is it a name? -/
def NameGood (l : List UInt8) : Prop := checkL l = l.length ∧ ∀ q ∈ allRunes l, offName q = false
theorem NameTo.done {l : List UInt8} {pre : List (Nat × Nat)} (h : NameTo l l.length pre) : NameGood l := by
  have e : l.drop l.length = [] := by simp
  obtain ⟨h1, h2, h3⟩ := h
  rw [e, runesL_none (l := []) rfl] at h1
  rw [e, checkL_none (l := []) rfl] at h2
  refine ⟨by omega, fun q hq => h3 q ?_⟩
  rw [h1] at hq
  simpa [runesAt] using hq
/-- What is a name so may stand behind the sign 60. -/
theorem nameGood_ok {b : UInt8} {m : List UInt8} (h : NameGood (b :: m)) : NameOk b m := by
  obtain ⟨h1, h2⟩ := h
  have hp : ∀ q ∈ allRunes (b :: m), namePartR (q.2 : Int) = true := fun q hq => by
    have := h2 q hq
    unfold offName at this
    cases hh : namePartR (q.2 : Int)
    · rw [hh] at this; simp at this
    · rfl
  have hc : charsX (b :: m) = none := (charsX_iff _).2 ⟨h1, fun r hr => by
    obtain ⟨q, hq, rfl⟩ := List.mem_map.1 hr
    have hz : (allRunes (b :: m)).map (·.2) = (runesL (b :: m)).map (·.1) := runesAt_two_snd _ _
    have hm : q.1 ∈ (allRunes (b :: m)).map (·.2) := by rw [hz]; exact List.mem_map.2 ⟨q, hq, rfl⟩
    obtain ⟨p, hp1, hp2⟩ := List.mem_map.1 hm
    rw [← hp2]
    exact part_char _ (hp p hp1)⟩
  have hb : ∀ c : UInt8, c.toNat < 128 → nameStartR (c.toNat : Int) = false → b ≠ c := fun c hl hs e => by
    subst e
    have hr : allRunes (b :: m) = (0, b.toNat) :: runesAt (0 + 1) (runesL m) := by unfold allRunes; rw [runesL_ascii m hl, runesAt_cons]
    have := h2 (0, b.toNat) (by rw [hr]; exact List.mem_cons_self)
    unfold offName at this
    rw [hs] at this
    simp at this
  exact ⟨hc, by rw [nameX_done h2]; simp, hb 33 (by decide) (by decide), hb 63 (by decide) (by decide), hb 47 (by decide) (by decide)⟩

set_option maxRecDepth 100000 in
set_option maxHeartbeats 2000000 in
theorem refName0_any (s : ByteArray) (hs : s.size ≤ 9223372036854775807) (w : World) :
    Calls Tryz.prog 27 #[.string s] w fun e w' => ∃ k : Nat, e = .returned (.int .i64 k) ∧ k ≤ s.size ∧ (k = s.size → NameGood s.data.toList) ∧ Below w.heap.size w w' := by
  have hls : s.data.toList.length = s.size := by simp
  go_enter Tryz.func27, Tryz.ntmps27
  go_wp2
  go_loopw [3] (fun a wr => ∃ (k : Nat) (pre : List (Nat × Nat)), k ≤ s.size ∧ a = .int .i64 k ∧ NameTo s.data.toList k pre ∧ Below w.heap.size w wr)
      (fun a _ => s.size - (intOf a).toNat)
  case atStart => exact ⟨0, [], by omega, rfl, NameTo.start _, Below.refl _ _⟩
  case round =>
    obtain ⟨k, pre, hk, rfl, h, hB⟩ := hrel
    have H := Lib.hid h
    have HB := Lib.hid hB
    clear h hB
    by_cases hlt : k < s.size
    · have HCh := Lib.hid (fun W => refChar_any (s.extract k s.size) (by simp; omega) (by simp; omega) W)
      cases hn : nextL (s.data.toList.drop k) with
      | none =>
        have hc : nextL (s.extract k s.size).data.toList = none := by rw [extract_drop]; exact hn
        have HC := Lib.hid hc
        clear hn hc
        go_wp2_with (go_at_call 39; refine (HCh.out _).mono ?_; rintro e w2 ⟨rfl, hB2⟩; rw [HC.out, nextRes_none]; have HB2 := Lib.hid (HB.out.trans (hB2.mono HB.out.size)); clear hB2)
        go_ret
        exact ⟨k, rfl, hk, fun e => by omega, HB2.out⟩
      | some p =>
        obtain ⟨r, n⟩ := p
        have hc : nextL (s.extract k s.size).data.toList = some (r, n) := by rw [extract_drop]; exact hn
        have HC := Lib.hid hc
        obtain ⟨n1, n2, n3, n4⟩ := nextL_bd hn
        simp at n2
        have hz : ((n : Int) == 0) = false := beq_eq_false_iff_ne.2 (by omega)
        have HS := Lib.hid (fun ho => H.out.step hn ho)
        obtain ⟨P, hP⟩ : ∃ P, namePartR (r : Int) = P := ⟨_, rfl⟩
        obtain ⟨S, hS⟩ : ∃ S, nameStartR (r : Int) = S := ⟨_, rfl⟩
        have HPn := Lib.hid (fun W => refNamePart_any (r : Int) W)
        have HSn := Lib.hid (fun W => refNameStart_any (r : Int) W)
        rw [hP] at HPn
        rw [hS] at HSn
        clear hn hc n4
        by_cases hk0 : k = 0
        · subst hk0
          have e0 : s.extract 0 s.size = s := by simp
          have HCh := Lib.hid (e0 ▸ HCh.out)
          have HC := Lib.hid (e0 ▸ HC.out)
          have ho : offName (0, r) = (!P || !S) := by unfold offName; rw [← hP, ← hS]; simp
          have HO := Lib.hid ho
          clear ho hP hS
          cases P <;> cases S
          · go_wp2_with (first
              | (go_at_call 39; refine (HCh.out _).mono ?_; rintro e w2 ⟨rfl, hB2⟩; rw [HC.out, nextRes_some]; have HB2 := Lib.hid (HB.out.trans (hB2.mono HB.out.size)); clear hB2)
              | (go_at_call 40; refine (HSn.out _).mono ?_; rintro e w4 ⟨rfl, rfl⟩)
              | (go_at_call 41; refine (HPn.out _).mono ?_; rintro e w3 ⟨rfl, rfl⟩))
            go_ret
            exact ⟨0, rfl, hk, fun e => by omega, HB2.out⟩
          · go_wp2_with (first
              | (go_at_call 39; refine (HCh.out _).mono ?_; rintro e w2 ⟨rfl, hB2⟩; rw [HC.out, nextRes_some]; have HB2 := Lib.hid (HB.out.trans (hB2.mono HB.out.size)); clear hB2)
              | (go_at_call 40; refine (HSn.out _).mono ?_; rintro e w4 ⟨rfl, rfl⟩)
              | (go_at_call 41; refine (HPn.out _).mono ?_; rintro e w3 ⟨rfl, rfl⟩))
            go_ret
            exact ⟨0, rfl, hk, fun e => by omega, HB2.out⟩
          · go_wp2_with (first
              | (go_at_call 39; refine (HCh.out _).mono ?_; rintro e w2 ⟨rfl, hB2⟩; rw [HC.out, nextRes_some]; have HB2 := Lib.hid (HB.out.trans (hB2.mono HB.out.size)); clear hB2)
              | (go_at_call 40; refine (HSn.out _).mono ?_; rintro e w4 ⟨rfl, rfl⟩)
              | (go_at_call 41; refine (HPn.out _).mono ?_; rintro e w3 ⟨rfl, rfl⟩))
            go_ret
            exact ⟨0, rfl, hk, fun e => by omega, HB2.out⟩
          · go_wp2_with (first
              | (go_at_call 39; refine (HCh.out _).mono ?_; rintro e w2 ⟨rfl, hB2⟩; rw [HC.out, nextRes_some]; have HB2 := Lib.hid (HB.out.trans (hB2.mono HB.out.size)); clear hB2)
              | (go_at_call 40; refine (HSn.out _).mono ?_; rintro e w4 ⟨rfl, rfl⟩)
              | (go_at_call 41; refine (HPn.out _).mono ?_; rintro e w3 ⟨rfl, rfl⟩))
            go_roundw
            case rel => exact ⟨n, _, by omega, by go_num, by have := HS.out HO.out; rwa [Nat.zero_add] at this, HB2.out⟩
            case measure => simp [intOf]; omega
        · have hkz : ((k : Int) == 0) = false := beq_eq_false_iff_ne.2 (by omega)
          have ho : offName (k, r) = !P := by unfold offName; rw [← hP]; simp [hk0]
          have HO := Lib.hid ho
          clear ho hP hS HSn
          cases P with
          | true =>
            go_wp2_with (first
              | (go_at_call 39; refine (HCh.out _).mono ?_; rintro e w2 ⟨rfl, hB2⟩; rw [HC.out, nextRes_some]; have HB2 := Lib.hid (HB.out.trans (hB2.mono HB.out.size)); clear hB2)
              | (go_at_call 41; refine (HPn.out _).mono ?_; rintro e w3 ⟨rfl, rfl⟩))
            go_roundw
            case rel => exact ⟨k + n, _, by omega, by go_num, HS.out HO.out, HB2.out⟩
            case measure => simp [intOf]; omega
          | false =>
            go_wp2_with (first
              | (go_at_call 39; refine (HCh.out _).mono ?_; rintro e w2 ⟨rfl, hB2⟩; rw [HC.out, nextRes_some]; have HB2 := Lib.hid (HB.out.trans (hB2.mono HB.out.size)); clear hB2)
              | (go_at_call 41; refine (HPn.out _).mono ?_; rintro e w3 ⟨rfl, rfl⟩))
            go_ret
            exact ⟨k, rfl, hk, fun e => by omega, HB2.out⟩
    · obtain rfl : k = s.size := by omega
      have HG := Lib.hid (show NameGood s.data.toList from (hls.symm ▸ H.out : NameTo s.data.toList s.data.toList.length pre).done)
      go_wp2
      go_ret
      exact ⟨_, rfl, Nat.le_refl _, fun _ => HG.out, HB.out⟩

set_option maxRecDepth 100000 in
set_option maxHeartbeats 2000000 in
/-- Name: what it says yes to may stand behind the sign 60. -/
theorem refName_any (s : ByteArray) (hs : s.size ≤ 9223372036854775807) (w : World) :
    Calls Tryz.prog 10 #[.string s] w fun e w' => ∃ B : Bool, e = .returned (.bool B) ∧ (B = true → ∃ b m, s.data.toList = b :: m ∧ NameOk b m) ∧ Below w.heap.size w w' := by
  have HN := Lib.hid (fun W => refName0_any s hs W)
  by_cases h0 : s.size = 0
  · have hs0 : s = ⟨#[]⟩ := by
      have : s.data.size = 0 := h0
      cases s
      simpa using this
    subst hs0
    clear h0 HN
    go_enter Tryz.func10, Tryz.ntmps10
    go_wp2
    go_ret
    exact ⟨false, rfl, (fun h => by cases h), Below.refl _ _⟩
  · have hne : (s.toList == []) = false := by
      rw [ByteArray.toList_eq]
      have : s.data.toList.length ≠ 0 := by simpa using h0
      cases h : s.data.toList with
      | nil => rw [h] at this; exact absurd rfl this
      | cons b m => rfl
    have hne2 : s.toList.isEmpty = false := by
      cases h : s.toList with
      | nil => rw [h] at hne; exact absurd hne (by decide)
      | cons b m => rfl
    clear h0
    go_enter Tryz.func10, Tryz.ntmps10
    go_wp2_with (go_at_call 27; refine (HN.out _).mono ?_; rintro e w2 ⟨k, rfl, hk, hg, hB2⟩; have HB2 := Lib.hid hB2; have HG := Lib.hid hg; clear hB2 hg)
    go_ret
    exact ⟨((k : Int) == (s.size : Int)), rfl, fun h => by
      have hk2 : k = s.size := by have := eq_of_beq h; omega
      have hgd := HG.out hk2
      cases hl : s.data.toList with
      | nil =>
        rw [ByteArray.toList_eq, hl] at hne
        exact absurd hne (by decide)
      | cons b m =>
        rw [hl] at hgd
        exact ⟨b, m, rfl, nameGood_ok hgd⟩, HB2.out⟩
end Go.Proofs.YtlldpmjnledhgaaGreatDoor
