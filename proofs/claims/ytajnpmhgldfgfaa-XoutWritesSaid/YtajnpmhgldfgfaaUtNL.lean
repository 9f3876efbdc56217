/- The walks of utf.lead, utf.next, utf.Check. -/
import Derived.Test.YtajnpmhgldfgfaaProg
import Derived.Test.YtajnpmhgldfgfaaUtW
import Derived.Test.YtajnpmhgldfgfaaPbA
import Derived.Test.YtajnpmhgldfgfaaMem
import Derived.WalkKit
import Derived.ProofKit
import Derived.LoopTactic
import Derived.WalkSpells
import Derived.WalkLawsBesides
import Derived.Lib.Hide
import Derived.Outline
import Derived.Handy
namespace Go.Proofs.Ytajnpmhgldfgfaa
open Go.RowKit
set_option linter.unusedVariables false

set_option maxRecDepth 20000 in
set_option maxHeartbeats 800000 in
theorem lead_any (c : UInt8) (n r : Nat) (h : leadN c.toNat = (n, r)) (w : World) :
    Calls Try.prog 54 #[.int .u8 c.toNat] w fun e w' => e = .returned (.tuple #[.int .i64 n, .int .i64 r]) ∧ w = w' := by
  have hc := UInt8.toNat_lt c
  generalize c.toNat = c at *
  have e1 := u8_and31 (x := (c : Int)) (by omega) (by omega)
  have e2 := u8_and15 (x := (c : Int)) (by omega) (by omega)
  have e3 := u8_and7 (x := (c : Int)) (by omega) (by omega)
  by_cases h1 : c < 128
  · have H := Lib.hid (leadN_1 h1)
    rw [H.out] at h
    obtain ⟨rfl, rfl⟩ := Prod.mk.inj h
    go_enter Try.func54, Try.ntmps54
    go_wp2
    go_ret2
    exact ⟨rfl, rfl⟩
  by_cases h2 : c / 32 = 6
  · have H := Lib.hid (leadN_2 h1 h2)
    rw [H.out] at h
    obtain ⟨rfl, rfl⟩ := Prod.mk.inj h
    have h2' : ((c : Int) / 32 == 6) = true := beq_iff_eq.2 (by omega)
    clear h2
    go_enter Try.func54, Try.ntmps54
    go_wp2
    go_ret2
    exact ⟨rfl, rfl⟩
  have h2' : ((c : Int) / 32 == 6) = false := beq_eq_false_iff_ne.2 (by omega)
  by_cases h3 : c / 16 = 14
  · have H := Lib.hid (leadN_3 h1 h2 h3)
    rw [H.out] at h
    obtain ⟨rfl, rfl⟩ := Prod.mk.inj h
    have h3' : ((c : Int) / 16 == 14) = true := beq_iff_eq.2 (by omega)
    clear h3 h2
    go_enter Try.func54, Try.ntmps54
    go_wp2
    go_ret2
    exact ⟨rfl, rfl⟩
  have h3' : ((c : Int) / 16 == 14) = false := beq_eq_false_iff_ne.2 (by omega)
  by_cases h4 : c / 8 = 30
  · have H := Lib.hid (leadN_4 h1 h2 h3 h4)
    rw [H.out] at h
    obtain ⟨rfl, rfl⟩ := Prod.mk.inj h
    have h4' : ((c : Int) / 8 == 30) = true := beq_iff_eq.2 (by omega)
    clear h4 h3 h2
    go_enter Try.func54, Try.ntmps54
    go_wp2
    go_ret2
    exact ⟨rfl, rfl⟩
  · have H := Lib.hid (leadN_0 h1 h2 h3 h4)
    rw [H.out] at h
    obtain ⟨rfl, rfl⟩ := Prod.mk.inj h
    have h4' : ((c : Int) / 8 == 30) = false := beq_eq_false_iff_ne.2 (by omega)
    clear h4 h3 h2
    go_enter Try.func54, Try.ntmps54
    go_wp2
    go_ret2
    exact ⟨rfl, rfl⟩

set_option maxRecDepth 20000 in
set_option maxHeartbeats 800000 in
theorem next_any (s : ByteArray) (hs : s.size ≤ 9223372036854775807) (h0 : 0 < s.size) (w : World) :
    Calls Try.prog 48 #[.string s] w fun e w' => e = .returned (nextRes (nextL s.data.toList)) ∧ w = w' := by
  have hl : s.data.toList = s[0] :: s.data.toList.drop 1 := by have := drop_cons s 0 h0; simpa using this
  have hlen : (s.data.toList.drop 1).length + 1 = s.size := by simp; omega
  obtain ⟨n, r0, hld⟩ : ∃ n r, leadN (s[0]).toNat = (n, r) := ⟨_, _, rfl⟩
  have hb := leadN_bd (s[0]).toNat
  rw [hld] at hb
  obtain ⟨hb1, hb2⟩ := hb
  have hb3 := hb2 (UInt8.toNat_lt _)
  simp only at hb1 hb3
  clear hb2
  by_cases hsh : n = 0 ∨ s.size < n
  · have hfin : nextL s.data.toList = none := by
      rw [hl]; exact nextL_short (by rw [hld]; simp only; omega)
    have HF := Lib.hid hfin
    have LA := Lib.hid (lead_any s[0] n r0 hld)
    clear hfin hl hlen hld
    by_cases hz : n = 0
    · subst hz
      go_enter Try.func48, Try.ntmps48
      go_wp2_with fail
      refine (LA.out _).mono ?_
      rintro e w' ⟨rfl, rfl⟩
      go_wp2
      go_ret2
      exact ⟨by rw [HF.out]; rfl, rfl⟩
    · have hz' : ((n : Int) == 0) = false := beq_eq_false_iff_ne.2 (by omega)
      have hgt : s.size < n := by omega
      clear hsh hz
      go_enter Try.func48, Try.ntmps48
      go_wp2_with fail
      refine (LA.out _).mono ?_
      rintro e w' ⟨rfl, rfl⟩
      go_wp2
      go_ret2
      exact ⟨by rw [HF.out]; rfl, rfl⟩
  · have hn0 : n ≠ 0 := by omega
    have hns : n ≤ s.size := by omega
    have hN : ∀ o, contsGo ((s.data.toList.take n).drop 1) r0 = o → nextL s.data.toList = match o with | none => none | some q => if widthR q = (n : Int) then some (q, n) else none := by
      intro o ho
      rw [hl] at ho ⊢
      cases o with
      | none => exact nextL_none hld hn0 (by omega) ho
      | some q => exact nextL_some hld hn0 (by omega) ho
    have HN := Lib.hid hN
    have LA := Lib.hid (lead_any s[0] n r0 hld)
    have hz' : ((n : Int) == 0) = false := beq_eq_false_iff_ne.2 (by omega)
    have hn1 : 1 ≤ n := by omega
    clear hN hl hlen hld hsh hn0
    go_enter Try.func48, Try.ntmps48
    go_wp2_with fail
    refine (LA.out _).mono ?_
    rintro e w' ⟨rfl, rfl⟩
    go_wp2
    go_loop [5, 6] (fun r i => ∃ (k q : Nat), 1 ≤ k ∧ k ≤ n ∧ r = .int .i64 q ∧ i = .int .i64 k ∧ (k = 1 → q < 128) ∧ (k = 2 → q < 8192) ∧ (k = 3 → q < 524288) ∧ q < 33554432 ∧ contsGo ((s.data.toList.take n).drop 1) r0 = contsGo ((s.data.toList.take n).drop k) q)
      (fun _ i => n - (intOf i).toNat)
    case atStart => exact ⟨1, r0, by omega, by omega, rfl, rfl, by omega, by omega, by omega, by omega, rfl⟩
    case round =>
      obtain ⟨k, q, hk1, hk2, rfl, rfl, q1, q2, q3, q4, h⟩ := hrel
      have H := Lib.hid h
      clear h
      by_cases hlt : k < n
      · have hks : k < s.size := by omega
        have hq : q < 524288 := by omega
        have hd : (s.data.toList.take n).drop k = s[k] :: (s.data.toList.take n).drop (k + 1) := by
          rw [List.drop_eq_getElem_cons (by simp; omega)]
          simp
          rfl
        have HD := Lib.hid hd
        have HQ := Lib.hid (And.intro q1 (And.intro q2 (And.intro q3 hlt)))
        clear hd q1 q2 q3 q4
        have hc := UInt8.toNat_lt s[k]
        have e6 := u8_and63 (x := ((s[k]).toNat : Int)) (by omega) (by omega)
        by_cases hc2 : (s[k]).toNat / 64 = 2
        · have hc2' : (((s[k]).toNat : Int) / 64 != 2) = false := by rw [bne_eq_false_iff_eq]; omega
          have HC := Lib.hid hc2
          clear hc2
          go_wp2
          go_round
          case rel =>
            obtain ⟨q1, q2, q3, _⟩ := HQ.out
            exact ⟨k + 1, q * 64 + (s[k]).toNat % 64, by omega, by omega, by rw [or6 _ _ (by omega)], by go_num, by omega, by omega, by omega, by omega, by rw [H.out, HD.out, contsGo_more HC.out]⟩
          case measure => simp [intOf]; omega
        · have hc2' : (((s[k]).toNat : Int) / 64 != 2) = true := by rw [bne_iff_ne]; omega
          have HC := Lib.hid hc2
          clear hc2
          go_wp2
          go_ret2
          exact ⟨by rw [HN.out none (by rw [H.out, HD.out, contsGo_bad HC.out])]; rfl, rfl⟩
      · obtain rfl : k = n := by omega
        have hfin := HN.out (some q) (by rw [H.out, List.drop_eq_nil_of_le (by simp; omega)]; rfl)
        simp only at hfin
        by_cases hw : widthR (q : Int) = (k : Int)
        · rw [if_pos hw] at hfin
          have HF := Lib.hid hfin
          have HW := Lib.hid hw
          clear hw hfin HN LA q1 q2 q3
          go_wp2_with fail
          refine (width_any _ _).mono ?_
          rintro e w' ⟨rfl, rfl⟩
          rw [HW.out]
          go_wp2
          go_ret2
          exact ⟨by rw [HF.out]; rfl, rfl⟩
        · rw [if_neg hw] at hfin
          have HF := Lib.hid hfin
          have hw' : (widthR (q : Int) != (k : Int)) = true := by rw [bne_iff_ne]; exact hw
          clear hw hfin HN LA q1 q2 q3
          go_wp2_with fail
          refine (width_any _ _).mono ?_
          rintro e w' ⟨rfl, rfl⟩
          go_wp2
          go_ret2
          exact ⟨by rw [HF.out]; rfl, rfl⟩
theorem nextRes_some (r n : Nat) : nextRes (some (r, n)) = .tuple #[.int .i64 r, .int .i64 n] := rfl
theorem nextRes_none : nextRes none = .tuple #[.int .i64 0, .int .i64 0] := rfl

set_option maxRecDepth 20000 in
set_option maxHeartbeats 800000 in
theorem check_any (s : ByteArray) (hs : s.size ≤ 9223372036854775807) (w : World) :
    Calls Try.prog 36 #[.string s] w fun e w' => e = .returned (.tuple #[.int .i64 (checkL s.data.toList), .bool (decide (checkL s.data.toList = s.size))]) ∧ w = w' := by
  have hle := checkL_le _ s.data.toList (Nat.le_refl _)
  have HLE := Lib.hid hle
  clear hle
  go_enter Try.func36, Try.ntmps36
  go_wp2
  go_step3
  go_wp2
  go_step3
  go_wp2
  go_loop [4] (fun a => ∃ (k : Nat), k ≤ s.size ∧ a = .int .i64 k ∧ checkL s.data.toList = k + checkL (s.data.toList.drop k))
      (fun a => s.size - (intOf a).toNat)
  case atStart => exact ⟨0, by omega, rfl, by simp⟩
  case round =>
    obtain ⟨k, hk, rfl, h⟩ := hrel
    have H := Lib.hid h
    clear h
    by_cases hlt : k < s.size
    · cases hn : nextL (s.data.toList.drop k) with
      | none =>
        have hc : nextL (s.extract k s.size).data.toList = none := by rw [extract_drop]; exact hn
        have HC := Lib.hid hc
        have hfin : checkL s.data.toList = k := by rw [H.out, checkL_none hn]; rfl
        have HF := Lib.hid hfin
        have hne : decide (checkL s.data.toList = s.size) = false := by rw [hfin]; simp; omega
        have HNE := Lib.hid hne
        clear hn hc hfin hne
        go_wp2_with fail
        refine (next_any _ (by simp; omega) (by simp; omega) _).mono ?_
        rintro e w' ⟨rfl, rfl⟩
        rw [HC.out, nextRes_none]
        go_wp2
        rw [Exit.noGoto_ret]
        go_ret2
        exact ⟨ret_ib (by rw [HF.out]) (by rw [HNE.out]; exact beq_eq_false_iff_ne.2 (by omega)), rfl⟩
      | some p =>
        obtain ⟨r, n⟩ := p
        have hc : nextL (s.extract k s.size).data.toList = some (r, n) := by rw [extract_drop]; exact hn
        have HC := Lib.hid hc
        obtain ⟨n1, n2, n3, n4⟩ := nextL_bd hn
        simp at n2
        have hst : checkL s.data.toList = k + n + checkL (s.data.toList.drop (k + n)) := by rw [H.out, checkL_some hn, List.drop_drop]; omega
        have HS := Lib.hid hst
        have hz : ((n : Int) == 0) = false := beq_eq_false_iff_ne.2 (by omega)
        clear hn hc hst n4
        go_wp2_with fail
        refine (next_any _ (by simp; omega) (by simp; omega) _).mono ?_
        rintro e w' ⟨rfl, rfl⟩
        rw [HC.out, nextRes_some]
        go_wp2
        go_round
        case rel => exact ⟨k + n, by omega, by go_num, HS.out⟩
        case measure => simp [intOf]; omega
    · obtain rfl : k = s.size := by omega
      have hfin : checkL s.data.toList = s.size := by rw [H.out, drop_end s _ (Nat.le_refl _), checkL_none rfl]; rfl
      have HF := Lib.hid hfin
      clear hfin
      go_wp2
      go_ret2
      exact ⟨ret_ib (by rw [HF.out]) (by rw [HF.out]; simp), rfl⟩
end Go.Proofs.Ytajnpmhgldfgfaa
