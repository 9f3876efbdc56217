/- The walks of utf.lead and utf.next. -/
import Derived.Test.YtmhhkekokfpppaaDoorProg
import Derived.Test.YtmhhkekokfpppaaDoorUtW
import Derived.Test.YtmhhkekokfpppaaDoorPbA
import Derived.Test.YtmhhkekokfpppaaDoorMem
import Derived.WalkKit
import Derived.ProofKit
import Derived.LoopTactic
import Derived.WalkSpells
import Derived.WalkLawsBesides
import Derived.Lib.Hide
import Derived.Outline
import Derived.Handy
namespace Go.Proofs.YtmhhkekokfpppaaDoor
open Go.RowKit
set_option linter.unusedVariables false

set_option maxRecDepth 20000 in
set_option maxHeartbeats 800000 in
theorem lead_any (c : UInt8) (n r : Nat) (h : leadN c.toNat = (n, r)) (w : World) :
    Calls Tryd.prog 52 #[.int .u8 c.toNat] w fun e w' => e = .returned (.tuple #[.int .i64 n, .int .i64 r]) ∧ w = w' := by
  have hc := UInt8.toNat_lt c
  generalize c.toNat = c at *
  have e1 := u8_and31 (x := (c : Int)) (by omega) (by omega)
  have e2 := u8_and15 (x := (c : Int)) (by omega) (by omega)
  have e3 := u8_and7 (x := (c : Int)) (by omega) (by omega)
  by_cases h1 : c < 128
  · have H := Lib.hid (leadN_1 h1)
    rw [H.out] at h
    obtain ⟨rfl, rfl⟩ := Prod.mk.inj h
    go_enter Tryd.func52, Tryd.ntmps52
    go_wp2
    go_ret2
    exact ⟨rfl, rfl⟩
  by_cases h2 : c / 32 = 6
  · have H := Lib.hid (leadN_2 h1 h2)
    rw [H.out] at h
    obtain ⟨rfl, rfl⟩ := Prod.mk.inj h
    have h2' : ((c : Int) / 32 == 6) = true := beq_iff_eq.2 (by omega)
    clear h2
    go_enter Tryd.func52, Tryd.ntmps52
    go_wp2
    go_ret2
    exact ⟨rfl, rfl⟩
  have h2' : ((c : Int) / 32 == 6) = false := beq_eq_false_iff_ne.2 (by omega)
  by_cases h3 : c / 16 = 14
  · have H := Lib.hid (leadN_3 h1 h2 h3)
    rw [H.out] at h
    obtain ⟨rfl, rfl⟩ := Prod.mk.inj h
    have h3' : ((c : Int) / 16 == 14) = true := beq_iff_eq.2 (by omega)
    clear h3 h2
    go_enter Tryd.func52, Tryd.ntmps52
    go_wp2
    go_ret2
    exact ⟨rfl, rfl⟩
  have h3' : ((c : Int) / 16 == 14) = false := beq_eq_false_iff_ne.2 (by omega)
  by_cases h4 : c / 8 = 30
  · have H := Lib.hid (leadN_4 h1 h2 h3 h4)
    rw [H.out] at h
    obtain ⟨rfl, rfl⟩ := Prod.mk.inj h
    have h4' : ((c : Int) / 8 == 30) = true := beq_iff_eq.2 (by omega)
    clear h4 h3 h2
    go_enter Tryd.func52, Tryd.ntmps52
    go_wp2
    go_ret2
    exact ⟨rfl, rfl⟩
  · have H := Lib.hid (leadN_0 h1 h2 h3 h4)
    rw [H.out] at h
    obtain ⟨rfl, rfl⟩ := Prod.mk.inj h
    have h4' : ((c : Int) / 8 == 30) = false := beq_eq_false_iff_ne.2 (by omega)
    clear h4 h3 h2
    go_enter Tryd.func52, Tryd.ntmps52
    go_wp2
    go_ret2
    exact ⟨rfl, rfl⟩

set_option maxRecDepth 20000 in
set_option maxHeartbeats 800000 in
theorem next_any (s : ByteArray) (hs : s.size ≤ 9223372036854775807) (h0 : 0 < s.size) (w : World) :
    Calls Tryd.prog 37 #[.string s] w fun e w' => e = .returned (nextRes (nextL s.data.toList)) ∧ w = w' := by
  have hl : s.data.toList = s[0] :: s.data.toList.drop 1 := by have := drop_cons s 0 h0; simpa using this
  have hlen : (s.data.toList.drop 1).length + 1 = s.size := by simp; omega
  obtain ⟨n, r0, hld⟩ : ∃ n r, leadN (s[0]).toNat = (n, r) := ⟨_, _, rfl⟩
  have hb := leadN_bd (s[0]).toNat
  rw [hld] at hb
  obtain ⟨hb1, hb2⟩ := hb
  have hb3 := hb2 (UInt8.toNat_lt _)
  simp only at hb1 hb3
  clear hb2
  by_cases hsh : n = 0 ∨ s.size < n
  · have hfin : nextL s.data.toList = none := by
      rw [hl]; exact nextL_short (by rw [hld]; simp only; omega)
    have HF := Lib.hid hfin
    have LA := Lib.hid (lead_any s[0] n r0 hld)
    clear hfin hl hlen hld
    by_cases hz : n = 0
    · subst hz
      go_enter Tryd.func37, Tryd.ntmps37
      go_wp2_with fail
      refine (LA.out _).mono ?_
      rintro e w' ⟨rfl, rfl⟩
      go_wp2
      go_ret2
      exact ⟨by rw [HF.out]; rfl, rfl⟩
    · have hz' : ((n : Int) == 0) = false := beq_eq_false_iff_ne.2 (by omega)
      have hgt : s.size < n := by omega
      clear hsh hz
      go_enter Tryd.func37, Tryd.ntmps37
      go_wp2_with fail
      refine (LA.out _).mono ?_
      rintro e w' ⟨rfl, rfl⟩
      go_wp2
      go_ret2
      exact ⟨by rw [HF.out]; rfl, rfl⟩
  · have hn0 : n ≠ 0 := by omega
    have hns : n ≤ s.size := by omega
    have hN : ∀ o, contsGo ((s.data.toList.take n).drop 1) r0 = o → nextL s.data.toList = match o with | none => none | some q => if widthR q = (n : Int) then some (q, n) else none := by
      intro o ho
      rw [hl] at ho ⊢
      cases o with
      | none => exact nextL_none hld hn0 (by omega) ho
      | some q => exact nextL_some hld hn0 (by omega) ho
    have HN := Lib.hid hN
    have LA := Lib.hid (lead_any s[0] n r0 hld)
    have hz' : ((n : Int) == 0) = false := beq_eq_false_iff_ne.2 (by omega)
    have hn1 : 1 ≤ n := by omega
    clear hN hl hlen hld hsh hn0
    go_enter Tryd.func37, Tryd.ntmps37
    go_wp2_with fail
    refine (LA.out _).mono ?_
    rintro e w' ⟨rfl, rfl⟩
    go_wp2
    go_loop [5, 6] (fun r i => ∃ (k q : Nat), 1 ≤ k ∧ k ≤ n ∧ r = .int .i64 q ∧ i = .int .i64 k ∧ (k = 1 → q < 128) ∧ (k = 2 → q < 8192) ∧ (k = 3 → q < 524288) ∧ q < 33554432 ∧ contsGo ((s.data.toList.take n).drop 1) r0 = contsGo ((s.data.toList.take n).drop k) q)
      (fun _ i => n - (intOf i).toNat)
    case atStart => exact ⟨1, r0, by omega, by omega, rfl, rfl, by omega, by omega, by omega, by omega, rfl⟩
    case round =>
      obtain ⟨k, q, hk1, hk2, rfl, rfl, q1, q2, q3, q4, h⟩ := hrel
      have H := Lib.hid h
      clear h
      by_cases hlt : k < n
      · have hks : k < s.size := by omega
        have hq : q < 524288 := by omega
        have hd : (s.data.toList.take n).drop k = s[k] :: (s.data.toList.take n).drop (k + 1) := by
          rw [List.drop_eq_getElem_cons (by simp; omega)]
          simp
          rfl
        have HD := Lib.hid hd
        have HQ := Lib.hid (And.intro q1 (And.intro q2 (And.intro q3 hlt)))
        clear hd q1 q2 q3 q4
        have hc := UInt8.toNat_lt s[k]
        have e6 := u8_and63 (x := ((s[k]).toNat : Int)) (by omega) (by omega)
        by_cases hc2 : (s[k]).toNat / 64 = 2
        · have hc2' : (((s[k]).toNat : Int) / 64 != 2) = false := by rw [bne_eq_false_iff_eq]; omega
          have HC := Lib.hid hc2
          clear hc2
          go_wp2
          go_round
          case rel =>
            obtain ⟨q1, q2, q3, _⟩ := HQ.out
            exact ⟨k + 1, q * 64 + (s[k]).toNat % 64, by omega, by omega, by rw [or6 _ _ (by omega)], by go_num, by omega, by omega, by omega, by omega, by rw [H.out, HD.out, contsGo_more HC.out]⟩
          case measure => simp [intOf]; omega
        · have hc2' : (((s[k]).toNat : Int) / 64 != 2) = true := by rw [bne_iff_ne]; omega
          have HC := Lib.hid hc2
          clear hc2
          go_wp2
          go_ret2
          exact ⟨by rw [HN.out none (by rw [H.out, HD.out, contsGo_bad HC.out])]; rfl, rfl⟩
      · obtain rfl : k = n := by omega
        have hfin := HN.out (some q) (by rw [H.out, List.drop_eq_nil_of_le (by simp; omega)]; rfl)
        simp only at hfin
        by_cases hw : widthR (q : Int) = (k : Int)
        · rw [if_pos hw] at hfin
          have HF := Lib.hid hfin
          have HW := Lib.hid hw
          clear hw hfin HN LA q1 q2 q3
          go_wp2_with fail
          refine (width_any _ _).mono ?_
          rintro e w' ⟨rfl, rfl⟩
          rw [HW.out]
          go_wp2
          go_ret2
          exact ⟨by rw [HF.out]; rfl, rfl⟩
        · rw [if_neg hw] at hfin
          have HF := Lib.hid hfin
          have hw' : (widthR (q : Int) != (k : Int)) = true := by rw [bne_iff_ne]; exact hw
          clear hw hfin HN LA q1 q2 q3
          go_wp2_with fail
          refine (width_any _ _).mono ?_
          rintro e w' ⟨rfl, rfl⟩
          go_wp2
          go_ret2
          exact ⟨by rw [HF.out]; rfl, rfl⟩
end Go.Proofs.YtmhhkekokfpppaaDoor
