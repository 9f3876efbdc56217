/- The walks of the document's own words on characters: char, Check. -/
import Derived.Test.YtlldpmjnledhgaaGreatDoorProg
import Derived.Test.YtlldpmjnledhgaaGreatDoorUtAB
import Derived.Test.YtlldpmjnledhgaaGreatDoorPbA
import Derived.Test.YtlldpmjnledhgaaGreatDoorIt
import Derived.BigRegion
import Derived.WalkKit
import Derived.ProofKit
import Derived.LoopTactic
import Derived.WalkSpells
import Derived.WalkLawsBesides
import Derived.Lib.Hide
import Derived.Outline
import Derived.Handy
namespace Go.Proofs.YtlldpmjnledhgaaGreatDoor
open Go.RowKit
set_option linter.unusedVariables false

def leastN (n : Nat) : Nat := if n = 2 then 128 else if n = 3 then 2048 else 65536
/-- Of n bytes' bits: a character of that width, or none. -/
theorem width_least {n q : Nat} (hn : n = 2 ∨ n = 3 ∨ n = 4) (h2 : n = 2 → q < 2048) (h3 : n = 3 → q < 65536) (h4 : n = 4 → q < 2097152) :
    widthR (q : Int) = (n : Int) ↔ ¬ (q < leastN n ∨ 1114111 < q ∨ (55296 ≤ q ∧ q ≤ 57343)) := by
  unfold widthR leastN
  rcases hn with rfl | rfl | rfl
  · have := h2 rfl
    split
    · simp; omega
    · split
      · simp; omega
      · rw [if_pos (by omega)]; simp; omega
  · have := h3 rfl
    split
    · simp; omega
    · split
      · simp; omega
      · split
        · simp; omega
        · rw [if_pos (by omega)]; simp; omega
  · have := h4 rfl
    split
    · simp; omega
    · split
      · simp; omega
      · split
        · simp; omega
        · split
          · simp; omega
          · simp; omega

set_option maxRecDepth 20000 in
set_option maxHeartbeats 8000000 in
/-- Behind the first byte. -/
theorem char_wide (s : ByteArray) (hs : s.size ≤ 9223372036854775807) (h0 : 0 < s.size) (n r0 : Nat) (hn : n = 2 ∨ n = 3 ∨ n = 4) (hld : leadN (s[0]).toNat = (n, r0)) (hr2 : n = 2 → r0 < 32) (hr3 : n = 3 → r0 < 16) (hr4 : n = 4 → r0 < 8)
    (hf : (n = 2 → 192 ≤ (s[0]).toNat ∧ (s[0]).toNat < 224 ∧ r0 = (s[0]).toNat - 192) ∧ (n = 3 → 224 ≤ (s[0]).toNat ∧ (s[0]).toNat < 240 ∧ r0 = (s[0]).toNat - 224) ∧ (n = 4 → 240 ≤ (s[0]).toNat ∧ (s[0]).toNat < 248 ∧ r0 = (s[0]).toNat - 240)) (w : World) :
    Calls Tryz.prog 39 #[.string s] w fun e w' => e = .returned (nextRes (nextL s.data.toList)) ∧ Below w.heap.size w w' := by
  have hl : s.data.toList = s[0] :: s.data.toList.drop 1 := by have := drop_cons s 0 h0; simpa using this
  have hlen : (s.data.toList.drop 1).length + 1 = s.size := by simp; omega
  have hc := UInt8.toNat_lt s[0]
  by_cases hsh : s.size < n
  · have hfin : nextL s.data.toList = none := by
      rw [hl]; exact nextL_short (by rw [hld]; simp only; omega)
    have HF := Lib.hid hfin
    clear hfin hl hlen hld hr2 hr3 hr4
    obtain ⟨f2, f3, f4⟩ := hf
    rcases hn with rfl | rfl | rfl
    · obtain ⟨g1, g2, g3⟩ := f2 rfl
      clear f2 f3 f4
      go_enter Tryz.func39, Tryz.ntmps39
      go_wp2
      go_ret2
      exact ⟨by rw [HF.out]; rfl, Below.refl _ _⟩
    · obtain ⟨g1, g2, g3⟩ := f3 rfl
      clear f2 f3 f4
      go_enter Tryz.func39, Tryz.ntmps39
      go_wp2
      go_ret2
      exact ⟨by rw [HF.out]; rfl, Below.refl _ _⟩
    · obtain ⟨g1, g2, g3⟩ := f4 rfl
      clear f2 f3 f4
      go_enter Tryz.func39, Tryz.ntmps39
      go_wp2
      go_ret2
      exact ⟨by rw [HF.out]; rfl, Below.refl _ _⟩
  · have hns : n ≤ s.size := by omega
    have hN : ∀ o, contsGo ((s.data.toList.take n).drop 1) r0 = o → nextL s.data.toList = match o with | none => none | some q => if widthR q = (n : Int) then some (q, n) else none := by
      intro o ho
      rw [hl] at ho ⊢
      cases o with
      | none => exact nextL_none hld (by omega) (by omega) ho
      | some q => exact nextL_some hld (by omega) (by omega) ho
    have HN := Lib.hid hN
    clear hN hl hlen hld hsh
    obtain ⟨f2, f3, f4⟩ := hf
    rcases hn with rfl | rfl | rfl
    · obtain ⟨g1, g2, g3⟩ := f2 rfl
      have hr := hr2 rfl
      have g3' : ((s[0]).toNat : Int) - 192 = (r0 : Int) := by omega
      have i0 : ¬ ((s[0]).toNat : Int) < 128 := by omega
      have i1 : 192 ≤ ((s[0]).toNat : Int) := by omega
      have i2 : ((s[0]).toNat : Int) < 224 := by omega
      clear f2 f3 f4 hr2 hr3 hr4 g3 g1 g2
      go_enter Tryz.func39, Tryz.ntmps39
      go_wp2
      go_loopw [6, 8] (fun r i wr => ∃ (k q : Nat), 1 ≤ k ∧ k ≤ 2 ∧ r = .int .i64 q ∧ i = .int .i64 k ∧ q < 2048 ∧ (k = 1 → q < 32) ∧ (k = 2 → q < 2048) ∧ contsGo ((s.data.toList.take 2).drop 1) r0 = contsGo ((s.data.toList.take 2).drop k) q ∧ Below w.heap.size w wr)
        (fun _ i _ => 2 - (intOf i).toNat)
      case atStart => exact ⟨1, r0, by omega, by omega, by rw [← g3'], rfl, by omega, by omega, by omega, rfl, Below.refl _ _⟩
      case round =>
        obtain ⟨k, q, hk1, hk2, rfl, rfl, hq, q1, q2, h, hB⟩ := hrel
        have H := Lib.hid h
        clear h hc g3' hr
        by_cases hlt : k < 2
        · have hks : k < s.size := by omega
          have hq2 : q < 32 := by omega
          have hd : (s.data.toList.take 2).drop k = s[k] :: (s.data.toList.take 2).drop (k + 1) := by
            rw [List.drop_eq_getElem_cons (by simp; omega)]
            simp
            rfl
          have HD := Lib.hid hd
          have HQ := Lib.hid (And.intro q1 hlt)
          clear hd q1 q2
          have hc := UInt8.toNat_lt s[k]
          by_cases hc2 : (s[k]).toNat / 64 = 2
          · have c1 : ¬ (s[k]).toNat < 128 := by omega
            have c2 : ¬ 192 ≤ (s[k]).toNat := by omega
            have HC := Lib.hid hc2
            clear hc2
            go_wp2
            go_roundw
            case rel =>
              obtain ⟨q1, _⟩ := HQ.out
              have HC' := HC.out
              exact ⟨k + 1, q * 64 + (s[k]).toNat % 64, by omega, by omega, by congr 1; omega, by go_num, by omega, by omega, by omega, by rw [H.out, HD.out, contsGo_more HC'], hB⟩
            case measure => simp [intOf]; omega
          · have HC := Lib.hid hc2
            have c1 : (s[k]).toNat < 128 ∨ 192 ≤ (s[k]).toNat := by omega
            clear hc2
            rcases c1 with c1 | c1
            all_goals
              go_wp2
              go_ret2
              exact ⟨by rw [HN.out none (by rw [H.out, HD.out, contsGo_bad HC.out])]; rfl, hB⟩
        · obtain rfl : k = 2 := by omega
          have hfin := HN.out (some q) (by rw [H.out, List.drop_eq_nil_of_le (by simp; omega)]; rfl)
          simp only at hfin
          have hwl := width_least (n := 2) (q := q) (by omega) (by omega) (by omega) (by omega)
          rw [show leastN 2 = 128 from rfl] at hwl
          by_cases hw : widthR (q : Int) = ((2 : Nat) : Int)
          · rw [if_pos hw] at hfin
            have hv := hwl.1 hw
            have v1 : 128 ≤ q := by omega
            have v2 : q ≤ 1114111 := by omega
            have v3 : q < 55296 ∨ 57343 < q := by omega
            have HF := Lib.hid hfin
            clear hw hwl hv hfin HN q1 q2
            rcases v3 with v3 | v3
            all_goals first
              | (exfalso; omega)
              | (go_wp2
                 go_ret2
                 exact ⟨by rw [HF.out]; rfl, hB⟩)
          · rw [if_neg hw] at hfin
            have hv : q < 128 ∨ 1114111 < q ∨ (55296 ≤ q ∧ q ≤ 57343) := Decidable.byContradiction fun h => hw (hwl.2 h)
            have HF := Lib.hid hfin
            clear hw hwl hfin HN q1 q2
            rcases hv with v1 | v1 | ⟨v1, v2⟩
            · go_wp2
              go_ret2
              exact ⟨by rw [HF.out]; rfl, hB⟩
            all_goals
              by_cases v0 : q < 128
            all_goals first
              | (exfalso; omega)
              | (go_wp2
                 go_ret2
                 exact ⟨by rw [HF.out]; rfl, hB⟩)
    · obtain ⟨g1, g2, g3⟩ := f3 rfl
      have hr := hr3 rfl
      have g3' : ((s[0]).toNat : Int) - 224 = (r0 : Int) := by omega
      have i0 : ¬ ((s[0]).toNat : Int) < 128 := by omega
      have i1 : 192 ≤ ((s[0]).toNat : Int) := by omega
      have i2 : ¬ ((s[0]).toNat : Int) < 224 := by omega
      have i3 : 224 ≤ ((s[0]).toNat : Int) := by omega
      have i4 : ((s[0]).toNat : Int) < 240 := by omega
      clear f2 f3 f4 hr2 hr3 hr4 g3 g1 g2
      go_enter Tryz.func39, Tryz.ntmps39
      go_wp2
      go_loopw [6, 8] (fun r i wr => ∃ (k q : Nat), 1 ≤ k ∧ k ≤ 3 ∧ r = .int .i64 q ∧ i = .int .i64 k ∧ q < 65536 ∧ (k = 1 → q < 16) ∧ (k = 2 → q < 1024) ∧ (k = 3 → q < 65536) ∧ contsGo ((s.data.toList.take 3).drop 1) r0 = contsGo ((s.data.toList.take 3).drop k) q ∧ Below w.heap.size w wr)
        (fun _ i _ => 3 - (intOf i).toNat)
      case atStart => exact ⟨1, r0, by omega, by omega, by rw [← g3'], rfl, by omega, by omega, by omega, by omega, rfl, Below.refl _ _⟩
      case round =>
        obtain ⟨k, q, hk1, hk2, rfl, rfl, hq, q1, q2, q3, h, hB⟩ := hrel
        have H := Lib.hid h
        clear h hc g3' hr
        by_cases hlt : k < 3
        · have hks : k < s.size := by omega
          have hq2 : q < 1024 := by omega
          have hd : (s.data.toList.take 3).drop k = s[k] :: (s.data.toList.take 3).drop (k + 1) := by
            rw [List.drop_eq_getElem_cons (by simp; omega)]
            simp
            rfl
          have HD := Lib.hid hd
          have HQ := Lib.hid (And.intro q1 (And.intro q2 hlt))
          clear hd q1 q2 q3
          have hc := UInt8.toNat_lt s[k]
          by_cases hc2 : (s[k]).toNat / 64 = 2
          · have c1 : ¬ (s[k]).toNat < 128 := by omega
            have c2 : ¬ 192 ≤ (s[k]).toNat := by omega
            have HC := Lib.hid hc2
            clear hc2
            go_wp2
            go_roundw
            case rel =>
              obtain ⟨q1, q2, _⟩ := HQ.out
              have HC' := HC.out
              exact ⟨k + 1, q * 64 + (s[k]).toNat % 64, by omega, by omega, by congr 1; omega, by go_num, by omega, by omega, by omega, by omega, by rw [H.out, HD.out, contsGo_more HC'], hB⟩
            case measure => simp [intOf]; omega
          · have HC := Lib.hid hc2
            have c1 : (s[k]).toNat < 128 ∨ 192 ≤ (s[k]).toNat := by omega
            clear hc2
            rcases c1 with c1 | c1
            all_goals
              go_wp2
              go_ret2
              exact ⟨by rw [HN.out none (by rw [H.out, HD.out, contsGo_bad HC.out])]; rfl, hB⟩
        · obtain rfl : k = 3 := by omega
          have hfin := HN.out (some q) (by rw [H.out, List.drop_eq_nil_of_le (by simp; omega)]; rfl)
          simp only at hfin
          have hwl := width_least (n := 3) (q := q) (by omega) (by omega) (by omega) (by omega)
          rw [show leastN 3 = 2048 from rfl] at hwl
          by_cases hw : widthR (q : Int) = ((3 : Nat) : Int)
          · rw [if_pos hw] at hfin
            have hv := hwl.1 hw
            have v1 : 2048 ≤ q := by omega
            have v2 : q ≤ 1114111 := by omega
            have v3 : q < 55296 ∨ 57343 < q := by omega
            have HF := Lib.hid hfin
            clear hw hwl hv hfin HN q1 q2 q3
            rcases v3 with v3 | v3
            all_goals first
              | (exfalso; omega)
              | (go_wp2
                 go_ret2
                 exact ⟨by rw [HF.out]; rfl, hB⟩)
          · rw [if_neg hw] at hfin
            have hv : q < 2048 ∨ 1114111 < q ∨ (55296 ≤ q ∧ q ≤ 57343) := Decidable.byContradiction fun h => hw (hwl.2 h)
            have HF := Lib.hid hfin
            clear hw hwl hfin HN q1 q2 q3
            rcases hv with v1 | v1 | ⟨v1, v2⟩
            · go_wp2
              go_ret2
              exact ⟨by rw [HF.out]; rfl, hB⟩
            all_goals
              by_cases v0 : q < 2048
            all_goals first
              | (exfalso; omega)
              | (go_wp2
                 go_ret2
                 exact ⟨by rw [HF.out]; rfl, hB⟩)
    · obtain ⟨g1, g2, g3⟩ := f4 rfl
      have hr := hr4 rfl
      have g3' : ((s[0]).toNat : Int) - 240 = (r0 : Int) := by omega
      have i0 : ¬ ((s[0]).toNat : Int) < 128 := by omega
      have i1 : 192 ≤ ((s[0]).toNat : Int) := by omega
      have i2 : ¬ ((s[0]).toNat : Int) < 224 := by omega
      have i3 : 224 ≤ ((s[0]).toNat : Int) := by omega
      have i4 : ¬ ((s[0]).toNat : Int) < 240 := by omega
      have i5 : 240 ≤ ((s[0]).toNat : Int) := by omega
      have i6 : ((s[0]).toNat : Int) < 248 := by omega
      clear f2 f3 f4 hr2 hr3 hr4 g3 g1 g2
      go_enter Tryz.func39, Tryz.ntmps39
      go_wp2
      go_loopw [6, 8] (fun r i wr => ∃ (k q : Nat), 1 ≤ k ∧ k ≤ 4 ∧ r = .int .i64 q ∧ i = .int .i64 k ∧ q < 2097152 ∧ (k = 1 → q < 8) ∧ (k = 2 → q < 512) ∧ (k = 3 → q < 32768) ∧ (k = 4 → q < 2097152) ∧ contsGo ((s.data.toList.take 4).drop 1) r0 = contsGo ((s.data.toList.take 4).drop k) q ∧ Below w.heap.size w wr)
        (fun _ i _ => 4 - (intOf i).toNat)
      case atStart => exact ⟨1, r0, by omega, by omega, by rw [← g3'], rfl, by omega, by omega, by omega, by omega, by omega, rfl, Below.refl _ _⟩
      case round =>
        obtain ⟨k, q, hk1, hk2, rfl, rfl, hq, q1, q2, q3, q4, h, hB⟩ := hrel
        have H := Lib.hid h
        clear h hc g3' hr
        by_cases hlt : k < 4
        · have hks : k < s.size := by omega
          have hq2 : q < 32768 := by omega
          have hd : (s.data.toList.take 4).drop k = s[k] :: (s.data.toList.take 4).drop (k + 1) := by
            rw [List.drop_eq_getElem_cons (by simp; omega)]
            simp
            rfl
          have HD := Lib.hid hd
          have HQ := Lib.hid (And.intro q1 (And.intro q2 (And.intro q3 hlt)))
          clear hd q1 q2 q3 q4
          have hc := UInt8.toNat_lt s[k]
          by_cases hc2 : (s[k]).toNat / 64 = 2
          · have c1 : ¬ (s[k]).toNat < 128 := by omega
            have c2 : ¬ 192 ≤ (s[k]).toNat := by omega
            have HC := Lib.hid hc2
            clear hc2
            go_wp2
            go_roundw
            case rel =>
              obtain ⟨q1, q2, q3, _⟩ := HQ.out
              have HC' := HC.out
              exact ⟨k + 1, q * 64 + (s[k]).toNat % 64, by omega, by omega, by congr 1; omega, by go_num, by omega, by omega, by omega, by omega, by omega, by rw [H.out, HD.out, contsGo_more HC'], hB⟩
            case measure => simp [intOf]; omega
          · have HC := Lib.hid hc2
            have c1 : (s[k]).toNat < 128 ∨ 192 ≤ (s[k]).toNat := by omega
            clear hc2
            rcases c1 with c1 | c1
            all_goals
              go_wp2
              go_ret2
              exact ⟨by rw [HN.out none (by rw [H.out, HD.out, contsGo_bad HC.out])]; rfl, hB⟩
        · obtain rfl : k = 4 := by omega
          have hfin := HN.out (some q) (by rw [H.out, List.drop_eq_nil_of_le (by simp; omega)]; rfl)
          simp only at hfin
          have hwl := width_least (n := 4) (q := q) (by omega) (by omega) (by omega) (by omega)
          rw [show leastN 4 = 65536 from rfl] at hwl
          by_cases hw : widthR (q : Int) = ((4 : Nat) : Int)
          · rw [if_pos hw] at hfin
            have hv := hwl.1 hw
            have v1 : 65536 ≤ q := by omega
            have v2 : q ≤ 1114111 := by omega
            have v3 : q < 55296 ∨ 57343 < q := by omega
            have HF := Lib.hid hfin
            clear hw hwl hv hfin HN q1 q2 q3 q4
            rcases v3 with v3 | v3
            all_goals first
              | (exfalso; omega)
              | (go_wp2
                 go_ret2
                 exact ⟨by rw [HF.out]; rfl, hB⟩)
          · rw [if_neg hw] at hfin
            have hv : q < 65536 ∨ 1114111 < q ∨ (55296 ≤ q ∧ q ≤ 57343) := Decidable.byContradiction fun h => hw (hwl.2 h)
            have HF := Lib.hid hfin
            clear hw hwl hfin HN q1 q2 q3 q4
            rcases hv with v1 | v1 | ⟨v1, v2⟩
            · go_wp2
              go_ret2
              exact ⟨by rw [HF.out]; rfl, hB⟩
            all_goals
              by_cases v0 : q < 65536
            all_goals first
              | (exfalso; omega)
              | (go_wp2
                 go_ret2
                 exact ⟨by rw [HF.out]; rfl, hB⟩)
set_option maxRecDepth 20000 in
set_option maxHeartbeats 1600000 in
theorem refChar_any (s : ByteArray) (hs : s.size ≤ 9223372036854775807) (h0 : 0 < s.size) (w : World) :
    Calls Tryz.prog 39 #[.string s] w fun e w' => e = .returned (nextRes (nextL s.data.toList)) ∧ Below w.heap.size w w' := by
  have hc := UInt8.toNat_lt s[0]
  by_cases c1 : (s[0]).toNat < 128
  · have hl : s.data.toList = s[0] :: s.data.toList.drop 1 := by have := drop_cons s 0 h0; simpa using this
    have hfin : nextL s.data.toList = some ((s[0]).toNat, 1) := by
      rw [hl, nextL_some (n := 1) (r := (s[0]).toNat) (q := (s[0]).toNat) (leadN_1 c1) (by omega) (by omega) rfl, if_pos]
      unfold widthR
      rw [if_neg (by omega), if_pos (by omega)]; rfl
    have HF := Lib.hid hfin
    clear hfin hl
    go_enter Tryz.func39, Tryz.ntmps39
    go_wp2
    go_ret2
    exact ⟨by rw [HF.out]; rfl, Below.refl _ _⟩
  by_cases c2 : 192 ≤ (s[0]).toNat ∧ (s[0]).toNat < 224
  · exact char_wide s hs h0 2 ((s[0]).toNat % 32) (by omega) (leadN_2 c1 (by omega)) (by omega) (by omega) (by omega) ⟨by omega, by omega, by omega⟩ w
  by_cases c3 : 224 ≤ (s[0]).toNat ∧ (s[0]).toNat < 240
  · exact char_wide s hs h0 3 ((s[0]).toNat % 16) (by omega) (leadN_3 c1 (by omega) (by omega)) (by omega) (by omega) (by omega) ⟨by omega, by omega, by omega⟩ w
  by_cases c4 : 240 ≤ (s[0]).toNat ∧ (s[0]).toNat < 248
  · exact char_wide s hs h0 4 ((s[0]).toNat % 8) (by omega) (leadN_4 c1 (by omega) (by omega) (by omega)) (by omega) (by omega) (by omega) ⟨by omega, by omega, by omega⟩ w
  · have hl : s.data.toList = s[0] :: s.data.toList.drop 1 := by have := drop_cons s 0 h0; simpa using this
    have hfin : nextL s.data.toList = none := by
      rw [hl]; exact nextL_short (.inl (by rw [leadN_0 c1 (by omega) (by omega) (by omega)]))
    have HF := Lib.hid hfin
    have k1 : (s[0]).toNat < 192 ∨ 248 ≤ (s[0]).toNat := by omega
    clear hfin hl c2 c3 c4
    rcases k1 with k1 | k1
    all_goals
      go_enter Tryz.func39, Tryz.ntmps39
      go_wp2
      go_ret2
      exact ⟨by rw [HF.out]; rfl, Below.refl _ _⟩
end Go.Proofs.YtlldpmjnledhgaaGreatDoor
