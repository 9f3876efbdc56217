/- The walks of utf.lead and utf.next. The walks of utf.Check and utf.Put. -/
import Derived.Test.YtlldpmjnledhgaaGreatDoorProg
import Derived.Test.YtlldpmjnledhgaaGreatDoorUtW
import Derived.Test.YtlldpmjnledhgaaGreatDoorPbA
import Derived.Test.YtlldpmjnledhgaaGreatDoorMem
import Derived.WalkKit
import Derived.ProofKit
import Derived.LoopTactic
import Derived.WalkSpells
import Derived.WalkLawsBesides
import Derived.Lib.Hide
import Derived.Outline
import Derived.Handy
namespace Go.Proofs.YtlldpmjnledhgaaGreatDoor
open Go.RowKit
set_option linter.unusedVariables false

set_option maxRecDepth 20000 in
set_option maxHeartbeats 800000 in
theorem lead_any (c : UInt8) (n r : Nat) (h : leadN c.toNat = (n, r)) (w : World) :
    Calls Tryz.prog 81 #[.int .u8 c.toNat] w fun e w' => e = .returned (.tuple #[.int .i64 n, .int .i64 r]) ∧ w = w' := by
  have hc := UInt8.toNat_lt c
  generalize c.toNat = c at *
  have e1 := u8_and31 (x := (c : Int)) (by omega) (by omega)
  have e2 := u8_and15 (x := (c : Int)) (by omega) (by omega)
  have e3 := u8_and7 (x := (c : Int)) (by omega) (by omega)
  by_cases h1 : c < 128
  · have H := Lib.hid (leadN_1 h1)
    rw [H.out] at h
    obtain ⟨rfl, rfl⟩ := Prod.mk.inj h
    go_enter Tryz.func81, Tryz.ntmps81
    go_wp2
    go_ret2
    exact ⟨rfl, rfl⟩
  by_cases h2 : c / 32 = 6
  · have H := Lib.hid (leadN_2 h1 h2)
    rw [H.out] at h
    obtain ⟨rfl, rfl⟩ := Prod.mk.inj h
    have h2' : ((c : Int) / 32 == 6) = true := beq_iff_eq.2 (by omega)
    clear h2
    go_enter Tryz.func81, Tryz.ntmps81
    go_wp2
    go_ret2
    exact ⟨rfl, rfl⟩
  have h2' : ((c : Int) / 32 == 6) = false := beq_eq_false_iff_ne.2 (by omega)
  by_cases h3 : c / 16 = 14
  · have H := Lib.hid (leadN_3 h1 h2 h3)
    rw [H.out] at h
    obtain ⟨rfl, rfl⟩ := Prod.mk.inj h
    have h3' : ((c : Int) / 16 == 14) = true := beq_iff_eq.2 (by omega)
    clear h3 h2
    go_enter Tryz.func81, Tryz.ntmps81
    go_wp2
    go_ret2
    exact ⟨rfl, rfl⟩
  have h3' : ((c : Int) / 16 == 14) = false := beq_eq_false_iff_ne.2 (by omega)
  by_cases h4 : c / 8 = 30
  · have H := Lib.hid (leadN_4 h1 h2 h3 h4)
    rw [H.out] at h
    obtain ⟨rfl, rfl⟩ := Prod.mk.inj h
    have h4' : ((c : Int) / 8 == 30) = true := beq_iff_eq.2 (by omega)
    clear h4 h3 h2
    go_enter Tryz.func81, Tryz.ntmps81
    go_wp2
    go_ret2
    exact ⟨rfl, rfl⟩
  · have H := Lib.hid (leadN_0 h1 h2 h3 h4)
    rw [H.out] at h
    obtain ⟨rfl, rfl⟩ := Prod.mk.inj h
    have h4' : ((c : Int) / 8 == 30) = false := beq_eq_false_iff_ne.2 (by omega)
    clear h4 h3 h2
    go_enter Tryz.func81, Tryz.ntmps81
    go_wp2
    go_ret2
    exact ⟨rfl, rfl⟩

set_option maxRecDepth 20000 in
set_option maxHeartbeats 800000 in
theorem next_any (s : ByteArray) (hs : s.size ≤ 9223372036854775807) (h0 : 0 < s.size) (w : World) :
    Calls Tryz.prog 66 #[.string s] w fun e w' => e = .returned (nextRes (nextL s.data.toList)) ∧ w = w' := by
  have hl : s.data.toList = s[0] :: s.data.toList.drop 1 := by have := drop_cons s 0 h0; simpa using this
  have hlen : (s.data.toList.drop 1).length + 1 = s.size := by simp; omega
  obtain ⟨n, r0, hld⟩ : ∃ n r, leadN (s[0]).toNat = (n, r) := ⟨_, _, rfl⟩
  have hb := leadN_bd (s[0]).toNat
  rw [hld] at hb
  obtain ⟨hb1, hb2⟩ := hb
  have hb3 := hb2 (UInt8.toNat_lt _)
  simp only at hb1 hb3
  clear hb2
  by_cases hsh : n = 0 ∨ s.size < n
  · have hfin : nextL s.data.toList = none := by
      rw [hl]; exact nextL_short (by rw [hld]; simp only; omega)
    have HF := Lib.hid hfin
    have LA := Lib.hid (lead_any s[0] n r0 hld)
    clear hfin hl hlen hld
    by_cases hz : n = 0
    · subst hz
      go_enter Tryz.func66, Tryz.ntmps66
      go_wp2_with fail
      refine (LA.out _).mono ?_
      rintro e w' ⟨rfl, rfl⟩
      go_wp2
      go_ret2
      exact ⟨by rw [HF.out]; rfl, rfl⟩
    · have hz' : ((n : Int) == 0) = false := beq_eq_false_iff_ne.2 (by omega)
      have hgt : s.size < n := by omega
      clear hsh hz
      go_enter Tryz.func66, Tryz.ntmps66
      go_wp2_with fail
      refine (LA.out _).mono ?_
      rintro e w' ⟨rfl, rfl⟩
      go_wp2
      go_ret2
      exact ⟨by rw [HF.out]; rfl, rfl⟩
  · have hn0 : n ≠ 0 := by omega
    have hns : n ≤ s.size := by omega
    have hN : ∀ o, contsGo ((s.data.toList.take n).drop 1) r0 = o → nextL s.data.toList = match o with | none => none | some q => if widthR q = (n : Int) then some (q, n) else none := by
      intro o ho
      rw [hl] at ho ⊢
      cases o with
      | none => exact nextL_none hld hn0 (by omega) ho
      | some q => exact nextL_some hld hn0 (by omega) ho
    have HN := Lib.hid hN
    have LA := Lib.hid (lead_any s[0] n r0 hld)
    have hz' : ((n : Int) == 0) = false := beq_eq_false_iff_ne.2 (by omega)
    have hn1 : 1 ≤ n := by omega
    clear hN hl hlen hld hsh hn0
    go_enter Tryz.func66, Tryz.ntmps66
    go_wp2_with fail
    refine (LA.out _).mono ?_
    rintro e w' ⟨rfl, rfl⟩
    go_wp2
    go_loop [5, 6] (fun r i => ∃ (k q : Nat), 1 ≤ k ∧ k ≤ n ∧ r = .int .i64 q ∧ i = .int .i64 k ∧ (k = 1 → q < 128) ∧ (k = 2 → q < 8192) ∧ (k = 3 → q < 524288) ∧ q < 33554432 ∧ contsGo ((s.data.toList.take n).drop 1) r0 = contsGo ((s.data.toList.take n).drop k) q)
      (fun _ i => n - (intOf i).toNat)
    case atStart => exact ⟨1, r0, by omega, by omega, rfl, rfl, by omega, by omega, by omega, by omega, rfl⟩
    case round =>
      obtain ⟨k, q, hk1, hk2, rfl, rfl, q1, q2, q3, q4, h⟩ := hrel
      have H := Lib.hid h
      clear h
      by_cases hlt : k < n
      · have hks : k < s.size := by omega
        have hq : q < 524288 := by omega
        have hd : (s.data.toList.take n).drop k = s[k] :: (s.data.toList.take n).drop (k + 1) := by
          rw [List.drop_eq_getElem_cons (by simp; omega)]
          simp
          rfl
        have HD := Lib.hid hd
        have HQ := Lib.hid (And.intro q1 (And.intro q2 (And.intro q3 hlt)))
        clear hd q1 q2 q3 q4
        have hc := UInt8.toNat_lt s[k]
        have e6 := u8_and63 (x := ((s[k]).toNat : Int)) (by omega) (by omega)
        by_cases hc2 : (s[k]).toNat / 64 = 2
        · have hc2' : (((s[k]).toNat : Int) / 64 != 2) = false := by rw [bne_eq_false_iff_eq]; omega
          have HC := Lib.hid hc2
          clear hc2
          go_wp2
          go_round
          case rel =>
            obtain ⟨q1, q2, q3, _⟩ := HQ.out
            exact ⟨k + 1, q * 64 + (s[k]).toNat % 64, by omega, by omega, by rw [or6 _ _ (by omega)], by go_num, by omega, by omega, by omega, by omega, by rw [H.out, HD.out, contsGo_more HC.out]⟩
          case measure => simp [intOf]; omega
        · have hc2' : (((s[k]).toNat : Int) / 64 != 2) = true := by rw [bne_iff_ne]; omega
          have HC := Lib.hid hc2
          clear hc2
          go_wp2
          go_ret2
          exact ⟨by rw [HN.out none (by rw [H.out, HD.out, contsGo_bad HC.out])]; rfl, rfl⟩
      · obtain rfl : k = n := by omega
        have hfin := HN.out (some q) (by rw [H.out, List.drop_eq_nil_of_le (by simp; omega)]; rfl)
        simp only at hfin
        by_cases hw : widthR (q : Int) = (k : Int)
        · rw [if_pos hw] at hfin
          have HF := Lib.hid hfin
          have HW := Lib.hid hw
          clear hw hfin HN LA q1 q2 q3
          go_wp2_with fail
          refine (width_any _ _).mono ?_
          rintro e w' ⟨rfl, rfl⟩
          rw [HW.out]
          go_wp2
          go_ret2
          exact ⟨by rw [HF.out]; rfl, rfl⟩
        · rw [if_neg hw] at hfin
          have HF := Lib.hid hfin
          have hw' : (widthR (q : Int) != (k : Int)) = true := by rw [bne_iff_ne]; exact hw
          clear hw hfin HN LA q1 q2 q3
          go_wp2_with fail
          refine (width_any _ _).mono ?_
          rintro e w' ⟨rfl, rfl⟩
          go_wp2
          go_ret2
          exact ⟨by rw [HF.out]; rfl, rfl⟩
end Go.Proofs.YtlldpmjnledhgaaGreatDoor
namespace Go.Proofs.YtlldpmjnledhgaaGreatDoor
open Go.RowKit
set_option linter.unusedVariables false

theorem nextRes_some (r n : Nat) : nextRes (some (r, n)) = .tuple #[.int .i64 r, .int .i64 n] := rfl
theorem nextRes_none : nextRes none = .tuple #[.int .i64 0, .int .i64 0] := rfl

set_option maxRecDepth 20000 in
set_option maxHeartbeats 800000 in
theorem check_any (s : ByteArray) (hs : s.size ≤ 9223372036854775807) (w : World) :
    Calls Tryz.prog 51 #[.string s] w fun e w' => e = .returned (.tuple #[.int .i64 (checkL s.data.toList), .bool (decide (checkL s.data.toList = s.size))]) ∧ w = w' := by
  have hle := checkL_le _ s.data.toList (Nat.le_refl _)
  have HLE := Lib.hid hle
  clear hle
  go_enter Tryz.func51, Tryz.ntmps51
  go_wp2
  go_step3
  go_wp2
  go_step3
  go_wp2
  go_loop [4] (fun a => ∃ (k : Nat), k ≤ s.size ∧ a = .int .i64 k ∧ checkL s.data.toList = k + checkL (s.data.toList.drop k))
      (fun a => s.size - (intOf a).toNat)
  case atStart => exact ⟨0, by omega, rfl, by simp⟩
  case round =>
    obtain ⟨k, hk, rfl, h⟩ := hrel
    have H := Lib.hid h
    clear h
    by_cases hlt : k < s.size
    · cases hn : nextL (s.data.toList.drop k) with
      | none =>
        have hc : nextL (s.extract k s.size).data.toList = none := by rw [extract_drop]; exact hn
        have HC := Lib.hid hc
        have hfin : checkL s.data.toList = k := by rw [H.out, checkL_none hn]; rfl
        have HF := Lib.hid hfin
        have hne : decide (checkL s.data.toList = s.size) = false := by rw [hfin]; simp; omega
        have HNE := Lib.hid hne
        clear hn hc hfin hne
        go_wp2_with fail
        refine (next_any _ (by simp; omega) (by simp; omega) _).mono ?_
        rintro e w' ⟨rfl, rfl⟩
        rw [HC.out, nextRes_none]
        go_wp2
        rw [Exit.noGoto_ret]
        go_ret2
        exact ⟨ret_ib (by rw [HF.out]) (by rw [HNE.out]; exact beq_eq_false_iff_ne.2 (by omega)), rfl⟩
      | some p =>
        obtain ⟨r, n⟩ := p
        have hc : nextL (s.extract k s.size).data.toList = some (r, n) := by rw [extract_drop]; exact hn
        have HC := Lib.hid hc
        obtain ⟨n1, n2, n3, n4⟩ := nextL_bd hn
        simp at n2
        have hst : checkL s.data.toList = k + n + checkL (s.data.toList.drop (k + n)) := by rw [H.out, checkL_some hn, List.drop_drop]; omega
        have HS := Lib.hid hst
        have hz : ((n : Int) == 0) = false := beq_eq_false_iff_ne.2 (by omega)
        clear hn hc hst n4
        go_wp2_with fail
        refine (next_any _ (by simp; omega) (by simp; omega) _).mono ?_
        rintro e w' ⟨rfl, rfl⟩
        rw [HC.out, nextRes_some]
        go_wp2
        go_round
        case rel => exact ⟨k + n, by omega, by go_num, HS.out⟩
        case measure => simp [intOf]; omega
    · obtain rfl : k = s.size := by omega
      have hfin : checkL s.data.toList = s.size := by rw [H.out, drop_end s _ (Nat.le_refl _), checkL_none rfl]; rfl
      have HF := Lib.hid hfin
      clear hfin
      go_wp2
      go_ret2
      exact ⟨ret_ib (by rw [HF.out]) (by rw [HF.out]; simp), rfl⟩

theorem slBu : SlT Tryz.prog 91 5 1 1 := SlT.mk Tryz.underlying91 (z := .int .u8 0) (by kernel_rfl) rfl (by decide) (by decide)

set_option maxRecDepth 20000 in
set_option maxHeartbeats 800000 in
theorem put_bad (r : Int) (h : widthR r = 0) (w : World) :
    Calls Tryz.prog 116 #[.int .i64 r] w fun e w' => e = .returned (.tuple #[.string ⟨#[]⟩, .bool false]) ∧ w = w' := by
  have H := Lib.hid h
  clear h
  go_enter Tryz.func116, Tryz.ntmps116
  go_wp2_with fail
  refine (width_any _ _).mono ?_
  rintro e w' ⟨rfl, rfl⟩
  rw [H.out]
  go_wp2
  go_ret2
  exact ⟨rfl, rfl⟩
set_option maxRecDepth 20000 in
set_option maxHeartbeats 800000 in
theorem put_one (r : Nat) (h : r < 128) (w : World) :
    Calls Tryz.prog 116 #[.int .i64 r] w fun e w' => e = .returned (.tuple #[str (putR r), .bool true]) ∧ Below w.heap.size w w' := by
  have hw : widthR (r : Int) = 1 := by unfold widthR; rw [if_neg (by omega), if_pos (by omega)]
  have hp : putR r = [UInt8.ofNat r] := if_pos h
  have H := Lib.hid hw
  have HP := Lib.hid hp
  have hb : (r : Int) = ((UInt8.ofNat r).toNat : Int) := pv_byte r h
  have HB := Lib.hid hb
  clear hw hp hb
  go_enter Tryz.func116, Tryz.ntmps116
  go_wp2_with fail
  refine (width_any _ _).mono ?_
  rintro e w' ⟨rfl, rfl⟩
  rw [H.out]
  go_wp2_with (refine wpList_toStr _ rfl 91 9 5 _ rfl Tryz.underlying91 Tryz.underlying5 Tryz.underlying9 ⟨w.heap.size, 0, none⟩ [UInt8.ofNat r] 1 1 rfl rfl ?c1 ?_)
  case c1 =>
    intro j hj
    match j, hj with
    | 0, _ =>
      rw [List.getElem_cons_zero, ← HB.out]
      exact cell_one_new w _ _ 0 _ rfl
  go_wp2
  go_ret2
  exact ⟨by rw [HP.out]; rfl, (Below.refl _ _).alloc (Nat.le_refl _) _⟩
set_option maxRecDepth 20000 in
set_option maxHeartbeats 800000 in
theorem put_two (r : Nat) (hlo : ¬ r < 128) (hhi : r < 2048) (w : World) :
    Calls Tryz.prog 116 #[.int .i64 r] w fun e w' => e = .returned (.tuple #[str (putR r), .bool true]) ∧ Below w.heap.size w w' := by
  have hw : widthR (r : Int) = 2 := by unfold widthR; rw [if_neg (by omega), if_neg (by omega), if_pos (by omega)]
  obtain ⟨b0, h0⟩ : ∃ b, UInt8.ofNat (192 + r / 64) = b := ⟨_, rfl⟩
  have c0 : (b0.toNat : Int) = ((192 + r / 64 : Nat) : Int) := by rw [← h0]; exact byte_of _ (by omega)
  obtain ⟨b1, h1⟩ : ∃ b, UInt8.ofNat (128 + r % 64) = b := ⟨_, rfl⟩
  have c1 : (b1.toNat : Int) = ((128 + r % 64 : Nat) : Int) := by rw [← h1]; exact byte_of _ (by omega)
  have hp : putR r = [b0, b1] := by rw [putR, if_neg hlo, if_pos hhi, h0, h1]
  have hmk : ∀ w, (Instr.makeSlice 91 (.int .i64 2) (.int .i64 2)).run Tryz.prog w = .ok (.slice (some ⟨w.heap.size, 0, none⟩) 2 2) (w.alloc (.cells #[.int .u8 0, .int .u8 0] 5)) := fun _ => by kernel_rfl
  have ea := and63 r (by omega)
  have eo := or128 r
  have C0 := Lib.hid c0
  have C1 := Lib.hid c1
  have H := Lib.hid hw
  have HP := Lib.hid hp
  clear hw hp c0 h0 c1 h1
  go_enter Tryz.func116, Tryz.ntmps116
  go_wp2_with fail
  refine (width_any _ _).mono ?_
  rintro e w' ⟨rfl, rfl⟩
  rw [H.out]
  go_wp2
  go_rounds 2
  rw [run_toStr _ 91 9 5 ⟨w.heap.size, 0, none⟩ [b0, b1] 2 2 rfl Tryz.underlying91 Tryz.underlying5 Tryz.underlying9 ?c1]
  case c1 =>
    intro j hj
    match j, hj with
    | 0, _ =>
      show (World.alloc _ _).cell? ⟨w.heap.size, 0, none⟩ = some (.int .u8 (b0.toNat : Int))
      rw [World.cell?_alloc_at _ _ _ _ rfl, C0.out]
      simp
      try omega
    | 1, _ =>
      show (World.alloc _ _).cell? ⟨w.heap.size, 1, none⟩ = some (.int .u8 (b1.toNat : Int))
      rw [World.cell?_alloc_at _ _ _ _ rfl, C1.out]
      simp
      try omega
  go_wp2
  go_ret2
  exact ⟨by rw [HP.out]; rfl, (Below.refl _ _).alloc (Nat.le_refl _) _⟩
set_option maxRecDepth 20000 in
set_option maxHeartbeats 800000 in
theorem put_three (r : Nat) (hlo : ¬ r < 2048) (hhi : r < 65536) (hs : ¬ (55296 ≤ r ∧ r ≤ 57343)) (w : World) :
    Calls Tryz.prog 116 #[.int .i64 r] w fun e w' => e = .returned (.tuple #[str (putR r), .bool true]) ∧ Below w.heap.size w w' := by
  have hw : widthR (r : Int) = 3 := by unfold widthR; rw [if_neg (by omega), if_neg (by omega), if_neg (by omega), if_pos (by omega)]
  obtain ⟨b0, h0⟩ : ∃ b, UInt8.ofNat (224 + r / 4096) = b := ⟨_, rfl⟩
  have c0 : (b0.toNat : Int) = ((224 + r / 4096 : Nat) : Int) := by rw [← h0]; exact byte_of _ (by omega)
  obtain ⟨b1, h1⟩ : ∃ b, UInt8.ofNat (128 + r / 64 % 64) = b := ⟨_, rfl⟩
  have c1 : (b1.toNat : Int) = ((128 + r / 64 % 64 : Nat) : Int) := by rw [← h1]; exact byte_of _ (by omega)
  obtain ⟨b2, h2⟩ : ∃ b, UInt8.ofNat (128 + r % 64) = b := ⟨_, rfl⟩
  have c2 : (b2.toNat : Int) = ((128 + r % 64 : Nat) : Int) := by rw [← h2]; exact byte_of _ (by omega)
  have hp : putR r = [b0, b1, b2] := by rw [putR, if_neg (by omega), if_neg hlo, if_pos hhi, h0, h1, h2]
  have hmk : ∀ w, (Instr.makeSlice 91 (.int .i64 3) (.int .i64 3)).run Tryz.prog w = .ok (.slice (some ⟨w.heap.size, 0, none⟩) 3 3) (w.alloc (.cells #[.int .u8 0, .int .u8 0, .int .u8 0] 5)) := fun _ => by kernel_rfl
  have ea := and63 r (by omega)
  have eo := or128 r
  have eb := and63 (r / 64) (by omega)
  have ep := or128 (r / 64)
  rw [show ((r / 64 : Nat) : Int) = (r : Int) / 64 from by omega] at eb ep
  have C0 := Lib.hid c0
  have C1 := Lib.hid c1
  have C2 := Lib.hid c2
  have H := Lib.hid hw
  have HP := Lib.hid hp
  clear hw hp c0 h0 c1 h1 c2 h2
  go_enter Tryz.func116, Tryz.ntmps116
  go_wp2_with fail
  refine (width_any _ _).mono ?_
  rintro e w' ⟨rfl, rfl⟩
  rw [H.out]
  go_wp2
  go_rounds 3
  rw [run_toStr _ 91 9 5 ⟨w.heap.size, 0, none⟩ [b0, b1, b2] 3 3 rfl Tryz.underlying91 Tryz.underlying5 Tryz.underlying9 ?c1]
  case c1 =>
    intro j hj
    match j, hj with
    | 0, _ =>
      show (World.alloc _ _).cell? ⟨w.heap.size, 0, none⟩ = some (.int .u8 (b0.toNat : Int))
      rw [World.cell?_alloc_at _ _ _ _ rfl, C0.out]
      simp
      try omega
    | 1, _ =>
      show (World.alloc _ _).cell? ⟨w.heap.size, 1, none⟩ = some (.int .u8 (b1.toNat : Int))
      rw [World.cell?_alloc_at _ _ _ _ rfl, C1.out]
      simp
      try omega
    | 2, _ =>
      show (World.alloc _ _).cell? ⟨w.heap.size, 2, none⟩ = some (.int .u8 (b2.toNat : Int))
      rw [World.cell?_alloc_at _ _ _ _ rfl, C2.out]
      simp
      try omega
  go_wp2
  go_ret2
  exact ⟨by rw [HP.out]; rfl, (Below.refl _ _).alloc (Nat.le_refl _) _⟩
set_option maxRecDepth 20000 in
set_option maxHeartbeats 800000 in
theorem put_four (r : Nat) (hlo : ¬ r < 65536) (hhi : r < 1114112) (w : World) :
    Calls Tryz.prog 116 #[.int .i64 r] w fun e w' => e = .returned (.tuple #[str (putR r), .bool true]) ∧ Below w.heap.size w w' := by
  have hw : widthR (r : Int) = 4 := by unfold widthR; rw [if_neg (by omega), if_neg (by omega), if_neg (by omega), if_neg (by omega)]
  obtain ⟨b0, h0⟩ : ∃ b, UInt8.ofNat (240 + r / 262144) = b := ⟨_, rfl⟩
  have c0 : (b0.toNat : Int) = ((240 + r / 262144 : Nat) : Int) := by rw [← h0]; exact byte_of _ (by omega)
  obtain ⟨b1, h1⟩ : ∃ b, UInt8.ofNat (128 + r / 4096 % 64) = b := ⟨_, rfl⟩
  have c1 : (b1.toNat : Int) = ((128 + r / 4096 % 64 : Nat) : Int) := by rw [← h1]; exact byte_of _ (by omega)
  obtain ⟨b2, h2⟩ : ∃ b, UInt8.ofNat (128 + r / 64 % 64) = b := ⟨_, rfl⟩
  have c2 : (b2.toNat : Int) = ((128 + r / 64 % 64 : Nat) : Int) := by rw [← h2]; exact byte_of _ (by omega)
  obtain ⟨b3, h3⟩ : ∃ b, UInt8.ofNat (128 + r % 64) = b := ⟨_, rfl⟩
  have c3 : (b3.toNat : Int) = ((128 + r % 64 : Nat) : Int) := by rw [← h3]; exact byte_of _ (by omega)
  have hp : putR r = [b0, b1, b2, b3] := by rw [putR, if_neg (by omega), if_neg (by omega), if_neg hlo, h0, h1, h2, h3]
  have hmk : ∀ w, (Instr.makeSlice 91 (.int .i64 4) (.int .i64 4)).run Tryz.prog w = .ok (.slice (some ⟨w.heap.size, 0, none⟩) 4 4) (w.alloc (.cells #[.int .u8 0, .int .u8 0, .int .u8 0, .int .u8 0] 5)) := fun _ => by kernel_rfl
  have ea := and63 r (by omega)
  have eo := or128 r
  have eb := and63 (r / 64) (by omega)
  have ep := or128 (r / 64)
  rw [show ((r / 64 : Nat) : Int) = (r : Int) / 64 from by omega] at eb ep
  have ec := and63 (r / 64 / 64) (by omega)
  have eq := or128 (r / 64 / 64)
  rw [show ((r / 64 / 64 : Nat) : Int) = (r : Int) / 64 / 64 from by omega] at ec eq
  have C0 := Lib.hid c0
  have C1 := Lib.hid c1
  have C2 := Lib.hid c2
  have C3 := Lib.hid c3
  have H := Lib.hid hw
  have HP := Lib.hid hp
  clear hw hp c0 h0 c1 h1 c2 h2 c3 h3
  go_enter Tryz.func116, Tryz.ntmps116
  go_wp2_with fail
  refine (width_any _ _).mono ?_
  rintro e w' ⟨rfl, rfl⟩
  rw [H.out]
  go_wp2
  go_rounds 4
  rw [run_toStr _ 91 9 5 ⟨w.heap.size, 0, none⟩ [b0, b1, b2, b3] 4 4 rfl Tryz.underlying91 Tryz.underlying5 Tryz.underlying9 ?c1]
  case c1 =>
    intro j hj
    match j, hj with
    | 0, _ =>
      show (World.alloc _ _).cell? ⟨w.heap.size, 0, none⟩ = some (.int .u8 (b0.toNat : Int))
      rw [World.cell?_alloc_at _ _ _ _ rfl, C0.out]
      simp
      try omega
    | 1, _ =>
      show (World.alloc _ _).cell? ⟨w.heap.size, 1, none⟩ = some (.int .u8 (b1.toNat : Int))
      rw [World.cell?_alloc_at _ _ _ _ rfl, C1.out]
      simp
      try omega
    | 2, _ =>
      show (World.alloc _ _).cell? ⟨w.heap.size, 2, none⟩ = some (.int .u8 (b2.toNat : Int))
      rw [World.cell?_alloc_at _ _ _ _ rfl, C2.out]
      simp
      try omega
    | 3, _ =>
      show (World.alloc _ _).cell? ⟨w.heap.size, 3, none⟩ = some (.int .u8 (b3.toNat : Int))
      rw [World.cell?_alloc_at _ _ _ _ rfl, C3.out]
      simp
      try omega
  go_wp2
  go_ret2
  exact ⟨by rw [HP.out]; rfl, (Below.refl _ _).alloc (Nat.le_refl _) _⟩
theorem widthR_char {r : Nat} (h : widthR (r : Int) ≠ 0) : r < 1114112 ∧ ¬ (55296 ≤ r ∧ r ≤ 57343) := by
  constructor
  · rcases Nat.lt_or_ge r 1114112 with h1 | h1
    · exact h1
    · exact absurd (widthR_zero (.inr (.inl (by omega)))) h
  · intro h1
    exact absurd (widthR_zero (.inr (.inr ⟨by omega, by omega⟩))) h
theorem put_ok (r : Nat) (h : widthR (r : Int) ≠ 0) (w : World) :
    Calls Tryz.prog 116 #[.int .i64 r] w fun e w' => e = .returned (.tuple #[str (putR r), .bool true]) ∧ Below w.heap.size w w' := by
  obtain ⟨h1, h2⟩ := widthR_char h
  by_cases a : r < 128
  · exact put_one r a w
  by_cases b : r < 2048
  · exact put_two r a b w
  by_cases c : r < 65536
  · exact put_three r b c h2 w
  · exact put_four r c h1 w
end Go.Proofs.YtlldpmjnledhgaaGreatDoor
