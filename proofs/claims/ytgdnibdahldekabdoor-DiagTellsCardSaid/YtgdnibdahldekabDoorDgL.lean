/- The walk of the law DiagEach. -/
import Derived.Test.YtgdnibdahldekabDoorDgU
import Derived.BigRegion
import Derived.Deep.QuietTactic
import Derived.BigQuiet
import Derived.WalkSmall
import Derived.WalkKit
import Derived.ProofKit
import Derived.LoopTactic
import Derived.WalkSpells
import Derived.WalkLawsBesides
import Derived.Lib.Hide
import Derived.Outline
import Derived.Handy
namespace Go.Proofs.YtgdnibdahldekabDoor
open Go.RowKit
set_option linter.unusedVariables false

/-- What of reasons stands in a list behind adding them. -/
def addAll (zs : List DI) : List Di := zs.foldl (fun ds z => addL ds z.code z.at_ z.what.data.toList) []
theorem addAll_step {zs : List DI} {k : Nat} (hk : k < zs.length) : addAll (zs.take (k + 1)) = addL (addAll (zs.take k)) zs[k].code zs[k].at_ zs[k].what.data.toList := by
  unfold addAll
  rw [List.take_add_one, List.getElem?_eq_getElem hk, List.foldl_append]
  rfl
theorem cutL_len {α : Type} (stop : Int) (xs : List α) : (cutL stop xs).length = if 1 ≤ stop then min stop.toNat xs.length else xs.length := by
  unfold cutL
  split
  · rw [List.length_take]
  · rfl
theorem cutL_take {α : Type} (stop : Int) (xs : List α) : cutL stop xs = xs.take (cutL stop xs).length := by
  unfold cutL
  split
  · rw [List.length_take, ← List.take_take]
    simp
  · simp
theorem cut_fst (stop : Int) (ds : List Di) : ((cutL stop ds.zipIdx).map (·.1)) = ds.take (cutL stop ds.zipIdx).length := by
  rw [cutL_take, List.map_take, List.length_take]
  have e : ds.zipIdx.map (fun x => x.1) = ds := by simp
  rw [show (fun x : Di × Nat => x.1) = (fun x => x.1) from rfl, e]
  have h : (cutL stop ds.zipIdx).length ≤ ds.zipIdx.length := by rw [cutL_len]; split <;> omega
  rw [Nat.min_eq_left h]
theorem cut_snd (stop : Int) (ds : List Di) (i : Nat) (hi : i < (cutL stop ds.zipIdx).length) : ((cutL stop ds.zipIdx).map fun x => (x.2 : Int)).getD i 0 = i := by
  have h : (cutL stop ds.zipIdx).length ≤ ds.zipIdx.length := by rw [cutL_len]; split <;> omega
  have hi2 : i < ds.zipIdx.length := by omega
  have : (cutL stop ds.zipIdx)[i]? = some (ds.zipIdx[i]) := by
    rw [cutL_take, List.getElem?_take_of_lt hi, List.getElem?_eq_getElem hi2]
  rw [List.getD, List.getElem?_map, this]
  simp

set_option maxRecDepth 200000 in
set_option maxHeartbeats 3200000 in
theorem diagEach_walk (a : Option Addr) (c n : Nat) (zs : List DI) (stop : Int) (hn : zs.length = n) (hm : n ≤ 9223372036854775807) (hs1 : -9223372036854775808 ≤ stop) (hs2 : stop ≤ 9223372036854775807) (w : World) (h : IsDIs w a zs) :
    Calls Tryd.prog 3 #[.slice a n c, .int .i64 stop] w fun e W' => e = .returned (.bool true) ∧ Below w.heap.size w W' := by
  have H := Lib.hid h
  have HN := Lib.hid hn
  have KL := Lib.hid (light_any a c n zs hn hm w h)
  clear h hn
  go_enter Tryd.func3, Tryd.ntmps3
  go_wp2_with fail
  refine KL.out.mono ?_
  rintro e w1 ⟨⟨b, rfl⟩, B1⟩
  clear KL
  cases b with
  | false =>
    go_wp2_with fail
    refine (alive5_any w1).mono ?_
    rintro e w2 ⟨rfl, B2⟩
    go_wp2_with fail
    go_ret
    exact ⟨rfl, B1.trans (B2.mono B1.size)⟩
  | true =>
    by_cases h100 : 100 < n
    · go_wp2_with fail
      refine (alive5_any w1).mono ?_
      rintro e w2 ⟨rfl, B2⟩
      go_wp2_with fail
      go_ret
      exact ⟨rfl, B1.trans (B2.mono B1.size)⟩
    · go_wp2_with fail
      refine (alive5_any w1).mono ?_
      rintro e w2 ⟨rfl, B2⟩
      have B3 := B1.trans (B2.mono B1.size)
      have k0 := IsL.new w.heap.size w2 B3.size
      have B4 := B3.alloc B3.size (.cells #[.slice none 0 0] 27)
      go_wp2_with fail
      go_loopw [6] (fun p wr => ∃ k : Nat, p = .int .i64 k ∧ k ≤ n ∧ IsL w.heap.size wr w2.heap.size (addAll (zs.take k)) ∧ Below w.heap.size w wr) (fun p _ => n - (intOf p).toNat)
      case atStart => exact ⟨0, rfl, Nat.zero_le _, k0, B4⟩
      case round =>
        obtain ⟨k, rfl, hk, hL, hB⟩ := hrel
        by_cases hlt : k < n
        · have hkz : k < zs.length := by have := HN.out; omega
          obtain ⟨x, z0, z1, z2, rfl, hzk, hok, hc⟩ := isDI_at H.out hkz
          obtain ⟨p0, p1, p2⟩ := hc wr hB
          have hst := addAll_step hkz
          rw [hzk] at hst
          simp only at hst
          have hw := hok.2.2
          simp only at hw
          have KA := Lib.hid (add_any w.heap.size w2.heap.size (addAll (zs.take k)) z0 z1 z2 hw wr.drew hL)
          have HST := Lib.hid hst
          clear hst hc hok hzk hw
          go_wp2_with fail
          go_region_with (go_at_call 7; refine KA.out.mono ?_; rintro e w3 ⟨⟨v3, rfl⟩, hL3, hB3⟩)
          all_goals
            go_wp2
            go_roundw
            case rel => exact ⟨k + 1, by go_num, by omega, by rw [HST.out]; exact hL3, hB.drew.trans hB3⟩
            case measure => simp [intOf]; omega
        · obtain rfl : k = n := by omega
          obtain ⟨ds, hds⟩ : ∃ ds, addAll (zs.take k) = ds := ⟨_, rfl⟩
          rw [hds] at hL
          clear hds H
          have hd100 := hL.2.1
          have KA := Lib.hid fun W (h : Below wr.heap.size wr W) => all_any w.heap.size (some ⟨w2.heap.size, 0, none⟩) ds W (.inr ⟨_, rfl, hL.below h⟩)
          have KE := Lib.hid fun W => each_any (.pointer (some ⟨w2.heap.size, 0, none⟩)) (.inr ⟨_, rfl⟩) W
          have KT := Lib.hid fun W Bx hb (h : Below wr.heap.size wr W) => told5_any w.heap.size Bx (.pointer (some ⟨w2.heap.size, 0, none⟩)) ds stop W hb (.inr ⟨_, rfl, hL.below h⟩)
          have KN := Lib.hid fun W Bx hb => told5_any 0 Bx (.pointer none) [] 0 W hb (.inl ⟨rfl, rfl⟩)
          have KM := Lib.hid fun W => all_any 0 none [] W (.inl ⟨rfl, rfl⟩)
          have KEn := Lib.hid fun W => each_any (.pointer none) (.inl rfl) W
          have hct : (cutL stop ds.zipIdx).length = if 1 ≤ stop then min stop.toNat ds.length else ds.length := by rw [cutL_len, List.length_zipIdx]
          have HF1 := Lib.hid (cut_fst stop ds)
          have HF2 := Lib.hid (cut_snd stop ds)
          clear hL
          go_wp2_with fail
          refine (KA.out _ (Below.refl _ _)).mono ?_
          rintro e w4 ⟨v4, rfl, hr4, B5⟩
          obtain ⟨a4, c4, rfl, hc4, ha4, hR4⟩ := rdD_of hr4 rfl
          obtain ⟨N, hN⟩ : ∃ N, ds.length = N := ⟨_, rfl⟩
          rw [hN] at hct hc4 hd100 ⊢
          have HNN := Lib.hid hN
          clear hN hr4
          go_wp2_with fail
          refine (KE.out _).mono ?_
          rintro e w5 ⟨rfl, rfl⟩
          have hnf : ∀ w : World, (binOp .eql 33 (.func (.func 23) #[] #[.pointer (some ⟨w4.heap.size, 0, none⟩)]) .nilFunc).run Tryd.prog w = .ok (.bool false) w := fun _ => by kernel_rfl
          have hbox := Boxed.new w4 25 (.pointer (some ⟨w2.heap.size, 0, none⟩))
          have hal := (Below.refl _ w4).alloc (Nat.le_refl _) (.cells #[.pointer (some ⟨w2.heap.size, 0, none⟩)] 25)
          have hR5 := hR4.below hal
          have B6 := B5.trans (hal.mono B5.size)
          obtain ⟨W0, hW0⟩ : ∃ W0, w4.alloc (.cells #[.pointer (some ⟨w2.heap.size, 0, none⟩)] 25) = W0 := ⟨_, rfl⟩
          rw [hW0] at hbox B6 hR5 ⊢
          clear hW0 hal hR4 B5 KA KE
          obtain ⟨m, hm⟩ : ∃ m, (cutL stop ds.zipIdx).length = m := ⟨_, rfl⟩
          rw [hm] at hct HF1 HF2
          have HMM := Lib.hid hm
          have hms : (stop ≤ 0 ∧ m = N) ∨ (0 < stop ∧ stop ≤ N ∧ (m : Int) = stop) ∨ (0 < stop ∧ (N : Int) ≤ stop ∧ m = N) := by
            by_cases h : 1 ≤ stop
            · rw [if_pos h] at hct; omega
            · rw [if_neg h] at hct; omega
          clear hm hct
          have hmN : m ≤ N := by omega
          have hcs : (stop ≤ 0 ∧ m = N) ∨ (0 < stop ∧ min (N : Int) stop = (m : Int)) := by omega
          clear hms
          have hfr := fun w => run_front (P := Tryd.prog) (z := 3) Tryd.underlying22 (fun w => by kernel_rfl) ha4 (n := N) (c := c4) (m := m) (by omega) w
          have hm100 : m ≤ 100 := by omega
          have hBe := hB.trans (B6.mono hB.size)
          generalize w4.heap.size = Bx at *
          rcases hcs with ⟨hs0, rfl⟩ | ⟨hs0, hmn⟩
          all_goals
            go_wp2_with fail
            go_loopw [10] (fun p wr => ∃ k : Nat, p = .int .i64 k ∧ k ≤ 2 ∧ Below W0.heap.size W0 wr) (fun p _ => 2 - (intOf p).toNat)
            case atStart => exact ⟨0, rfl, by omega, Below.refl _ _⟩
            case round =>
              obtain ⟨k, rfl, hk, hB7⟩ := hrel
              by_cases hlt : k < 2
              · have hbr : Boxed wr Bx 25 (.pointer (some ⟨w2.heap.size, 0, none⟩)) := (hB7.block _ hbox.lt).trans hbox
                go_wp2_with fail
                refine (KT.out wr Bx hbr (B6.trans (hB7.mono B6.size))).mono ?_
                rintro e w7 ⟨vA, vB, rfl, hrA, hrB, B8⟩
                rw [HMM.out] at hrA hrB
                rw [HF1.out] at hrB
                have elm : (ds.take m).length = m := by rw [List.length_take, HNN.out]; omega
                obtain ⟨ay, cy, rfl, _, _, hRy⟩ := rdD_of hrB elm.symm
                have ell : ((cutL stop ds.zipIdx).map fun x => (x.2 : Int)).length = m := by rw [List.length_map, HMM.out]
                have hrA' : w7.ownsRow wr.heap.size 3 1 vA ((cutL stop ds.zipIdx).map fun x => (x.2 : Int)).length (((cutL stop ds.zipIdx).map fun x => (x.2 : Int)).map (Value.int .i64)) := by
                  rw [ell, List.map_map]; exact hrA
                obtain ⟨ax, cx, rfl, hRx⟩ := rdI_own hrA'
                rw [ell, elm]
                have q1 := hB7.trans (B8.mono hB7.size)
                have hR7 := (hR5.below q1).take m
                clear hrA hrA' hrB
                go_wp2_with fail
                refine (sameD_yes ay a4 cy c4 (ds.take m) m elm (by omega) _ hRy hR7).mono ?_
                rintro e w8 ⟨rfl, B9⟩
                have q2 := q1.trans (B9.mono q1.size)
                have hRx8 := hRx.below B9
                go_wp2_with fail
                go_loopw [13] (fun p wi => ∃ i : Nat, p = .int .i64 i ∧ i ≤ m ∧ Below w8.heap.size w8 wi) (fun p _ => m - (intOf p).toNat)
                case atStart => exact ⟨0, rfl, Nat.zero_le _, Below.refl _ _⟩
                case round =>
                  obtain ⟨i, rfl, hi, hBi⟩ := hrel
                  by_cases hit : i < m
                  · obtain ⟨gx, rfl, hx1, hx2⟩ := (hRx8.below hBi) i (by rw [ell]; exact hit)
                    rw [HF2.out i hit] at hx2
                    go_wp2_with fail
                    go_roundw
                    case rel => exact ⟨i + 1, by go_num, by omega, hBi⟩
                    case measure => simp [intOf]; omega
                  · obtain rfl : i = m := by omega
                    go_wp2_with fail
                    go_roundw
                    case rel => exact ⟨k + 1, by go_num, by omega, q2.trans (hBi.mono q2.size)⟩
                    case measure => simp [intOf]; omega
              · obtain rfl : k = 2 := by omega
                clear KT HF1 HF2 HMM hR5 hbox HNN
                go_wp2_with fail
                refine (add_nil _ _ _ _).mono ?_
                rintro e w7 ⟨⟨v7, rfl⟩, rfl⟩
                go_wp2_with fail
                refine (first_nil _).mono ?_
                rintro e w8 ⟨rfl, B8⟩
                go_wp2_with fail
                have q8 := hB7.trans (B8.mono hB7.size)
                have q9 := q8.alloc q8.size (.cells #[.int .i64 zeroDi.code, .int .i64 zeroDi.at_, .string ⟨zeroDi.what.toArray⟩] 31)
                obtain ⟨w9, hw9⟩ : ∃ w9, w8.alloc (.cells #[.int .i64 zeroDi.code, .int .i64 zeroDi.at_, .string ⟨zeroDi.what.toArray⟩] 31) = w9 := ⟨_, rfl⟩
                rw [hw9] at q9 ⊢
                clear hw9 hnf
                refine (KEn.out _).mono ?_
                rintro e w10 ⟨rfl, rfl⟩
                have hnf : ∀ w : World, (binOp .eql 33 (.func (.func 23) #[] #[.pointer (some ⟨w9.heap.size, 0, none⟩)]) .nilFunc).run Tryd.prog w = .ok (.bool false) w := fun _ => by kernel_rfl
                have hbx := Boxed.new w9 25 (.pointer none)
                have q10 := q9.alloc q9.size (.cells #[.pointer none] 25)
                obtain ⟨w10, hw10⟩ : ∃ w10, w9.alloc (.cells #[.pointer none] 25) = w10 := ⟨_, rfl⟩
                rw [hw10] at q10 hbx ⊢
                clear hw10
                generalize w9.heap.size = By at *
                go_wp2_with fail
                refine (KN.out w10 By hbx).mono ?_
                rintro e w11 ⟨vA, vB, rfl, hrA, hrB, B11⟩
                have e0 : (cutL 0 ([] : List Di).zipIdx).length = 0 := rfl
                rw [e0] at hrA hrB
                obtain ⟨ax, cx, rfl⟩ := ownsRow_slice' hrA
                obtain ⟨ay, cy, rfl⟩ := ownsRow_slice' hrB
                have q11 := q10.trans (B11.mono q10.size)
                clear hrA hrB
                go_wp2_with fail
                refine (len_nil _).mono ?_
                rintro e w12 ⟨rfl, rfl⟩
                go_wp2_with fail
                refine (KM.out _).mono ?_
                rintro e w13 ⟨v13, rfl, hr13, B13⟩
                obtain ⟨az, cz, rfl⟩ := ownsRow_slice' hr13
                have q13 := q11.trans (B13.mono q11.size)
                clear hr13
                go_wp2_with fail
                go_ret
                exact ⟨rfl, hBe.trans (q13.mono hBe.size)⟩

end Go.Proofs.YtgdnibdahldekabDoor
