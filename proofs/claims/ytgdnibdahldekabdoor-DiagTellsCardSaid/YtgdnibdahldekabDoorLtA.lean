/- What light asks; SameDiags of a list with one that came in. -/
import Derived.Test.YtgdnibdahldekabDoorDgB
namespace Go.Proofs.YtgdnibdahldekabDoor
open Go.RowKit
set_option linter.unusedVariables false

/-- Yes: few and short. -/
def LightR (zs : List DI) (n : Nat) (e : Ending) : Prop := ∃ b : Bool, e = .returned (.bool b) ∧ (b = true → n ≤ 130 ∧ ∀ i (h : i < zs.length), (zs[i]).what.size ≤ 6000)
theorem lightR_no (zs : List DI) (n : Nat) : LightR zs n (.returned (.bool false)) := ⟨false, rfl, fun h => by cases h⟩
def LtR (w : World) (n : Nat) (zs : List DI) (v p : Value) (wr : World) : Prop :=
  ∃ (k : Nat) (m : Int), p = .int .i64 k ∧ v = .int .i64 m ∧ k ≤ n ∧ -1 ≤ m ∧ m ≤ 6000 ∧ (0 ≤ m → ∀ i (h : i < zs.length), i < k → (zs[i]).what.size ≤ 6000) ∧ Below w.heap.size w wr ∧ w.heap.size ≤ wr.heap.size
theorem roomL_le (m s : Int) (h : 0 ≤ roomL m [s]) (hm : m ≤ 6000) : s ≤ 6000 ∧ 0 ≤ m := by
  simp only [roomL] at h
  split at h
  · omega
  · omega
set_option maxRecDepth 20000 in
set_option maxHeartbeats 800000 in
theorem light_tells (a : Option Addr) (c n : Nat) (ds : List DI) (hn : ds.length = n) (hm : n ≤ 9223372036854775807) (w : World) (h : IsDIs w a ds) :
    Calls Tryd.prog 5 #[.slice a n c] w fun e w' => LightR ds n e ∧ Below w.heap.size w w' := by
  have H := Lib.hid h
  have HN := Lib.hid hn
  clear h hn
  go_enter Tryd.func5, Tryd.ntmps5
  go_wp2
  go_loopw [3, 4] (fun v p wr => LtR w n ds v p wr) (fun v p wr => n - (intOf p).toNat)
  case atStart => exact ⟨0, 6000, rfl, rfl, Nat.zero_le _, by omega, by omega, fun _ i h hi => absurd hi (Nat.not_lt_zero _), Below.refl _ _, Nat.le_refl _⟩
  case round =>
    obtain ⟨k, m, rfl, rfl, hk, hm1, hm2, hall, hB, hsz⟩ := hrel
    have HA := Lib.hid hall
    clear hall
    by_cases hlt : k < n
    · by_cases h200 : k < 200
      · by_cases hm0 : 0 ≤ m
        · have hkl : k < ds.length := by have := HN.out; omega
          obtain ⟨x, z0, z1, z2, rfl, hzk, hok, hc⟩ := isDI_at H.out (k := k) hkl
          obtain ⟨p0, p1, p2⟩ := hc wr hB
          have hw := hok.2.2
          simp only at hw
          have KR := Lib.hid fun W hR => room_any m (some ⟨wr.heap.size, 0, none⟩) 1 [(z2.size : Int)] (by simp) (by omega) (by omega) (by intro s hs; simp at hs; omega) W hR
          have hrb := roomL_one m (z2.size : Int) hm1 hm2 (by omega)
          have hrl := fun h => roomL_le m (z2.size : Int) h hm2
          obtain ⟨r, hr⟩ : ∃ r, roomL m [(z2.size : Int)] = r := ⟨_, rfl⟩
          rw [hr] at hrb KR hrl
          have HRL := Lib.hid hrl
          have HZK := Lib.hid hzk
          clear hc hr hzk hok p0 p1 hrl
          go_wp2_with fail
          refine (KR.out _ (rdI_one _ _ _)).mono ?_
          rintro e w' ⟨rfl, rfl⟩
          go_wp2_with fail
          go_roundw
          case rel =>
            refine ⟨k + 1, r, by go_num, rfl, by omega, hrb.1, hrb.2, fun hr0 i hi hik => ?_, hB.alloc hsz _, by simp; omega⟩
            obtain ⟨h1, h2⟩ := HRL.out hr0
            by_cases e : i = k
            · subst e
              rw [HZK.out]
              show z2.size ≤ 6000
              omega
            · exact HA.out h2 i hi (by omega)
          case measure => simp [intOf]; omega
        · have hmz : ¬ m ≥ 0 := by omega
          have h130 : ¬ (n : Int) ≤ 130 ∨ ¬ m ≥ 0 := .inr hmz
          have hkn : (k : Int) < (n : Int) := by omega
          by_cases hn1 : n ≤ 130
          · go_wp2_with fail
            go_ret
            exact ⟨lightR_no _ _, hB⟩
          · go_wp2_with fail
            go_ret
            exact ⟨lightR_no _ _, hB⟩
      · have hn1 : ¬ (n : Int) ≤ 130 := by omega
        by_cases hm0 : 0 ≤ m
        · go_wp2_with fail
          go_ret
          exact ⟨lightR_no _ _, hB⟩
        · go_wp2_with fail
          go_ret
          exact ⟨lightR_no _ _, hB⟩
    · obtain rfl : k = n := by omega
      by_cases hn1 : k ≤ 130
      · by_cases hm0 : 0 ≤ m
        · have hn2 : (k : Int) ≤ 130 := by omega
          have hm2 : m ≥ 0 := hm0
          go_wp2_with fail
          go_ret
          exact ⟨⟨true, rfl, fun _ => ⟨hn1, fun i hi => HA.out hm0 i hi (by have := HN.out; omega)⟩⟩, hB⟩
        · have hmz : ¬ m ≥ 0 := by omega
          go_wp2_with fail
          go_ret
          exact ⟨lightR_no _ _, hB⟩
      · have hn2 : ¬ (k : Int) ≤ 130 := by omega
        by_cases hm0 : 0 ≤ m
        · go_wp2_with fail
          go_ret
          exact ⟨lightR_no _ _, hB⟩
        · go_wp2_with fail
          go_ret
          exact ⟨lightR_no _ _, hB⟩
/-- A reason that came in, as a reason. -/
def toDi (z : DI) : Di := ⟨z.code, z.at_, z.what.data.toList⟩
set_option maxRecDepth 20000 in
set_option maxHeartbeats 800000 in
theorem sameD_in (a b : Option Addr) (ca cb n : Nat) (zs : List DI) (hn : zs.length = n) (h0 : n ≤ 1000000) (w : World) (ha : RdD w a (zs.map toDi)) (hb : IsDIs w b zs) :
    Calls Tryd.prog 11 #[.slice a n ca, .slice b n cb] w fun e w' => e = .returned (.bool true) ∧ Below w.heap.size w w' := by
  have HA := Lib.hid ha
  have HB := Lib.hid hb
  have HN := Lib.hid hn
  clear ha hb hn
  go_enter Tryd.func11, Tryd.ntmps11
  go_wp2
  go_loopw [5] (fun p wr => ∃ k : Nat, p = .int .i64 k ∧ k ≤ n ∧ Below w.heap.size w wr) (fun p wr => n - (intOf p).toNat)
  case atStart => exact ⟨0, rfl, Nat.zero_le _, Below.refl _ _⟩
  case round =>
    obtain ⟨k, rfl, hk, hB⟩ := hrel
    by_cases hlt : k < n
    · have hkl : k < zs.length := by have := HN.out; omega
      obtain ⟨ga, rfl, ha1, ha2⟩ := (HA.out.below hB) k (by rw [List.length_map]; exact hkl)
      obtain ⟨x, z0, z1, z2, rfl, hzk, hok, hc⟩ := isDI_at HB.out hkl
      obtain ⟨q0, q1, q2⟩ := hc wr hB
      have hd : (zs.map toDi).getD k zeroDi = ⟨z0, z1, z2.data.toList⟩ := by
        simp [List.getD, List.getElem?_eq_getElem hkl, hzk, toDi]
      have p0 := ha2 0 (by omega)
      have p1 := ha2 1 (by omega)
      have p2 := ha2 2 (by omega)
      rw [hd] at p0 p1 p2
      have hn := run_eql_yes z0 z1 z2
      have e2 : (⟨z2.data.toList.toArray⟩ : ByteArray) = z2 := by simp
      simp only [diCells, List.getElem?_cons_succ, List.getElem?_cons_zero, Nat.add_zero, e2] at p0 p1 p2
      clear ha2 hc hd hzk hok
      go_wp2_with fail
      go_quiet (fail)
      go_wp2_with fail
      go_roundw
      case rel => exact ⟨k + 1, by go_num, by omega, below_drewN hB _⟩
      case measure => simp [intOf]; omega
    · obtain rfl : k = n := by omega
      go_wp2_with fail
      go_ret
      exact ⟨rfl, hB⟩
end Go.Proofs.YtgdnibdahldekabDoor
