/- Plain laws on characters: what is put is told as it was. -/
import Derived.Test.YtgdnibdahldekabUtB
namespace Go.Proofs.Ytgdnibdahldekab
open Go.RowKit
set_option linter.unusedVariables false

theorem toNat_of {n : Nat} (h : n < 256) : (UInt8.ofNat n).toNat = n := by simp; omega
theorem widthR_nat {r : Nat} (h : widthR (r : Int) ≠ 0) : widthR (r : Int) = if r < 128 then 1 else if r < 2048 then 2 else if r < 65536 then 3 else 4 := by
  unfold widthR at h ⊢
  split
  · rename_i h'; rw [if_pos h'] at h; exact absurd rfl h
  · split <;> split <;> (try split) <;> (try split) <;> (try split) <;> (try split) <;> first | rfl | omega
theorem widthR_lt {r : Nat} (h : widthR (r : Int) ≠ 0) : r < 1114112 := by
  apply Decidable.byContradiction
  intro hn
  exact h (widthR_zero (by omega))
theorem nextL_putR (r : Nat) (h : widthR (r : Int) ≠ 0) (t : List UInt8) : nextL (putR r ++ t) = some (r, (putR r).length) := by
  have hl := widthR_lt h
  have hw := widthR_nat h
  by_cases a : r < 128
  · rw [if_pos a] at hw
    have hp : putR r = [UInt8.ofNat r] := if_pos a
    rw [hp, List.singleton_append, nextL_some (n := 1) (r := r) (q := r) (by rw [toNat_of (by omega)]; exact leadN_1 a) (by omega) (by omega) rfl, if_pos (by rw [hw]; rfl)]
    rfl
  rw [if_neg a] at hw
  by_cases b : r < 2048
  · rw [if_pos b] at hw
    have hp : putR r = [UInt8.ofNat (192 + r / 64), UInt8.ofNat (128 + r % 64)] := by rw [putR, if_neg a, if_pos b]
    rw [hp]
    show nextL (UInt8.ofNat (192 + r / 64) :: (UInt8.ofNat (128 + r % 64) :: t)) = _
    rw [nextL_some (n := 2) (r := (192 + r / 64) % 32) (q := r) (by rw [toNat_of (by omega)]; exact leadN_2 (by omega) (by omega)) (by omega) (by simp) (by
      show contsGo [UInt8.ofNat (128 + r % 64)] ((192 + r / 64) % 32) = some r
      rw [contsGo_more (by rw [toNat_of (by omega)]; omega), toNat_of (by omega)]
      show some _ = some r
      congr 1; omega), if_pos (by rw [hw]; rfl)]
    rfl
  rw [if_neg b] at hw
  by_cases c : r < 65536
  · rw [if_pos c] at hw
    have hp : putR r = [UInt8.ofNat (224 + r / 4096), UInt8.ofNat (128 + r / 64 % 64), UInt8.ofNat (128 + r % 64)] := by rw [putR, if_neg a, if_neg b, if_pos c]
    rw [hp]
    show nextL (UInt8.ofNat (224 + r / 4096) :: (UInt8.ofNat (128 + r / 64 % 64) :: UInt8.ofNat (128 + r % 64) :: t)) = _
    rw [nextL_some (n := 3) (r := (224 + r / 4096) % 16) (q := r) (by rw [toNat_of (by omega)]; exact leadN_3 (by omega) (by omega) (by omega)) (by omega) (by simp) (by
      show contsGo [UInt8.ofNat (128 + r / 64 % 64), UInt8.ofNat (128 + r % 64)] ((224 + r / 4096) % 16) = some r
      rw [contsGo_more (by rw [toNat_of (by omega)]; omega), toNat_of (by omega), contsGo_more (by rw [toNat_of (by omega)]; omega), toNat_of (by omega)]
      show some _ = some r
      congr 1; omega), if_pos (by rw [hw]; rfl)]
    rfl
  · rw [if_neg c] at hw
    have hp : putR r = [UInt8.ofNat (240 + r / 262144), UInt8.ofNat (128 + r / 4096 % 64), UInt8.ofNat (128 + r / 64 % 64), UInt8.ofNat (128 + r % 64)] := by rw [putR, if_neg a, if_neg b, if_neg c]
    rw [hp]
    show nextL (UInt8.ofNat (240 + r / 262144) :: (UInt8.ofNat (128 + r / 4096 % 64) :: UInt8.ofNat (128 + r / 64 % 64) :: UInt8.ofNat (128 + r % 64) :: t)) = _
    rw [nextL_some (n := 4) (r := (240 + r / 262144) % 8) (q := r) (by rw [toNat_of (by omega)]; exact leadN_4 (by omega) (by omega) (by omega) (by omega)) (by omega) (by simp) (by
      show contsGo [UInt8.ofNat (128 + r / 4096 % 64), UInt8.ofNat (128 + r / 64 % 64), UInt8.ofNat (128 + r % 64)] ((240 + r / 262144) % 8) = some r
      rw [contsGo_more (by rw [toNat_of (by omega)]; omega), toNat_of (by omega), contsGo_more (by rw [toNat_of (by omega)]; omega), toNat_of (by omega), contsGo_more (by rw [toNat_of (by omega)]; omega), toNat_of (by omega)]
      show some _ = some r
      congr 1; omega), if_pos (by rw [hw]; rfl)]
    rfl
theorem putR_len (r : Nat) : 1 ≤ (putR r).length ∧ (putR r).length ≤ 4 := by
  unfold putR
  split
  · simp
  · split
    · simp
    · split <;> simp
/-- Characters put one behind the other. -/
theorem runesL_put : ∀ (rs : List Nat), (∀ r ∈ rs, widthR (r : Int) ≠ 0) → runesL (rs.flatMap putR) = rs.map fun r => (r, (putR r).length)
  | [], _ => by rw [List.flatMap_nil, runesL_none (l := []) rfl]; rfl
  | r :: rs, h => by
    rw [List.flatMap_cons, runesL_some (nextL_putR r (h r (by simp)) _), List.drop_left, runesL_put rs (fun q hq => h q (by simp [hq]))]
    rfl
theorem checkL_put (rs : List Nat) (h : ∀ r ∈ rs, widthR (r : Int) ≠ 0) : checkL (rs.flatMap putR) = (rs.flatMap putR).length := by
  rw [checkL, runesL_put rs h, List.length_flatMap, List.map_map]
  rfl
theorem runesAt_snd : ∀ (t : List (Nat × Nat)) (k : Nat), (runesAt k t).map (·.2) = t.map (·.1)
  | [], _ => rfl
  | (r, n) :: t, k => by simp [runesAt, runesAt_snd t]
theorem allRunes_put (rs : List Nat) (h : ∀ r ∈ rs, widthR (r : Int) ≠ 0) : (allRunes (rs.flatMap putR)).map (·.2) = rs := by
  rw [allRunes, runesAt_snd, runesL_put rs h, List.map_map]
  exact List.map_id _
theorem put_len : ∀ (rs : List Nat), (rs.flatMap putR).length ≤ 4 * rs.length
  | [] => by simp
  | r :: rs => by
    have h1 := putR_len r
    have h2 := put_len rs
    rw [List.flatMap_cons, List.length_append, List.length_cons]; omega
end Go.Proofs.Ytgdnibdahldekab
