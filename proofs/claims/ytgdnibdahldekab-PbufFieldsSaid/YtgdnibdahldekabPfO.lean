/- The walk of pbuf.one. -/
import Derived.Test.YtgdnibdahldekabProg
import Derived.Test.YtgdnibdahldekabPfW
import Derived.Test.YtgdnibdahldekabShelf
import Derived.Test.YtgdnibdahldekabPfA
import Derived.Test.YtgdnibdahldekabMem
import Derived.WalkKit
import Derived.ProofKit
import Derived.LoopTactic
import Derived.WalkSpells
import Derived.WalkLawsBesides
import Derived.Lib.Hide
import Derived.Outline
import Derived.Handy
namespace Go.Proofs.Ytgdnibdahldekab
open Go.RowKit
set_option linter.unusedVariables false

theorem clone_any (s : ByteArray) (w : World) (hlim : s.size ≤ 281474976710656) :
    Calls Try.prog 62 #[.string s] w fun e w' => e = .returned (.string s) ∧ Below w.heap.size w w' := by
  go_enter Try.func62, Try.ntmps62
  go_wp2_with fail
  refine (Try.stringslite_Clone s _ hlim).mono ?_
  rintro e w1 ⟨rfl, hB⟩
  go_wp2
  go_ret
  exact ⟨rfl, hB⟩
theorem and7 (v : Nat) (h : v < 18446744073709551616) : bits .and .u64 (v : Int) 7 = (v : Int) % 8 := by
  rw [show (7 : Int) = ((7 : Nat) : Int) from rfl, u64_and_nat v 7 h (by decide)]
  rw [show (7 : Nat) = 2 ^ 3 - 1 from rfl, Nat.and_two_pow_sub_one_eq_mod]
  omega
theorem bcell {W w1 : World} (hb : Below W.heap.size W w1) : (∀ b o, b < W.heap.size → w1.cell? ⟨b, o, none⟩ = W.cell? ⟨b, o, none⟩) ∧ (∀ b o, b < W.heap.size → w1.frozen? ⟨b, o, none⟩ = W.frozen? ⟨b, o, none⟩) :=
  ⟨fun b o h => hb.cell (p := ⟨b, o, none⟩) h, fun b o h => hb.frozen (p := ⟨b, o, none⟩) h⟩
theorem aggF : AggT Try.prog 39 5 := ⟨_, Try.underlying39, rfl, by kernel_rfl⟩
/-- What a failing call answers. -/
def OneNo (B : Nat) (w : World) (e : Ending) (w' : World) : Prop := (∃ (c0 c1 c2 c3 : Int) (c4 : ByteArray) (k : Int), e = .returned (.tuple #[.agg #[.int .i64 c0, .int .i64 c1, .int .i64 c2, .int .u64 c3, .string c4], .int .i64 k, .bool false])) ∧ Below B w w'

set_option maxRecDepth 100000 in
set_option maxHeartbeats 1000000 in
theorem one_g (s : ByteArray) (hs : s.size ≤ 9223372036854775807) (h : gvar s.data.toList = none) (w : World) :
    Calls Try.prog 60 #[.string s] w (OneNo w.heap.size w) := by
  have G := Lib.hid h
  clear h
  go_enter Try.func60, Try.ntmps60
  go_wp2_with fail
  refine (getVarint_none s hs G.out _).mono ?_
  rintro e w' ⟨rfl, rfl⟩
  go_wp2
  refine bodyPost_ret (v := .tuple #[.agg #[.int .i64 0, .int .i64 0, .int .i64 0, .int .u64 0, .string ⟨#[]⟩], .int .i64 0, .bool false]) (by simp [results, Try.results60, go_sem]) rfl ⟨⟨_, _, _, _, _, _, rfl⟩, ?_⟩
  go_grown
set_option maxRecDepth 100000 in
set_option maxHeartbeats 1000000 in
theorem one_bad (s : ByteArray) (tag n : Nat) (hs : s.size ≤ 9223372036854775807) (h : gvar s.data.toList = some (tag, n)) (h1 : tag / 8 < 1 ∨ 536870911 < tag / 8) (w : World) :
    Calls Try.prog 60 #[.string s] w (OneNo w.heap.size w) := by
  have G := Lib.hid h
  have ht := gvar_val h
  clear h
  by_cases h2 : tag / 8 < 1
  all_goals
    go_enter Try.func60, Try.ntmps60
    go_wp2_with fail
    refine (getVarint_some s tag n hs G.out _).mono ?_
    rintro e w' ⟨rfl, rfl⟩
    go_wp2
    refine bodyPost_ret (v := .tuple #[.agg #[.int .i64 0, .int .i64 0, .int .i64 0, .int .u64 0, .string ⟨#[]⟩], .int .i64 0, .bool false]) (by simp [results, Try.results60, go_sem]) rfl ⟨⟨_, _, _, _, _, _, rfl⟩, ?_⟩
    go_grown
set_option maxRecDepth 100000 in
set_option maxHeartbeats 1000000 in
theorem one_k0n (s : ByteArray) (tag n q : Nat) (hs : s.size ≤ 9223372036854775807) (h : gvar s.data.toList = some (tag, n)) (hq : tag / 8 = q) (h1 : ¬ (q < 1 ∨ 536870911 < q)) (h2 : tag % 8 = 0) (h3 : gvar (s.data.toList.drop n) = none) (w : World) :
    Calls Try.prog 60 #[.string s] w (OneNo w.heap.size w) := by
  have ht := gvar_val h
  have hb := (gvar_bd h).2
  simp at hb
  have G := Lib.hid h
  have ea := and7 tag ht
  have e8 : (tag : Int) % 8 = 0 := by omega
  rw [e8] at ea
  have hq' : (tag : Int) / 8 = (q : Int) := by omega
  clear h h2 e8 hq
  have hc : gvar (s.extract n s.size).data.toList = none := by rw [extract_list, List.take_of_length_le (by simp)]; exact h3
  have HC := Lib.hid hc
  clear hc h3
  go_enter Try.func60, Try.ntmps60
  go_wp2_with fail
  refine (getVarint_some s tag n hs G.out _).mono ?_
  rintro e w' ⟨rfl, rfl⟩
  go_wp2_with fail
  refine (getVarint_none _ (by simp; omega) HC.out _).mono ?_
  rintro e w' ⟨rfl, rfl⟩
  go_wp2
  refine bodyPost_ret (v := .tuple #[.agg #[.int .i64 q, .int .i64 0, .int .i64 0, .int .u64 0, .string ⟨#[]⟩], .int .i64 n, .bool false]) (by simp [results, Try.results60, go_sem]) rfl ⟨⟨_, _, _, _, _, _, rfl⟩, ?_⟩
  go_grown
set_option maxRecDepth 100000 in
set_option maxHeartbeats 1000000 in
theorem one_k0s (s : ByteArray) (tag n q : Nat) (hs : s.size ≤ 9223372036854775807) (h : gvar s.data.toList = some (tag, n)) (hq : tag / 8 = q) (h1 : ¬ (q < 1 ∨ 536870911 < q)) (h2 : tag % 8 = 0) (v m : Nat) (h3 : gvar (s.data.toList.drop n) = some (v, m)) (w : World) :
    Calls Try.prog 60 #[.string s] w fun e w' => e = .returned (.tuple #[fldV ⟨q, 0, 0, v, []⟩, .int .i64 (n + m : Nat), .bool true]) ∧ Below w.heap.size w w' := by
  have ht := gvar_val h
  have hb := (gvar_bd h).2
  simp at hb
  have G := Lib.hid h
  have ea := and7 tag ht
  have e8 : (tag : Int) % 8 = 0 := by omega
  rw [e8] at ea
  have hq' : (tag : Int) / 8 = (q : Int) := by omega
  clear h h2 e8 hq
  have b3 := (gvar_bd h3).2
  simp at b3
  have hc : gvar (s.extract n s.size).data.toList = some (v, m) := by rw [extract_list, List.take_of_length_le (by simp)]; exact h3
  have HC := Lib.hid hc
  clear hc h3
  go_enter Try.func60, Try.ntmps60
  go_wp2_with fail
  refine (getVarint_some s tag n hs G.out _).mono ?_
  rintro e w' ⟨rfl, rfl⟩
  go_wp2_with fail
  refine (getVarint_some _ v m (by simp; omega) HC.out _).mono ?_
  rintro e w' ⟨rfl, rfl⟩
  go_wp2
  refine bodyPost_ret (v := .tuple #[.agg #[.int .i64 q, .int .i64 0, .int .i64 0, .int .u64 v, .string ⟨#[]⟩], .int .i64 (n + m : Nat), .bool true]) (by simp [results, Try.results60, go_sem]) rfl ⟨rfl, ?_⟩
  go_grown
set_option maxRecDepth 100000 in
set_option maxHeartbeats 1000000 in
theorem one_k1n (s : ByteArray) (tag n q : Nat) (hs : s.size ≤ 9223372036854775807) (h : gvar s.data.toList = some (tag, n)) (hq : tag / 8 = q) (h1 : ¬ (q < 1 ∨ 536870911 < q)) (h2 : tag % 8 = 1) (h3 : s.size < n + 8) (w : World) :
    Calls Try.prog 60 #[.string s] w (OneNo w.heap.size w) := by
  have ht := gvar_val h
  have hb := (gvar_bd h).2
  simp at hb
  have G := Lib.hid h
  have ea := and7 tag ht
  have e8 : (tag : Int) % 8 = 1 := by omega
  rw [e8] at ea
  have hq' : (tag : Int) / 8 = (q : Int) := by omega
  clear h h2 e8 hq
  go_enter Try.func60, Try.ntmps60
  go_wp2_with fail
  refine (getVarint_some s tag n hs G.out _).mono ?_
  rintro e w' ⟨rfl, rfl⟩
  go_wp2_with fail
  refine (fixed_no _ _ _ _ _ s n 8 hs hb h3 (by omega) _).mono ?_
  rintro e w1 ⟨rfl, hB⟩
  have hz : w.heap.size + 2 ≤ w1.heap.size := by have := hB.size; simp at this; omega
  obtain ⟨hcc, hff⟩ := bcell hB
  go_wp2
  have hb0 : BlkAt w1 w.heap.size 39 #[.int .i64 0, .int .i64 0, .int .i64 0, .int .u64 0, .string ⟨#[]⟩] := ((BlkAt.new w _ _).alloc _).below hB (by simp; omega)
  have hb1 := (((((hb0.set 0 (.int .i64 0)).set 1 (.int .i64 0)).set 2 (.int .i64 0)).set 3 (.int .u64 0)).set 4 (.string ⟨#[]⟩))
  refine bodyPost_ret (results_ctt rfl rfl aggF (by rfl) hb1) rfl ⟨⟨_, _, _, _, _, _, rfl⟩, ?_⟩
  have hB0 : Below w.heap.size w w1 := (((Below.refl _ w).alloc (Nat.le_refl _) _).alloc (by simp) _).trans (hB.mono (by simp; omega))
  go_grown
set_option maxRecDepth 100000 in
set_option maxHeartbeats 1000000 in
theorem one_k1s (s : ByteArray) (tag n q : Nat) (hs : s.size ≤ 9223372036854775807) (h : gvar s.data.toList = some (tag, n)) (hq : tag / 8 = q) (h1 : ¬ (q < 1 ∨ 536870911 < q)) (h2 : tag % 8 = 1) (h3 : n + 8 ≤ s.size) (w : World) :
    Calls Try.prog 60 #[.string s] w fun e w' => e = .returned (.tuple #[fldV ⟨q, 1, 0, leN ((s.data.toList.drop n).take 8), []⟩, .int .i64 (n + 8 : Nat), .bool true]) ∧ Below w.heap.size w w' := by
  have ht := gvar_val h
  have hb := (gvar_bd h).2
  simp at hb
  have G := Lib.hid h
  have ea := and7 tag ht
  have e8 : (tag : Int) % 8 = 1 := by omega
  rw [e8] at ea
  have hq' : (tag : Int) / 8 = (q : Int) := by omega
  clear h h2 e8 hq
  obtain ⟨x, hx⟩ : ∃ x, leN ((s.data.toList.drop n).take 8) = x := ⟨_, rfl⟩
  have FX := fun w => fixed_yes (q : Int) 1 0 0 ⟨#[]⟩ s n 8 hs h3 (by omega) w
  rw [hx] at FX
  rw [hx]
  have HF := Lib.hid FX
  clear FX hx
  go_enter Try.func60, Try.ntmps60
  go_wp2_with fail
  refine (getVarint_some s tag n hs G.out _).mono ?_
  rintro e w' ⟨rfl, rfl⟩
  go_wp2_with fail
  refine (HF.out _).mono ?_
  rintro e w1 ⟨rfl, hB⟩
  have hz : w.heap.size + 2 ≤ w1.heap.size := by have := hB.size; simp at this; omega
  obtain ⟨hcc, hff⟩ := bcell hB
  go_wp2
  have hb0 : BlkAt w1 w.heap.size 39 #[.int .i64 0, .int .i64 0, .int .i64 0, .int .u64 0, .string ⟨#[]⟩] := ((BlkAt.new w _ _).alloc _).below hB (by simp; omega)
  have hb1 := (((((hb0.set 0 (.int .i64 q)).set 1 (.int .i64 1)).set 2 (.int .i64 0)).set 3 (.int .u64 x)).set 4 (.string ⟨#[]⟩))
  refine bodyPost_ret (results_ctt rfl rfl aggF (by rfl) hb1) rfl ⟨rfl, ?_⟩
  have hB0 : Below w.heap.size w w1 := (((Below.refl _ w).alloc (Nat.le_refl _) _).alloc (by simp) _).trans (hB.mono (by simp; omega))
  go_grown
set_option maxRecDepth 100000 in
set_option maxHeartbeats 1000000 in
theorem one_k5n (s : ByteArray) (tag n q : Nat) (hs : s.size ≤ 9223372036854775807) (h : gvar s.data.toList = some (tag, n)) (hq : tag / 8 = q) (h1 : ¬ (q < 1 ∨ 536870911 < q)) (h2 : tag % 8 = 5) (h3 : s.size < n + 4) (w : World) :
    Calls Try.prog 60 #[.string s] w (OneNo w.heap.size w) := by
  have ht := gvar_val h
  have hb := (gvar_bd h).2
  simp at hb
  have G := Lib.hid h
  have ea := and7 tag ht
  have e8 : (tag : Int) % 8 = 5 := by omega
  rw [e8] at ea
  have hq' : (tag : Int) / 8 = (q : Int) := by omega
  clear h h2 e8 hq
  go_enter Try.func60, Try.ntmps60
  go_wp2_with fail
  refine (getVarint_some s tag n hs G.out _).mono ?_
  rintro e w' ⟨rfl, rfl⟩
  go_wp2_with fail
  refine (fixed_no _ _ _ _ _ s n 4 hs hb h3 (by omega) _).mono ?_
  rintro e w1 ⟨rfl, hB⟩
  have hz : w.heap.size + 2 ≤ w1.heap.size := by have := hB.size; simp at this; omega
  obtain ⟨hcc, hff⟩ := bcell hB
  go_wp2
  have hb0 : BlkAt w1 w.heap.size 39 #[.int .i64 0, .int .i64 0, .int .i64 0, .int .u64 0, .string ⟨#[]⟩] := ((BlkAt.new w _ _).alloc _).below hB (by simp; omega)
  have hb1 := (((((hb0.set 0 (.int .i64 0)).set 1 (.int .i64 0)).set 2 (.int .i64 0)).set 3 (.int .u64 0)).set 4 (.string ⟨#[]⟩))
  refine bodyPost_ret (results_ctt rfl rfl aggF (by rfl) hb1) rfl ⟨⟨_, _, _, _, _, _, rfl⟩, ?_⟩
  have hB0 : Below w.heap.size w w1 := (((Below.refl _ w).alloc (Nat.le_refl _) _).alloc (by simp) _).trans (hB.mono (by simp; omega))
  go_grown
set_option maxRecDepth 100000 in
set_option maxHeartbeats 1000000 in
theorem one_k5s (s : ByteArray) (tag n q : Nat) (hs : s.size ≤ 9223372036854775807) (h : gvar s.data.toList = some (tag, n)) (hq : tag / 8 = q) (h1 : ¬ (q < 1 ∨ 536870911 < q)) (h2 : tag % 8 = 5) (h3 : n + 4 ≤ s.size) (w : World) :
    Calls Try.prog 60 #[.string s] w fun e w' => e = .returned (.tuple #[fldV ⟨q, 5, 0, leN ((s.data.toList.drop n).take 4), []⟩, .int .i64 (n + 4 : Nat), .bool true]) ∧ Below w.heap.size w w' := by
  have ht := gvar_val h
  have hb := (gvar_bd h).2
  simp at hb
  have G := Lib.hid h
  have ea := and7 tag ht
  have e8 : (tag : Int) % 8 = 5 := by omega
  rw [e8] at ea
  have hq' : (tag : Int) / 8 = (q : Int) := by omega
  clear h h2 e8 hq
  obtain ⟨x, hx⟩ : ∃ x, leN ((s.data.toList.drop n).take 4) = x := ⟨_, rfl⟩
  have FX := fun w => fixed_yes (q : Int) 5 0 0 ⟨#[]⟩ s n 4 hs h3 (by omega) w
  rw [hx] at FX
  rw [hx]
  have HF := Lib.hid FX
  clear FX hx
  go_enter Try.func60, Try.ntmps60
  go_wp2_with fail
  refine (getVarint_some s tag n hs G.out _).mono ?_
  rintro e w' ⟨rfl, rfl⟩
  go_wp2_with fail
  refine (HF.out _).mono ?_
  rintro e w1 ⟨rfl, hB⟩
  have hz : w.heap.size + 2 ≤ w1.heap.size := by have := hB.size; simp at this; omega
  obtain ⟨hcc, hff⟩ := bcell hB
  go_wp2
  have hb0 : BlkAt w1 w.heap.size 39 #[.int .i64 0, .int .i64 0, .int .i64 0, .int .u64 0, .string ⟨#[]⟩] := ((BlkAt.new w _ _).alloc _).below hB (by simp; omega)
  have hb1 := (((((hb0.set 0 (.int .i64 q)).set 1 (.int .i64 5)).set 2 (.int .i64 0)).set 3 (.int .u64 x)).set 4 (.string ⟨#[]⟩))
  refine bodyPost_ret (results_ctt rfl rfl aggF (by rfl) hb1) rfl ⟨rfl, ?_⟩
  have hB0 : Below w.heap.size w w1 := (((Below.refl _ w).alloc (Nat.le_refl _) _).alloc (by simp) _).trans (hB.mono (by simp; omega))
  go_grown
set_option maxRecDepth 100000 in
set_option maxHeartbeats 1000000 in
theorem one_k2g (s : ByteArray) (tag n q : Nat) (hs : s.size ≤ 9223372036854775807) (h : gvar s.data.toList = some (tag, n)) (hq : tag / 8 = q) (h1 : ¬ (q < 1 ∨ 536870911 < q)) (h2 : tag % 8 = 2) (h3 : gvar (s.data.toList.drop n) = none) (w : World) :
    Calls Try.prog 60 #[.string s] w (OneNo w.heap.size w) := by
  have ht := gvar_val h
  have hb := (gvar_bd h).2
  simp at hb
  have G := Lib.hid h
  have ea := and7 tag ht
  have e8 : (tag : Int) % 8 = 2 := by omega
  rw [e8] at ea
  have hq' : (tag : Int) / 8 = (q : Int) := by omega
  clear h h2 e8 hq
  have hc : gvar (s.extract n s.size).data.toList = none := by rw [extract_list, List.take_of_length_le (by simp)]; exact h3
  have HC := Lib.hid hc
  clear hc h3
  go_enter Try.func60, Try.ntmps60
  go_wp2_with fail
  refine (getVarint_some s tag n hs G.out _).mono ?_
  rintro e w' ⟨rfl, rfl⟩
  go_wp2_with fail
  refine (getVarint_none _ (by simp; omega) HC.out _).mono ?_
  rintro e w' ⟨rfl, rfl⟩
  go_wp2
  refine bodyPost_ret (v := .tuple #[.agg #[.int .i64 0, .int .i64 0, .int .i64 0, .int .u64 0, .string ⟨#[]⟩], .int .i64 0, .bool false]) (by simp [results, Try.results60, go_sem]) rfl ⟨⟨_, _, _, _, _, _, rfl⟩, ?_⟩
  go_grown
set_option maxRecDepth 100000 in
set_option maxHeartbeats 1000000 in
theorem one_k2n (s : ByteArray) (tag n q : Nat) (hs : s.size ≤ 9223372036854775807) (h : gvar s.data.toList = some (tag, n)) (hq : tag / 8 = q) (h1 : ¬ (q < 1 ∨ 536870911 < q)) (h2 : tag % 8 = 2) (v m : Nat) (h3 : gvar (s.data.toList.drop n) = some (v, m)) (h4 : s.size - (n + m) < v) (w : World) :
    Calls Try.prog 60 #[.string s] w (OneNo w.heap.size w) := by
  have ht := gvar_val h
  have hb := (gvar_bd h).2
  simp at hb
  have G := Lib.hid h
  have ea := and7 tag ht
  have e8 : (tag : Int) % 8 = 2 := by omega
  rw [e8] at ea
  have hq' : (tag : Int) / 8 = (q : Int) := by omega
  clear h h2 e8 hq
  have b3 := (gvar_bd h3).2
  have bv := gvar_val h3
  simp at b3
  have hc : gvar (s.extract n s.size).data.toList = some (v, m) := by rw [extract_list, List.take_of_length_le (by simp)]; exact h3
  have HC := Lib.hid hc
  clear hc h3
  go_enter Try.func60, Try.ntmps60
  go_wp2_with fail
  refine (getVarint_some s tag n hs G.out _).mono ?_
  rintro e w' ⟨rfl, rfl⟩
  go_wp2_with fail
  refine (getVarint_some _ v m (by simp; omega) HC.out _).mono ?_
  rintro e w' ⟨rfl, rfl⟩
  go_wp2
  refine bodyPost_ret (v := .tuple #[.agg #[.int .i64 0, .int .i64 0, .int .i64 0, .int .u64 0, .string ⟨#[]⟩], .int .i64 0, .bool false]) (by simp [results, Try.results60, go_sem]) rfl ⟨⟨_, _, _, _, _, _, rfl⟩, ?_⟩
  go_grown
set_option maxRecDepth 100000 in
set_option maxHeartbeats 1000000 in
theorem one_k2s (s : ByteArray) (tag n q : Nat) (hs : s.size ≤ 9223372036854775807) (h : gvar s.data.toList = some (tag, n)) (hq : tag / 8 = q) (h1 : ¬ (q < 1 ∨ 536870911 < q)) (h2 : tag % 8 = 2) (v m : Nat) (hs2 : s.size ≤ 281474976710656) (h3 : gvar (s.data.toList.drop n) = some (v, m)) (h4 : v ≤ s.size - (n + m)) (w : World) :
    Calls Try.prog 60 #[.string s] w fun e w' => e = .returned (.tuple #[fldV ⟨q, 2, 0, 0, (s.data.toList.drop (n + m)).take v⟩, .int .i64 (n + m + v : Nat), .bool true]) ∧ Below w.heap.size w w' := by
  have ht := gvar_val h
  have hb := (gvar_bd h).2
  simp at hb
  have G := Lib.hid h
  have ea := and7 tag ht
  have e8 : (tag : Int) % 8 = 2 := by omega
  rw [e8] at ea
  have hq' : (tag : Int) / 8 = (q : Int) := by omega
  clear h h2 e8 hq
  have b3 := (gvar_bd h3).2
  simp at b3
  have hx : (s.extract (n + m) (n + m + v)) = ⟨((s.data.toList.drop (n + m)).take v).toArray⟩ := by
    apply ByteArray.ext
    apply Array.toList_inj.1
    rw [extract_list, Nat.add_sub_cancel_left]
  obtain ⟨L, hL⟩ : ∃ L, (s.data.toList.drop (n + m)).take v = L := ⟨_, rfl⟩
  rw [hL] at hx
  rw [hL]
  have HX := Lib.hid hx
  clear hx hL
  have hc : gvar (s.extract n s.size).data.toList = some (v, m) := by rw [extract_list, List.take_of_length_le (by simp)]; exact h3
  have HC := Lib.hid hc
  clear hc h3
  go_enter Try.func60, Try.ntmps60
  go_wp2_with fail
  refine (getVarint_some s tag n hs G.out _).mono ?_
  rintro e w' ⟨rfl, rfl⟩
  go_wp2_with fail
  refine (getVarint_some _ v m (by simp; omega) HC.out _).mono ?_
  rintro e w' ⟨rfl, rfl⟩
  go_wp2_with fail
  refine (clone_any _ _ (by simp; omega)).mono ?_
  rintro e w1 ⟨rfl, hB⟩
  have hz : w.heap.size + 2 ≤ w1.heap.size := by have := hB.size; simp at this; omega
  obtain ⟨hcc, hff⟩ := bcell hB
  rw [HX.out]
  go_wp2
  have hb0 : BlkAt w1 w.heap.size 39 #[.int .i64 0, .int .i64 0, .int .i64 0, .int .u64 0, .string ⟨#[]⟩] := ((BlkAt.new w _ _).alloc _).below hB (by simp; omega)
  have hb1 := ((((((hb0.far (p := ⟨w.heap.size + 1, 4, none⟩) (by simp) (.string ⟨L.toArray⟩)).set 0 (.int .i64 q)).set 1 (.int .i64 2)).set 2 (.int .i64 0)).set 3 (.int .u64 0)).set 4 (.string ⟨L.toArray⟩))
  refine bodyPost_ret (results_ctt rfl rfl aggF (by rfl) hb1) rfl ⟨by simp [fldV], ?_⟩
  have hB0 : Below w.heap.size w w1 := (((Below.refl _ w).alloc (Nat.le_refl _) _).alloc (by simp) _).trans (hB.mono (by simp; omega))
  go_grown
set_option maxRecDepth 100000 in
set_option maxHeartbeats 1000000 in
theorem one_else (s : ByteArray) (tag n q : Nat) (hs : s.size ≤ 9223372036854775807) (h : gvar s.data.toList = some (tag, n)) (hq : tag / 8 = q) (h1 : ¬ (q < 1 ∨ 536870911 < q)) (a0 : ¬ tag % 8 = 0) (a1 : ¬ tag % 8 = 1) (a5 : ¬ tag % 8 = 5) (a2 : ¬ tag % 8 = 2) (w : World) :
    Calls Try.prog 60 #[.string s] w (OneNo w.heap.size w) := by
  have ht := gvar_val h
  have G := Lib.hid h
  have ea := and7 tag ht
  obtain ⟨r, hr⟩ : ∃ r, tag % 8 = r := ⟨_, rfl⟩
  have hr' : (tag : Int) % 8 = (r : Int) := by omega
  rw [hr'] at ea
  rw [hr] at a0 a1 a5 a2
  have r8 : r < 8 := by omega
  have hq' : (tag : Int) / 8 = (q : Int) := by omega
  have e0 : ((r : Int) == 0) = false := beq_eq_false_iff_ne.2 (by omega)
  have e1 : ((r : Int) == 1) = false := beq_eq_false_iff_ne.2 (by omega)
  have e5 : ((r : Int) == 5) = false := beq_eq_false_iff_ne.2 (by omega)
  have e2 : ((r : Int) == 2) = false := beq_eq_false_iff_ne.2 (by omega)
  clear h hq hr hr' a0 a1 a5 a2
  go_enter Try.func60, Try.ntmps60
  go_wp2_with fail
  refine (getVarint_some s tag n hs G.out _).mono ?_
  rintro e w' ⟨rfl, rfl⟩
  go_wp2_with fail
  refine bodyPost_ret (v := .tuple #[.agg #[.int .i64 0, .int .i64 0, .int .i64 0, .int .u64 0, .string ⟨#[]⟩], .int .i64 0, .bool false]) (by simp [results, Try.results60, go_sem]) rfl ⟨⟨_, _, _, _, _, _, rfl⟩, ?_⟩
  go_grown
/-- WHAT pbuf.one ANSWERS. -/
theorem one_no (s : ByteArray) (hs : s.size ≤ 9223372036854775807) (h : oneL s.data.toList = none) (w : World) :
    Calls Try.prog 60 #[.string s] w (OneNo w.heap.size w) := by
  have hsz : s.data.toList.length = s.size := by simp
  cases hg : gvar s.data.toList with
  | none => exact one_g s hs hg w
  | some p =>
    obtain ⟨tag, n⟩ := p
    by_cases h1 : tag / 8 < 1 ∨ 536870911 < tag / 8
    · exact one_bad s tag n hs hg h1 w
    by_cases a0 : tag % 8 = 0
    · cases h3 : gvar (s.data.toList.drop n) with
      | none => exact one_k0n s tag n _ hs hg rfl h1 a0 h3 w
      | some q => rw [oneL_v1 hg h1 a0 h3] at h; cases h
    by_cases a1 : tag % 8 = 1
    · by_cases h3 : s.size < n + 8
      · exact one_k1n s tag n _ hs hg rfl h1 a1 h3 w
      · rw [oneL_f8 hg h1 a1 (by omega)] at h; cases h
    by_cases a5 : tag % 8 = 5
    · by_cases h3 : s.size < n + 4
      · exact one_k5n s tag n _ hs hg rfl h1 a5 h3 w
      · rw [oneL_f4 hg h1 a5 (by omega)] at h; cases h
    by_cases a2 : tag % 8 = 2
    · cases h3 : gvar (s.data.toList.drop n) with
      | none => exact one_k2g s tag n _ hs hg rfl h1 a2 h3 w
      | some q =>
        obtain ⟨v, m⟩ := q
        by_cases h4 : s.size - (n + m) < v
        · exact one_k2n s tag n _ hs hg rfl h1 a2 v m h3 h4 w
        · rw [oneL_b2 hg h1 a2 h3 (by omega)] at h; cases h
    · exact one_else s tag n _ hs hg rfl h1 a0 a1 a5 a2 w
theorem one_yes (s : ByteArray) (hs : s.size ≤ 281474976710656) (f : Fld) (k : Nat) (h : oneL s.data.toList = some (f, k)) (w : World) :
    Calls Try.prog 60 #[.string s] w fun e w' => e = .returned (.tuple #[fldV f, .int .i64 k, .bool true]) ∧ Below w.heap.size w w' := by
  have hsz : s.data.toList.length = s.size := by simp
  obtain ⟨tag, n, hg, h1, h⟩ := oneL_cases h
  rcases h with ⟨a, v, m, h3, rfl, rfl⟩ | ⟨a, h3, rfl, rfl⟩ | ⟨a, h3, rfl, rfl⟩ | ⟨a, v, m, h3, h4, rfl, rfl⟩
  · exact one_k0s s tag n _ (by omega) hg rfl h1 a v m h3 w
  · exact one_k1s s tag n _ (by omega) hg rfl h1 a (by omega) w
  · exact one_k5s s tag n _ (by omega) hg rfl h1 a (by omega) w
  · exact one_k2s s tag n _ (by omega) hg rfl h1 a v m hs h3 (by omega) w
end Go.Proofs.Ytgdnibdahldekab
