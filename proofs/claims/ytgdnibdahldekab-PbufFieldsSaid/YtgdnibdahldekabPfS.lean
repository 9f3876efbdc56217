/- The walks of the document's own Put, Little and little (fields). -/
import Derived.Test.YtgdnibdahldekabProg
import Derived.Test.YtgdnibdahldekabPbP
import Derived.Test.YtgdnibdahldekabPfP
import Derived.Test.YtgdnibdahldekabPfR
import Derived.Test.YtgdnibdahldekabMem
import Derived.RegionTactic
import Derived.BigRegion
import Derived.WalkKit
import Derived.ProofKit
import Derived.LoopTactic
import Derived.WalkSpells
import Derived.WalkLawsBesides
import Derived.Lib.Hide
import Derived.Outline
import Derived.Handy
namespace Go.Proofs.Ytgdnibdahldekab
open Go.RowKit
set_option linter.unusedVariables false

set_option maxRecDepth 200000 in
set_option maxHeartbeats 800000 in
theorem refLittle_any (v n : Nat) (hv : v < 18446744073709551616) (hn : n ≤ 8) (w : World) :
    Calls Try.prog 56 #[.int .u64 v, .int .i64 n] w fun e w' => e = .returned (str (leB v n)) ∧ Below w.heap.size w w' := by
  obtain ⟨l, hl⟩ : ∃ l, leB v n = l := ⟨_, rfl⟩
  rw [hl]
  have HL := Lib.hid hl
  clear hl
  go_enter Try.func56, Try.ntmps56
  go_wp2
  go_loopw [0, 5, 6] (fun x b p wr => ∃ (k u : Nat) (pre : List UInt8), p = .int .i64 k ∧ x = .int .u64 u ∧ k ≤ n ∧ u < 18446744073709551616 ∧ leB v n = pre ++ leB u (n - k) ∧ pre.length = k ∧ OwnB wr w.heap.size 5 b pre ∧ Below w.heap.size w wr ∧ w.heap.size ≤ wr.heap.size)
    (fun _ _ p _ => n - (intOf p).toNat)
  case atStart => exact ⟨0, v, [], rfl, rfl, Nat.zero_le _, hv, rfl, rfl, OwnB.nil _ _ _, Below.refl _ _, Nat.le_refl _⟩
  case round =>
    obtain ⟨k, u, pre, rfl, rfl, hk, hu, h, hpl, hown, hB, hsz⟩ := hrel
    have H := Lib.hid h
    have HP := Lib.hid hpl
    clear h hpl
    by_cases hlt : k < n
    · have hc : ((u : Int) % 256) = ((UInt8.ofNat (u % 256)).toNat : Int) := by simp
      have HC := Lib.hid hc
      have hst : leB v n = (pre ++ [UInt8.ofNat (u % 256)]) ++ leB (u / 256) (n - (k + 1)) := by
        rw [H.out, show n - k = (n - (k + 1)) + 1 by omega, leB, List.append_assoc]; rfl
      have HS := Lib.hid hst
      clear hc hst
      unfold OwnB at hown
      have hpn : (pre.length + 1) * 1 ≤ 140737488355328 := by have := HP.out; omega
      go_wp2_with (at_builtin; refine wpList_app _ rfl _ _ _ _ _ _ slB rfl _ w (hB.alloc hsz _) (by simp; omega) _ _ _ rfl (hown.alloc _) ⟨wr.heap.size, 0, none⟩ [.int .u8 ((u : Int) % 256)] rfl rfl (cell_one_new _ _ _) ?c1 ?c2 ?_)
      case c1 => intro x hx; simp at hx; subst hx; rfl
      case c2 => exact hpn
      intro v' w3 hown3 hB3 hsz3 _
      go_wp2_with fail
      go_roundw
      case rel =>
        refine ⟨k + 1, u / 256, pre ++ [UInt8.ofNat (u % 256)], by go_num, by congr 1, by omega, by omega, HS.out, by simp; exact HP.out, ?_, hB3, hsz3⟩
        unfold OwnB
        rw [List.length_append, List.map_append]
        have : [Value.int .u8 ((u : Int) % 256)] = [UInt8.ofNat (u % 256)].map bv := by
          rw [List.map_cons, bv, ← HC.out]; rfl
        rw [← this]
        exact hown3
      case measure => simp [intOf]; omega
    · obtain rfl : k = n := by omega
      have he : l = pre := by rw [← HL.out, H.out, Nat.sub_self]; simp [leB]
      subst he
      have hcv := hown.convert (P := Try.prog) Try.underlying92 Try.underlying5 Try.underlying9
      go_wp2_with fail
      go_ret
      exact ⟨rfl, hB⟩

theorem leN_bd (l : List UInt8) (h : l.length ≤ 8) : leN l < 18446744073709551616 := by
  have h1 := leN_lt l
  have h2 : 256 ^ l.length ≤ 256 ^ 8 := Nat.pow_le_pow_right (by decide) h
  omega
theorem leN_small (l : List UInt8) (h : l.length ≤ 7) : leN l < 72057594037927936 := by
  have h1 := leN_lt l
  have h2 : 256 ^ l.length ≤ 256 ^ 7 := Nat.pow_le_pow_right (by decide) h
  omega
set_option maxRecDepth 200000 in
set_option maxHeartbeats 800000 in
theorem refLit_any (s : ByteArray) (hs : s.size ≤ 8) (w : World) :
    Calls Try.prog 58 #[.string s] w fun e w' => e = .returned (.int .u64 (leN s.data.toList)) ∧ w = w' := by
  have hls : s.data.toList.length = s.size := by simp
  have HLS := Lib.hid hls
  clear hls
  go_enter Try.func58, Try.ntmps58
  go_wp2
  go_loop [3, 4] (fun v p => ∃ (k u : Nat), p = .int .i64 ((k : Int) - 1) ∧ v = .int .u64 u ∧ k ≤ s.size ∧ u = leN (s.data.toList.drop k)) (fun _ p => (intOf p + 1).toNat)
  case atStart => exact ⟨s.size, 0, rfl, rfl, Nat.le_refl _, by rw [List.drop_eq_nil_of_le (by rw [HLS.out]; exact Nat.le_refl _), leN]⟩
  case round =>
    obtain ⟨k, u, rfl, rfl, hk, hu⟩ := hrel
    have HU := Lib.hid hu
    clear hu
    by_cases hlt : 0 < k
    · obtain ⟨j, rfl⟩ : ∃ j, k = j + 1 := ⟨k - 1, by omega⟩
      have hj : j < s.size := by omega
      have hst : leN (s.data.toList.drop j) = (s[j]).toNat + 256 * u := by
        rw [drop_cons s j hj, leN, HU.out]
      have hb := leN_small (s.data.toList.drop (j + 1)) (by rw [List.length_drop]; have := HLS.out; omega)
      rw [← HU.out] at hb
      have hc := UInt8.toNat_lt s[j]
      have HS := Lib.hid hst
      have e1 : ((j + 1 : Nat) : Int) - 1 = (j : Int) := by omega
      rw [e1]
      clear hst e1 hlt hk
      go_wp2
      go_round
      case rel => exact ⟨j, u * 256 + (s[j]).toNat, rfl, by first | rfl | congr 1, by omega, by rw [HS.out]; omega⟩
      case measure => simp [intOf]
    · obtain rfl : k = 0 := by omega
      rw [List.drop_zero] at HU
      go_wp2
      go_ret
      exact ⟨by rw [← HU.out]; rfl, rfl⟩

set_option maxRecDepth 200000 in
set_option maxHeartbeats 1600000 in
theorem rput_bad (num kind at_ : Int) (val : Nat) (s : ByteArray) (hv : val < 18446744073709551616) (hs : s.size ≤ 9223372036854775807) (h : ¬ okF num kind val s.size) (w : World) :
    Calls Try.prog 27 #[.agg #[.int .i64 num, .int .i64 kind, .int .i64 at_, .int .u64 val, .string s]] w fun e w' => e = .returned (.tuple #[.string ⟨#[]⟩, .int .i64 1]) ∧ Below w.heap.size w w' := by
  have hc : num < 1 ∨ (1 ≤ num ∧ 536870911 < num) ∨ ((1 ≤ num ∧ num ≤ 536870911) ∧ ((¬ kind = 0 ∧ ¬ kind = 1 ∧ ¬ kind = 2 ∧ ¬ kind = 5) ∨ (kind = 5 ∧ 4294967296 ≤ (val : Int)) ∨ (kind = 2 ∧ val ≠ 0) ∨ (kind = 0 ∧ s.size ≠ 0) ∨ (kind = 1 ∧ s.size ≠ 0) ∨ (kind = 5 ∧ (val : Int) < 4294967296 ∧ s.size ≠ 0) ∨ (kind = 2 ∧ val = 0 ∧ 60000 < s.size))) := by
    unfold okF at h; omega
  clear h hv hs
  rcases hc with h | ⟨h1, h⟩ | ⟨⟨h1, h2⟩, h⟩
  · go_enter Try.func27, Try.ntmps27
    go_wp2
    go_ret2
    exact ⟨rfl, (Below.refl _ _).alloc (Nat.le_refl _) _⟩
  · clear h1
    go_enter Try.func27, Try.ntmps27
    go_wp2
    go_ret2
    exact ⟨rfl, (Below.refl _ _).alloc (Nat.le_refl _) _⟩
  rcases h with ⟨k0, k1, k2, k5⟩ | ⟨rfl, h3⟩ | ⟨rfl, h3⟩ | ⟨rfl, h3⟩ | ⟨rfl, h3⟩ | ⟨rfl, h4, h3⟩ | ⟨rfl, h4, h3⟩
  · go_enter Try.func27, Try.ntmps27
    go_wp2
    go_ret2
    exact ⟨rfl, (Below.refl _ _).alloc (Nat.le_refl _) _⟩
  · go_enter Try.func27, Try.ntmps27
    go_wp2
    go_ret2
    exact ⟨rfl, (Below.refl _ _).alloc (Nat.le_refl _) _⟩
  · have e1 : ((val : Int) == 0) = false := beq_eq_false_iff_ne.2 (by omega)
    have e2 : ¬ (val : Int) = 0 := by omega
    clear h3
    go_enter Try.func27, Try.ntmps27
    go_wp2
    go_ret2
    exact ⟨rfl, (Below.refl _ _).alloc (Nat.le_refl _) _⟩
  · have e1 := nonempty_list h3
    clear h3
    go_enter Try.func27, Try.ntmps27
    go_wp2
    go_ret2
    exact ⟨rfl, (Below.refl _ _).alloc (Nat.le_refl _) _⟩
  · have e1 := nonempty_list h3
    clear h3
    go_enter Try.func27, Try.ntmps27
    go_wp2
    go_ret2
    exact ⟨rfl, (Below.refl _ _).alloc (Nat.le_refl _) _⟩
  · have e1 := nonempty_list h3
    clear h3
    go_enter Try.func27, Try.ntmps27
    go_wp2
    go_ret2
    exact ⟨rfl, (Below.refl _ _).alloc (Nat.le_refl _) _⟩
  · subst h4
    go_enter Try.func27, Try.ntmps27
    go_wp2
    go_ret2
    exact ⟨rfl, (Below.refl _ _).alloc (Nat.le_refl _) _⟩

set_option maxRecDepth 200000 in
set_option maxHeartbeats 3200000 in
theorem rput_ok (num : Int) (kind : Int) (at_ : Int) (val : Nat) (s : ByteArray) (hv : val < 18446744073709551616) (hs : s.size ≤ 9223372036854775807) (h : okF num kind val s.size) (w : World) :
    Calls Try.prog 27 #[.agg #[.int .i64 num, .int .i64 kind, .int .i64 at_, .int .u64 val, .string s]] w fun e w' => e = .returned (.tuple #[str (putF num.toNat kind.toNat val s.data.toList), .int .i64 0]) ∧ Below w.heap.size w w' := by
  have n1 := h.1
  have n2 := h.2.1
  have hk := okF_kind h
  have HV := Lib.hid (fun w => refPutVarint_any val hv w)
  have HL8 := Lib.hid (fun w => refLittle_any val 8 hv (by omega) w)
  have HL4 := Lib.hid (fun w => refLittle_any val 4 hv (by omega) w)
  have HVV := Lib.hid hv
  have b0 := BlkAt.new w 44 #[.int .i64 num, .int .i64 kind, .int .i64 at_, .int .u64 val, .string s]
  have B0 : Below w.heap.size w (w.alloc (.cells #[.int .i64 num, .int .i64 kind, .int .i64 at_, .int .u64 val, .string s] 44)) := (Below.refl _ w).alloc (Nat.le_refl _) _
  have hz0 : (w.alloc (.cells #[.int .i64 num, .int .i64 kind, .int .i64 at_, .int .u64 val, .string s] 44)).heap.size = w.heap.size + 1 := by simp
  have HZ := Lib.hid hz0
  have hs2 : kind = 2 → s.size ≤ 60000 ∧ val = 0 := fun e => by have := h.2.2; omega
  have hs0 : kind ≠ 2 → s.size = 0 := fun e => by have := h.2.2; omega
  have hs5 : kind = 5 → val < 4294967296 := fun e => by have := h.2.2; omega
  clear h hv hz0 hs
  rcases hk with rfl | rfl | rfl | rfl
  · obtain ⟨tg, htg⟩ : ∃ tg, num.toNat * 8 + 0 = tg := ⟨_, rfl⟩
    have htb : tg < 18446744073709551616 := by omega
    have ht : num * 8 = (tg : Int) := by omega
    have HT := Lib.hid (fun w => refPutVarint_any tg htb w)
    have HTG := Lib.hid htg
    have HTT := Lib.hid ht
    have l1 := putV_le tg htb
    have l2 : (putV val).length ≤ 10 := putV_le val HVV.out
    have l3 : (⟨(putV tg).toArray⟩ : ByteArray).size + (⟨(putV val).toArray⟩ : ByteArray).size ≤ 9223372036854775807 := by rw [size_mk, size_mk]; omega
    have L3 := Lib.hid l3
    have he := empty_list (hs0 (by omega))
    have hs6 : s.size ≤ 60000 := by have := hs0 (by omega); omega
    clear htg ht htb l3 hs0 hs2 hs5
    go_enter Try.func27, Try.ntmps27
    go_wp2_with fail
    rw [HTT.out]
    refine (HT.out _).mono ?_
    rintro e w1 ⟨rfl, hB⟩
    have b1 := b0.below hB b0.lt
    have B1 := B0.trans (hB.mono (by simp))
    have s1 := hB.size
    have c1 := b1.cell 1
    have c3 := b1.cell 3
    go_wp2_with fail
    refine (HV.out _).mono ?_
    rintro e w2 ⟨rfl, hB2⟩
    have B2 := B1.trans (hB2.mono B1.size)
    clear c1 c3
    have E1 := Lib.hid (str_cat (putV tg) (putV val))
    have l3 := L3.out
    go_wp2
    go_ret2
    refine ⟨(congrArg (fun v => Ending.returned (.tuple #[v, .int .i64 0])) E1.out).trans ?_, B2⟩
    rw [← HTG.out]
    rfl
  · obtain ⟨tg, htg⟩ : ∃ tg, num.toNat * 8 + 1 = tg := ⟨_, rfl⟩
    have htb : tg < 18446744073709551616 := by omega
    have ht : num * 8 + 1 = (tg : Int) := by omega
    have HT := Lib.hid (fun w => refPutVarint_any tg htb w)
    have HTG := Lib.hid htg
    have HTT := Lib.hid ht
    have l1 := putV_le tg htb
    have l2 : (leB val 8).length ≤ 10 := by rw [leB_len]; omega
    have l3 : (⟨(putV tg).toArray⟩ : ByteArray).size + (⟨(leB val 8).toArray⟩ : ByteArray).size ≤ 9223372036854775807 := by rw [size_mk, size_mk]; omega
    have L3 := Lib.hid l3
    have he := empty_list (hs0 (by omega))
    have hs6 : s.size ≤ 60000 := by have := hs0 (by omega); omega
    clear htg ht htb l3 hs0 hs2 hs5
    go_enter Try.func27, Try.ntmps27
    go_wp2_with fail
    rw [HTT.out]
    refine (HT.out _).mono ?_
    rintro e w1 ⟨rfl, hB⟩
    have b1 := b0.below hB b0.lt
    have B1 := B0.trans (hB.mono (by simp))
    have s1 := hB.size
    have c1 := b1.cell 1
    have c3 := b1.cell 3
    go_wp2_with fail
    refine (HL8.out _).mono ?_
    rintro e w2 ⟨rfl, hB2⟩
    have B2 := B1.trans (hB2.mono B1.size)
    clear c1 c3
    have E1 := Lib.hid (str_cat (putV tg) (leB val 8))
    have l3 := L3.out
    go_wp2
    go_ret2
    refine ⟨(congrArg (fun v => Ending.returned (.tuple #[v, .int .i64 0])) E1.out).trans ?_, B2⟩
    rw [← HTG.out]
    rfl
  · obtain ⟨tg, htg⟩ : ∃ tg, num.toNat * 8 + 2 = tg := ⟨_, rfl⟩
    obtain ⟨hs3, rfl⟩ := hs2 rfl
    have hv0 : ((0 : Nat) : Int) = 0 := rfl
    have htb : tg < 18446744073709551616 := by omega
    have ht : num * 8 + 2 = (tg : Int) := by omega
    have HT := Lib.hid (fun w => refPutVarint_any tg htb w)
    have HN := Lib.hid (fun w => refPutVarint_any s.size (by omega) w)
    have HTG := Lib.hid htg
    have HTT := Lib.hid ht
    have l1 := putV_le tg htb
    have l2 := putV_le s.size (by omega)
    have l3 : (⟨(putV tg).toArray⟩ : ByteArray).size + (⟨(putV s.size).toArray⟩ : ByteArray).size ≤ 9223372036854775807 := by rw [size_mk, size_mk]; omega
    have l4 : ((⟨(putV tg).toArray⟩ : ByteArray) ++ (⟨(putV s.size).toArray⟩ : ByteArray)).size + s.size ≤ 9223372036854775807 := by rw [ByteArray.size_append, size_mk, size_mk]; omega
    have hws : IntKind.u64.wrap (s.size : Int) = (s.size : Int) := IntWalk.u64_in _ ⟨by omega, by omega⟩
    have L3 := Lib.hid l3
    have L4 := Lib.hid l4
    have HWS := Lib.hid hws
    clear htg ht htb l3 l4 hs0 hs2 hs5 hws
    go_enter Try.func27, Try.ntmps27
    go_wp2_with fail
    rw [HTT.out]
    refine (HT.out _).mono ?_
    rintro e w1 ⟨rfl, hB⟩
    have b1 := b0.below hB b0.lt
    have B1 := B0.trans (hB.mono (by simp))
    have s1 := hB.size
    have c1 := b1.cell 1
    have c4 := b1.cell 4
    go_wp2_with fail
    have l3 := L3.out
    have l4 := L4.out
    have hws := HWS.out
    go_region_with (go_at_call 55; refine (HN.out _).mono ?_; rintro e w3 ⟨rfl, hB3⟩; have c5 : w3.cell? ⟨w.heap.size, 4, none⟩ = some (.string s) := (b1.drew.below hB3 b1.lt).cell 4)
    all_goals
      have E1 := Lib.hid (str_cat (putV tg) (putV s.size))
      have B3 := B1.drew.trans (hB3.mono B1.size)
      go_wp2
      go_ret2
      refine ⟨?_, B3⟩
      have e2 : (⟨(putV tg).toArray⟩ : ByteArray) ++ (⟨(putV s.size).toArray⟩ : ByteArray) ++ s = ⟨(putF num.toNat 2 0 s.data.toList).toArray⟩ := by
        apply ByteArray.ext
        unfold putF putBody
        rw [if_neg (by decide), if_neg (by decide), if_neg (by decide), HTG.out]
        simp
      exact congrArg (fun v => Ending.returned (.tuple #[.string v, .int .i64 0])) e2
  · obtain ⟨tg, htg⟩ : ∃ tg, num.toNat * 8 + 5 = tg := ⟨_, rfl⟩
    have htb : tg < 18446744073709551616 := by omega
    have ht : num * 8 + 5 = (tg : Int) := by omega
    have HT := Lib.hid (fun w => refPutVarint_any tg htb w)
    have HTG := Lib.hid htg
    have HTT := Lib.hid ht
    have l1 := putV_le tg htb
    have l2 : (leB val 4).length ≤ 10 := by rw [leB_len]; omega
    have l3 : (⟨(putV tg).toArray⟩ : ByteArray).size + (⟨(leB val 4).toArray⟩ : ByteArray).size ≤ 9223372036854775807 := by rw [size_mk, size_mk]; omega
    have L3 := Lib.hid l3
    obtain ⟨vi, hvi⟩ : ∃ vi : Int, (val : Int) = vi := ⟨_, rfl⟩
    have h5 : vi < 4294967296 := by have := hs5 rfl; omega
    have h50 : 0 ≤ vi := by omega
    rw [hvi] at HL4 b0 B0 ⊢
    clear HV HL8 HVV HZ hvi
    have he := empty_list (hs0 (by omega))
    have hs6 : s.size ≤ 60000 := by have := hs0 (by omega); omega
    clear htg ht htb l3 hs0 hs2 hs5
    go_enter Try.func27, Try.ntmps27
    go_wp2_with fail
    rw [HTT.out]
    refine (HT.out _).mono ?_
    rintro e w1 ⟨rfl, hB⟩
    have b1 := b0.below hB b0.lt
    have B1 := B0.trans (hB.mono (by simp))
    have s1 := hB.size
    have c1 := b1.cell 1
    have c3 := b1.cell 3
    go_wp2_with fail
    refine (HL4.out _).mono ?_
    rintro e w2 ⟨rfl, hB2⟩
    have B2 := B1.trans (hB2.mono B1.size)
    clear c1 c3
    have E1 := Lib.hid (str_cat (putV tg) (leB val 4))
    have l3 := L3.out
    go_wp2
    go_ret2
    refine ⟨(congrArg (fun v => Ending.returned (.tuple #[v, .int .i64 0])) E1.out).trans ?_, B2⟩
    rw [← HTG.out]
    rfl
end Go.Proofs.Ytgdnibdahldekab
