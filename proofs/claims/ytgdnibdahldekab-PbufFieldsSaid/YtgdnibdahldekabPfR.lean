/- The walks of pbuf.right, low and Put. -/
import Derived.Test.YtgdnibdahldekabProg
import Derived.Test.YtgdnibdahldekabPbP
import Derived.Test.YtgdnibdahldekabPfP
import Derived.Test.YtgdnibdahldekabPfO
import Derived.Test.YtgdnibdahldekabMem
import Derived.Test.YtgdnibdahldekabIt
import Derived.RegionTactic
import Derived.BigRegion
import Derived.Deep.RegionHeld3
import Derived.WalkKit
import Derived.ProofKit
import Derived.LoopTactic
import Derived.WalkSpells
import Derived.WalkLawsBesides
import Derived.Lib.Hide
import Derived.Outline
import Derived.Handy
namespace Go.Proofs.Ytgdnibdahldekab
open Go.RowKit
set_option linter.unusedVariables false

/-- A string is empty. -/
theorem empty_list {s : ByteArray} (h : s.size = 0) : s.toList = [] := by
  rw [ByteArray.toList_eq]
  exact List.eq_nil_of_length_eq_zero (by simpa using h)
theorem nonempty_list {s : ByteArray} (h : s.size ≠ 0) : s.toList.isEmpty = false := by
  rw [ByteArray.toList_eq]
  cases hl : s.data.toList with
  | nil =>
    have : s.data.toList.length = s.size := by simp
    rw [hl] at this
    exact absurd this.symm h
  | cons a b => rfl

set_option maxRecDepth 20000 in
set_option maxHeartbeats 1600000 in
theorem right_any (num kind at_ : Int) (val : Nat) (s : ByteArray) (hv : val < 18446744073709551616) (hs : s.size ≤ 9223372036854775807) (w : World) :
    Calls Try.prog 53 #[.agg #[.int .i64 num, .int .i64 kind, .int .i64 at_, .int .u64 val, .string s]] w fun e w' => e = .returned (.bool (decide (okF num kind val s.size))) ∧ Below w.heap.size w w' := by
  obtain ⟨r, hr⟩ : ∃ r, decide (okF num kind val s.size) = r := ⟨_, rfl⟩
  rw [hr]
  have HR := Lib.hid hr
  clear hr
  by_cases h1 : num < 1 ∨ 536870911 < num
  · obtain rfl : r = false := by rw [← HR.out]; exact decide_eq_false fun h => by have := h.1; have := h.2.1; omega
    rcases h1 with h1 | h1
    all_goals
      go_enter Try.func53, Try.ntmps53
      go_wp2
      go_ret
      exact ⟨rfl, (Below.refl _ _).alloc (Nat.le_refl _) _⟩
  · have n1 : 1 ≤ num := by omega
    have n2 : num ≤ 536870911 := by omega
    clear h1
    by_cases k0 : kind = 0 ∨ kind = 1
    · by_cases hz : s.size = 0
      · obtain rfl : r = true := by rw [← HR.out]; exact decide_eq_true ⟨n1, n2, .inl ⟨k0, hz⟩⟩
        have he := empty_list hz
        clear hz
        rcases k0 with rfl | rfl
        all_goals
          go_enter Try.func53, Try.ntmps53
          go_wp2
          go_ret
          exact ⟨rfl, (Below.refl _ _).alloc (Nat.le_refl _) _⟩
      · obtain rfl : r = false := by rw [← HR.out]; exact decide_eq_false fun h => by have := h.2.2; omega
        have he := nonempty_list hz
        clear hz
        rcases k0 with rfl | rfl
        all_goals
          go_enter Try.func53, Try.ntmps53
          go_wp2
          go_ret
          exact ⟨rfl, (Below.refl _ _).alloc (Nat.le_refl _) _⟩
    · have k1 : ¬ kind = 0 := by omega
      have k2 : ¬ kind = 1 := by omega
      clear k0
      by_cases k5 : kind = 5
      · subst k5
        by_cases hz : s.size = 0
        · have he := empty_list hz
          by_cases hb : val < 4294967296
          · obtain rfl : r = true := by rw [← HR.out]; exact decide_eq_true ⟨n1, n2, .inr (.inl ⟨rfl, hz, hb⟩)⟩
            have hq : (val : Int) / 4294967296 = 0 := by omega
            clear hz
            go_enter Try.func53, Try.ntmps53
            go_wp2
            go_ret
            exact ⟨rfl, (Below.refl _ _).alloc (Nat.le_refl _) _⟩
          · obtain rfl : r = false := by rw [← HR.out]; exact decide_eq_false fun h => by have := h.2.2; omega
            have hq : ((val : Int) / 4294967296 == 0) = false := beq_eq_false_iff_ne.2 (by omega)
            have hq' : ¬ (val : Int) / 4294967296 = 0 := by omega
            clear hz
            go_enter Try.func53, Try.ntmps53
            go_wp2
            go_ret
            exact ⟨rfl, (Below.refl _ _).alloc (Nat.le_refl _) _⟩
        · obtain rfl : r = false := by rw [← HR.out]; exact decide_eq_false fun h => by have := h.2.2; omega
          have he := nonempty_list hz
          clear hz
          go_enter Try.func53, Try.ntmps53
          go_wp2
          go_ret
          exact ⟨rfl, (Below.refl _ _).alloc (Nat.le_refl _) _⟩
      · by_cases k2' : kind = 2
        · subst k2'
          by_cases hz : val = 0
          · subst hz
            by_cases hb : s.size ≤ 60000
            · obtain rfl : r = true := by rw [← HR.out]; exact decide_eq_true ⟨n1, n2, .inr (.inr ⟨rfl, rfl, hb⟩)⟩
              go_enter Try.func53, Try.ntmps53
              go_wp2
              go_ret
              exact ⟨ret_bool (decide_eq_true (by omega)), (Below.refl _ _).alloc (Nat.le_refl _) _⟩
            · obtain rfl : r = false := by rw [← HR.out]; exact decide_eq_false fun h => by have := h.2.2; omega
              go_enter Try.func53, Try.ntmps53
              go_wp2
              go_ret
              exact ⟨ret_bool (decide_eq_false (by omega)), (Below.refl _ _).alloc (Nat.le_refl _) _⟩
          · obtain rfl : r = false := by rw [← HR.out]; exact decide_eq_false fun h => by have := h.2.2; omega
            have hz1 : ((val : Int) == 0) = false := beq_eq_false_iff_ne.2 (by omega)
            go_enter Try.func53, Try.ntmps53
            go_wp2
            go_ret
            exact ⟨rfl, (Below.refl _ _).alloc (Nat.le_refl _) _⟩
        · obtain rfl : r = false := by rw [← HR.out]; exact decide_eq_false fun h => by have := h.2.2; omega
          go_enter Try.func53, Try.ntmps53
          go_wp2
          go_ret
          exact ⟨rfl, (Below.refl _ _).alloc (Nat.le_refl _) _⟩

/-- A block of bytes being filled. -/
def filling (v n k : Nat) : Array Value := ((leB v k).map bv ++ List.replicate (n - k) (Value.int .u8 0)).toArray
theorem filling_step {v n k : Nat} (h : k < n) : (filling v n k).setIfInBounds k (bv (UInt8.ofNat (v / 256 ^ k % 256))) = filling v n (k + 1) := by
  unfold filling
  rw [List.setIfInBounds_toArray, leB_snoc]
  congr 1
  have hl : ((leB v k).map bv).length = k := by rw [List.length_map, leB_len]
  obtain ⟨m, hm⟩ : ∃ m, n - k = m + 1 := ⟨n - k - 1, by omega⟩
  have hm2 : n - (k + 1) = m := by omega
  rw [hm, hm2, List.replicate_succ, List.set_append, if_neg (by omega), hl, Nat.sub_self, List.set_cons_zero, List.map_append, List.append_assoc]
  rfl
theorem filling_get {v n k : Nat} (h : k < n) : (filling v n k)[k]? = some (.int .u8 0) := by
  unfold filling
  have hl : ((leB v k).map bv).length = k := by rw [List.length_map, leB_len]
  rw [List.getElem?_toArray, List.getElem?_append_right (by omega), hl, Nat.sub_self, List.getElem?_replicate, if_pos (by omega)]
theorem filling_full {v n : Nat} : filling v n n = ((leB v n).map bv).toArray := by
  unfold filling; simp
theorem shr_byte (v k : Nat) : IntKind.u8.wrap ((v : Int) / 2 ^ (8 * k)) = ((UInt8.ofNat (v / 256 ^ k % 256)).toNat : Int) := by
  have e : (2 : Int) ^ (8 * k) = ((256 ^ k : Nat) : Int) := by
    rw [show (256 : Nat) = 2 ^ 8 from rfl, ← Nat.pow_mul]; simp
  rw [e, IntKind.wrap_u8, ← Int.natCast_ediv]
  simp

theorem make4 (v : Nat) (w : World) : (Instr.makeSlice 92 (.int .i64 4) (.int .i64 4)).run Try.prog w = .ok (.slice (some ⟨w.heap.size, 0, none⟩) 4 4) (w.alloc (.cells (filling v 4 0) 5)) := by kernel_rfl
theorem make8 (v : Nat) (w : World) : (Instr.makeSlice 92 (.int .i64 8) (.int .i64 8)).run Try.prog w = .ok (.slice (some ⟨w.heap.size, 0, none⟩) 8 8) (w.alloc (.cells (filling v 8 0) 5)) := by kernel_rfl
set_option maxRecDepth 20000 in
set_option maxHeartbeats 1600000 in
theorem low_any (v n : Nat) (hv : v < 18446744073709551616) (hn : n = 4 ∨ n = 8) (w : World) :
    Calls Try.prog 54 #[.int .u64 v, .int .i64 n] w fun e w' => e = .returned (str (leB v n)) ∧ Below w.heap.size w w' := by
  have hm : ∀ w, (Instr.makeSlice 92 (.int .i64 (n : Nat)) (.int .i64 (n : Nat))).run Try.prog w = .ok (.slice (some ⟨w.heap.size, 0, none⟩) n n) (w.alloc (.cells (filling v n 0) 5)) := by
    intro w
    rcases hn with rfl | rfl
    · exact make4 v w
    · exact make8 v w
  have hn8 : n ≤ 8 := by omega
  have b0 := BlkAt.new w 5 (filling v n 0)
  have B0 : Below w.heap.size w (w.alloc (.cells (filling v n 0) 5)) := (Below.refl _ w).alloc (Nat.le_refl _) _
  clear hn
  go_enter Try.func54, Try.ntmps54
  go_wp2
  generalize w.alloc (.cells (filling v n 0) 5) = w0 at *
  go_loopw [11] (fun i wr => ∃ k : Nat, i = .int .i64 k ∧ k ≤ n ∧ BlkAt wr w.heap.size 5 (filling v n k) ∧ Below w.heap.size w wr) (fun i _ => n - (intOf i).toNat)
  case atStart => exact ⟨0, rfl, Nat.zero_le _, b0, B0⟩
  case round =>
    obtain ⟨k, rfl, hk, hb, hB⟩ := hrel
    clear hm b0 B0
    by_cases hlt : k < n
    · have hc := hb.cell k
      rw [filling_get hlt] at hc
      have hf := hb.frozen k
      have hs := Lib.hid (filling_step (v := v) hlt)
      have hsh := Lib.hid (shr_byte v k)
      go_wp2
      go_roundw
      case rel =>
        refine ⟨k + 1, by go_num, by omega, ?_, ?_⟩
        · have h2 := hb.set k (bv (UInt8.ofNat (v / 256 ^ k % 256)))
          rw [hs.out] at h2
          unfold bv at h2
          rw [← hsh.out] at h2
          exact h2
        · exact hB.setCell (p := ⟨w.heap.size, k, none⟩) (Nat.le_refl _) _
      case measure => simp [intOf]; omega
    · obtain rfl : k = n := by omega
      rw [filling_full] at hb
      have hl := leB_len k v
      obtain ⟨l, hl0⟩ : ∃ l, leB v k = l := ⟨_, rfl⟩
      rw [hl0] at hb hl
      have HL := Lib.hid hl0
      clear hl0
      go_wp2_with (refine wpList_toStr _ rfl 92 9 5 _ rfl Try.underlying92 Try.underlying5 Try.underlying9 ⟨w.heap.size, 0, none⟩ l k k hl.symm rfl ?c1 ?_)
      case c1 =>
        intro j hj
        exact news_blk hb j _ (by simp [bv, List.getElem?_eq_getElem hj])
      go_ret
      exact ⟨by rw [HL.out]; rfl, hB⟩

theorem str_cat (a b : List UInt8) : Value.string ((⟨a.toArray⟩ : ByteArray) ++ (⟨b.toArray⟩ : ByteArray)) = str (a ++ b) := by
  have : ((⟨a.toArray⟩ : ByteArray) ++ (⟨b.toArray⟩ : ByteArray)) = (⟨(a ++ b).toArray⟩ : ByteArray) := by
    apply ByteArray.ext; simp
  rw [this]
theorem tag_or (num kind : Nat) (hn : num ≤ 536870911) (hk : kind < 8) : bits .or .u64 ((num : Int) * 8) (kind : Int) = ((num * 8 + kind : Nat) : Int) := by
  have e : (num : Int) * 8 = ((num * 8 : Nat) : Int) := by omega
  rw [e, u64_or_nat _ _ (by omega) (by omega)]
  have h := Nat.two_pow_add_eq_or_of_lt (i := 3) (b := kind) (by omega) num
  rw [Nat.mul_comm num 8, show (8 : Nat) = 2 ^ 3 from rfl, h]

set_option maxRecDepth 20000 in
set_option maxHeartbeats 1600000 in
theorem pput_bad (num kind at_ : Int) (val : Nat) (s : ByteArray) (hv : val < 18446744073709551616) (hs : s.size ≤ 9223372036854775807) (h : ¬ okF num kind val s.size) (w : World) :
    Calls Try.prog 26 #[.agg #[.int .i64 num, .int .i64 kind, .int .i64 at_, .int .u64 val, .string s]] w fun e w' => e = .returned (.tuple #[.string ⟨#[]⟩, .int .i64 1]) ∧ Below w.heap.size w w' := by
  have K := fun w => right_any num kind at_ val s hv hs w
  rw [decide_eq_false h] at K
  have HK := Lib.hid K
  clear K h hs hv
  go_enter Try.func26, Try.ntmps26
  go_wp2_with fail
  refine (HK.out _).mono ?_
  rintro e w1 ⟨rfl, hB⟩
  have B1 := ((Below.refl w.heap.size w).alloc (Nat.le_refl _) (.cells #[.int .i64 num, .int .i64 kind, .int .i64 at_, .int .u64 val, .string s] 39)).trans (hB.mono (by simp))
  go_wp2
  go_ret2
  exact ⟨rfl, B1⟩

set_option maxRecDepth 20000 in
set_option maxHeartbeats 1600000 in
theorem pput_ok (num : Nat) (kind : Int) (at_ : Int) (val : Nat) (s : ByteArray) (hv : val < 18446744073709551616) (hs : s.size ≤ 9223372036854775807) (h : okF num kind val s.size) (w : World) :
    Calls Try.prog 26 #[.agg #[.int .i64 num, .int .i64 kind, .int .i64 at_, .int .u64 val, .string s]] w fun e w' => e = .returned (.tuple #[str (putF num kind.toNat val s.data.toList), .int .i64 0]) ∧ Below w.heap.size w w' := by
  have n1 := h.1
  have n2 := h.2.1
  have hk := okF_kind h
  have K := fun w => right_any num kind at_ val s hv hs w
  rw [decide_eq_true h] at K
  have HK := Lib.hid K
  have HVV := Lib.hid hv
  have HV := Lib.hid (fun w => putVarint_any val hv w)
  have HL8 := Lib.hid (fun w => low_any val 8 hv (by omega) w)
  have HL4 := Lib.hid (fun w => low_any val 4 hv (by omega) w)
  have hw1 : IntKind.u64.wrap (num : Int) = (num : Int) := IntWalk.u64_in _ ⟨by omega, by omega⟩
  have b0 := BlkAt.new w 39 #[.int .i64 num, .int .i64 kind, .int .i64 at_, .int .u64 val, .string s]
  have B0 : Below w.heap.size w (w.alloc (.cells #[.int .i64 num, .int .i64 kind, .int .i64 at_, .int .u64 val, .string s] 39)) := (Below.refl _ w).alloc (Nat.le_refl _) _
  have hz0 : (w.alloc (.cells #[.int .i64 num, .int .i64 kind, .int .i64 at_, .int .u64 val, .string s] 39)).heap.size = w.heap.size + 1 := by simp
  have HZ := Lib.hid hz0
  have hs2 : kind = 2 → s.size ≤ 60000 := fun e => by have := h.2.2; omega
  clear K h hv hz0
  rcases hk with rfl | rfl | rfl | rfl
  · obtain ⟨tg, htg⟩ : ∃ tg, num * 8 + 0 = tg := ⟨_, rfl⟩
    have ht : bits .or .u64 ((num : Int) * 8) (0 : Int) = ((num * 8 + 0 : Nat) : Int) := tag_or num 0 (by omega) (by omega)
    rw [htg] at ht
    have htb : tg < 18446744073709551616 := by omega
    have HT := Lib.hid (fun w => putVarint_any tg htb w)
    have HTG := Lib.hid htg
    clear htg
    have HTT := Lib.hid ht
    clear ht
    go_enter Try.func26, Try.ntmps26
    go_wp2_with fail
    refine (HK.out _).mono ?_
    rintro e w1 ⟨rfl, hB⟩
    have b1 := b0.below hB b0.lt
    have B1 := B0.trans (hB.mono (by rw [HZ.out]; omega))
    have s1 := hB.size
    have c0 := b1.cell 0
    have c1 := b1.cell 1
    have c3 := b1.cell 3
    go_wp2_with fail
    rw [HTT.out]
    refine (HT.out _).mono ?_
    rintro e w2 ⟨rfl, hB2⟩
    have b2 := b1.below hB2 b1.lt
    have B2 := B1.trans (hB2.mono (by have := HZ.out; omega))
    clear c0 c1 c3
    have c1 := b2.cell 1
    have c3 := b2.cell 3
    go_wp2_with fail
    refine (HV.out _).mono ?_
    rintro e w3 ⟨rfl, hB3⟩
    have s2 := hB2.size
    have B3 := B2.trans (hB3.mono (by have := HZ.out; omega))
    clear c1 c3
    have E1 := Lib.hid (str_cat (putV tg) (putV val))
    have l1 := putV_le tg htb
    have l2 : (putV val).length ≤ 10 := putV_le val HVV.out
    have l3 : (⟨(putV tg).toArray⟩ : ByteArray).size + (⟨(putV val).toArray⟩ : ByteArray).size ≤ 9223372036854775807 := by rw [size_mk, size_mk]; omega
    go_wp2
    go_ret2
    refine ⟨(congrArg (fun v => Ending.returned (.tuple #[v, .int .i64 0])) E1.out).trans ?_, B3⟩
    rw [← HTG.out]
    rfl
  · obtain ⟨tg, htg⟩ : ∃ tg, num * 8 + 1 = tg := ⟨_, rfl⟩
    have ht : bits .or .u64 ((num : Int) * 8) (1 : Int) = ((num * 8 + 1 : Nat) : Int) := tag_or num 1 (by omega) (by omega)
    rw [htg] at ht
    have htb : tg < 18446744073709551616 := by omega
    have HT := Lib.hid (fun w => putVarint_any tg htb w)
    have HTG := Lib.hid htg
    clear htg
    have HTT := Lib.hid ht
    clear ht
    go_enter Try.func26, Try.ntmps26
    go_wp2_with fail
    refine (HK.out _).mono ?_
    rintro e w1 ⟨rfl, hB⟩
    have b1 := b0.below hB b0.lt
    have B1 := B0.trans (hB.mono (by rw [HZ.out]; omega))
    have s1 := hB.size
    have c0 := b1.cell 0
    have c1 := b1.cell 1
    have c3 := b1.cell 3
    go_wp2_with fail
    rw [HTT.out]
    refine (HT.out _).mono ?_
    rintro e w2 ⟨rfl, hB2⟩
    have b2 := b1.below hB2 b1.lt
    have B2 := B1.trans (hB2.mono (by have := HZ.out; omega))
    clear c0 c1 c3
    have c1 := b2.cell 1
    have c3 := b2.cell 3
    go_wp2_with fail
    refine (HL8.out _).mono ?_
    rintro e w3 ⟨rfl, hB3⟩
    have s2 := hB2.size
    have B3 := B2.trans (hB3.mono (by have := HZ.out; omega))
    clear c1 c3
    have E1 := Lib.hid (str_cat (putV tg) (leB val 8))
    have l1 := putV_le tg htb
    have l2 : (leB val 8).length ≤ 10 := Nat.le_trans (Nat.le_of_eq (leB_len 8 val)) (by omega : 8 ≤ 10)
    have l3 : (⟨(putV tg).toArray⟩ : ByteArray).size + (⟨(leB val 8).toArray⟩ : ByteArray).size ≤ 9223372036854775807 := by rw [size_mk, size_mk]; omega
    go_wp2
    go_ret2
    refine ⟨(congrArg (fun v => Ending.returned (.tuple #[v, .int .i64 0])) E1.out).trans ?_, B3⟩
    rw [← HTG.out]
    rfl
  · have hs3 := hs2 rfl
    clear hs2
    obtain ⟨tg, htg⟩ : ∃ tg, num * 8 + 2 = tg := ⟨_, rfl⟩
    have ht : bits .or .u64 ((num : Int) * 8) (2 : Int) = ((num * 8 + 2 : Nat) : Int) := tag_or num 2 (by omega) (by omega)
    rw [htg] at ht
    have htb : tg < 18446744073709551616 := by omega
    have HT := Lib.hid (fun w => putVarint_any tg htb w)
    have HN := Lib.hid (fun w => putVarint_any s.size (by omega) w)
    have HTG := Lib.hid htg
    have HTT := Lib.hid ht
    clear ht htg
    go_enter Try.func26, Try.ntmps26
    go_wp2_with fail
    refine (HK.out _).mono ?_
    rintro e w1 ⟨rfl, hB⟩
    have b1 := b0.below hB b0.lt
    have B1 := B0.trans (hB.mono (by rw [HZ.out]; omega))
    have s1 := hB.size
    have c0 := b1.cell 0
    have c1 := b1.cell 1
    have c3 := b1.cell 3
    go_wp2_with fail
    rw [HTT.out]
    refine (HT.out _).mono ?_
    rintro e w2 ⟨rfl, hB2⟩
    have b2 := b1.below hB2 b1.lt
    have B2 := B1.trans (hB2.mono (by have := HZ.out; omega))
    have s2 := hB2.size
    clear c0 c1 c3
    have c1 := b2.cell 1
    have c4 := b2.cell 4
    have l1 := putV_le tg htb
    have l2 := putV_le s.size (by omega)
    have l3 : (⟨(putV tg).toArray⟩ : ByteArray).size + (⟨(putV s.size).toArray⟩ : ByteArray).size ≤ 9223372036854775807 := by rw [size_mk, size_mk]; omega
    have l4 : ((⟨(putV tg).toArray⟩ : ByteArray) ++ (⟨(putV s.size).toArray⟩ : ByteArray)).size + s.size ≤ 9223372036854775807 := by rw [ByteArray.size_append, size_mk, size_mk]; omega
    go_wp2_with fail
    have hws : IntKind.u64.wrap (s.size : Int) = (s.size : Int) := IntWalk.u64_in _ ⟨by omega, by omega⟩
    go_region_with (go_at_call 50; refine (HN.out _).mono ?_; rintro e w3 ⟨rfl, hB3⟩; have c5 : w3.cell? ⟨w.heap.size, 4, none⟩ = some (.string s) := (b2.drew.below hB3 b2.lt).cell 4)
    all_goals
      have E1 := Lib.hid (str_cat (putV tg) (putV s.size))
      have B3 := B2.drew.trans (hB3.mono (by have := HZ.out; show w.heap.size ≤ w2.heap.size; omega))
      go_wp2
      go_ret2
      refine ⟨?_, B3⟩
      have e2 : (⟨(putV tg).toArray⟩ : ByteArray) ++ (⟨(putV s.size).toArray⟩ : ByteArray) ++ s = ⟨(putF num 2 val s.data.toList).toArray⟩ := by
        apply ByteArray.ext
        unfold putF putBody
        rw [if_neg (by decide), if_neg (by decide), if_neg (by decide), HTG.out]
        simp
      exact congrArg (fun v => Ending.returned (.tuple #[.string v, .int .i64 0])) e2
  · obtain ⟨tg, htg⟩ : ∃ tg, num * 8 + 5 = tg := ⟨_, rfl⟩
    have ht : bits .or .u64 ((num : Int) * 8) (5 : Int) = ((num * 8 + 5 : Nat) : Int) := tag_or num 5 (by omega) (by omega)
    rw [htg] at ht
    have htb : tg < 18446744073709551616 := by omega
    have HT := Lib.hid (fun w => putVarint_any tg htb w)
    have HTG := Lib.hid htg
    clear htg
    have HTT := Lib.hid ht
    clear ht
    go_enter Try.func26, Try.ntmps26
    go_wp2_with fail
    refine (HK.out _).mono ?_
    rintro e w1 ⟨rfl, hB⟩
    have b1 := b0.below hB b0.lt
    have B1 := B0.trans (hB.mono (by rw [HZ.out]; omega))
    have s1 := hB.size
    have c0 := b1.cell 0
    have c1 := b1.cell 1
    have c3 := b1.cell 3
    go_wp2_with fail
    rw [HTT.out]
    refine (HT.out _).mono ?_
    rintro e w2 ⟨rfl, hB2⟩
    have b2 := b1.below hB2 b1.lt
    have B2 := B1.trans (hB2.mono (by have := HZ.out; omega))
    clear c0 c1 c3
    have c1 := b2.cell 1
    have c3 := b2.cell 3
    go_wp2_with fail
    refine (HL4.out _).mono ?_
    rintro e w3 ⟨rfl, hB3⟩
    have s2 := hB2.size
    have B3 := B2.trans (hB3.mono (by have := HZ.out; omega))
    clear c1 c3
    have E1 := Lib.hid (str_cat (putV tg) (leB val 4))
    have l1 := putV_le tg htb
    have l2 : (leB val 4).length ≤ 10 := Nat.le_trans (Nat.le_of_eq (leB_len 4 val)) (by omega : 4 ≤ 10)
    have l3 : (⟨(putV tg).toArray⟩ : ByteArray).size + (⟨(leB val 4).toArray⟩ : ByteArray).size ≤ 9223372036854775807 := by rw [size_mk, size_mk]; omega
    go_wp2
    go_ret2
    refine ⟨(congrArg (fun v => Ending.returned (.tuple #[v, .int .i64 0])) E1.out).trans ?_, B3⟩
    rw [← HTG.out]
    rfl
end Go.Proofs.Ytgdnibdahldekab
