/- The iterator pbuf.Each: its contract, at the wide fence; and pbuf.Fields. -/
import Derived.RangeFuncNested
import Derived.RangeFuncBound
import Derived.RangeFuncCalls
import Derived.RangeFuncLeaves
import Derived.RangeFuncBox
import Derived.Shelf.Abstract
import Derived.Shelf.RegionOpen
import Derived.WalkKit
import Derived.OwnWalkIn
import Derived.TacticsInMore
import Derived.LoopNIn
import Derived.LoopIn
import Derived.Maps.AppendAt
import Derived.Lib.Hide
import Derived.Outline
import Derived.Test.YtgdnibdahldekabPfO
import Derived.Test.YtgdnibdahldekabPfB
import Derived.Test.YtgdnibdahldekabIt
import Derived.Test.YtgdnibdahldekabProg
namespace Go.Proofs.Ytgdnibdahldekab
open Go.RowKit Go.Shelf
set_option linter.unusedVariables false
attribute [local go_sem] Oper.semAt_some

abbrev encFD (x : Fld × Dg) : Array Value := #[fldV x.1, dgV x.2]

set_option maxRecDepth 100000 in
set_option maxHeartbeats 2000000 in
theorem each1_in (n : Nat) (hn : 1 ≤ n) (l B : Nat) (s : ByteArray) (hs : s.size ≤ 281474976710656) (J Jx : List (Fld × Dg) → World → Prop)
    (W : World) (hJ : AbidesFrom W.heap.size J) (hJx : AbidesFrom W.heap.size Jx)
    (hY : ∀ pre x W, J pre W → pre.length < (eachL s.data.toList).length → YieldAt Fence.wide (n - 1) Try.prog l (encFD x) W fun e W' =>
      (e = .returned (.bool true) ∧ J (pre ++ [x]) W' ∧ KeepB B W W') ∨ (e = .returned (.bool false) ∧ Jx (pre ++ [x]) W'))
    (hb : Boxed W B 9 (.string s)) (h0 : J [] W) :
    CallsIn Fence.wide n Try.prog 59 #[.func (.yield l) #[] #[], .pointer (some ⟨B, 0, none⟩)] W fun e W' => (∃ v, e = .returned v) ∧
      ((∃ ys, ys = eachL s.data.toList ∧ J ys W') ∨ (∃ pre, pre <+: eachL s.data.toList ∧ Jx pre W')) := by
  have hls : s.data.toList.length = s.size := by simp
  have hc := hb.cell
  by_cases hlim : 60000 < s.size
  · have hE : eachL s.data.toList = [(zeroF, limD)] := by unfold eachL; rw [if_pos (by omega)]
    obtain ⟨fn, tmps, assign, body, hy, hR⟩ := hY [] (zeroF, limD) W h0 (by rw [hE]; simp)
    have HE := Lib.hid hE
    have HR := Lib.hid hR
    have hy : (Instr.yield l #[.agg #[.int .i64 0, .int .i64 0, .int .i64 0, .int .u64 0, .string ⟨#[]⟩], .agg #[.int .i64 2, .int .i64 0, .string ⟨#[98, 121, 116, 101, 115]⟩]]).run Try.prog W = .ok (.round l fn tmps assign body) W := hy
    clear hE hR hY hls
    refine callsIn_of_wp Try.func59 rfl trivial ?_ rfl
    simp only [Try.ntmps59, List.size_toArray, List.length_cons, List.length_nil, Nat.reduceAdd, Nat.reduceSub, Array.replicate_succ, Array.replicate_zero, List.push_toArray, List.append_toArray, List.nil_append, List.cons_append]
    gi_wp2
    refine HR.out.mono ?_
    rintro e W3 (⟨rfl, hJ3, hk3⟩ | ⟨rfl, hJx3⟩)
    · gi_wp2
      refine bodyPost_ret (results_none rfl _ _ _) rfl ?_
      exact ⟨⟨_, rfl⟩, .inl ⟨[(zeroF, limD)], HE.out.symm, hJ3⟩⟩
    · gi_wp2
      refine bodyPost_ret (results_none rfl _ _ _) rfl ?_
      exact ⟨⟨_, rfl⟩, .inr ⟨[(zeroF, limD)], by rw [HE.out]; exact List.prefix_rfl, hJx3⟩⟩
  · have hE : eachL s.data.toList = eachGo 0 s.data.toList := by unfold eachL; rw [if_neg (by omega)]
    rw [hE] at hY ⊢
    clear hE
    refine callsIn_of_wp Try.func59 rfl trivial ?_ rfl
    simp only [Try.ntmps59, List.size_toArray, List.length_cons, List.length_nil, Nat.reduceAdd, Nat.reduceSub, Array.replicate_succ, Array.replicate_zero, List.push_toArray, List.append_toArray, List.nil_append, List.cons_append]
    gi_wp2
    gi_loopw [3] (fun p wr => ∃ (k : Nat) (pre : List (Fld × Dg)), p = .int .i64 k ∧ k ≤ s.size ∧ eachGo 0 s.data.toList = pre ++ eachGo k (s.data.toList.drop k) ∧ J pre wr ∧ Boxed wr B 9 (.string s))
      (fun p wr => s.size - (intOf p).toNat)
    case atStart => exact ⟨0, [], rfl, by omega, rfl, h0, hb⟩
    case round =>
      obtain ⟨k, pre, rfl, hk, h, hJr, hbx⟩ := hrel
      have H := Lib.hid h
      clear h hc
      have hc := hbx.cell
      by_cases hlt : k < s.size
      · have hne : s.data.toList.drop k ≠ [] := fun e => by have := congrArg List.length e; simp at this; omega
        cases hn : oneL (s.data.toList.drop k) with
        | none =>
          have hc1 : oneL (s.extract k s.size).data.toList = none := by rw [extract_drop]; exact hn
          have HC := Lib.hid (one_no _ (by simp; omega) hc1)
          have hfin : eachGo 0 s.data.toList = pre ++ [(zeroF, wireD k)] := by rw [H.out, eachGo_none hne hn]
          have hlen : pre.length < (eachGo 0 s.data.toList).length := by rw [hfin]; simp
          have HF := Lib.hid hfin
          have HY := Lib.hid hY
          have HLEN := Lib.hid hlen
          clear hn hc1 hfin hne hY hls hlen
          gi_wp2_with (refine ⟨trivial, ?_⟩; gi_at_call 60; refine (callsIn_wide.2 (HC.out _)).mono ?_; rintro e w1 ⟨⟨c0, c1, c2, c3, c4, k', rfl⟩, hB⟩)
          have hB4 : Below wr.heap.size wr (w1.alloc (.cells #[.int .i64 c0, .int .i64 c1, .int .i64 c2, .int .u64 c3, .string c4] 39)) := hB.alloc hB.size _
          have hJ4 := hJ pre wr _ none hJr (grown_none hB4) (fun r e => by cases e)
          obtain ⟨fn, tmps, assign, body, hy, hR⟩ := HY.out pre (zeroF, wireD k) _ hJ4 HLEN.out
          have HR := Lib.hid hR
          have hy : (Instr.yield l #[.agg #[.int .i64 0, .int .i64 0, .int .i64 0, .int .u64 0, .string ⟨#[]⟩], .agg #[.int .i64 10, .int .i64 k, .string ⟨#[102, 105, 101, 108, 100]⟩]]).run Try.prog (w1.alloc (.cells #[.int .i64 c0, .int .i64 c1, .int .i64 c2, .int .u64 c3, .string c4] 39)) = .ok (.round l fn tmps assign body) (w1.alloc (.cells #[.int .i64 c0, .int .i64 c1, .int .i64 c2, .int .u64 c3, .string c4] 39)) := hy
          clear hR
          rw [hy]
          gi_wp2
          refine HR.out.mono ?_
          rintro e W3 (⟨rfl, hJ3, hk3⟩ | ⟨rfl, hJx3⟩)
          · gi_wp2
            refine bodyPost_ret (results_none rfl _ _ _) rfl ?_
            exact ⟨⟨_, rfl⟩, .inl ⟨_, HF.out.symm, hJ3⟩⟩
          · gi_wp2
            refine bodyPost_ret (results_none rfl _ _ _) rfl ?_
            exact ⟨⟨_, rfl⟩, .inr ⟨_, by rw [HF.out]; exact List.prefix_rfl, hJx3⟩⟩
        | some p =>
          obtain ⟨f, m⟩ := p
          have hc1 : oneL (s.extract k s.size).data.toList = some (f, m) := by rw [extract_drop]; exact hn
          have HC := Lib.hid (one_yes _ (by simp; omega) f m hc1)
          obtain ⟨n1, n2⟩ := oneL_bd hn
          simp at n2
          have hst : eachGo 0 s.data.toList = (pre ++ [({ f with at_ := k }, zeroD)]) ++ eachGo (k + m) (s.data.toList.drop (k + m)) := by
            rw [H.out, eachGo_some hn, List.drop_drop]; simp
          have hlen : pre.length < (eachGo 0 s.data.toList).length := by rw [hst]; simp
          have HS := Lib.hid hst
          have HY := Lib.hid hY
          have HLEN := Lib.hid hlen
          clear hn hc1 hst hne hY hls hlen
          gi_wp2_with (refine ⟨trivial, ?_⟩; gi_at_call 60; refine (callsIn_wide.2 (HC.out _)).mono ?_; rintro e w1 ⟨rfl, hB⟩)
          obtain ⟨W4, hW4⟩ : ∃ W4, w1.alloc (.cells #[.int .i64 f.num, .int .i64 f.kind, .int .i64 k, .int .u64 f.val, .string ⟨f.data.toArray⟩] 39) = W4 := ⟨_, rfl⟩
          have hB4 : Below wr.heap.size wr W4 := by rw [← hW4]; exact hB.alloc hB.size _
          have hJ4 := hJ pre wr _ none hJr (grown_none hB4) (fun r e => by cases e)
          have hbx4 : Boxed W4 B 9 (.string s) := (hB4.block B hbx.lt).trans hbx
          obtain ⟨fn, tmps, assign, body, hy, hR⟩ := HY.out pre ({ f with at_ := k }, zeroD) _ hJ4 HLEN.out
          have HR := Lib.hid hR
          have hy : (Instr.yield l #[.agg #[.int .i64 f.num, .int .i64 f.kind, .int .i64 k, .int .u64 f.val, .string ⟨f.data.toArray⟩], .agg #[.int .i64 0, .int .i64 0, .string ⟨#[]⟩]]).run Try.prog W4 = .ok (.round l fn tmps assign body) W4 := hy
          clear hR
          rw [hW4]
          clear hW4 hB4
          rw [hy]
          gi_wp2
          refine HR.out.mono ?_
          rintro e W3 (⟨rfl, hJ3, hk3⟩ | ⟨rfl, hJx3⟩)
          · have hbx3 := hk3.boxed hbx4
            gi_wp2
            go_roundw
            case rel => exact ⟨k + m, pre ++ [({ f with at_ := k }, zeroD)], by go_num, by omega, HS.out, hJ3, hbx3⟩
            case measure => simp [intOf]; omega
          · gi_wp2
            refine bodyPost_ret (results_none rfl _ _ _) rfl ?_
            exact ⟨⟨_, rfl⟩, .inr ⟨_, ⟨_, HS.out.symm⟩, hJx3⟩⟩
      · obtain rfl : k = s.size := by omega
        have hfin : eachGo 0 s.data.toList = pre := by rw [H.out, drop_end s _ (Nat.le_refl _), eachGo_nil]; simp
        have HF := Lib.hid hfin
        clear hfin
        gi_wp2
        go_end0
        exact ⟨⟨_, rfl⟩, .inl ⟨pre, HF.out.symm, hJr⟩⟩

theorem each_any (s : ByteArray) (w : World) :
    Calls Try.prog 32 #[.string s] w fun e w' => e = .returned (.func (.func 59) #[] #[.pointer (some ⟨w.heap.size, 0, none⟩)]) ∧ w.alloc (.cells #[.string s] 9) = w' := by
  go_enter Try.func32, Try.ntmps32
  go_wp2
  go_ret
  exact ⟨rfl, rfl⟩

theorem each_stops (n : Nat) (hn : 1 ≤ n) (B : Nat) (s : ByteArray) (hs : s.size ≤ 281474976710656) (w : World) (hb : Boxed w B 9 (.string s)) :
    SeqStopsK Fence.wide n Try.prog 59 #[.pointer (some ⟨B, 0, none⟩)] encFD (KeepB B) (fun ys => ys = eachL s.data.toList) (fun pre => pre <+: eachL s.data.toList) (eachL s.data.toList).length w :=
  fun l J Jx W hW hJ hJx hY h0 => each1_in n hn l B s hs J Jx W hJ hJx hY ((hW.block B hb.lt).trans hb) h0
end Go.Proofs.Ytgdnibdahldekab
