/- The walk of forest's Join, where all results are told, or one is chosen. -/
import Derived.Test.YtjcpfmndkeiegaaGreatDoorFoFG
import Derived.Deep.RegionHeldLaw
import Derived.Deep.AppendLies
namespace Go.Proofs.YtjcpfmndkeiegaaGreatDoor
open Go.RowKit
set_option linter.unusedVariables false

/-- The loop of Join over all results. -/
def AllL (ns : List ByteArray) (w : World) (base B : Nat) (p : Value) (W : World) : Prop :=
  ∃ k v, p = .int .i64 (k : Nat) ∧ k ≤ ns.length ∧ BlkAt W B 27 #[v] ∧ StrRow W base v ((ns.take k).map cleanS) ∧ Below B w W ∧ w.heap.size ≤ W.heap.size
set_option maxRecDepth 100000 in
set_option maxHeartbeats 8000000 in
theorem joinAll_any {w : World} {a : Option Addr} {n c : Nat} {ns : List ByteArray} (wt : Value) (hr : RdS w a ns) (hn : ns.length = n) (hlim : n ≤ 100000) (hs : ∀ s ∈ ns, s.size ≤ 100000) :
    Calls Tryz.prog 8 #[.int .i64 8, .slice a n c, wt] w fun e w' => ∃ v, e = .returned (.agg #[v]) ∧ StrRow w' w.heap.size v (ns.map cleanS) ∧ Below w.heap.size w w' := by
  obtain ⟨W1, hW1⟩ : ∃ W1, w.alloc (.cells #[.slice none 0 0] 27) = W1 := ⟨_, rfl⟩
  obtain ⟨W2, hW2⟩ : ∃ W2, W1.alloc (.cells #[.slice none 0 0] 27) = W2 := ⟨_, rfl⟩
  have hB2 : Below w.heap.size w W2 := by rw [← hW2, ← hW1]; exact ((Below.refl _ w).alloc (Nat.le_refl _) _).alloc (by simp) _
  have hz1 : W1.heap.size = w.heap.size + 1 := by rw [← hW1]; simp
  have hz2 : W2.heap.size = w.heap.size + 2 := by rw [← hW2, ← hW1]; simp
  have HKr := Lib.hid (show BlkAt W2 w.heap.size 27 #[.slice none 0 0] by rw [← hW2, ← hW1]; exact (BlkAt.new w _ _).alloc _)
  have HKo := Lib.hid (show BlkAt W2 W1.heap.size 27 #[.slice none 0 0] by rw [← hW2]; exact BlkAt.new W1 _ _)
  have H0 := Lib.hid (show AllL ns W2 W2.heap.size W1.heap.size (.int .i64 0) W2 from ⟨0, _, rfl, Nat.zero_le _, HKo.out, World.ownsRow_nil _ _ _ _, Below.refl _ _, Nat.le_refl _⟩)
  have HR := Lib.hid hr
  have HS := Lib.hid hs
  have HN := Lib.hid hn
  have HB2 := Lib.hid hB2
  have HZ1 := Lib.hid hz1
  have HZ2 := Lib.hid hz2
  obtain ⟨i0, hi0, hz0, hz1', hz2'⟩ := info_parts infoS
  clear hr hs hn hB2 hz1 hz2
  go_enter Tryz.func8, Tryz.ntmps8
  go_wp2
  go_step3
  go_wp2
  go_loopw [22] (fun p W => AllL ns W2 W2.heap.size W1.heap.size p W) (fun p W => n - (intOf p).toNat)
  case atStart => exact H0.out
  case round =>
    obtain ⟨k, v, rfl, hk, hbo, ho, hB, hsz⟩ := hrel
    rw [HN.out] at hk
    unfold StrRow at ho
    rw [List.length_map, List.length_take, HN.out, Nat.min_eq_left hk] at ho
    obtain ⟨vb, vc, rfl⟩ := ownsRow_slice' ho
    have HB := Lib.hid hB
    have HO := Lib.hid ho
    have HKo2 := Lib.hid hbo
    have HKw := Lib.hid (HKr.out.below hB (by have := HZ1.out; omega))
    have HBw := Lib.hid (HB2.out.trans (hB.mono (by have := HZ1.out; omega)))
    have cO := hbo.cell 0
    have fO := hbo.frozen 0
    have hBl := hbo.lt
    clear hB ho hbo
    by_cases hlt : k < n
    · obtain ⟨x, rfl, hxb, hxc⟩ := (HR.out.below HBw.out) k (by rw [HN.out]; exact hlt)
      obtain ⟨s, hs⟩ : ∃ s, ns[k]'(by rw [HN.out]; exact hlt) = s := ⟨_, rfl⟩
      rw [hs] at hxc
      have HC := Lib.hid (fun W => clean_any s (HS.out s (by rw [← hs]; exact List.getElem_mem _)) W)
      have HSk := Lib.hid (show ns[k]? = some s by rw [List.getElem?_eq_getElem (by rw [HN.out]; exact hlt), hs])
      obtain ⟨t, ht⟩ : ∃ t, cleanS s = t := ⟨_, rfl⟩
      rw [ht] at HC
      have HT := Lib.hid ht
      have hlist : (ns.take (k + 1)).map cleanS = (ns.take k).map cleanS ++ [t] := by
        rw [List.take_add_one, HSk.out, ← HT.out]; simp
      have HLs := Lib.hid hlist
      clear hs hxb ht hlist
      go_wp2_with fail
      go_region_law (first
        | (go_simp; go_at_call 17; refine (HC.out _).mono ?_; rintro e w1 ⟨rfl, hB1⟩; have c1 : w1.cell? ⟨W1.heap.size, 0, none⟩ = some (.slice vb k vc) := (HKo2.out.drew.below hB1 hBl).cell 0; have c1a : (w1.alloc (Obj.cells #[.string t] 9)).cell? ⟨W1.heap.size, 0, none⟩ = some (.slice vb k vc) := ((HKo2.out.drew.below hB1 hBl).alloc _).cell 0)
        | (refine step_append_lies _ (by rfl) _ _ _ (by rfl) W2.heap.size 9 i0 _ 1 16 Tryz.underlying22 hi0 hz0 hz1' hz2' rfl (by omega) (.slice vb k vc) k _ (by rfl) ((rowKept HO.out.drew hB1).alloc _)
            ⟨w1.heap.size, 0, none⟩ 1 1 [.string t] (by rfl) (by rfl) (World.news_of_block (cs := #[.string t]) (t := 9) (fr := (0, 0)) (heap_alloc_new w1 _)) (by simp [Value.oneCell'])
            (by omega) (by unfold maxLen; omega) (by omega) (by have := hB1.size; have e0 : wr.drew.heap.size = wr.heap.size := rfl; have := HB.out.size; simp; omega) (w1.heap.size + 1) (by simp) ?_; intro gg cap w2 hown1 hgrow hat hlt1; have hne : (Value.slice vb k vc).ownBlock ≠ some W1.heap.size := (blk_ne ((rowKept HO.out.drew hB1).alloc (Obj.cells #[.string t] 9)) ((HKo2.out.drew.below hB1 hBl).alloc _) (by decide)); have hB2 := ((HKo2.out.drew.below hB1 hBl).alloc (Obj.cells #[.string t] 9)).grown hgrow (Ne.symm hne); have c2 := hB2.cell 0; have f2 := hB2.frozen 0))
      all_goals
        go_wp2
        have e0 : wr.drew.heap.size = wr.heap.size := rfl
        have s1 := hB1.size
        have hBel : Below W1.heap.size wr w2 := ((((Below.refl W1.heap.size wr).drew.trans (hB1.mono (by omega))).alloc (by omega) (Obj.cells #[.string t] 9))).grown hgrow (by simp; omega) (fun j ej => by have := (HO.out.lt j ej).1; have := HZ1.out; have := HZ2.out; omega)
        have hgg : W2.heap.size ≤ gg := (hown1.lt gg rfl).1
        refine ⟨⟨k + 1, _, by go_num, by rw [HN.out]; omega, hB2.set 0 _, ?_, (HB.out.trans hBel).setCell (p := ⟨W1.heap.size, 0, none⟩) (Nat.le_refl _) _, by rw [World.size_setCell]; exact Nat.le_trans hsz hBel.size⟩, ?_⟩
        · rw [HLs.out]
          unfold StrRow
          rw [List.length_append, List.length_map, List.length_take, HN.out, Nat.min_eq_left hk, List.map_append]
          exact World.ownsRow.kept hown1 (grow_set w2 W1.heap.size 0 _) (.inr (by simp [Value.ownBlock]; have := HZ1.out; have := HZ2.out; omega))
        · simp only [intOf]; omega
    · obtain rfl : k = n := by omega
      have e0 := HKw.out.cell 0
      have f0 := HKw.out.frozen 0
      have HSz := Lib.hid hsz
      go_wp2
      rw [Exit.noGoto_ret]
      refine bodyPost_ret (r_c rfl rfl (aggRes.load rfl (HKw.out.set 0 _))) rfl ⟨_, rfl, ?_, HBw.out.setCell (p := ⟨w.heap.size, 0, none⟩) (Nat.le_refl _) _⟩
      have ho := HO.out
      rw [List.take_of_length_le (by rw [HN.out]; exact Nat.le_refl _)] at ho
      unfold StrRow
      rw [List.length_map, HN.out]
      refine World.ownsRow.kept (ownsRow_mono ho (by have := HZ2.out; omega)) (grow_set wr w.heap.size 0 _) ?_
      by_cases hv : (Value.slice vb k vc).ownBlock = some w.heap.size
      · have := (ho.lt _ hv).1
        have := HZ2.out
        omega
      · exact .inr hv
set_option maxRecDepth 100000 in
set_option maxHeartbeats 8000000 in
theorem joinFirst_any {w : World} {a : Option Addr} {n c : Nat} {ns : List ByteArray} (wt : Value) (hr : RdS w a ns) (hn : ns.length = n) (h0 : 0 < n) (hlim : n ≤ 100000) (hs : ∀ s ∈ ns, s.size ≤ 100000) :
    Calls Tryz.prog 8 #[.int .i64 7, .slice a n c, wt] w fun e w' => OneAt w w' e (cleanS (ns.getD 0 ⟨#[]⟩)) := by
  obtain ⟨W1, hW1⟩ : ∃ W1, w.alloc (.cells #[.slice none 0 0] 27) = W1 := ⟨_, rfl⟩
  have hB1 : Below w.heap.size w W1 := by rw [← hW1]; exact (Below.refl _ w).alloc (Nat.le_refl _) _
  have HK1 := Lib.hid (show BlkAt W1 w.heap.size 27 #[.slice none 0 0] by rw [← hW1]; exact BlkAt.new w _ _)
  obtain ⟨x, rfl, hxb, hxc⟩ := (hr.below hB1) 0 (by omega)
  obtain ⟨s, hs0⟩ : ∃ s, ns[0]'(by omega) = s := ⟨_, rfl⟩
  rw [hs0] at hxc
  have HC := Lib.hid (fun W => clean_any s (hs s (by rw [← hs0]; exact List.getElem_mem _)) W)
  rw [show ns.getD 0 ⟨#[]⟩ = s by rw [List.getD, List.getElem?_eq_getElem (by omega), hs0]; rfl]
  have h0I : (0 : Int) < (n : Int) := by omega
  have hnz : ((n : Int) == 0) = false := beq_eq_false_iff_ne.2 (by omega)
  have hxc0 : W1.cell? x = some (.string s) := by rwa [addr_zero] at hxc
  have HB1 := Lib.hid hB1
  clear hr hs hs0 hxb hB1 hxc
  go_enter Tryz.func8, Tryz.ntmps8
  go_wp2
  go_step3
  go_wp2_with (first
    | (go_at_call 17; refine (HC.out _).mono ?_; clear HC; rintro e w3 ⟨rfl, hB3⟩; have HK3 := Lib.hid (HK1.out.below hB3 HK1.out.lt); have HB3 := Lib.hid (HB1.out.trans (hB3.mono HB1.out.size)); clear hB3)
    | (go_at_call 18; refine (one_any _ _).mono ?_; rintro e w5 ⟨g5, rfl, hb5, hg5, hB5⟩; have HB5 := Lib.hid hB5; have HG5 := Lib.hid hb5; have HL5 := Lib.hid hg5; have kR := HK3.out.below hB5 HK3.out.lt; have e0 := kR.cell 0; have f0 := kR.frozen 0; have HKR := Lib.hid kR; clear hb5 hg5 hB5 kR))
  rw [Exit.noGoto_ret]
  exact bodyPost_ret (r_c rfl rfl (aggRes.load rfl (HKR.out.set 0 _))) rfl (one_end HB3.out HB5.out HG5.out HL5.out HK3.out.lt)
set_option maxRecDepth 100000 in
set_option maxHeartbeats 8000000 in
theorem joinLast_any {w : World} {a : Option Addr} {n c : Nat} {ns : List ByteArray} (wt : Value) (hr : RdS w a ns) (hn : ns.length = n) (h0 : 0 < n) (hlim : n ≤ 100000) (hs : ∀ s ∈ ns, s.size ≤ 100000) :
    Calls Tryz.prog 8 #[.int .i64 9, .slice a n c, wt] w fun e w' => OneAt w w' e (cleanS (ns.getD (n - 1) ⟨#[]⟩)) := by
  obtain ⟨W1, hW1⟩ : ∃ W1, w.alloc (.cells #[.slice none 0 0] 27) = W1 := ⟨_, rfl⟩
  have hB1 : Below w.heap.size w W1 := by rw [← hW1]; exact (Below.refl _ w).alloc (Nat.le_refl _) _
  have HK1 := Lib.hid (show BlkAt W1 w.heap.size 27 #[.slice none 0 0] by rw [← hW1]; exact BlkAt.new w _ _)
  obtain ⟨x, rfl, hxb, hxc⟩ := (hr.below hB1) (n - 1) (by omega)
  obtain ⟨s, hs0⟩ : ∃ s, ns[n - 1]'(by omega) = s := ⟨_, rfl⟩
  rw [hs0] at hxc
  have HC := Lib.hid (fun W => clean_any s (hs s (by rw [← hs0]; exact List.getElem_mem _)) W)
  rw [show ns.getD (n - 1) ⟨#[]⟩ = s by rw [List.getD, List.getElem?_eq_getElem (by omega), hs0]; rfl]
  have h0I : (0 : Int) < (n : Int) := by omega
  have hnz : ((n : Int) == 0) = false := beq_eq_false_iff_ne.2 (by omega)
  obtain ⟨j, hj⟩ : ∃ j, n - 1 = j := ⟨_, rfl⟩
  rw [hj] at hxc
  have hjn : n = j + 1 := by omega
  have hjI : (n : Int) - 1 = (j : Int) := by omega
  have hjl : j < n := by omega
  have hxc0 := hxc
  clear hjn
  have HB1 := Lib.hid hB1
  clear hr hs hs0 hxb hB1 hxc
  go_enter Tryz.func8, Tryz.ntmps8
  go_wp2
  go_step3
  go_wp2_with (first
    | (go_at_call 17; refine (HC.out _).mono ?_; clear HC; rintro e w3 ⟨rfl, hB3⟩; have HK3 := Lib.hid (HK1.out.below hB3 HK1.out.lt); have HB3 := Lib.hid (HB1.out.trans (hB3.mono HB1.out.size)); clear hB3)
    | (go_at_call 18; refine (one_any _ _).mono ?_; rintro e w5 ⟨g5, rfl, hb5, hg5, hB5⟩; have HB5 := Lib.hid hB5; have HG5 := Lib.hid hb5; have HL5 := Lib.hid hg5; have kR := HK3.out.below hB5 HK3.out.lt; have e0 := kR.cell 0; have f0 := kR.frozen 0; have HKR := Lib.hid kR; clear hb5 hg5 hB5 kR))
  rw [Exit.noGoto_ret]
  exact bodyPost_ret (r_c rfl rfl (aggRes.load rfl (HKR.out.set 0 _))) rfl (one_end HB3.out HB5.out HG5.out HL5.out HK3.out.lt)
end Go.Proofs.YtjcpfmndkeiegaaGreatDoor
