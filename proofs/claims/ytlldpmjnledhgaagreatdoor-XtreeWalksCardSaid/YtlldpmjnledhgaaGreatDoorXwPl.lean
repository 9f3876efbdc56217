/- The walks of slices.IndexFunc and DeleteFunc at a test that may strike; of a document's Kids at any name. The walks of hornbeambook's Room and SameInts, and of a document's Attr. A document's Kids at no element; Room over four sizes. The walk of a document's Attr. Plain words for the law XtreeWalks: how a depth is reckoned, what is told of an element. No program in sight. The walk of the law's own word valid. What a document tells at each place e: attribute, kids, depth, what is in it: the contracts for the law XtreeWalks' loop. -/
import Derived.Test.YtlldpmjnledhgaaGreatDoorXtFR
import Derived.Lib.SliceRun
import Derived.Lib.LazyBuf
import Derived.Test.YtlldpmjnledhgaaGreatDoorXtG
import Derived.BigQuiet
import Derived.Test.YtlldpmjnledhgaaGreatDoorXtIK
import Derived.Deep.DeepCutAuto
import Derived.Test.YtlldpmjnledhgaaGreatDoorXwIt
import Derived.Test.YtlldpmjnledhgaaGreatDoorXtH
namespace Go.Proofs.YtlldpmjnledhgaaGreatDoor
open Go.RowKit
set_option linter.unusedVariables false

/-- A call of the kids' test at a kid. -/
abbrev KidF (Bn Bd : Nat) (k : Nat) (b : Bool) (X : World) : Prop := Calls Tryz.prog 26 #[.int .i64 (k : Nat), .pointer (some ⟨Bn, 0, none⟩), .pointer (some ⟨Bd, 0, none⟩)] X fun e W' => e = .returned (.bool b) ∧ ∃ q, W' = X.drewN q
theorem below_drewM (B : Nat) (w : World) (q : Nat) : Below B w (w.drewN q) := ⟨rfl, rfl, rfl, Nat.le_refl _, fun _ _ => rfl⟩

set_option maxRecDepth 100000 in
set_option maxHeartbeats 4000000 in
/-- IndexFunc: the first that is struck. -/
theorem index_some {W : World} {v : Value} {l : List Nat} {Bn Bd : Nat} (h : IntRd W v (l.map fun (k : Nat) => (k : Int))) (hl : l.length ≤ 1000000) {strike : Nat → Bool} {i0 x0 : Nat} (hi0 : l[i0]? = some x0) (hx0 : strike x0 = true) (hb : ∀ (j x : Nat), j < i0 → l[j]? = some x → strike x = false)
    (hF : ∀ k ∈ l, ∀ p, KidF Bn Bd k (strike k) (W.drewN p)) :
    Calls Tryz.prog 38 #[v, .func (.func 26) #[] #[.pointer (some ⟨Bn, 0, none⟩), .pointer (some ⟨Bd, 0, none⟩)]] W fun e W' => e = .returned (.int .i64 (i0 : Nat)) ∧ ∃ q, W' = W.drewN q := by
  obtain ⟨a, c, rfl, h2⟩ := h
  obtain ⟨n, hnn⟩ : ∃ n, l.length = n := ⟨_, rfl⟩
  have hnm : (l.map fun (k : Nat) => (k : Int)).length = n := by rw [List.length_map]; exact hnn
  have hi0n : i0 < n := by rw [← hnn]; exact (List.getElem?_eq_some_iff.1 hi0).1
  rw [hnm]
  have H2 := Lib.hid h2
  have HF := Lib.hid hF
  have HN := Lib.hid hnn
  have HNM := Lib.hid hnm
  have HI0 := Lib.hid hi0
  have HX0 := Lib.hid hx0
  have HBf := Lib.hid hb
  rw [hnn] at hl
  clear h2 hF hnn hnm hi0 hx0 hb
  go_enter Tryz.func38, Tryz.ntmps38
  go_wp2
  go_loopw [8] (fun x V => ∃ i : Nat, x = .int .i64 (i : Nat) ∧ i ≤ i0 ∧ ∃ q, V = W.drewN q) (fun x V => n - (intOf x).toNat)
  case atStart => exact ⟨0, rfl, Nat.zero_le _, 0, rfl⟩
  case round =>
    obtain ⟨i, rfl, hi, q, rfl⟩ := hrel
    have hlt : i < n := by omega
    obtain ⟨b, o, rfl, _, g⟩ := H2.out (fun h0 => by have h1 := HNM.out; rw [h0] at h1; have h3 : (0 : Nat) = n := h1; omega)
    obtain ⟨k, hk⟩ : ∃ k, l[i]? = some k := ⟨_, List.getElem?_eq_getElem (by rw [HN.out]; exact hlt)⟩
    have hc : (W.drewN q).cell? ⟨b, o + i, none⟩ = some (.int .i64 (k : Nat)) := (g i (by rw [HNM.out]; exact hlt)).trans (by rw [List.getD_eq_getElem?_getD, List.getElem?_map, hk]; rfl)
    have hK := HF.out k (List.mem_of_getElem? hk) q
    by_cases hii : i = i0
    · subst hii
      have hkx : k = x0 := by have := HI0.out; rw [hk] at this; exact Option.some.inj this
      subst hkx
      rw [HX0.out] at hK
      have HK := Lib.hid hK
      clear g hk hK
      go_wp2_with (go_at_call 26; refine HK.out.mono ?_; rintro _ w2 ⟨rfl, q2, rfl⟩)
      go_ret
      exact ⟨rfl, _, rfl⟩
    · rw [HBf.out i k (by omega) hk] at hK
      have HK := Lib.hid hK
      clear g hk hK
      go_wp2_with (go_at_call 26; refine HK.out.mono ?_; rintro _ w2 ⟨rfl, q2, rfl⟩)
      go_roundw
      case rel => exact ⟨i + 1, rfl, by omega, _, rfl⟩
      case measure => simp [intOf]; omega

/-- What the loop of DeleteFunc has done. -/
structure Struck (gg n : Nat) (l : List Nat) (strike : Nat → Bool) (W : World) (i j : Nat) (wr : World) (cur : Array Value) : Prop where
  blk : BlkAt wr gg 3 cur
  size : n ≤ cur.size
  lt : i < j
  le : j ≤ n
  num : i = ((l.take j).filter fun x => !strike x).length
  kept : ∀ (k x : Nat), ((l.take j).filter fun x => !strike x)[k]? = some x → cur[k]? = some (Value.int .i64 (x : Nat))
  rest : ∀ (k x : Nat), j ≤ k → l[k]? = some x → cur[k]? = some (Value.int .i64 (x : Nat))
  below : Below gg W wr
theorem filter_take {l : List Nat} {P : Nat → Bool} {j x : Nat} (hx : l[j]? = some x) : (l.take (j + 1)).filter P = (l.take j).filter P ++ if P x then [x] else [] := by
  rw [List.take_add_one, hx, List.filter_append]
  simp only [Option.toList]
  cases h : P x <;> simp [h]
theorem Struck.skip {gg n i j : Nat} {l : List Nat} {strike : Nat → Bool} {W wr : World} {cur : Array Value} (h : Struck gg n l strike W i j wr cur) {x : Nat} (hx : l[j]? = some x) (hs : strike x = true) (hj : j < n) (q : Nat) : Struck gg n l strike W i (j + 1) (wr.drewN q) cur := by
  have e := filter_take (P := fun x => !strike x) hx
  rw [hs] at e
  simp only [Bool.not_true, Bool.false_eq_true, if_false, List.append_nil] at e
  exact ⟨h.blk.drewN q, h.size, by have := h.lt; omega, hj, by rw [e]; exact h.num, by rw [e]; exact h.kept, fun k y hk hy => h.rest k y (by omega) hy, h.below.trans (below_drewM _ _ _)⟩
theorem Struck.keep {gg n i j : Nat} {l : List Nat} {strike : Nat → Bool} {W wr : World} {cur : Array Value} (h : Struck gg n l strike W i j wr cur) {x : Nat} (hx : l[j]? = some x) (hs : strike x = false) (hj : j < n) (q : Nat) :
    Struck gg n l strike W (i + 1) (j + 1) ((wr.drewN q).setCell ⟨gg, i, none⟩ (.int .i64 (x : Nat))) (cur.setIfInBounds i (.int .i64 (x : Nat))) := by
  have e := filter_take (P := fun x => !strike x) hx
  rw [hs] at e
  simp only [Bool.not_false, if_true] at e
  have hlt := h.lt
  have hsz := h.size
  refine ⟨(h.blk.drewN q).set i _, by simpa using hsz, by omega, hj, by rw [e, List.length_append, ← h.num]; rfl, fun k y hy => ?_, fun k y hk hy => ?_, ?_⟩
  · rw [e] at hy
    by_cases hki : k = i
    · subst hki
      rw [List.getElem?_append_right (by rw [← h.num]; exact Nat.le_refl _), ← h.num, Nat.sub_self] at hy
      cases hy
      rw [Array.getElem?_setIfInBounds_self_of_lt (by omega)]
    · have hkl : k < ((l.take j).filter fun x => !strike x).length := by
        have := (List.getElem?_eq_some_iff.1 hy).1
        rw [List.length_append] at this
        have h2 := h.num
        simp only [List.length_cons, List.length_nil] at this
        omega
      rw [List.getElem?_append_left hkl] at hy
      rw [Array.getElem?_setIfInBounds_ne (by omega)]
      exact h.kept k y hy
  · rw [Array.getElem?_setIfInBounds_ne (by omega)]
    exact h.rest k y (by omega) hy
  · exact (h.below.trans (below_drewM _ _ _)).setCell (Nat.le_refl _) _

set_option maxRecDepth 100000 in
set_option maxHeartbeats 8000000 in
/-- DeleteFunc: those that are not struck. -/
theorem delete_some {W : World} {gg n c : Nat} {l : List Nat} {Bn Bd : Nat} {cur : Array Value} (hn : l.length = n) (hl : n ≤ 1000000) (hnc : n ≤ c) (hblk : BlkAt W gg 3 cur) (hcap : n ≤ cur.size) (hcur : ∀ (k x : Nat), l[k]? = some x → cur[k]? = some (Value.int .i64 (x : Nat)))
    {strike : Nat → Bool} {i0 x0 : Nat} (hi0 : l[i0]? = some x0) (hx0 : strike x0 = true) (hb : ∀ (j x : Nat), j < i0 → l[j]? = some x → strike x = false)
    (hF : ∀ k ∈ l, ∀ X, Below gg W X → KidF Bn Bd k (strike k) X) :
    Calls Tryz.prog 24 #[.slice (some ⟨gg, 0, none⟩) n c, .func (.func 26) #[] #[.pointer (some ⟨Bn, 0, none⟩), .pointer (some ⟨Bd, 0, none⟩)]] W fun e W' =>
      ∃ i, e = .returned (.slice (some ⟨gg, 0, none⟩) i c) ∧ i = (l.filter fun x => !strike x).length ∧ (∀ (k x : Nat), (l.filter fun x => !strike x)[k]? = some x → W'.cell? ⟨gg, k, none⟩ = some (.int .i64 (x : Nat))) ∧ Below gg W W' := by
  have hi0n : i0 < n := by rw [← hn]; exact (List.getElem?_eq_some_iff.1 hi0).1
  have hgl := hblk.lt
  have hRd : IntRd W (.slice (some ⟨gg, 0, none⟩) n c) (l.map fun (k : Nat) => (k : Int)) := by
    refine ⟨_, _, by rw [List.length_map, hn], fun _ => ⟨gg, 0, rfl, hgl, fun j hj => ?_⟩⟩
    rw [List.length_map] at hj
    rw [Nat.zero_add, hblk.cell j, hcur j _ (List.getElem?_eq_getElem hj), List.getD_eq_getElem?_getD, List.getElem?_map, List.getElem?_eq_getElem hj]
    rfl
  have HI := Lib.hid (index_some hRd (by omega) hi0 hx0 hb (fun k hk p => hF k hk _ (below_drewM _ _ _)))
  have hst : ∀ q, Struck gg n l strike W i0 (i0 + 1) (W.drewN q) cur := fun q => by
    have e0 : (l.take i0).filter (fun x => !strike x) = l.take i0 := List.filter_eq_self.2 fun a ha => by
      obtain ⟨j, hj⟩ := List.mem_iff_getElem?.1 ha
      have hji : j < i0 := by have := (List.getElem?_eq_some_iff.1 hj).1; rw [List.length_take] at this; omega
      rw [List.getElem?_take_of_lt hji] at hj
      rw [hb j a hji hj]; rfl
    have e := filter_take (P := fun x => !strike x) hi0
    rw [hx0, e0] at e
    simp only [Bool.not_true, Bool.false_eq_true, if_false, List.append_nil] at e
    refine ⟨hblk.drewN q, hcap, by omega, hi0n, by rw [e, List.length_take]; omega, fun k x hk => ?_, fun k x _ hx => hcur k x hx, below_drewM _ _ _⟩
    rw [e] at hk
    have hki : k < i0 := by have := (List.getElem?_eq_some_iff.1 hk).1; rw [List.length_take] at this; omega
    rw [List.getElem?_take_of_lt hki] at hk
    exact hcur k x hk
  have HST := Lib.hid hst
  have HF := Lib.hid hF
  have HN := Lib.hid hn
  have hne1 : (((i0 : Nat) : Int) == -1) = false := beq_eq_false_iff_ne.2 (by omega)
  clear hRd hst hF hcur hb hx0 hi0 hblk hcap hn
  go_enter Tryz.func24, Tryz.ntmps24
  go_wp2_with (go_at_call 38; refine HI.out.mono ?_; rintro _ w2 ⟨rfl, q2, rfl⟩)
  go_loopw [5, 6] (fun p q wr => ∃ (i j : Nat) (cur : Array Value), p = .int .i64 (i : Nat) ∧ q = .int .i64 (j : Nat) ∧ Struck gg n l strike W i j wr cur) (fun p q wr => n - (intOf q).toNat)
  case atStart => exact ⟨i0, i0 + 1, cur, rfl, by go_num, HST.out q2⟩
  case round =>
    obtain ⟨i, j, cu, rfl, rfl, hS⟩ := hrel
    have hij := hS.lt
    have hjn := hS.le
    by_cases hlt : j < n
    · obtain ⟨x, hx⟩ : ∃ x, l[j]? = some x := ⟨_, List.getElem?_eq_getElem (by rw [HN.out]; exact hlt)⟩
      have hc : wr.cell? ⟨gg, j, none⟩ = some (.int .i64 (x : Nat)) := (hS.blk.cell j).trans (hS.rest j x (Nat.le_refl _) hx)
      have hK := HF.out x (List.mem_of_getElem? hx) wr hS.below
      cases hs : strike x with
      | true =>
        rw [hs] at hK
        have HK := Lib.hid hK
        have HS2 := Lib.hid (fun q => hS.skip hx hs hlt q)
        clear hS hK hx hs
        go_wp2_with (go_at_call 26; refine HK.out.mono ?_; rintro _ w3 ⟨rfl, q3, rfl⟩)
        go_roundw
        case rel => exact ⟨i, j + 1, cu, rfl, by go_num, HS2.out q3⟩
        case measure => simp [intOf]; omega
      | false =>
        rw [hs] at hK
        have HK := Lib.hid hK
        have HS2 := Lib.hid (fun q => hS.keep hx hs hlt q)
        have hsz := hS.size
        have hin : i < n := by omega
        obtain ⟨ov, hov⟩ : ∃ ov, cu[i]? = some ov := ⟨_, Array.getElem?_eq_getElem (by omega)⟩
        have HCI := Lib.hid (fun q => show (wr.drewN q).cell? ⟨gg, i, none⟩ = some ov ∧ (wr.drewN q).frozen? ⟨gg, i, none⟩ = false from ⟨((hS.blk.drewN q).cell i).trans hov, (hS.blk.drewN q).frozen i⟩)
        clear hS hK hx hs hov
        go_wp2_with (go_at_call 26; refine HK.out.mono ?_; rintro _ w3 ⟨rfl, q3, rfl⟩; obtain ⟨m1, m2⟩ := HCI.out q3)
        go_roundw
        case rel => exact ⟨i + 1, j + 1, _, by go_num, by go_num, HS2.out q3⟩
        case measure => simp [intOf]; omega
    · obtain rfl : j = n := by omega
      have HS := Lib.hid hS
      have hmin : 0 < j - i := by omega
      obtain ⟨W9, hW9⟩ : ∃ W9, wr.setCells gg i (List.replicate (j - i) (.int .i64 0)) = W9 := ⟨_, rfl⟩
      have hrun := Lib.run_clear_slice (P := Tryz.prog) wr 32 3 0 (.int .i64 0) Tryz.underlying32 (fun w => by kernel_rfl) rfl rfl gg i (j - i) (c - i) hmin (fun k hk => by rw [hS.blk.cell]; have := hS.size; rw [Array.getElem?_eq_getElem (by omega)]; rfl) (fun k hk => hS.blk.frozen _)
      rw [hW9] at hrun
      have hic : i ≤ c := by omega
      clear hS
      go_wp2
      go_ret
      have hS := HS.out
      have hnum := hS.num
      rw [List.take_of_length_le (by rw [HN.out]; exact Nat.le_refl _)] at hnum
      refine ⟨i, rfl, hnum, fun k x hk => ?_, ?_⟩
      · have hki : k < i := by rw [hnum]; exact (List.getElem?_eq_some_iff.1 hk).1
        rw [← hW9, World.cell?_setCells_out gg _ i wr ⟨gg, k, none⟩ (fun _ _ => .inl hki), hS.blk.cell]
        exact hS.kept k x (by rw [List.take_of_length_le (by rw [HN.out]; exact Nat.le_refl _)]; exact hk)
      · rw [← hW9]
        exact below_setCells (Nat.le_refl _) _ _ _ hS.below

set_option maxRecDepth 100000 in
set_option maxHeartbeats 4000000 in
/-- A kid that is struck. -/
theorem kid1_struck {W : World} {Bn Bd g o n c k : Nat} {nm en : ByteArray} (h1 : W.cell? ⟨Bn, 0, none⟩ = some (.string nm)) (h2 : W.cell? ⟨Bd, 0, none⟩ = some (.slice (some ⟨g, o, none⟩) n c)) (hk : k < n) (h3 : W.cell? ⟨g, o + k * 6, none⟩ = some (.string en)) (hn : nm ≠ ⟨#[]⟩) (hne : en ≠ nm) (hb : n ≤ 1000000) : KidF Bn Bd k true W := by
  have q1 : (0 : Int) ≤ (k : Int) := by omega
  have q2 : (k : Int) < (n : Int) := by omega
  have E1 : nm.toList.isEmpty = false := by
    rw [ByteArray.toList_eq, List.isEmpty_eq_false_iff]
    exact fun h => hn (ByteArray.ext (Array.toList_inj.1 h))
  have E2 : (en.toList == nm.toList) = false := beq_eq_false_iff_ne.2 fun e => hne (by
    rw [ByteArray.toList_eq, ByteArray.toList_eq] at e
    exact ByteArray.ext (Array.toList_inj.1 e))
  clear hn hne
  unfold KidF
  go_enter Tryz.func26, Tryz.ntmps26
  go_wp2
  go_quiet (fail)
  go_wp2
  go_ret
  exact ⟨by simp, _, rfl⟩
/-- Clone of a slice of ints that is not empty: a block of its own. -/
theorem clone_own {W : World} {v : Value} {l : List Int} (h : IntRd W v l) (hl : l.length ≤ 1000000) (h0 : l ≠ []) :
    Calls Tryz.prog 25 #[v] W fun e W' => ∃ gg cap cur, e = .returned (.slice (some ⟨gg, 0, none⟩) l.length cap) ∧ W.heap.size ≤ gg ∧ BlkAt W' gg 3 cur ∧ l.length ≤ cap ∧ l.length ≤ cur.size ∧ (∀ (k : Nat) (x : Int), l[k]? = some x → cur[k]? = some (Value.int .i64 x)) ∧ Below W.heap.size W W' := by
  obtain ⟨a, c, rfl, h2⟩ := h
  obtain ⟨b, o, rfl, _, g⟩ := h2 h0
  refine (Tryz.slices_Clone_int b o l.length c l W (Nat.le_refl _) (by omega) g).mono ?_
  rintro e W' ⟨v', h1, h3, _, h4⟩
  rw [List.take_length] at h3
  rcases h3.2 with ⟨k1, k2⟩ | ⟨gg, cap, cur, k1, k2, k3, k4, k5, k6, k7⟩
  · exact absurd (List.length_eq_zero_iff.1 k2) h0
  · subst k1
    refine ⟨gg, cap, cur, h1, k2, k3, k4, by omega, fun k x hx => ?_, h4⟩
    have hkl := (List.getElem?_eq_some_iff.1 hx).1
    have hc := World.ownsRow.cellAt h3 k (by omega)
    rw [cell_of_row W' gg k cur 3 (0, 0) k3] at hc
    rw [hc, List.getElem?_map, hx]
    rfl
theorem first_struck {P : Nat → Bool} : ∀ {l : List Nat}, (∃ x ∈ l, P x = true) → ∃ i x, l[i]? = some x ∧ P x = true ∧ ∀ (j y : Nat), j < i → l[j]? = some y → P y = false
  | [], h => by obtain ⟨x, hx, _⟩ := h; cases hx
  | a :: t, h => by
    cases ha : P a with
    | true => exact ⟨0, a, rfl, ha, fun j y hj => by omega⟩
    | false =>
      obtain ⟨x, hx, hp⟩ := h
      have ht : ∃ x ∈ t, P x = true := by
        rcases List.mem_cons.1 hx with rfl | hx
        · rw [ha] at hp; cases hp
        · exact ⟨x, hx, hp⟩
      obtain ⟨i, y, h1, h2, h3⟩ := first_struck ht
      refine ⟨i + 1, y, h1, h2, fun j z hj hz => ?_⟩
      cases j with
      | zero => cases hz; exact ha
      | succ j => exact h3 j z (by omega) hz

set_option maxRecDepth 100000 in
set_option maxHeartbeats 8000000 in
/-- Kids where some kid is struck. -/
theorem kids_some {W : World} {ev : Value} {ys : List YE} {ks : List (List Int)} (h : DocAt W ev ys) (hn : ys.length ≤ 1000000) (hkl : ks.length = ys.length) (hkk : ∀ (i : Nat) (y : YE), ys[i]? = some y → ∃ k, ks[i]? = some k ∧ k.length ≤ 1000000 ∧ IntRd W (.slice y.kb y.kn y.kc) k)
    (hv : validX (ys.map (·.up)) ks = true) {e : Nat} (he : e < ys.length) {l : List Nat} (hl : ks[e]? = some (l.map fun (k : Nat) => (k : Int))) {nm : ByteArray} (hnm : nm ≠ ⟨#[]⟩) {strike : Nat → Bool} (hk : ∀ k ∈ l, ∃ y, ys[k]? = some y ∧ (strike k = false → y.nm = nm) ∧ (strike k = true → y.nm ≠ nm)) (hs : ∃ x ∈ l, strike x = true) :
    Calls Tryz.prog 9 #[.agg #[ev], .int .i64 (e : Nat), .string nm] W fun en W' => ∃ v, en = .returned v ∧ IntRd W' v ((l.filter fun x => !strike x).map fun (k : Nat) => (k : Int)) ∧ Below W.heap.size W W' := by
  have HDOC := Lib.hid h
  obtain ⟨a, c, rfl, h2⟩ := h
  obtain ⟨n, hnn⟩ : ∃ n, ys.length = n := ⟨_, rfl⟩
  have hys : ys ≠ [] := fun e0 => by rw [e0] at he; simp at he
  obtain ⟨g, o, rfl, hg, hc⟩ := h2 hys
  obtain ⟨y, hy⟩ : ∃ y, ys[e]? = some y := ⟨_, List.getElem?_eq_getElem he⟩
  obtain ⟨p0, p1, p2, p3, p4, p5⟩ := DocAt.six hc hy
  obtain ⟨k0, hk0, hk1, hk2⟩ := hkk e y hy
  rw [hl] at hk0
  obtain rfl := Option.some.inj hk0
  have hne : (l.map fun (k : Nat) => (k : Int)) ≠ [] := by
    obtain ⟨x, hx, _⟩ := hs
    intro e0
    rw [List.map_eq_nil_iff.1 e0] at hx
    cases hx
  obtain ⟨i0, x0, hi0, hx0, hbf⟩ := first_struck hs
  have HN := Lib.hid hnn
  have HKK := Lib.hid (show ∀ X, Below W.heap.size W X → ∀ (i : Nat) (y : YE), ys[i]? = some y → ∃ k, ks[i]? = some k ∧ k.length ≤ 1000000 ∧ IntRd X (.slice y.kb y.kn y.kc) k from fun X hX i y hy => by
    obtain ⟨k, k1, k2, k3⟩ := hkk i y hy
    exact ⟨k, k1, k2, k3.below hX⟩)
  have HIS := Lib.hid (show ∀ X : World, Calls Tryz.prog 22 #[.agg #[.slice (some ⟨g, o, none⟩) n c], .int .i64 (e : Nat)] X fun en W' => en = .returned (.bool true) ∧ Below X.heap.size X W' from fun X => by
    have := is_any (some ⟨g, o, none⟩) n c (e : Nat) X
    rwa [decide_eq_true (show (0 : Int) ≤ (e : Nat) ∧ ((e : Nat) : Int) < (n : Nat) from ⟨by omega, by omega⟩)] at this)
  have HVA := Lib.hid (show ∀ X : World, Below W.heap.size W X → Calls Tryz.prog 13 #[.agg #[.slice (some ⟨g, o, none⟩) n c]] X fun en W' => en = .returned (.bool true) ∧ Below X.heap.size X W' from fun X hX => by
    have h1 := valid_any (HDOC.out.below hX) hn hkl (HKK.out X hX)
    rwa [HN.out, hv] at h1)
  rw [hnn] at he hn ⊢
  have q1 : (0 : Int) ≤ (e : Int) := by omega
  have q2 : (e : Int) < (n : Int) := by omega
  have HP4 := Lib.hid p4
  have HC := Lib.hid hc
  have HK2 := Lib.hid hk2
  have HKM := Lib.hid hk
  have HI0 := Lib.hid hi0
  have HX0 := Lib.hid hx0
  have HBF := Lib.hid hbf
  have HNE := Lib.hid hne
  obtain ⟨W1, hW1⟩ : ∃ W1, (W.alloc (.cells #[.slice (some ⟨g, o, none⟩) n c] 25)).alloc (.cells #[.string nm] 9) = W1 := ⟨_, rfl⟩
  have HW1 := Lib.hid hW1
  have HZ1 := Lib.hid (show W.heap.size + 2 = W1.heap.size by rw [← hW1]; simp)
  have HB1 := Lib.hid (show Below W.heap.size W W1 by rw [← hW1]; exact ((Below.refl _ W).alloc (Nat.le_refl _) _).alloc (by simp) _)
  have HBD := Lib.hid (show BlkAt W1 W.heap.size 25 #[.slice (some ⟨g, o, none⟩) n c] by rw [← hW1]; exact (BlkAt.new _ _ _).alloc _)
  have HBN := Lib.hid (show BlkAt W1 (W.heap.size + 1) 9 #[.string nm] by rw [← hW1]; have := BlkAt.new (W.alloc (.cells #[.slice (some ⟨g, o, none⟩) n c] 25)) 9 #[.string nm]; simpa using this)
  have hd1 := HBD.out.cell 0
  have hmf : ∀ (fn : Fn) (first cap : Array Value) (w : World), (Instr.makeFunc fn first cap).run Tryz.prog w = .ok (.func fn first cap) w := fun _ _ _ _ => rfl
  have HL1 := Lib.hid hk1
  clear hW1 p0 p1 p2 p3 p4 p5 hc hk2 hk hkk hkl hk1 hl hv hy hs hi0 hx0 hbf hne
  go_enter Tryz.func9, Tryz.ntmps9
  go_wp2_with (first
    | (go_at_call 22; rw [HW1.out]; refine (HIS.out _).mono ?_; rintro _ w2 ⟨rfl, hB2⟩; have hB2' := HB1.out.trans (hB2.mono HB1.out.size); have HB2 := Lib.hid hB2'; have HS2 := Lib.hid hB2.size; have HBD2 := Lib.hid (HBD.out.below hB2 HBD.out.lt); have HBN2 := Lib.hid (HBN.out.below hB2 HBN.out.lt); have hd2 := HBD2.out.cell 0)
    | (go_at_call 13; refine (HVA.out _ HB2.out).mono ?_; rintro _ w3 ⟨rfl, hB3⟩; have HB3 := Lib.hid (HB2.out.trans (hB3.mono HB2.out.size)); have HS3 := Lib.hid hB3.size; have HBD3 := Lib.hid (HBD2.out.below hB3 HBD2.out.lt); have HBN3 := Lib.hid (HBN2.out.below hB3 HBN2.out.lt); have hd3 := HBD3.out.cell 0; have k3 := (HB3.out.cell (p := ⟨g, o + e * 6 + 4, none⟩) hg).trans HP4.out)
    | (go_at_call 25; refine (clone_own (HK2.out.below HB3.out) HL1.out HNE.out).mono ?_; rintro _ w4 ⟨gg, cap, cur, rfl, hgg, hblk, hcap, hsz, hcur, hB4⟩; have HB4 := Lib.hid (HB3.out.trans (hB4.mono HB3.out.size)); have HBD4 := Lib.hid (HBD3.out.below hB4 HBD3.out.lt); have HBN4 := Lib.hid (HBN3.out.below hB4 HBN3.out.lt); have hgl : W.heap.size + 2 ≤ gg := Nat.le_trans (Nat.le_of_eq HZ1.out) (Nat.le_trans HS2.out (Nat.le_trans HS3.out hgg)); rw [List.length_map] at hcap hsz; have HBL := Lib.hid hblk; have HCU := Lib.hid hcur; rw [List.length_map]; clear hB4 hblk hcur hgg)
    | (go_at_call 24; refine (delete_some (l := l) (Bn := W.heap.size + 1) (Bd := W.heap.size) rfl (by have := HL1.out; rwa [List.length_map] at this) hcap HBL.out hsz (fun k x hx => HCU.out k _ (by rw [List.getElem?_map, hx]; rfl)) HI0.out HX0.out HBF.out (fun k hk X hX => by
        obtain ⟨z, hz, hz1, hz2⟩ := HKM.out k hk
        have hkn : k < n := by rw [← HN.out]; exact (List.getElem?_eq_some_iff.1 hz).1
        have b1 := (HBN4.out.below hX (by omega)).cell 0
        have b2 := (HBD4.out.below hX (by omega)).cell 0
        have b3 := (hX.cell (p := ⟨g, o + k * 6, none⟩) (by show g < gg; omega)).trans ((HB4.out.cell (p := ⟨g, o + k * 6, none⟩) hg).trans (DocAt.six HC.out hz).1)
        cases hst : strike k with
        | true => exact kid1_struck (g := g) (o := o) (n := n) (c := c) (en := z.nm) b1 b2 hkn b3 hnm (hz2 hst) hn
        | false => exact kid1_any (g := g) (o := o) (n := n) (c := c) (en := z.nm) b1 b2 hkn b3 (.inr (hz1 hst)) hn)).mono ?_; rintro _ w5 ⟨i5, rfl, hi5, hc5, hB5⟩; have HI5 := Lib.hid hi5; have HC5 := Lib.hid hc5; have HB5 := Lib.hid hB5; clear hi5 hc5 hB5))
  go_ret
  refine ⟨.slice (some ⟨gg, 0, none⟩) i5 cap, rfl, ⟨some ⟨gg, 0, none⟩, cap, by rw [List.length_map, ← HI5.out], fun _ => ⟨gg, 0, rfl, Nat.lt_of_lt_of_le HBL.out.lt HB5.out.size, fun j hj => ?_⟩⟩, HB4.out.trans (HB5.out.mono (by omega))⟩
  rw [List.length_map] at hj
  rw [Nat.zero_add, HC5.out j _ (List.getElem?_eq_getElem hj), List.getD_eq_getElem?_getD, List.getElem?_map, List.getElem?_eq_getElem hj]
  rfl
/-- Kids of a name; of all names, if it is empty. -/
theorem kids_all {W : World} {ev : Value} {ys : List YE} {ks : List (List Int)} (h : DocAt W ev ys) (hn : ys.length ≤ 1000000) (hkl : ks.length = ys.length) (hkk : ∀ (i : Nat) (y : YE), ys[i]? = some y → ∃ k, ks[i]? = some k ∧ k.length ≤ 1000000 ∧ IntRd W (.slice y.kb y.kn y.kc) k)
    (hv : validX (ys.map (·.up)) ks = true) {e : Nat} (he : e < ys.length) {l : List Nat} (hl : ks[e]? = some (l.map fun (k : Nat) => (k : Int))) {nm : ByteArray} {keep : Nat → Bool} (hk : ∀ k ∈ l, ∃ y, ys[k]? = some y ∧ (keep k = true ↔ (nm = ⟨#[]⟩ ∨ y.nm = nm))) :
    Calls Tryz.prog 9 #[.agg #[ev], .int .i64 (e : Nat), .string nm] W fun en W' => ∃ v, en = .returned v ∧ IntRd W' v ((l.filter keep).map fun (k : Nat) => (k : Int)) ∧ Below W.heap.size W W' := by
  by_cases hs : ∃ x ∈ l, (!keep x) = true
  · have hnm : nm ≠ ⟨#[]⟩ := fun e0 => by
      obtain ⟨x, hx, hp⟩ := hs
      obtain ⟨y, _, hy⟩ := hk x hx
      rw [hy.2 (.inl e0)] at hp
      cases hp
    have := kids_some h hn hkl hkk hv he hl hnm (strike := fun x => !keep x) (fun k hkm => by
      obtain ⟨y, hy1, hy2⟩ := hk k hkm
      refine ⟨y, hy1, fun h1 => ?_, fun h1 h2 => ?_⟩
      · cases hkk : keep k with
        | true => exact (hy2.1 hkk).resolve_left hnm
        | false => simp [hkk] at h1
      · rw [hy2.2 (.inr h2)] at h1; cases h1) hs
    simpa using this
  · have hall : ∀ k ∈ l, keep k = true := fun k hkm => by
      cases hkk : keep k with
      | true => rfl
      | false => exact absurd ⟨k, hkm, by rw [hkk]; rfl⟩ hs
    rw [List.filter_eq_self.2 hall]
    exact kids_any h hn hkl hkk hv he hl (fun k hkm => by
      obtain ⟨y, hy1, hy2⟩ := hk k hkm
      exact ⟨y, hy1, hy2.1 (hall k hkm)⟩)
end Go.Proofs.YtlldpmjnledhgaaGreatDoor
namespace Go.Proofs.YtlldpmjnledhgaaGreatDoor
open Go.RowKit
set_option linter.unusedVariables false

theorem below_drewN' (B : Nat) (w : World) (q : Nat) : Below B w (w.drewN q) := ⟨rfl, rfl, rfl, Nat.le_refl _, fun _ _ => rfl⟩
/-- How much room is left. -/
def roomX : Int → List Int → Int
  | left, [] => left
  | left, x :: t => if left < 0 ∨ left < x then -1 else roomX (left - x) t
theorem roomX_drop {l : List Int} {i : Nat} {x : Int} (h : l[i]? = some x) (left : Int) : roomX left (l.drop i) = if left < 0 ∨ left < x then -1 else roomX (left - x) (l.drop (i + 1)) := by
  obtain ⟨h1, h2⟩ := List.getElem?_eq_some_iff.1 h
  rw [List.drop_eq_getElem_cons h1, h2, roomX]

set_option maxRecDepth 100000 in
set_option maxHeartbeats 4000000 in
theorem room_any {W : World} {v : Value} {l : List Int} (h : IntRd W v l) (hl : l.length ≤ 1000000) (hx : ∀ x ∈ l, 0 ≤ x ∧ x ≤ 9223372036854775807) (left : Int) (h0 : -1 ≤ left) (h1 : left ≤ 1000000) :
    Calls Tryz.prog 11 #[.int .i64 left, v] W fun e W' => e = .returned (.int .i64 (roomX left l)) ∧ Below W.heap.size W W' := by
  obtain ⟨a, c, rfl, h2⟩ := h
  obtain ⟨n, hnn⟩ : ∃ n, l.length = n := ⟨_, rfl⟩
  have H2 := Lib.hid h2
  have HN := Lib.hid hnn
  have HX := Lib.hid hx
  rw [hnn] at hl ⊢
  clear h2 hnn hx
  go_enter Tryz.func11, Tryz.ntmps11
  go_wp2
  go_loopw [0, 5] (fun p q wr => ∃ (i : Nat) (cur : Int), q = .int .i64 (i : Nat) ∧ p = .int .i64 cur ∧ i ≤ n ∧ -1 ≤ cur ∧ cur ≤ 1000000 ∧ roomX left l = roomX cur (l.drop i) ∧ Below W.heap.size W wr) (fun p q wr => n - (intOf q).toNat)
  case atStart => exact ⟨0, left, rfl, rfl, Nat.zero_le _, h0, h1, rfl, Below.refl _ _⟩
  case round =>
    obtain ⟨i, cur, rfl, rfl, hi, hc1, hc2, hr, hB⟩ := hrel
    have HR := Lib.hid hr
    have HB := Lib.hid hB
    clear hr hB
    by_cases hlt : i < n
    · obtain ⟨x, hx⟩ : ∃ x, l[i]? = some x := ⟨_, List.getElem?_eq_getElem (by rw [HN.out]; exact hlt)⟩
      obtain ⟨b, o, rfl, hb, g⟩ := H2.out (fun h0 => by have h1 := HN.out; rw [h0] at h1; have h3 : (0 : Nat) = n := h1; omega)
      have hc : wr.cell? ⟨b, o + i, none⟩ = some (.int .i64 x) := ((HB.out.cell (p := ⟨b, o + i, none⟩) hb).trans (g i (by rw [HN.out]; exact hlt))).trans (by rw [List.getD_eq_getElem?_getD, hx]; rfl)
      obtain ⟨hx1, hx2⟩ := HX.out x (List.mem_of_getElem? hx)
      have HD := Lib.hid (roomX_drop hx cur)
      clear g hx hb
      by_cases hneg : cur < 0
      · have HF := Lib.hid (show roomX left l = -1 by rw [HR.out, HD.out, if_pos (.inl hneg)])
        go_wp2
        go_ret
        exact ⟨by rw [HF.out]; rfl, HB.out⟩
      · by_cases hbig : cur < x
        · have HF := Lib.hid (show roomX left l = -1 by rw [HR.out, HD.out, if_pos (.inr hbig)])
          go_wp2
          go_ret
          exact ⟨by rw [HF.out]; rfl, HB.out⟩
        · have HF := Lib.hid (show roomX left l = roomX (cur - x) (l.drop (i + 1)) by rw [HR.out, HD.out, if_neg (by omega)])
          go_wp2
          go_roundw
          case rel => exact ⟨i + 1, cur - x, by go_num, by go_num, hlt, by omega, by omega, HF.out, HB.out⟩
          case measure => simp [intOf]; omega
    · obtain rfl : i = n := by omega
      have HF := Lib.hid (show roomX left l = cur by rw [HR.out, List.drop_of_length_le (by rw [HN.out]; exact Nat.le_refl _)]; rfl)
      go_wp2
      go_ret
      exact ⟨by rw [HF.out]; rfl, HB.out⟩

set_option maxRecDepth 100000 in
set_option maxHeartbeats 4000000 in
theorem sameInts_any {W : World} {v u : Value} {l k : List Int} (h : IntRd W v l) (h' : IntRd W u k) (hl : l.length ≤ 1000000) (hk : k.length ≤ 1000000) :
    Calls Tryz.prog 15 #[v, u] W fun e W' => e = .returned (.bool (decide (l = k))) ∧ Below W.heap.size W W' := by
  obtain ⟨a, c, rfl, h2⟩ := h
  obtain ⟨a', c', rfl, h3⟩ := h'
  obtain ⟨n, hnn⟩ : ∃ n, l.length = n := ⟨_, rfl⟩
  obtain ⟨m, hmm⟩ : ∃ m, k.length = m := ⟨_, rfl⟩
  have H2 := Lib.hid h2
  have H3 := Lib.hid h3
  have HN := Lib.hid hnn
  have HM := Lib.hid hmm
  rw [hnn] at hl
  rw [hmm] at hk
  rw [hnn, hmm]
  clear h2 h3 hnn hmm
  by_cases hnm : n = m
  · subst hnm
    go_enter Tryz.func15, Tryz.ntmps15
    go_wp2
    go_loopw [5] (fun q wr => ∃ (i : Nat), q = .int .i64 (i : Nat) ∧ i ≤ n ∧ (∀ j, j < i → l[j]? = k[j]?) ∧ Below W.heap.size W wr) (fun q wr => n - (intOf q).toNat)
    case atStart => exact ⟨0, rfl, Nat.zero_le _, (fun j hj => by omega), Below.refl _ _⟩
    case round =>
      obtain ⟨i, rfl, hi, hr, hB⟩ := hrel
      have HR := Lib.hid hr
      have HB := Lib.hid hB
      clear hr hB
      by_cases hlt : i < n
      · obtain ⟨x, hx⟩ : ∃ x, l[i]? = some x := ⟨_, List.getElem?_eq_getElem (by rw [HN.out]; exact hlt)⟩
        obtain ⟨y, hy⟩ : ∃ y, k[i]? = some y := ⟨_, List.getElem?_eq_getElem (by rw [HM.out]; exact hlt)⟩
        obtain ⟨b, o, rfl, hb, g⟩ := H2.out (fun h0 => by have h1 := HN.out; rw [h0] at h1; have h3 : (0 : Nat) = n := h1; omega)
        obtain ⟨b', o', rfl, hb', g'⟩ := H3.out (fun h0 => by have h1 := HM.out; rw [h0] at h1; have h3 : (0 : Nat) = n := h1; omega)
        have hc : wr.cell? ⟨b, o + i, none⟩ = some (.int .i64 x) := ((HB.out.cell (p := ⟨b, o + i, none⟩) hb).trans (g i (by rw [HN.out]; exact hlt))).trans (by rw [List.getD_eq_getElem?_getD, hx]; rfl)
        have hc' : wr.cell? ⟨b', o' + i, none⟩ = some (.int .i64 y) := ((HB.out.cell (p := ⟨b', o' + i, none⟩) hb').trans (g' i (by rw [HM.out]; exact hlt))).trans (by rw [List.getD_eq_getElem?_getD, hy]; rfl)
        have HX := Lib.hid hx
        have HY := Lib.hid hy
        clear g g' hx hy hb hb'
        have q1 : (0 : Int) ≤ (i : Int) := by omega
        have q2 : (i : Int) < (n : Int) := by omega
        by_cases hxy : x = y
        · subst hxy
          go_wp2
          go_quiet (fail)
          go_wp2
          go_roundw
          case rel => exact ⟨i + 1, by go_num, hlt, (fun j hj => by
            by_cases hji : j = i
            · subst hji; rw [HX.out, HY.out]
            · exact HR.out j (by omega)), HB.out.trans (below_drewN' _ _ _)⟩
          case measure => simp [intOf]; omega
        · have HF := Lib.hid (show decide (l = k) = false from decide_eq_false fun e => hxy (by have h1 := HX.out; rw [e, HY.out] at h1; exact (Option.some.inj h1).symm))
          have hb : ((x : Int) == y) = false := beq_eq_false_iff_ne.2 hxy
          go_wp2
          go_quiet (fail)
          go_wp2
          go_ret
          exact ⟨by rw [HF.out]; rfl, HB.out.trans (below_drewN' _ _ _)⟩
      · obtain rfl : i = n := by omega
        have HF := Lib.hid (show decide (l = k) = true from decide_eq_true (List.ext_getElem? fun j => by
          by_cases hj : j < i
          · exact HR.out j hj
          · rw [List.getElem?_eq_none (by rw [HN.out]; omega), List.getElem?_eq_none (by rw [HM.out]; omega)]))
        go_wp2
        go_ret
        exact ⟨by rw [HF.out]; rfl, HB.out⟩
  · have HF := Lib.hid (show decide (l = k) = false from decide_eq_false fun e => hnm (by rw [← HN.out, ← HM.out, e]))
    go_enter Tryz.func15, Tryz.ntmps15
    go_wp2
    go_ret
    exact ⟨by rw [HF.out]; rfl, Below.refl _ _⟩
end Go.Proofs.YtlldpmjnledhgaaGreatDoor
namespace Go.Proofs.YtlldpmjnledhgaaGreatDoor
open Go.RowKit
set_option linter.unusedVariables false

set_option maxRecDepth 100000 in
set_option maxHeartbeats 4000000 in
/-- Kids at no element: none. -/
theorem kids_out (a : Option Addr) (n c : Nat) (e : Int) (nm : ByteArray) (W : World) (he : ¬ (0 ≤ e ∧ e < (n : Int))) :
    Calls Tryz.prog 9 #[.agg #[.slice a n c], .int .i64 e, .string nm] W fun en W' => ∃ v, en = .returned v ∧ IntRd W' v [] ∧ Below W.heap.size W W' := by
  have hIS := fun X => is_any a n c e X
  rw [decide_eq_false he] at hIS
  have HIS := Lib.hid hIS
  obtain ⟨W1, hW1⟩ : ∃ W1, (W.alloc (.cells #[.slice a n c] 25)).alloc (.cells #[.string nm] 9) = W1 := ⟨_, rfl⟩
  have HB1 := Lib.hid (show Below W.heap.size W W1 by rw [← hW1]; exact ((Below.refl _ W).alloc (Nat.le_refl _) _).alloc (by simp) _)
  have hb1 : BlkAt W1 W.heap.size 25 #[.slice a n c] := by rw [← hW1]; exact (BlkAt.new _ _ _).alloc _
  have hd1 := hb1.cell 0
  have HW1 := Lib.hid hW1
  clear hIS he hb1 hW1
  go_enter Tryz.func9, Tryz.ntmps9
  go_wp2_with (go_at_call 22; rw [HW1.out]; refine (HIS.out _).mono ?_; rintro _ w2 ⟨rfl, hB2⟩; have HB2 := Lib.hid (HB1.out.trans (hB2.mono HB1.out.size)); clear hB2)
  go_ret
  exact ⟨.slice none 0 0, rfl, ⟨none, 0, rfl, fun h => absurd rfl h⟩, HB2.out⟩
/-- Room over four sizes in a block. -/
theorem room_four {W : World} {g : Nat} {a b c d : Int} (hb : BlkAt W g 3 #[.int .i64 a, .int .i64 b, .int .i64 c, .int .i64 d]) (ha : 0 ≤ a ∧ a ≤ 9223372036854775807) (hb2 : 0 ≤ b ∧ b ≤ 9223372036854775807) (hc : 0 ≤ c ∧ c ≤ 9223372036854775807) (hd : 0 ≤ d ∧ d ≤ 9223372036854775807) (left : Int) (h0 : -1 ≤ left) (h1 : left ≤ 1000000) :
    Calls Tryz.prog 11 #[.int .i64 left, .slice (some ⟨g, 0, none⟩) 4 4] W fun e W' => e = .returned (.int .i64 (roomX left [a, b, c, d])) ∧ Below W.heap.size W W' := by
  have hr : IntRd W (.slice (some ⟨g, 0, none⟩) 4 4) [a, b, c, d] := ⟨_, _, rfl, fun _ => ⟨g, 0, rfl, hb.lt, fun j hj => by
    rw [Nat.zero_add, hb.cell j]
    match j, hj with
    | 0, _ => rfl
    | 1, _ => rfl
    | 2, _ => rfl
    | 3, _ => rfl⟩⟩
  exact room_any hr (by simp) (fun x hx => by
    simp only [List.mem_cons, List.not_mem_nil, or_false] at hx
    rcases hx with rfl | rfl | rfl | rfl
    · exact ha
    · exact hb2
    · exact hc
    · exact hd) left h0 h1
/-- What Room leaves of four sizes. -/
theorem roomX_four {left a b c d : Int} (h : 0 ≤ roomX left [a, b, c, d]) (ha : 0 ≤ a) (hb : 0 ≤ b) (hc : 0 ≤ c) (hd : 0 ≤ d) : 0 ≤ left ∧ a ≤ left ∧ b ≤ left ∧ c ≤ left ∧ d ≤ left ∧ roomX left [a, b, c, d] ≤ left := by
  unfold roomX at h ⊢
  split at h
  · omega
  · unfold roomX at h ⊢
    split at h
    · omega
    · unfold roomX at h ⊢
      split at h
      · omega
      · unfold roomX at h ⊢
        split at h
        · omega
        · rename_i h1 h2 h3 h4
          unfold roomX at h ⊢
          rw [if_neg h1, if_neg h2, if_neg h3, if_neg h4]
          omega
theorem roomX_low {left : Int} (l : List Int) (h : -1 ≤ left) (hl : ∀ x ∈ l, 0 ≤ x) : -1 ≤ roomX left l ∧ roomX left l ≤ max left (-1) := by
  induction l generalizing left with
  | nil => unfold roomX; omega
  | cons a l ih =>
    unfold roomX
    split
    · omega
    · rename_i hc
      have := ih (left := left - a) (by omega) (fun x hx => hl x (List.mem_cons_of_mem _ hx))
      have := hl a List.mem_cons_self
      omega
end Go.Proofs.YtlldpmjnledhgaaGreatDoor
namespace Go.Proofs.YtlldpmjnledhgaaGreatDoor
open Go.RowKit
set_option linter.unusedVariables false

/-- A slice of attributes that can be read: names, values, places. -/
def AttrRd (W : World) (v : Value) (l : List (ByteArray × ByteArray × Int)) : Prop :=
  ∃ a c, v = .slice a l.length c ∧ (l ≠ [] → ∃ b o, a = some ⟨b, o, none⟩ ∧ b < W.heap.size ∧ ∀ i x, l[i]? = some x → W.cell? ⟨b, o + i * 3, none⟩ = some (.string x.1) ∧ W.cell? ⟨b, o + i * 3 + 1, none⟩ = some (.string x.2.1) ∧ W.cell? ⟨b, o + i * 3 + 2, none⟩ = some (.int .i64 x.2.2))
theorem AttrRd.below {W W' : World} {v : Value} {l : List (ByteArray × ByteArray × Int)} (h : AttrRd W v l) (hB : Below W.heap.size W W') : AttrRd W' v l := by
  obtain ⟨a, c, h1, h2⟩ := h
  refine ⟨a, c, h1, fun hne => ?_⟩
  obtain ⟨b, o, g1, g2, g3⟩ := h2 hne
  exact ⟨b, o, g1, Nat.lt_of_lt_of_le g2 hB.size, fun i x hx => ⟨(hB.cell (p := ⟨b, o + i * 3, none⟩) g2).trans (g3 i x hx).1, (hB.cell (p := ⟨b, o + i * 3 + 1, none⟩) g2).trans (g3 i x hx).2.1, (hB.cell (p := ⟨b, o + i * 3 + 2, none⟩) g2).trans (g3 i x hx).2.2⟩⟩
theorem belowM (B : Nat) (w : World) (q : Nat) : Below B w (w.drewN q) := ⟨rfl, rfl, rfl, Nat.le_refl _, fun _ _ => rfl⟩
/-- The first attribute of a name. -/
def attrF (nm : ByteArray) : List (ByteArray × ByteArray × Int) → ByteArray × Int × Bool
  | [] => (⟨#[]⟩, 0, false)
  | x :: t => if x.1 = nm then (x.2.1, x.2.2, true) else attrF nm t
theorem attrF_drop {nm : ByteArray} {l : List (ByteArray × ByteArray × Int)} {i : Nat} {x : ByteArray × ByteArray × Int} (h : l[i]? = some x) : attrF nm (l.drop i) = if x.1 = nm then (x.2.1, x.2.2, true) else attrF nm (l.drop (i + 1)) := by
  obtain ⟨h1, h2⟩ := List.getElem?_eq_some_iff.1 h
  rw [List.drop_eq_getElem_cons h1, h2, attrF]
theorem bytes_ne {x y : ByteArray} (h : x ≠ y) : (x.toList == y.toList) = false := by
  refine beq_eq_false_iff_ne.2 fun e => h ?_
  rw [ByteArray.toList_eq, ByteArray.toList_eq] at e
  exact ByteArray.ext (Array.toList_inj.1 e)

set_option maxRecDepth 100000 in
set_option maxHeartbeats 8000000 in
theorem attr_none (a : Option Addr) (n c : Nat) (e : Int) (nm : ByteArray) (W : World) (he : ¬ (0 ≤ e ∧ e < (n : Int))) :
    Calls Tryz.prog 14 #[.agg #[.slice a n c], .int .i64 e, .string nm] W fun en W' => en = .returned (.tuple #[.string ⟨#[]⟩, .int .i64 0, .bool false]) ∧ Below W.heap.size W W' := by
  have hIS := fun X => is_any a n c e X
  rw [decide_eq_false he] at hIS
  have HIS := Lib.hid hIS
  obtain ⟨W1, hW1⟩ : ∃ W1, W.alloc (.cells #[.slice a n c] 25) = W1 := ⟨_, rfl⟩
  have HB1 := Lib.hid (show Below W.heap.size W W1 by rw [← hW1]; exact (Below.refl _ W).alloc (Nat.le_refl _) _)
  have hb1 : BlkAt W1 W.heap.size 25 #[.slice a n c] := by rw [← hW1]; exact BlkAt.new _ _ _
  have c1 := hb1.cell 0
  have HW1 := Lib.hid hW1
  clear hIS he hb1
  go_enter Tryz.func14, Tryz.ntmps14
  go_upto_region 1 with (fail)
  clear hW1
  go_wp2_with (go_at_call 22; refine (HIS.out _).mono ?_; rintro _ w2 ⟨rfl, hB2⟩; have HB2 := Lib.hid hB2; clear hB2)
  go_ret3
  exact ⟨rfl, HB1.out.trans (HB2.out.mono HB1.out.size)⟩

set_option maxRecDepth 100000 in
set_option maxHeartbeats 8000000 in
theorem attr_some {W : World} {ev : Value} {ys : List YE} (h : DocAt W ev ys) (hn : ys.length ≤ 1000000) {e : Nat} {y : YE} (hy : ys[e]? = some y) {l : List (ByteArray × ByteArray × Int)} (hA : AttrRd W (.slice y.ab y.an y.ac) l) (hl : l.length ≤ 1000000) (nm : ByteArray) :
    Calls Tryz.prog 14 #[.agg #[ev], .int .i64 (e : Nat), .string nm] W fun en W' => en = .returned (.tuple #[.string (attrF nm l).1, .int .i64 (attrF nm l).2.1, .bool (attrF nm l).2.2]) ∧ Below W.heap.size W W' := by
  obtain ⟨a, c, rfl, h2⟩ := h
  obtain ⟨n, hnn⟩ : ∃ n, ys.length = n := ⟨_, rfl⟩
  have hen : e < n := by rw [← hnn]; exact (List.getElem?_eq_some_iff.1 hy).1
  have hys : ys ≠ [] := fun e0 => by rw [e0] at hy; simp at hy
  obtain ⟨g, o, rfl, hg, hc⟩ := h2 hys
  obtain ⟨p0, p1, p2, p3, p4, p5⟩ := DocAt.six hc hy
  have HA := Lib.hid hA
  obtain ⟨ba, bc, hsl, hA2⟩ := hA
  have HA2 := Lib.hid hA2
  rw [hsl] at p3
  obtain ⟨m, hm⟩ : ∃ m, l.length = m := ⟨_, rfl⟩
  rw [hm] at p3 hl
  have HM := Lib.hid hm
  have HIS := Lib.hid (show ∀ X : World, Calls Tryz.prog 22 #[.agg #[.slice (some ⟨g, o, none⟩) n c], .int .i64 (e : Nat)] X fun en W' => en = .returned (.bool true) ∧ Below X.heap.size X W' from fun X => by
    have := is_any (some ⟨g, o, none⟩) n c (e : Nat) X
    rwa [decide_eq_true (show (0 : Int) ≤ (e : Nat) ∧ ((e : Nat) : Int) < (n : Nat) from ⟨by omega, by omega⟩)] at this)
  rw [hnn] at hn ⊢
  have q1 : (0 : Int) ≤ (e : Int) := by omega
  have q2 : (e : Int) < (n : Int) := by omega
  obtain ⟨W1, hW1⟩ : ∃ W1, W.alloc (.cells #[.slice (some ⟨g, o, none⟩) n c] 25) = W1 := ⟨_, rfl⟩
  have HB1 := Lib.hid (show Below W.heap.size W W1 by rw [← hW1]; exact (Below.refl _ W).alloc (Nat.le_refl _) _)
  have hb1 : BlkAt W1 W.heap.size 25 #[.slice (some ⟨g, o, none⟩) n c] := by rw [← hW1]; exact BlkAt.new _ _ _
  have HBK1 := Lib.hid hb1
  have c1 := hb1.cell 0
  have HW1 := Lib.hid hW1
  have HP3 := Lib.hid p3
  clear hb1 p0 p1 p2 p3 p4 p5 hc h2 hsl hA2 hm hnn hy
  go_enter Tryz.func14, Tryz.ntmps14
  go_upto_region 1 with (fail)
  clear hW1
  go_wp2_with (go_at_call 22; refine (HIS.out _).mono ?_; rintro _ w2 ⟨rfl, hB2⟩; have HB2 := Lib.hid (HB1.out.trans (hB2.mono HB1.out.size)); have c2 := (HBK1.out.below hB2 HBK1.out.lt).cell 0; have c3 := (HB2.out.cell (p := ⟨g, o + e * 6 + 3, none⟩) hg).trans HP3.out; clear hB2)
  go_loopw [22] (fun q wr => ∃ (i : Nat), q = .int .i64 (i : Nat) ∧ i ≤ m ∧ attrF nm l = attrF nm (l.drop i) ∧ Below W.heap.size W wr) (fun q wr => m - (intOf q).toNat)
  case atStart => exact ⟨0, rfl, Nat.zero_le _, rfl, HB2.out⟩
  case round =>
    obtain ⟨i, rfl, hi, hf, hB⟩ := hrel
    have HF := Lib.hid hf
    have HB := Lib.hid hB
    clear hf hB
    by_cases hlt : i < m
    · obtain ⟨x, hx⟩ : ∃ x, l[i]? = some x := ⟨_, List.getElem?_eq_getElem (by rw [HM.out]; exact hlt)⟩
      obtain ⟨b, o2, rfl, hb, hcl⟩ := HA2.out (fun h0 => by have h1 := HM.out; rw [h0] at h1; have h3 : (0 : Nat) = m := h1; omega)
      obtain ⟨r0, r1, r2⟩ := hcl i x hx
      have s0 := (HB.out.cell (p := ⟨b, o2 + i * 3, none⟩) hb).trans r0
      have s1 := (HB.out.cell (p := ⟨b, o2 + i * 3 + 1, none⟩) hb).trans r1
      have s2 := (HB.out.cell (p := ⟨b, o2 + i * 3 + 2, none⟩) hb).trans r2
      have HD := Lib.hid (attrF_drop (nm := nm) hx)
      obtain ⟨x0, x1, x2⟩ := x
      have t1 : (0 : Int) ≤ (i : Int) := by omega
      have t2 : (i : Int) < (m : Int) := by omega
      obtain ⟨W4, hW4⟩ : ∃ W4, wr.alloc (.cells #[.string x0, .string x1, .int .i64 x2] 43) = W4 := ⟨_, rfl⟩
      have hb4 : BlkAt W4 wr.heap.size 43 #[.string x0, .string x1, .int .i64 x2] := by rw [← hW4]; exact BlkAt.new _ _ _
      have HB4 := Lib.hid (HB.out.trans ((show Below wr.heap.size wr W4 by rw [← hW4]; exact (Below.refl _ wr).alloc (Nat.le_refl _) _).mono HB.out.size))
      have u0 := hb4.cell 0
      have u1 := hb4.cell 1
      have u2 := hb4.cell 2
      clear hx hcl r0 r1 r2 hb4
      go_upto_region 6 with (fail)
      clear hW4
      generalize wr.heap.size = g4 at *
      by_cases hxn : x0 = nm
      · subst hxn
        have HR := Lib.hid (show attrF x0 l = (x1, x2, true) by rw [HF.out, HD.out, if_pos rfl])
        have E1 : (x0.toList == x0.toList) = true := beq_iff_eq.2 rfl
        go_upto_region 7 with (fail)
        go_quiet (fail)
        go_wp2
        go_ret3
        exact ⟨by rw [HR.out]; rfl, HB4.out.trans (belowM _ _ _)⟩
      · have HR := Lib.hid (show attrF nm l = attrF nm (l.drop (i + 1)) by rw [HF.out, HD.out, if_neg hxn])
        have E1 := bytes_ne hxn
        go_wp2
        go_roundw
        case rel => exact ⟨i + 1, by go_num, hlt, HR.out, HB4.out⟩
        case measure => simp [intOf]; omega
    · obtain rfl : i = m := by omega
      have HR := Lib.hid (show attrF nm l = (⟨#[]⟩, 0, false) by rw [HF.out, List.drop_of_length_le (by rw [HM.out]; exact Nat.le_refl _)]; rfl)
      go_wp2
      go_ret3
      exact ⟨by rw [HR.out]; rfl, HB.out⟩
end Go.Proofs.YtlldpmjnledhgaaGreatDoor
namespace Go.Proofs.YtlldpmjnledhgaaGreatDoor
open Go.RowKit
set_option linter.unusedVariables false

/-- The loop that reckons a depth: at k, having counted c. -/
def DepAt (D : List Nat) (e : Nat) (k : Int) (c : Nat) : Prop :=
  (k = -1 ∧ D[e]? = some c) ∨ ∃ u d : Nat, k = (u : Int) ∧ u ≤ e ∧ D[u]? = some d ∧ D[e]? = some (c + d)
theorem DepAt.start {D : List Nat} {e d : Nat} (h : D[e]? = some d) : DepAt D e e 0 := .inr ⟨e, d, rfl, Nat.le_refl _, h, by rw [Nat.zero_add]; exact h⟩
theorem DepAt.low {D : List Nat} {e c : Nat} {k : Int} (h : DepAt D e k c) : -1 ≤ k ∧ k ≤ (e : Int) := by
  rcases h with ⟨rfl, -⟩ | ⟨u, d, rfl, h1, -⟩ <;> omega
theorem DepAt.fin {D : List Nat} {e c : Nat} {k : Int} (h : DepAt D e k c) (hk : k < 0) : D[e]? = some c := by
  rcases h with ⟨-, h⟩ | ⟨u, d, rfl, -⟩
  · exact h
  · omega
theorem Well.depAt_step {ups : List Int} {D : List Nat} {n e u c : Nat} (h : Well ups D n) (hd : DepAt D e (u : Nat) c) (hun : u < n) : ∃ v : Int, ups[u]? = some v ∧ DepAt D e v (c + 1) ∧ v < (u : Int) ∧ -1 ≤ v := by
  rcases hd with ⟨h1, -⟩ | ⟨u', d, h1, h2, h3, h4⟩
  · omega
  · obtain rfl : u = u' := by omega
    rcases h.lies u hun with ⟨g1, g2, g3⟩ | ⟨v, g1, g2, -, d', g3, g4⟩
    · rw [g3] at h3
      cases h3
      exact ⟨-1, g2, .inl ⟨rfl, h4⟩, by omega, by omega⟩
    · rw [g4] at h3
      cases h3
      exact ⟨v, g2, .inr ⟨v, d', rfl, by omega, g3, by rw [h4]; congr 1; omega⟩, by omega, by omega⟩
theorem DepAt.le {D : List Nat} {e c m : Nat} {k : Int} (h : DepAt D e k c) (hb : ∀ d ∈ D, d ≤ m) : c ≤ m := by
  rcases h with ⟨-, h⟩ | ⟨u, d, -, -, -, h⟩
  · exact hb c (List.mem_of_getElem? h)
  · have := hb _ (List.mem_of_getElem? h); omega
theorem takeWhile_in {α : Type} {P : α → Bool} : ∀ (l : List α) (j : Nat), j < (l.takeWhile P).length → ∃ x, l[j]? = some x ∧ P x = true
  | [], j, h => by simp at h
  | a :: t, j, h => by
    rw [List.takeWhile_cons] at h
    split at h
    · rename_i ha
      cases j with
      | zero => exact ⟨a, rfl, ha⟩
      | succ j => exact takeWhile_in t j (by simpa using h)
    · simp at h
theorem takeWhile_out {α : Type} {P : α → Bool} : ∀ (l : List α) (x : α), l[(l.takeWhile P).length]? = some x → P x = false
  | [], x, h => by simp at h
  | a :: t, x, h => by
    rw [List.takeWhile_cons] at h
    split at h
    · exact takeWhile_out t x (by simpa using h)
    · rename_i ha
      simp at h
      rw [← h]
      simpa using ha
theorem seg_pos (D : List Nat) (e : Nat) : 1 ≤ segN D e := by unfold segN; omega
theorem seg_in {D : List Nat} {e t a : Nat} (h1 : 1 ≤ t) (ht : t < segN D e) (ha : D[e]? = some a) : ∃ b, D[e + t]? = some b ∧ a < b := by
  unfold segN at ht
  rw [ha] at ht
  obtain ⟨x, hx, hp⟩ := takeWhile_in (P := fun x => decide ((some a).getD 0 < x)) (D.drop (e + 1)) (t - 1) (by omega)
  rw [List.getElem?_drop, show e + 1 + (t - 1) = e + t by omega] at hx
  exact ⟨x, hx, by simpa using hp⟩
theorem seg_out {D : List Nat} {e a b : Nat} (ha : D[e]? = some a) (hb : D[e + segN D e]? = some b) : b ≤ a := by
  unfold segN at hb
  rw [ha] at hb
  have := takeWhile_out (P := fun x => decide ((some a).getD 0 < x)) (D.drop (e + 1)) b (by
    rw [List.getElem?_drop, show e + 1 + ((D.drop (e + 1)).takeWhile fun x => decide ((some a).getD 0 < x)).length = e + (1 + ((D.drop (e + 1)).takeWhile fun x => decide ((some a).getD 0 < x)).length) by omega]
    exact hb)
  simpa using this
theorem seg_end {D : List Nat} {e : Nat} (he : e < D.length) : e + segN D e ≤ D.length := by
  unfold segN
  have := (List.takeWhile_sublist (fun x => decide (D[e]?.getD 0 < x)) (l := D.drop (e + 1))).length_le
  rw [List.length_drop] at this
  omega
/-- One more of those that are deeper, or the end. -/
theorem seg_next {D : List Nat} {e t a : Nat} (ht : t ≤ segN D e) (ha : D[e]? = some a) : (t < segN D e ↔ ∃ b, D[e + t]? = some b ∧ (t = 0 ∨ a < b)) := by
  constructor
  · intro h
    by_cases h0 : t = 0
    · subst h0; exact ⟨a, ha, .inl rfl⟩
    · obtain ⟨b, g1, g2⟩ := seg_in (by omega) h ha; exact ⟨b, g1, .inr g2⟩
  · rintro ⟨b, g1, g2⟩
    rcases Nat.lt_or_ge t (segN D e) with h | h
    · exact h
    · obtain rfl : t = segN D e := by omega
      have := seg_out ha g1
      have := seg_pos D e
      omega
theorem cutL_at {α : Type} {stop : Int} {xs : List α} {i : Nat} (h : i < (cutL stop xs).length) : (cutL stop xs)[i]? = xs[i]? := by
  unfold cutL at h ⊢
  split
  · rename_i hs
    rw [if_pos hs, List.length_take] at h
    rw [List.getElem?_take_of_lt (by omega)]
  · rfl
theorem cutL_le {α : Type} (stop : Int) (xs : List α) : (cutL stop xs).length ≤ xs.length := by
  unfold cutL; split
  · rw [List.length_take]; omega
  · exact Nat.le_refl _
theorem segY_len (D : List Nat) (e : Nat) : (segY D e).length = segN D e := by unfold segY; rw [List.length_map, List.length_range]
theorem segY_at {D : List Nat} {e i : Nat} (h : i < segN D e) : (segY D e)[i]? = some (e + i, D[e + i]?.getD 0 - D[e]?.getD 0) := by
  unfold segY
  rw [List.getElem?_map, List.getElem?_range h]
  rfl
/-- How many are told: all, or as many as are enough. -/
theorem cutL_seg {D : List Nat} {e : Nat} (stop : Int) : ((cutL stop (segY D e)).length : Int) = if 0 < stop then min (segN D e : Int) stop else (segN D e : Int) := by
  unfold cutL
  split
  · rw [List.length_take, segY_len, if_pos (by omega)]; omega
  · rw [segY_len, if_neg (by omega)]
/-- What is told of an element, one by one. -/
theorem Well.told_at {ups : List Int} {D : List Nat} {n e i a : Nat} {stop : Int} (h : Well ups D n) (he : e < n) (ha : D[e]? = some a) (hi : i < (cutL stop (segY D e)).length) : e + i < n ∧ ∃ b, D[e + i]? = some b ∧ a ≤ b ∧ (cutL stop (segY D e))[i]? = some (e + i, b - a) := by
  have h1 : i < segN D e := by have := cutL_le stop (segY D e); rw [segY_len] at this; omega
  obtain ⟨b, g1, g2⟩ := (seg_next (Nat.le_of_lt h1) ha).1 h1
  refine ⟨by rw [← h.len]; exact (List.getElem?_eq_some_iff.1 g1).1, b, g1, ?_, ?_⟩
  · rcases g2 with rfl | g2
    · rw [Nat.add_zero, ha] at g1; cases g1; exact Nat.le_refl _
    · omega
  · rw [cutL_at hi, segY_at h1, g1, ha]; rfl
theorem attrF_nil (nm : ByteArray) (l : List (ByteArray × ByteArray × Int)) : attrF nm (l.drop l.length) = (⟨#[]⟩, 0, false) := by rw [List.drop_length]; rfl
end Go.Proofs.YtlldpmjnledhgaaGreatDoor
namespace Go.Proofs.YtlldpmjnledhgaaGreatDoor
open Go.RowKit
set_option linter.unusedVariables false

/-- What valid has seen of the first i. -/
structure V8 (W : World) (ev : Value) (gd n : Nat) (ups : List Int) (ks : List (List Int)) (i : Nat) (D : List Nat) (cur : Array Value) (wr : World) : Prop where
  len : D.length = i
  le : i ≤ n
  uok : UpsOk ups i
  go : depGo ups (n - i) D = depthsX ups
  small : ∀ d ∈ D, d ≤ 100
  kids : ∀ j, j < i → ks[j]? = some ((kidsI ups j).map fun (k : Nat) => (k : Int))
  blk : BlkAt wr gd 3 cur
  size : cur.size = n
  cells : ∀ (j d : Nat), D[j]? = some d → cur[j]? = some (.int .i64 (d : Nat))
  doc : BlkAt wr W.heap.size 25 #[ev]
  below : Below W.heap.size W wr
  far : W.heap.size < gd
theorem depGo_some {ups : List Int} : ∀ (k : Nat) {D E : List Nat}, depGo ups k D = some E → D <+: E
  | 0, D, E, h => by cases h; exact List.prefix_rfl
  | k + 1, D, E, h => by
    unfold depGo at h
    cases hd : depStep ups D with
    | none => rw [hd] at h; cases h
    | some F =>
      rw [hd] at h
      refine List.IsPrefix.trans ?_ (depGo_some k h)
      unfold depStep at hd
      split at hd
      · rename_i h0; rw [h0]; exact List.nil_prefix
      · split at hd
        · cases hd
        · cases hd; exact List.prefix_append _ _
/-- One that is too deep. -/
theorem validX_deep {ups : List Int} {ks : List (List Int)} {k d : Nat} {D : List Nat} (h : depGo ups k D = depthsX ups) (hd : d ∈ D) (hb : 100 < d) : validX ups ks = false := by
  unfold validX
  cases hx : depthsX ups with
  | none => rfl
  | some E =>
    rw [hx] at h
    have hm : d ∈ E := (depGo_some k h).subset hd
    have : E.all (fun d => decide (d ≤ 100)) = false := by
      rw [List.all_eq_false]
      exact ⟨d, hm, by simp; omega⟩
    simp [this]
theorem validX_stop {ups : List Int} {ks : List (List Int)} {k : Nat} {D : List Nat} (h : depGo ups (k + 1) D = depthsX ups) (hs : depStep ups D = none) : validX ups ks = false := by
  unfold depGo at h
  rw [hs] at h
  unfold validX
  rw [← h]
theorem validX_kids {ups : List Int} {ks : List (List Int)} {i : Nat} {l : List Int} (hi : i < ups.length) (hk : ks[i]? = some l) (hne : l ≠ (kidsI ups i).map fun (k : Nat) => (k : Int)) : validX ups ks = false := by
  unfold validX
  cases hx : depthsX ups with
  | none => rfl
  | some E =>
    have : decide (∀ i, i < ups.length → ks[i]? = some ((kidsI ups i).map fun (k : Nat) => (k : Int))) = false := decide_eq_false fun h => hne (by have := h i hi; rw [hk] at this; exact Option.some.inj this)
    simp [this]
/-- The kids that the law's loop has found. -/
theorem kidsTo_own {ups : List Int} {i : Nat} (ho : UpsOk ups (i + 1)) : kidsTo ups (i + 1) i = [] := by
  unfold kidsTo
  refine List.filter_eq_nil_iff.2 fun a ha h => ?_
  have h1 := of_decide_eq_true h
  have h2 := List.mem_range.1 ha
  rcases ho a h2 with ⟨_, g⟩ | ⟨u, g, hu⟩
  · rw [g] at h1; cases h1
  · rw [g] at h1
    have := Option.some.inj h1
    omega
theorem V8.next {W : World} {ev : Value} {gd n i d : Nat} {ups : List Int} {ks : List (List Int)} {D : List Nat} {cur : Array Value} {wr wx : World} (h : V8 W ev gd n ups ks i D cur wr) (hu : ups.length = n) (hi : i < n) (hst : depStep ups D = some (D ++ [d])) (hd : d ≤ 100) (hk : ks[i]? = some ((kidsI ups i).map fun (k : Nat) => (k : Int)))
    (hb : Below (gd + 1) (wr.setCell ⟨gd, i, none⟩ (.int .i64 (d : Nat))) wx) : V8 W ev gd n ups ks (i + 1) (D ++ [d]) (cur.setIfInBounds i (.int .i64 (d : Nat))) wx := by
  have hfar := h.far
  have hb1 := h.blk.set i (.int .i64 (d : Nat))
  have hb0 := h.doc.far (p := ⟨gd, i, none⟩) (by show W.heap.size ≠ gd; omega) (.int .i64 (d : Nat))
  refine ⟨by rw [List.length_append, h.len]; rfl, hi, ?_, ?_, ?_, fun j hj => ?_, hb1.below hb (by omega), by rw [Array.size_setIfInBounds]; exact h.size, fun j e he => ?_, hb0.below hb (by omega), ?_, hfar⟩
  · have := depStep_ok (by rw [h.len, hu]; exact hi) hst (by rw [h.len]; exact h.uok)
    rwa [List.length_append, h.len] at this
  · have hg := h.go
    rw [show n - i = (n - (i + 1)) + 1 by omega] at hg
    unfold depGo at hg
    rw [hst] at hg
    exact hg
  · intro e he
    rcases List.mem_append.1 he with h1 | h1
    · exact h.small e h1
    · rw [List.mem_singleton.1 h1]; exact hd
  · by_cases hji : j = i
    · subst hji; exact hk
    · exact h.kids j (by omega)
  · by_cases hji : j = i
    · subst hji
      rw [List.getElem?_append_right (by rw [h.len]; exact Nat.le_refl _), h.len, Nat.sub_self] at he
      cases he
      rw [Array.getElem?_setIfInBounds_self_of_lt (by rw [h.size]; exact hi)]
    · have hlt : j < D.length := by
        have := (List.getElem?_eq_some_iff.1 he).1
        rw [List.length_append, h.len] at this
        rw [h.len]
        simp only [List.length_cons, List.length_nil] at this
        omega
      rw [List.getElem?_append_left hlt] at he
      rw [Array.getElem?_setIfInBounds_ne (by omega)]
      exact h.cells j e he
  · exact (h.below.setCell (p := ⟨gd, i, none⟩) (by show W.heap.size ≤ gd; omega) _).trans (hb.mono (by omega))
/-- The loop over those behind an element: its kids so far. -/
def K8 (ups : List Int) (bs i : Nat) (Wx : World) (p q : Value) (V : World) : Prop :=
  ∃ (k : Nat), q = .int .i64 (k : Nat) ∧ i + 1 ≤ k ∧ k ≤ ups.length ∧ IntsAt bs V (kidsTo ups k i) p ∧ Below bs Wx V

set_option maxRecDepth 100000 in
set_option maxHeartbeats 16000000 in
theorem valid8_any {W : World} {ev : Value} {ys : List YE} {ks : List (List Int)} (h : DocAt W ev ys) (hn : ys.length ≤ 10000) (hkl : ks.length = ys.length) (hkk : ∀ (i : Nat) (y : YE), ys[i]? = some y → ∃ k, ks[i]? = some k ∧ k.length ≤ 1000000 ∧ IntRd W (.slice y.kb y.kn y.kc) k) :
    Calls Tryz.prog 12 #[.agg #[ev]] W fun e W' => e = .returned (.bool (validX (ys.map (·.up)) ks)) ∧ Below W.heap.size W W' := by
  obtain ⟨a, c, rfl, h2⟩ := h
  obtain ⟨n, hnn⟩ : ∃ n, ys.length = n := ⟨_, rfl⟩
  obtain ⟨ups, hups⟩ : ∃ ups, ys.map (·.up) = ups := ⟨_, rfl⟩
  have hul : ups.length = n := by rw [← hups, List.length_map]; exact hnn
  rw [hups, hnn]
  rw [hnn] at hn
  obtain ⟨VX, hVX⟩ : ∃ VX, validX ups ks = VX := ⟨_, rfl⟩
  rw [hVX]
  have HVX := Lib.hid hVX
  have HU := Lib.hid hups
  have HUL := Lib.hid hul
  have HN := Lib.hid hnn
  have H2 := Lib.hid h2
  have HKK := Lib.hid (show ∀ X, Below W.heap.size W X → ∀ (i : Nat) (y : YE), ys[i]? = some y → ∃ k, ks[i]? = some k ∧ k.length ≤ 1000000 ∧ IntRd X (.slice y.kb y.kn y.kc) k from fun X hX i y hy => by
    obtain ⟨k, k1, k2, k3⟩ := hkk i y hy
    exact ⟨k, k1, k2, k3.below hX⟩)
  obtain ⟨j0, hj0, hy0, hy1, hy2⟩ := info_parts infoInt
  obtain ⟨W1, hW1⟩ : ∃ W1, W.alloc (.cells #[.slice a n c] 25) = W1 := ⟨_, rfl⟩
  have hB1 : Below W.heap.size W W1 := by rw [← hW1]; exact (Below.refl _ W).alloc (Nat.le_refl _) _
  have hb1 : BlkAt W1 W.heap.size 25 #[.slice a n c] := by rw [← hW1]; exact BlkAt.new _ _ _
  have hz1 : W1.heap.size = W.heap.size + 1 := by rw [← hW1]; simp
  have c1 := hb1.cell 0
  have HB1 := Lib.hid hB1
  have HBK1 := Lib.hid hb1
  have HW1 := Lib.hid hW1
  have hn1 : ¬ (10000 : Int) < (n : Int) := by omega
  clear h2 hups hul hnn hVX hkk hkl hW1 hB1 hb1
  go_enter Tryz.func12, Tryz.ntmps12
  go_upto_region 1 with (fail)
  rw [HW1.out]
  go_upto_region 4 with (at_make; refine wpList_make_full _ rfl _ _ _ rfl W.heap.size 3 j0 _ 1 Tryz.underlying32 hj0 hy0 hy1 _ _ _ _ n rfl rfl rfl rfl (by rw [hy2]; omega) (by unfold maxLen; omega) (by have := HB1.out.size; omega) ?_; intro w3 hown3 hg3; have hb3' := HBK1.out.grown hg3 (fun e => by cases e); have hb3 := hb3'.cell 0)
  obtain ⟨gd, hgd⟩ : ∃ gd, W.heap.size + 1 = gd := ⟨_, rfl⟩
  rw [hz1, hgd] at hown3
  rw [hgd]
  have hfar : W.heap.size < gd := by omega
  obtain ⟨cur0, hcur0, hsz0⟩ : ∃ cur, BlkAt w3 gd 3 cur ∧ cur.size = n := by
    rcases hown3.2 with ⟨k1, k2⟩ | ⟨gg, cap, cur, k1, k2, k3, k4, k5, k6, k7⟩
    · cases k1
    · simp only [Value.slice.injEq, Option.some.injEq, Addr.mk.injEq] at k1
      obtain ⟨⟨rfl, -, -⟩, -, rfl⟩ := k1
      exact ⟨cur, k3, by omega⟩
  have hB3 : Below W.heap.size W w3 := HB1.out.grown hg3 (by omega) (fun k e => by cases e)
  have H0 := Lib.hid (show V8 W (.slice a n c) gd n ups ks 0 [] cur0 w3 from ⟨rfl, Nat.zero_le _, (fun j hj => absurd hj (Nat.not_lt_zero _)), by rw [← HUL.out]; rfl, (fun d hd => by cases hd), (fun j hj => by omega), hcur0, hsz0, (fun j d hj => by simp at hj), hb3', hB3, hfar⟩)
  clear hown3 hg3 hb3' hb3 hcur0 hB3 hgd hz1 c1 HB1 HBK1
  go_wp2
  go_loopw [4] (fun q wr => ∃ (i : Nat) (D : List Nat) (cur : Array Value), q = .int .i64 (i : Nat) ∧ V8 W (.slice a n c) gd n ups ks i D cur wr) (fun q wr => n - (intOf q).toNat)
  case atStart => exact ⟨0, [], cur0, rfl, H0.out⟩
  case round =>
    obtain ⟨i, D, cur, rfl, hV⟩ := hrel
    have HV := Lib.hid hV
    have d0 := hV.doc.cell 0
    have hin := hV.le
    clear hV
    by_cases hlt : i < n
    · have hys : ys ≠ [] := fun e => by have := HN.out; rw [e] at this; simp at this; omega
      obtain ⟨g, o, rfl, hg, hc⟩ := H2.out hys
      obtain ⟨y, hy⟩ : ∃ y, ys[i]? = some y := ⟨_, List.getElem?_eq_getElem (by rw [HN.out]; exact hlt)⟩
      obtain ⟨p0, p1, p2, p3, p4, p5⟩ := DocAt.six hc hy
      have HCW := Lib.hid (fun q => HV.out.below.cell (p := ⟨g, q, none⟩) hg)
      have p2' := (HCW.out (o + i * 6 + 2)).trans p2
      have hut : ups[i]? = some y.up := by rw [← HU.out, List.getElem?_map, hy]; rfl
      obtain ⟨t, ht⟩ : ∃ t, y.up = t := ⟨_, rfl⟩
      rw [ht] at p2' hut
      have HUT := Lib.hid hut
      have HY := Lib.hid hy
      have HC := Lib.hid hc
      have HGO := Lib.hid (show depGo ups (n - (i + 1) + 1) D = depthsX ups by rw [show n - (i + 1) + 1 = n - i by omega]; exact HV.out.go)
      have HILT := Lib.hid (show i < ups.length by rw [HUL.out]; exact hlt)
      obtain ⟨cu, hcu⟩ : ∃ cu, cur[i]? = some cu := ⟨_, Array.getElem?_eq_getElem (by rw [HV.out.size]; exact hlt)⟩
      have b0 := (HV.out.blk.cell i).trans hcu
      have b1 := HV.out.blk.frozen i
      have q1 : (0 : Int) ≤ (i : Int) := by omega
      have q2 : (i : Int) < (n : Int) := by omega
      clear p0 p1 p2 p3 p4 p5 hut ht hy hc hcu
      go_upto_region 8 with (fail)
      go_upto_if 31 with (fail)
      go_cut [6] (fun s wx => ∃ d : Nat, wx = wr.setCell ⟨gd, i, none⟩ (.int .i64 (d : Nat)) ∧ depStep ups D = some (D ++ [d]) ∧ d ≤ 101)
      case first =>
        by_cases h0 : i = 0
        · have E0 : ((i : Int) == 0) = true := beq_iff_eq.2 (by omega)
          have hD0 : D = [] := List.length_eq_zero_iff.1 (by rw [HV.out.len]; exact h0)
          have b0z : wr.cell? ⟨gd, 0, none⟩ = some cu := by rw [← h0]; exact b0
          have b1z : wr.frozen? ⟨gd, 0, none⟩ = false := by rw [← h0]; exact b1
          have hn0 : (0 : Int) < (n : Int) := by omega
          have h1 : ups[0]? = some t := by have := HUT.out; rwa [h0] at this
          by_cases ht1 : t = -1
          · have E1 : (t != -1) = false := by rw [ht1]; rfl
            have HST := Lib.hid (show depStep ups D = some (D ++ [1]) from by
              rw [hD0]
              unfold depStep
              rw [if_pos rfl, h1]
              show (if t = -1 then some [1] else none) = _
              rw [if_pos ht1]; rfl)
            have HI0 := Lib.hid h0
            clear h0 ht1 hD0 b0 b1 h1
            go_wp2
            go_meet
            exact ⟨1, by rw [HI0.out]; rfl, HST.out, by omega⟩
          · have E1 : (t != -1) = true := by simpa using ht1
            have HR := Lib.hid (show VX = false from by
              rw [← HVX.out]
              refine validX_stop HGO.out ?_
              rw [hD0]
              unfold depStep
              rw [if_pos rfl, h1]
              show (if t = -1 then some [1] else none) = _
              rw [if_neg ht1])
            clear h0 ht1 hD0 b0 b1 h1
            go_wp2
            go_ret
            exact ⟨by rw [HR.out]; rfl, HV.out.below⟩
        · have E0 : ((i : Int) == 0) = false := beq_eq_false_iff_ne.2 (by omega)
          have hpos : 1 ≤ i := by omega
          have HCX := Lib.hid (fun (j : Nat) (u : Int) (hu : ups[j]? = some u) => show wr.cell? ⟨g, o + j * 6 + 2, none⟩ = some (.int .i64 u) from by
            rw [HCW.out]
            rw [← HU.out, List.getElem?_map] at hu
            obtain ⟨z, hz, rfl⟩ := Option.map_eq_some_iff.1 hu
            exact (DocAt.six HC.out hz).2.2.1)
          obtain ⟨U, hU⟩ : ∃ U, goUp ups i t ((i : Int) - 1) = U := ⟨_, rfl⟩
          have HUU := Lib.hid hU
          clear h0 hU
          go_wp2
          go_loop [6] (fun a => ∃ (u : Int) (f : Nat), a = .int .i64 u ∧ -1 ≤ u ∧ u < i ∧ u < f ∧ goUp ups f t u = U) (fun a => (intOf a + 1).toNat)
          case atStart => exact ⟨_, i, rfl, by omega, by omega, by omega, HUU.out⟩
          case round =>
            obtain ⟨u, f, rfl, hu1, hu2, hu3, hu4⟩ := hrel
            by_cases hcond : 0 ≤ u ∧ u ≠ t
            · obtain ⟨hc1, hc2⟩ := hcond
              obtain ⟨uN, rfl⟩ : ∃ uN : Nat, u = (uN : Int) := ⟨u.toNat, by omega⟩
              obtain ⟨v, hv⟩ : ∃ v, ups[uN]? = some v := ⟨_, List.getElem?_eq_getElem (by have := HILT.out; omega)⟩
              have hvb := upsOk_le HV.out.uok (j := uN) (by omega) hv
              obtain ⟨f', rfl⟩ : ∃ f', f = f' + 1 := ⟨f - 1, by omega⟩
              have hne : ((uN : Int) != t) = true := by rw [bne_iff_ne]; exact hc2
              have hcv := HCX.out uN v hv
              have huN : uN < n := by omega
              have HST := Lib.hid (show goUp ups f' t v = U from by
                rw [goUp_step ⟨hc1, hc2⟩] at hu4
                rw [Int.toNat_natCast, hv] at hu4
                exact hu4)
              clear hu4 hv hc2
              go_wp2
              go_round
              case rel => exact ⟨v, f', rfl, hvb.1, by omega, by omega, HST.out⟩
              case measure => simp [intOf]; omega
            · have huU : u = U := by rw [← hu4]; exact (goUp_stop hcond).symm
              subst huU
              have hg : goUp ups D.length (ups[D.length]?.getD 0) ((D.length : Int) - 1) = u := by
                rw [HV.out.len, HUT.out]; exact HUU.out
              have hD0 : D ≠ [] := fun e => by have := HV.out.len; rw [e] at this; simp at this; omega
              by_cases hneg : u < 0
              · have HR := Lib.hid (show VX = false from by
                  rw [← HVX.out]
                  refine validX_stop HGO.out ?_
                  unfold depStep
                  rw [if_neg hD0, hg, if_pos hneg])
                have hc1 : ¬ (0 : Int) ≤ u := by omega
                clear hcond hu4 hg hD0
                go_wp2
                go_ret
                exact ⟨by rw [HR.out]; rfl, HV.out.below⟩
              · have hut : u = t := Decidable.byContradiction fun e => hcond ⟨by omega, e⟩
                obtain ⟨uN, hun⟩ : ∃ uN : Nat, u = (uN : Int) := ⟨u.toNat, by omega⟩
                subst hun
                obtain ⟨d, hd⟩ : ∃ d, D[uN]? = some d := ⟨_, List.getElem?_eq_getElem (by rw [HV.out.len]; omega)⟩
                have hd100 := HV.out.small d (List.mem_of_getElem? hd)
                have HST := Lib.hid (show depStep ups D = some (D ++ [d + 1]) from by
                  unfold depStep
                  rw [if_neg hD0, hg, if_neg hneg, Int.toNat_natCast, hd]; rfl)
                have hne : ((uN : Int) != t) = false := by rw [hut]; simp
                have hcd : wr.cell? ⟨gd, uN, none⟩ = some (.int .i64 d) := (HV.out.blk.cell uN).trans (HV.out.cells uN d hd)
                have q3 : (0 : Int) ≤ (uN : Int) := by omega
                have q4 : (uN : Int) < (n : Int) := by omega
                have q5 : ¬ (uN : Int) < 0 := by omega
                have HUt := Lib.hid hut
                rw [← hut] at HUT
                clear hcond hu4 hg hD0 hneg hd
                subst hut
                go_wp2
                go_meet
                exact ⟨d + 1, by push_cast; rfl, HST.out, by omega⟩
      case rest =>
        rename World => wx
        obtain ⟨d, rfl, hst, hdi⟩ := hcut
        have hx1 := HV.out.blk.set i (.int .i64 (d : Nat))
        have hx2 := HV.out.doc.far (p := ⟨gd, i, none⟩) (by show W.heap.size ≠ gd; omega) (.int .i64 (d : Nat))
        obtain ⟨X, hX⟩ : ∃ X, wr.setCell ⟨gd, i, none⟩ (.int .i64 (d : Nat)) = X := ⟨_, rfl⟩
        rw [hX] at hx1 hx2 ⊢
        have HX := Lib.hid hX
        have HX1 := Lib.hid hx1
        have HX2 := Lib.hid hx2
        have HBX := Lib.hid (show Below W.heap.size W X by rw [← hX]; exact HV.out.below.setCell (p := ⟨gd, i, none⟩) (by show W.heap.size ≤ gd; omega) _)
        have cx1 : X.cell? ⟨gd, i, none⟩ = some (.int .i64 (d : Nat)) := (hx1.cell i).trans (by rw [Array.getElem?_setIfInBounds_self_of_lt (by rw [HV.out.size]; exact hlt)])
        have cx2 := hx2.cell 0
        have HST := Lib.hid hst
        clear hX hx1 hx2 hst b0 b1 d0
        by_cases hbig : 100 < d
        · have HR := Lib.hid (show VX = false from by
            rw [← HVX.out]
            refine validX_deep (k := n - (i + 1)) (D := D ++ [d]) (d := d) ?_ (by simp) hbig
            have hg := HGO.out
            unfold depGo at hg
            rw [HST.out] at hg
            exact hg)
          go_wp2
          go_ret
          exact ⟨by rw [HR.out]; rfl, HBX.out⟩
        · have hsm : d ≤ 100 := by omega
          have HUOK := Lib.hid (show UpsOk ups (i + 1) from by
            have := depStep_ok (by rw [HV.out.len, HUL.out]; exact hlt) HST.out (by rw [HV.out.len]; exact HV.out.uok)
            rwa [List.length_append, HV.out.len] at this)
          go_upto_region 22 with (fail)
          obtain ⟨bs, hbs⟩ : ∃ bs, X.heap.size = bs := ⟨_, rfl⟩
          have hgb : gd < bs := by rw [← hbs]; exact HX1.out.lt
          have hwb : W.heap.size < bs := by omega
          have HBS := Lib.hid hbs
          have hk0 : kidsTo ups (i + 1) i = [] := kidsTo_own HUOK.out
          have H1 := Lib.hid (show K8 ups bs i X (.slice none 0 0) (.int .i64 ((i + 1 : Nat) : Int)) X from ⟨i + 1, rfl, Nat.le_refl _, HILT.out, by rw [hk0]; exact World.ownsRow_nil _ _ _ _, Below.refl _ _⟩)
          have hdw := HY.out
          clear hk0 cx1 cx2 hbs hdw
          go_loopw [7, 8] (fun p q V => K8 ups bs i X p q V) (fun p q V => n - (intOf q).toNat)
          case atStart => exact H1.out
          case round =>
            rename World => V
            obtain ⟨k, rfl, hk1, hk2, hkI, hkB⟩ := hrel
            rw [HUL.out] at hk2
            obtain ⟨va, vc, rfl⟩ := ownsRow_slice' hkI
            obtain ⟨L, hL⟩ : ∃ L, (kidsTo ups k i).length = L := ⟨_, rfl⟩
            have hLk : L ≤ k := by rw [← hL]; unfold kidsTo; exact Nat.le_trans (List.length_filter_le _ _) (by simp)
            have HKB := Lib.hid hkB
            have HKI := Lib.hid (show V.ownsRow bs 3 1 (.slice va L vc) L (intCells (kidsTo ups k i)) from by unfold IntsAt at hkI; rwa [hL] at hkI)
            have HBV := Lib.hid (HBX.out.trans (hkB.mono (by omega)))
            have hbV : bs ≤ V.heap.size := Nat.le_trans (Nat.le_of_eq HBS.out.symm) hkB.size
            have cv := (HX2.out.below hkB (by omega)).cell 0
            rw [hL]
            have HL := Lib.hid hL
            clear hkI hkB hL
            by_cases hlk : k < n
            · obtain ⟨uk, huk⟩ : ∃ uk, ups[k]? = some uk := ⟨_, List.getElem?_eq_getElem (by rw [HUL.out]; exact hlk)⟩
              have cu2 : V.cell? ⟨g, o + k * 6 + 2, none⟩ = some (.int .i64 uk) := by
                refine (HBV.out.cell (p := ⟨g, o + k * 6 + 2, none⟩) hg).trans ?_
                have huk2 := huk
                rw [← HU.out, List.getElem?_map] at huk2
                obtain ⟨z, hz, rfl⟩ := Option.map_eq_some_iff.1 huk2
                exact (DocAt.six HC.out hz).2.2.1
              have r1 : (0 : Int) ≤ (k : Int) := by omega
              have r2 : (k : Int) < (n : Int) := by omega
              have HKS := Lib.hid (kidsTo_step ups k i)
              by_cases hui : uk = (i : Int)
              · have HK2 := Lib.hid (show kidsTo ups (k + 1) i = kidsTo ups k i ++ [k] by rw [HKS.out, huk, hui, if_pos rfl])
                subst hui
                clear huk
                go_wp2_with (at_builtin; refine wpList_append_lies _ rfl _ _ _ rfl bs 3 j0 _ 1 8 Tryz.underlying32 hj0 hy0 hy1 hy2 rfl (by omega) (.slice va L vc) L (intCells (kidsTo ups k i)) (by rfl) (HKI.out.alloc _) ⟨V.heap.size, 0, none⟩ 1 1 [.int .i64 (k : Nat)] (by rfl) (by rfl) (cell_one_new _ _ _) (by simp [Value.oneCell']) (by omega) (by unfold maxLen; omega) (by omega) (by simp; omega) (V.heap.size + 1) (by simp) ?_; intro gg kc w6 hown hgrow hat hlt6; have HO6 := Lib.hid hown; have HG6 := Lib.hid hgrow; clear hown hgrow hat)
                go_roundw
                case rel =>
                  refine ⟨k + 1, by go_num, by omega, by rw [HUL.out]; omega, ?_, ?_⟩
                  · show w6.ownsRow bs 3 1 _ (kidsTo ups (k + 1) i).length (intCells (kidsTo ups (k + 1) i))
                    rw [HK2.out, List.length_append, HL.out, show intCells (kidsTo ups k i ++ [k]) = intCells (kidsTo ups k i) ++ [.int .i64 k] from by simp [intCells]]
                    exact HO6.out
                  · exact (HKB.out.alloc hbV _).grown HG6.out (by simp; omega) (fun k e => (HKI.out.lt k e).1)
                case measure => simp [intOf]; omega
              · have HK2 := Lib.hid (show kidsTo ups (k + 1) i = kidsTo ups k i by rw [HKS.out, huk, if_neg (fun e => hui (Option.some.inj e)), List.append_nil])
                have E2 : (uk == (i : Int)) = false := beq_eq_false_iff_ne.2 hui
                clear huk hui
                go_wp2
                go_roundw
                case rel =>
                  refine ⟨k + 1, by go_num, by omega, by rw [HUL.out]; omega, ?_, HKB.out⟩
                  rw [HK2.out]
                  unfold IntsAt
                  rw [HL.out]
                  exact HKI.out
                case measure => simp [intOf]; omega
            · obtain rfl : k = n := by omega
              have hkall : kidsTo ups k i = kidsI ups i := by rw [← HUL.out]; rfl
              obtain ⟨ki, hki1, hki2, hki3⟩ := HKK.out V HBV.out i y HY.out
              have c4 := (HBV.out.cell (p := ⟨g, o + i * 6 + 4, none⟩) hg).trans (DocAt.six HC.out HY.out).2.2.2.2.1
              have hrd : IntRd V (.slice va L vc) ((kidsI ups i).map fun (k : Nat) => (k : Int)) := by
                have := IntRd.of_ints (l := kidsTo ups k i) (W := V) (v := .slice va L vc) (show IntsAt bs V (kidsTo ups k i) (.slice va L vc) from by unfold IntsAt; rw [HL.out]; exact HKI.out)
                rwa [hkall] at this
              have hklen : ((kidsI ups i).map fun (k : Nat) => (k : Int)).length ≤ 1000000 := by rw [List.length_map, ← hkall, HL.out]; omega
              have HSI := Lib.hid (sameInts_any hrd hki3 hklen hki2)
              have HKI1 := Lib.hid hki1
              clear hkall hrd hklen hki3
              by_cases heq : ((kidsI ups i).map fun (k : Nat) => (k : Int)) = ki
              · rw [decide_eq_true heq] at HSI
                have HEQ := Lib.hid heq
                clear heq hki1
                go_wp2_with (go_at_call 15; refine HSI.out.mono ?_; rintro _ w7 ⟨rfl, hB7⟩; have HB7 := Lib.hid hB7; clear hB7)
                go_roundw
                case rel => exact ⟨i + 1, D ++ [d], _, by go_num, HV.out.next HUL.out hlt HST.out hsm (by rw [HEQ.out]; exact HKI1.out) (by rw [HX.out]; exact (HKB.out.mono (by omega)).trans (HB7.out.mono (by omega)))⟩
                case measure => simp [intOf]; omega
              · have HR := Lib.hid (show VX = false from by rw [← HVX.out]; exact validX_kids HILT.out hki1 (fun e => heq e.symm))
                rw [decide_eq_false heq] at HSI
                clear heq hki1
                go_wp2_with (go_at_call 15; refine HSI.out.mono ?_; rintro _ w7 ⟨rfl, hB7⟩; have HB7 := Lib.hid hB7; clear hB7)
                go_ret
                exact ⟨by rw [HR.out]; rfl, HBV.out.trans (HB7.out.mono HBV.out.size)⟩
    · obtain rfl : i = n := by omega
      have HR := Lib.hid (show VX = true from by
        rw [← HVX.out]
        have hgo := HV.out.go
        rw [Nat.sub_self] at hgo
        unfold validX
        rw [← hgo]
        show (decide (ups.length ≤ 10000) && D.all (fun d => decide (d ≤ 100)) && _) = true
        rw [decide_eq_true (show ups.length ≤ 10000 by rw [HUL.out]; exact hn), List.all_eq_true.2 (fun d hd => decide_eq_true (HV.out.small d hd)), decide_eq_true (show ∀ j, j < ups.length → ks[j]? = some ((kidsI ups j).map fun (k : Nat) => (k : Int)) from fun j hj => HV.out.kids j (by rwa [HUL.out] at hj))]
        rfl)
      go_wp2
      go_ret
      exact ⟨by rw [HR.out]; rfl, HV.out.below⟩
end Go.Proofs.YtlldpmjnledhgaaGreatDoor
namespace Go.Proofs.YtlldpmjnledhgaaGreatDoor
open Go.RowKit
set_option linter.unusedVariables false

/-- Is an element's name the one that is asked for? -/
def keepN (ys : List YE) (nm : ByteArray) (k : Nat) : Bool := match ys[k]? with | some z => decide (nm = ⟨#[]⟩ ∨ z.nm = nm) | none => false
/-- What stands at a place: no element; or this one, with these attributes and kids. -/
def EIn (w : World) (ys : List YE) (nm : ByteArray) (n : Nat) (e : Int) (AV : ByteArray × Int × Bool) (KL : List Nat) : Prop :=
  (¬ (0 ≤ e ∧ e < (n : Int)) ∧ AV = (⟨#[]⟩, 0, false) ∧ KL = []) ∨
  ∃ (k : Nat) (y : YE) (l : List (ByteArray × ByteArray × Int)) (lk : List Nat), e = (k : Int) ∧ k < n ∧ ys[k]? = some y ∧ AttrRd w (.slice y.ab y.an y.ac) l ∧ l.length = y.an ∧ IntRd w (.slice y.kb y.kn y.kc) (lk.map fun (k : Nat) => (k : Int)) ∧ lk.length = y.kn ∧ (∀ x ∈ lk, x < n) ∧ AV = attrF nm l ∧ KL = lk.filter (keepN ys nm)
theorem elem_facts {w : World} {a : Option Addr} {c n : Nat} {ys : List YE} {ks : List (List Int)} (hn : ys.length = n) (h : DocAt w (.slice a n c) ys) (hn6 : n ≤ 1000000) (hkl : ks.length = n)
    (hkk : ∀ (i : Nat) (y : YE), ys[i]? = some y → ∃ k, ks[i]? = some k ∧ k.length = y.kn ∧ k.length ≤ 1000000 ∧ IntRd w (.slice y.kb y.kn y.kc) k) (hv : validX (ys.map (·.up)) ks = true)
    (hat : ∀ (i : Nat) (y : YE), ys[i]? = some y → ∃ l : List (ByteArray × ByteArray × Int), l.length = y.an ∧ l.length ≤ 1000000 ∧ AttrRd w (.slice y.ab y.an y.ac) l) (e : Int) (nm : ByteArray) :
    ∃ (AV : ByteArray × Int × Bool) (KL : List Nat),
      (∀ X, Below w.heap.size w X → Calls Tryz.prog 14 #[.agg #[.slice a n c], .int .i64 e, .string nm] X fun en W' => en = .returned (.tuple #[.string AV.1, .int .i64 AV.2.1, .bool AV.2.2]) ∧ Below X.heap.size X W') ∧
      (∀ X, Below w.heap.size w X → Calls Tryz.prog 9 #[.agg #[.slice a n c], .int .i64 e, .string nm] X fun en W' => ∃ v, en = .returned v ∧ IntRd W' v (KL.map fun (k : Nat) => (k : Int)) ∧ Below X.heap.size X W') ∧
      EIn w ys nm n e AV KL := by
  subst hn
  by_cases he : 0 ≤ e ∧ e < (ys.length : Int)
  · obtain ⟨k, rfl⟩ : ∃ k : Nat, e = k := ⟨e.toNat, by omega⟩
    have hk : k < ys.length := by omega
    obtain ⟨y, hy⟩ : ∃ y, ys[k]? = some y := ⟨_, List.getElem?_eq_getElem hk⟩
    obtain ⟨l, hl1, hl2, hl3⟩ := hat k y hy
    obtain ⟨D, hD, hW, hDb, hn1, hks⟩ := validX_well hv
    rw [List.length_map] at hks
    obtain ⟨k', hk1, hk2, hk3, hk4⟩ := hkk k y hy
    rw [hks k hk] at hk1
    cases hk1
    rw [List.length_map] at hk2 hk3
    have hkm : ∀ x ∈ kidsI (ys.map (·.up)) k, x < ys.length := fun x hx => by
      have := List.mem_range.1 (List.mem_filter.1 hx).1
      rwa [List.length_map] at this
    refine ⟨attrF nm l, (kidsI (ys.map (·.up)) k).filter (keepN ys nm), fun X hX => ?_, fun X hX => ?_, .inr ⟨k, y, l, _, rfl, hk, hy, hl3, hl1, hk4, hk2, hkm, rfl, rfl⟩⟩
    · exact attr_some (h.below hX) hn6 hy (hl3.below hX) hl2 nm
    · refine kids_all (h.below hX) hn6 hkl (fun i z hz => ?_) hv hk (hks k hk) (fun x hx => ?_)
      · obtain ⟨q, q1, q2, q3, q4⟩ := hkk i z hz
        exact ⟨q, q1, q3, q4.below hX⟩
      · obtain ⟨z, hz⟩ : ∃ z, ys[x]? = some z := ⟨_, List.getElem?_eq_getElem (hkm x hx)⟩
        refine ⟨z, hz, ?_⟩
        unfold keepN
        rw [hz]
        exact decide_eq_true_iff
  · exact ⟨(⟨#[]⟩, 0, false), [], fun X hX => attr_none a ys.length c e nm X he, fun X hX => kids_out a ys.length c e nm X he, .inl ⟨he, rfl, rfl⟩⟩
theorem depthX_in {ups : List Int} {ks : List (List Int)} {D : List Nat} (hv : validX ups ks = true) (hD : depthsX ups = some D) {k d : Nat} (hk : k < ups.length) (hd : D[k]? = some d) : depthX ups ks (k : Int) = (d : Int) := by
  unfold depthX
  rw [if_pos ⟨by omega, by omega, hv⟩, hD, Int.toNat_natCast]
  show ((D[k]?.getD 0 : Nat) : Int) = d
  rw [hd]; rfl
theorem depthX_out {ups : List Int} {ks : List (List Int)} {e : Int} (h : ¬ (0 ≤ e ∧ e < (ups.length : Int))) : depthX ups ks e = 0 := by
  unfold depthX
  rw [if_neg (fun g => h ⟨g.1, g.2.1⟩)]
theorem walkY_in {D : List Nat} {n k : Nat} (hk : k < n) : walkY D n (k : Int) = segY D k := by unfold walkY; rw [if_pos ⟨by omega, by omega⟩, Int.toNat_natCast]
theorem walkY_out {D : List Nat} {n : Nat} {e : Int} (h : ¬ (0 ≤ e ∧ e < (n : Int))) : walkY D n e = [] := by unfold walkY; rw [if_neg h]
/-- How many are in an element, with itself; none, if there is no such element. -/
def sizeX (D : List Nat) (n : Nat) (e : Int) : Nat := (walkY D n e).length
/-- How many are told. -/
theorem cutL_len {α : Type} (stop : Int) (xs : List α) : ((cutL stop xs).length : Int) = if 0 < stop then min (xs.length : Int) stop else (xs.length : Int) := by
  unfold cutL
  split
  · rw [List.length_take, if_pos (by omega)]; omega
  · rw [if_neg (by omega)]
theorem cutL_nil {α : Type} (stop : Int) : (cutL stop ([] : List α)) = [] := by unfold cutL; split <;> simp
theorem name_ne {nm : ByteArray} (h : nm ≠ ⟨#[]⟩) : (nm.toList == []) = false ∧ nm.toList.isEmpty = false := by
  have h1 : nm.toList ≠ [] := fun e => h (by rw [ByteArray.toList_eq] at e; exact ByteArray.ext (Array.toList_inj.1 e))
  exact ⟨beq_eq_false_iff_ne.2 h1, by rw [List.isEmpty_eq_false_iff]; exact h1⟩
theorem told_doc {X X2 : World} {a : Option Addr} {c n : Nat} {ys : List YE} {ks : List (List Int)} {D : List Nat} (hn : ys.length = n) (h : DocAt X (.slice a n c) ys) (hn6 : n ≤ 100000) (hkl : ks.length = n)
    (hkk : ∀ (i : Nat) (y : YE), ys[i]? = some y → ∃ k, ks[i]? = some k ∧ k.length ≤ 1000000 ∧ IntRd X (.slice y.kb y.kn y.kc) k) (hv : validX (ys.map (·.up)) ks = true) (hD : depthsX (ys.map (·.up)) = some D) (e stop : Int)
    (hX2 : (X.alloc (.cells #[.slice a n c] 25)).alloc (.cells #[.int .i64 e] 3) = X2) :
    Calls Tryz.prog 17 #[.func (.func 30) #[] #[.pointer (some ⟨X.heap.size, 0, none⟩), .pointer (some ⟨X.heap.size + 1, 0, none⟩)], .int .i64 stop] X2 fun en W' =>
      ∃ vA vB, en = .returned (.tuple #[vA, vB]) ∧ IntRd W' vA (((cutL stop (walkY D n e)).map (·.1)).map fun (k : Nat) => (k : Int)) ∧ IntRd W' vB (((cutL stop (walkY D n e)).map (·.2)).map fun (k : Nat) => (k : Int)) ∧ Below X.heap.size X W' := by
  subst hn
  obtain ⟨D', hD', hW, hDb, hn1, hks⟩ := validX_well hv
  rw [hD] at hD'
  cases hD'
  have hB : Below X.heap.size X X2 := by rw [← hX2]; exact ((Below.refl _ X).alloc (Nat.le_refl _) _).alloc (by simp) _
  have k1 : Boxed X2 X.heap.size 25 (.slice a ys.length c) := by rw [← hX2]; exact (Boxed.new X _ _).alloc _
  have k2 : Boxed X2 (X.heap.size + 1) 3 (.int .i64 e) := by
    rw [← hX2]
    have := Boxed.new (X.alloc (.cells #[.slice a ys.length c] 25)) 3 (.int .i64 e)
    simpa only [World.size_alloc] using this
  have hl : D.length = ys.length := by rw [hW.len, List.length_map]
  have hseq := walk_stops (w := X2) (h.below hB) hkl (fun i y hy => by
    obtain ⟨k, g1, g2, g3⟩ := hkk i y hy
    exact ⟨k, g1, g2, g3.below hB⟩) hv hD e k1 k2
  refine (told8_any (N := ys.length) hn6 (walkY_len hl e) stop X2 hseq).mono ?_
  rintro en W' ⟨vA, vB, rfl, h1, h2, h3⟩
  have e1 : ∀ (L : List (Nat × Nat)) (f : Nat × Nat → Nat), L.map (fun p => nv (f p)) = intCells (L.map f) := fun L f => by unfold intCells; rw [List.map_map]; rfl
  refine ⟨vA, vB, rfl, IntRd.of_ints (base := X2.heap.size) ?_, IntRd.of_ints (base := X2.heap.size) ?_, hB.trans (h3.mono hB.size)⟩
  · unfold IntsAt
    rw [List.length_map, ← e1]
    exact h1
  · unfold IntsAt
    rw [List.length_map, ← e1]
    exact h2
end Go.Proofs.YtlldpmjnledhgaaGreatDoor
