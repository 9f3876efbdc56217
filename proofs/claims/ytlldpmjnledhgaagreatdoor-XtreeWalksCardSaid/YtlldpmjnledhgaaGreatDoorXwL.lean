/- The walk of the law XtreeWalks. -/
import Derived.Test.YtlldpmjnledhgaaGreatDoorXwPl
import Derived.Test.YtlldpmjnledhgaaGreatDoorXuRA
import Derived.Test.YtlldpmjnledhgaaGreatDoorQb
import Derived.Deep.DeepCutAuto
import Derived.Deep.CutBlock
import Derived.Deep.RegionHeld3
namespace Go.Proofs.YtlldpmjnledhgaaGreatDoor
open Go.RowKit
set_option linter.unusedVariables false

set_option maxRecDepth 100000 in
set_option maxHeartbeats 16000000 in
theorem walks_off (a : Option Addr) (n c : Nat) (nm : ByteArray) (stop : Int) (w : World) {m : Int} (hm : w.cell? ⟨0, 0, none⟩ = some (.int .i64 m)) (hT : FoldTab w) (ho : 60 < n ∨ (n ≤ 60 ∧ 60 < nm.size)) :
    Calls Tryz.prog 5 #[.agg #[.slice a n c], .string nm, .int .i64 stop] w fun e w' => e = .returned (.bool true) ∧ Below w.heap.size w w' := by
  obtain ⟨W1, hW1⟩ : ∃ W1, w.alloc (.cells #[.slice a n c] 25) = W1 := ⟨_, rfl⟩
  have hB1 : Below w.heap.size w W1 := by rw [← hW1]; exact (Below.refl _ w).alloc (Nat.le_refl _) _
  have hb1 : BlkAt W1 w.heap.size 25 #[.slice a n c] := by rw [← hW1]; exact BlkAt.new _ _ _
  have c1 := hb1.cell 0
  have HA := Lib.hid (alive_any W1 (maxLen_below hm (hB1.mono (Nat.le_refl _))) (hT.below hB1))
  have HB1 := Lib.hid hB1
  clear hm hT hB1 hb1
  rcases ho with ho | ⟨ho, h2⟩
  all_goals
    go_enter Tryz.func5, Tryz.ntmps5
    go_wp2_with (go_at_call 6; refine HA.out.mono ?_; rintro e w1 ⟨rfl, hB⟩; have HB := Lib.hid (HB1.out.trans (hB.mono HB1.out.size)); clear hB)
    go_ret
    exact ⟨rfl, HB.out⟩
/-- How much room is left behind the first i elements. -/
def SizesTo (ys : List YE) (i : Nat) (r : Int) : Prop := -1 ≤ r ∧ r ≤ 4000 ∧ (0 ≤ r → ∀ (j : Nat) (y : YE), j < i → ys[j]? = some y → y.kn ≤ 4000 ∧ y.an ≤ 4000)
theorem SizesTo.step {ys : List YE} {i : Nat} {r : Int} {y : YE} (h : SizesTo ys i r) (hy : ys[i]? = some y) (hr : 0 ≤ r) : SizesTo ys (i + 1) (roomX r [(y.nm.size : Int), (y.an : Int), (y.kn : Int), (y.tx.size : Int)]) := by
  obtain ⟨h1, h2, h3⟩ := h
  have hlow := roomX_low (left := r) [(y.nm.size : Int), (y.an : Int), (y.kn : Int), (y.tx.size : Int)] h1 (fun x hx => by
    simp only [List.mem_cons, List.not_mem_nil, or_false] at hx
    rcases hx with rfl | rfl | rfl | rfl <;> omega)
  refine ⟨hlow.1, by omega, fun h0 j z hj hz => ?_⟩
  have h4 := roomX_four h0 (by omega) (by omega) (by omega) (by omega)
  by_cases hji : j = i
  · subst hji
    rw [hy] at hz
    cases hz
    omega
  · exact h3 hr j z (by omega) hz

/-- What the room's loop leaves. -/
def RoomR (ys : List YE) (p : Value) : Prop := ∃ r : Int, p = .int .i64 r ∧ (r < 0 ∨ (0 ≤ r ∧ ∀ (j : Nat) (y : YE), ys[j]? = some y → y.kn ≤ 4000 ∧ y.an ≤ 4000))

set_option maxRecDepth 100000 in
set_option maxHeartbeats 64000000 in
theorem walks_on {w : World} {ev : Value} {ys : List YE} (h : DocAt w ev ys) (hn : ys.length ≤ 60) (nm : ByteArray) (hnm : nm.size ≤ 60) (stop : Int) (hsz : ∀ y ∈ ys, y.nm.size ≤ 9223372036854775807 ∧ y.tx.size ≤ 9223372036854775807 ∧ y.an ≤ 9223372036854775807 ∧ y.kn ≤ 9223372036854775807)
    {ks : List (List Int)} (hkl : ks.length = ys.length) (hkk : ∀ (i : Nat) (y : YE), ys[i]? = some y → ∃ k, ks[i]? = some k ∧ k.length = y.kn ∧ IntRd w (.slice y.kb y.kn y.kc) k)
    (hat : ∀ (i : Nat) (y : YE), ys[i]? = some y → ∃ l : List (ByteArray × ByteArray × Int), l.length = y.an ∧ AttrRd w (.slice y.ab y.an y.ac) l)
    {m : Int} (hm : w.cell? ⟨0, 0, none⟩ = some (.int .i64 m)) (hT : FoldTab w) :
    Calls Tryz.prog 5 #[.agg #[ev], .string nm, .int .i64 stop] w fun e w' => e = .returned (.bool true) ∧ Below w.heap.size w w' := by
  have mixed : Tryz.prog.follows .mixedOrders = true := by kernel_rfl
  have HDOC := Lib.hid h
  obtain ⟨a, c, rfl, h2⟩ := h
  obtain ⟨n, hnn⟩ : ∃ n, ys.length = n := ⟨_, rfl⟩
  have HN := Lib.hid hnn
  have H2 := Lib.hid h2
  have HSZ := Lib.hid hsz
  have HKL := Lib.hid hkl
  have HKK := Lib.hid hkk
  have HAT := Lib.hid hat
  rw [hnn] at hn HDOC ⊢
  clear h2 hnn hsz hkl hkk hat
  obtain ⟨j0, hj0, hy0, hy1, hy2⟩ := info_parts infoInt
  obtain ⟨W1, hW1⟩ : ∃ W1, w.alloc (.cells #[.slice a n c] 25) = W1 := ⟨_, rfl⟩
  have hB1 : Below w.heap.size w W1 := by rw [← hW1]; exact (Below.refl _ w).alloc (Nat.le_refl _) _
  have hb1 : BlkAt W1 w.heap.size 25 #[.slice a n c] := by rw [← hW1]; exact BlkAt.new _ _ _
  have c1 := hb1.cell 0
  have HA := Lib.hid (alive_any W1 (maxLen_below hm (hB1.mono (Nat.le_refl _))) (hT.below hB1))
  have HB1 := Lib.hid hB1
  have HBK1 := Lib.hid hb1
  clear hm hT hB1 hb1
  go_enter Tryz.func5, Tryz.ntmps5
  go_upto_block 0 with (go_at_call 6; refine HA.out.mono ?_; rintro e w2 ⟨rfl, hB⟩; have HB2 := Lib.hid (HB1.out.trans (hB.mono HB1.out.size)); have HBK2 := Lib.hid (HBK1.out.below hB HBK1.out.lt); clear hB)
  clear hW1
  go_cut [7, 8] (fun p q wr => RoomR ys p ∧ Below w2.heap.size w2 wr)
  case first => as_aux_lemma =>
    go_wp2
    go_loopw [7, 8] (fun p q wr => ∃ (i : Nat) (r : Int), q = .int .i64 i ∧ p = .int .i64 r ∧ i ≤ n ∧ SizesTo ys i r ∧ Below w2.heap.size w2 wr) (fun p q wr => n - (intOf q).toNat)
    case atStart => exact ⟨0, 4000, rfl, rfl, Nat.zero_le _, ⟨by omega, by omega, fun _ j y hj => by omega⟩, Below.refl _ _⟩
    case round =>
      obtain ⟨i, r, rfl, rfl, hi, hr, hB⟩ := hrel
      have HB := Lib.hid hB
      have HR := Lib.hid hr
      have hr1 := hr.1
      have hr2 := hr.2.1
      have HBr := Lib.hid (HB2.out.trans (hB.mono HB2.out.size))
      have d1 := (HBK2.out.below hB HBK2.out.lt).cell 0
      have HBKr := Lib.hid (HBK2.out.below hB HBK2.out.lt)
      clear hB hr
      by_cases hgo : i < n ∧ 0 ≤ r
      · obtain ⟨hlt, hr0⟩ := hgo
        obtain ⟨g, o, rfl, hg, hc⟩ := H2.out (fun e0 => by have := HN.out; rw [e0] at this; simp at this; omega)
        obtain ⟨y, hy⟩ : ∃ y, ys[i]? = some y := ⟨_, List.getElem?_eq_getElem (by rw [HN.out]; exact hlt)⟩
        obtain ⟨p0, p1, p2, p3, p4, p5⟩ := DocAt.six hc hy
        obtain ⟨z1, z2, z3, z4⟩ := HSZ.out y (List.mem_of_getElem? hy)
        have HSt := Lib.hid (HR.out.step hy hr0)
        have HC5 := Lib.hid (fun (X : World) (hX : Below wr.heap.size wr X) => show X.cell? ⟨w.heap.size, 0, none⟩ = some (.slice (some ⟨g, o, none⟩) n c) ∧ X.cell? ⟨g, o + i * 6, none⟩ = some (.string y.nm) ∧ X.cell? ⟨g, o + i * 6 + 3, none⟩ = some (.slice y.ab y.an y.ac) ∧ X.cell? ⟨g, o + i * 6 + 4, none⟩ = some (.slice y.kb y.kn y.kc) ∧ X.cell? ⟨g, o + i * 6 + 5, none⟩ = some (.string y.tx) from by
          have hXw := HBr.out.trans (hX.mono HBr.out.size)
          exact ⟨(HBKr.out.below hX HBKr.out.lt).cell 0, (hXw.cell (p := ⟨g, o + i * 6, none⟩) hg).trans p0, (hXw.cell (p := ⟨g, o + i * 6 + 3, none⟩) hg).trans p3, (hXw.cell (p := ⟨g, o + i * 6 + 4, none⟩) hg).trans p4, (hXw.cell (p := ⟨g, o + i * 6 + 5, none⟩) hg).trans p5⟩)
        obtain ⟨f1, f2, f3, f4, f5⟩ := HC5.out wr (Below.refl _ _)
        have hlt2 : (i : Int) < (n : Int) := by omega
        have hi0 : (0 : Int) ≤ (i : Int) := by omega
        clear hc hy p0 p1 p2 p3 p4 p5 d1
        go_upto_region 7 with (fail)
        go_region_held3 (fun W => W.cell? ⟨w.heap.size, 0, none⟩ = some (.slice (some ⟨g, o, none⟩) n c) ∧ W.cell? ⟨g, o + i * 6, none⟩ = some (.string y.nm) ∧ W.cell? ⟨g, o + i * 6 + 3, none⟩ = some (.slice y.ab y.an y.ac) ∧ W.cell? ⟨g, o + i * 6 + 4, none⟩ = some (.slice y.kb y.kn y.kc) ∧ W.cell? ⟨g, o + i * 6 + 5, none⟩ = some (.string y.tx)) (go_keep)
          (first | (go_at_call 11; refine (room_four ((BlkAt.new wr _ _).drew) ⟨by omega, by omega⟩ ⟨by omega, by omega⟩ ⟨by omega, by omega⟩ ⟨by omega, by omega⟩ r hr1 (by omega)).mono ?_; rintro _ w5 ⟨rfl, hB5⟩; replace hB5 : Below wr.heap.size wr w5 := ((Below.refl _ wr).alloc (Nat.le_refl _) _).drew.trans (hB5.mono (by simp)); have HB5 := Lib.hid hB5; obtain ⟨f1, f2, f3, f4, f5⟩ := HC5.out w5 hB5; clear hB5))
        go_wp2
        go_roundw
        case rel => exact ⟨i + 1, _, by go_num, rfl, by omega, HSt.out, HB.out.trans (HB5.out.mono HB.out.size)⟩
        case measure => simp [intOf]; omega
      · have HX := Lib.hid (show RoomR ys (.int .i64 r) from ⟨r, rfl, by
          rcases Int.lt_or_le r 0 with h | h
          · exact .inl h
          · refine .inr ⟨h, fun j y hy => HR.out.2.2 h j y ?_ hy⟩
            have h1 := (List.getElem?_eq_some_iff.1 hy).1
            rw [HN.out] at h1
            omega⟩)
        rcases Int.lt_or_le r 0 with hr0 | hr0
        · go_wp2
          all_goals
            go_meet
            exact ⟨HX.out, HB.out⟩
        · have hin : n ≤ i := by omega
          go_wp2
          go_meet
          exact ⟨HX.out, HB.out⟩
  case rest => as_aux_lemma =>
    rename World => wr
    obtain ⟨⟨r, rfl, hr⟩, hB⟩ := hcut
    have HBr := Lib.hid (HB2.out.trans (hB.mono HB2.out.size))
    have d1 := (HBK2.out.below hB HBK2.out.lt).cell 0
    have HBKr := Lib.hid (HBK2.out.below hB HBK2.out.lt)
    clear hB
    rcases hr with hr | ⟨hr0, hsm⟩
    · go_wp2
      go_ret
      exact ⟨rfl, HBr.out⟩
    · have HSM := Lib.hid hsm
      have HDX := Lib.hid (fun (X : World) (hX : Below w.heap.size w X) => show DocAt X (.slice a ys.length c) ys from by rw [HN.out]; exact HDOC.out.below hX)
      have HKX := Lib.hid (fun (X : World) (hX : Below w.heap.size w X) => show ∀ (j : Nat) (y : YE), ys[j]? = some y → ∃ k, ks[j]? = some k ∧ k.length ≤ 1000000 ∧ IntRd X (.slice y.kb y.kn y.kc) k from fun j y hy => by
        obtain ⟨k, k1, k2, k3⟩ := HKK.out j y hy
        have := (HSM.out j y hy).1
        exact ⟨k, k1, by omega, k3.below hX⟩)
      obtain ⟨V, hV⟩ : ∃ V, validX (ys.map (·.up)) ks = V := ⟨_, rfl⟩
      have HV := Lib.hid hV
      have H8 := Lib.hid (valid8_any (HDX.out wr HBr.out) (by rw [HN.out]; omega) HKL.out (HKX.out wr HBr.out))
      have HV9 := Lib.hid (fun (X : World) (hX : Below w.heap.size w X) => valid_any (HDX.out X hX) (by rw [HN.out]; omega) HKL.out (HKX.out X hX))
      rw [HV.out, HN.out] at H8 HV9
      have hVV : (V != V) = false := by cases V <;> rfl
      clear hV hsm
      go_upto_region 13 with (first
        | (go_at_call 12; refine H8.out.mono ?_; rintro _ w3 ⟨rfl, hB3⟩; have HB3 := Lib.hid (HBr.out.trans (hB3.mono HBr.out.size)); have d3 := (HBKr.out.below hB3 HBKr.out.lt).cell 0; have HBK3 := Lib.hid (HBKr.out.below hB3 HBKr.out.lt); clear hB3)
        | (go_at_call 13; refine (HV9.out w3 HB3.out).mono ?_; rintro _ w4 ⟨rfl, hB4⟩; have HB4 := Lib.hid (HB3.out.trans (hB4.mono HB3.out.size)); have d4 := (HBK3.out.below hB4 HBK3.out.lt).cell 0; have HBK4 := Lib.hid (HBK3.out.below hB4 HBK3.out.lt); clear hB4))
      clear H8 HV9 HBr HBKr HB3 HBK3 d1 d3 hVV HA c1 HB1 HBK1 HB2 HBK2
      cases V with
      | false => as_aux_lemma =>
        go_wp2
        go_loopw [10] (fun p X => X = w4) (fun _ _ => 0)
        case atStart => rfl
        case round =>
          subst hrel
          go_wp2
          go_ret
          exact ⟨rfl, HB4.out⟩
      | true => as_aux_lemma =>
        obtain ⟨D, hD, hW, hDb, hn1, hks⟩ := validX_well HV.out
        rw [List.length_map, HN.out] at hW
        have HW := Lib.hid hW
        have HD := Lib.hid hD
        have HDb := Lib.hid hDb
        have HEF := Lib.hid (fun (e : Int) => elem_facts HN.out HDOC.out (by omega) (by rw [HKL.out, HN.out]) (fun i y hy => by
          obtain ⟨k, k1, k2, k3⟩ := HKK.out i y hy
          have := (HSM.out i y hy).1
          exact ⟨k, k1, k2, by omega, k3⟩) HV.out (fun i y hy => by
          obtain ⟨l, l1, l2⟩ := HAT.out i y hy
          have := (HSM.out i y hy).2
          exact ⟨l, l1, by omega, l2⟩) e nm)
        have HDP := Lib.hid (fun (X : World) (hX : Below w.heap.size w X) (k : Int) => show Calls Tryz.prog 8 #[.agg #[.slice a n c], .int .i64 k] X fun en W' => en = .returned (.int .i64 (depthX (ys.map (·.up)) ks k)) ∧ Below X.heap.size X W' from by
          have := depth_any (HDX.out X hX) (by rw [HN.out]; omega) HKL.out (HKX.out X hX) k
          rwa [HN.out] at this)
        have HTO := Lib.hid (fun (X X2 : World) (hX : Below w.heap.size w X) (e : Int) hX2 => told_doc (X2 := X2) HN.out (HDOC.out.below hX) (by omega) (by rw [HKL.out, HN.out]) (HKX.out X hX) HV.out HD.out e stop hX2)
        clear hD hW hDb hn1 hks d4
        go_wp2
        go_loopw [10] (fun p X => ∃ e : Int, p = .int .i64 e ∧ -1 ≤ e ∧ e ≤ (n : Int) + 1 ∧ Below w4.heap.size w4 X) (fun p X => ((n : Int) + 1 - intOf p).toNat)
        case atStart => exact ⟨-1, rfl, by omega, by omega, Below.refl _ _⟩
        case round => as_aux_lemma =>
          rename World => wr
          obtain ⟨e, rfl, he1, he2, hB⟩ := hrel
          have HBr := Lib.hid (HB4.out.trans (hB.mono HB4.out.size))
          have HBKr := Lib.hid (HBK4.out.below hB HBK4.out.lt)
          have HB := Lib.hid hB
          have d5 := HBKr.out.cell 0
          clear hB
          by_cases hen : e ≤ (n : Int)
          · obtain ⟨⟨av, aa, ab⟩, KL, hAt, hKd, hIn⟩ := HEF.out e
            have HAt := Lib.hid hAt
            have HKd := Lib.hid hKd
            have HIn := Lib.hid hIn
            obtain ⟨dX, hdX⟩ : ∃ dX, depthX (ys.map (·.up)) ks e = dX := ⟨_, rfl⟩
            have HdX := Lib.hid hdX
            clear hAt hKd hIn hdX
            go_upto_region 16 with (fail)
            go_cut [11] (fun s wy => ∃ I : Bool, s = .bool I ∧ I = decide (0 ≤ e ∧ e < (n : Int)) ∧ wr = wy)
            case first => as_aux_lemma =>
              by_cases h0 : 0 ≤ e
              · by_cases h1 : e < (n : Int)
                · have HE := Lib.hid (decide_eq_true (show 0 ≤ e ∧ e < (n : Int) from ⟨h0, h1⟩))
                  go_wp2
                  go_meet
                  exact ⟨true, rfl, HE.out.symm, rfl⟩
                · have HE := Lib.hid (decide_eq_false (show ¬ (0 ≤ e ∧ e < (n : Int)) from fun h => h1 h.2))
                  go_wp2
                  go_meet
                  exact ⟨false, rfl, HE.out.symm, rfl⟩
              · have HE := Lib.hid (decide_eq_false (show ¬ (0 ≤ e ∧ e < (n : Int)) from fun h => h0 h.1))
                go_wp2
                go_meet
                exact ⟨false, rfl, HE.out.symm, rfl⟩
            case rest => as_aux_lemma =>
              obtain ⟨I, rfl, hI, rfl⟩ := hcut
              have HI := Lib.hid hI
              clear hI
              go_upto_block 4 with (fail)
              go_cut [12, 13] (fun s k wy => s = .int .i64 dX ∧ wr = wy)
              case first => as_aux_lemma =>
                rcases HIn.out with ⟨g1, g2, g3⟩ | ⟨k, y, l, lk, g1, g2, g3, -⟩
                · have hIf : I = false := by rw [HI.out]; exact decide_eq_false g1
                  subst hIf
                  have hd0 : dX = 0 := by rw [← HdX.out]; exact depthX_out (by rw [List.length_map, HN.out]; exact g1)
                  clear g1 g2 g3 HdX
                  subst hd0
                  go_wp2
                  go_loop [12, 13] (fun s k => s = .int .i64 0 ∧ k = .int .i64 e) (fun _ _ => 0)
                  case atStart => exact ⟨rfl, rfl⟩
                  case round =>
                    obtain ⟨rfl, rfl⟩ := hrel
                    go_wp2
                    go_meet
                    exact ⟨rfl, rfl⟩
                · have hIt : I = true := by rw [HI.out, g1]; exact decide_eq_true ⟨by omega, by omega⟩
                  subst hIt
                  subst g1
                  obtain ⟨d, hd⟩ : ∃ d, D[k]? = some d := ⟨_, List.getElem?_eq_getElem (by rw [HW.out.len]; exact g2)⟩
                  have hdd : dX = (d : Int) := by rw [← HdX.out]; exact depthX_in HV.out HD.out (by rw [List.length_map, HN.out]; exact g2) hd
                  have H0 := Lib.hid (DepAt.start hd)
                  have HDK := Lib.hid hd
                  obtain ⟨g, o, rfl, hg, hc⟩ := H2.out (fun e0 => by have := HN.out; rw [e0] at this; simp at this; omega)
                  have HC := Lib.hid hc
                  clear HdX g3 hd hc
                  subst hdd
                  go_wp2
                  go_loop [12, 13] (fun s q => ∃ (t : Nat) (u : Int), s = .int .i64 t ∧ q = .int .i64 u ∧ DepAt D k u t) (fun _ q => (intOf q + 1).toNat)
                  case atStart => exact ⟨0, k, rfl, rfl, H0.out⟩
                  case round =>
                    obtain ⟨t, u, rfl, rfl, hdp⟩ := hrel
                    have hlow := hdp.low
                    have ht100 := hdp.le HDb.out
                    by_cases hu : 0 ≤ u
                    · obtain ⟨un, rfl⟩ : ∃ un : Nat, u = un := ⟨u.toNat, by omega⟩
                      have hun : un < n := by omega
                      obtain ⟨v, hv1, hv2, hv3, hv4⟩ := HW.out.depAt_step hdp hun
                      have HV2 := Lib.hid hv2
                      rw [List.getElem?_map] at hv1
                      obtain ⟨z, hz, rfl⟩ := Option.map_eq_some_iff.1 hv1
                      have cz := (HBr.out.cell (p := ⟨g, o + un * 6 + 2, none⟩) hg).trans (DocAt.six HC.out hz).2.2.1
                      have r1 : (0 : Int) ≤ (un : Int) := by omega
                      have r2 : (un : Int) < (n : Int) := by omega
                      clear hdp hv1 hv2 hz
                      go_wp2
                      go_round
                      case rel => exact ⟨t + 1, z.up, by go_num, rfl, HV2.out⟩
                      case measure => simp [intOf]; omega
                    · have htd : d = t := by have h1 := hdp.fin (by omega); rw [HDK.out] at h1; exact Option.some.inj h1
                      clear hdp hlow ht100
                      subst htd
                      go_wp2
                      go_meet
                      exact ⟨rfl, rfl⟩
              case rest => as_aux_lemma =>
                obtain ⟨rfl, rfl⟩ := hcut
                go_upto_if 127 with (fail)
                go_cut [14, 15, 16, 17] (fun kv x y z wx => IntRd wx kv (KL.map fun (k : Nat) => (k : Int)) ∧ x = .string av ∧ y = .int .i64 aa ∧ z = .bool ab ∧ Below wr.heap.size wr wx)
                case first => as_aux_lemma =>
                  rcases HIn.out with ⟨g1, g2, g3⟩ | ⟨k, y, l, lk, g1, g2, g3, g4, g5, g6, g7, g8, g9, g10⟩
                  · have hIf : I = false := by rw [HI.out]; exact decide_eq_false g1
                    subst hIf
                    cases g2
                    subst g3
                    clear g1
                    go_wp2
                    go_meet
                    exact ⟨⟨none, 0, rfl, fun h => absurd rfl h⟩, rfl, rfl, rfl, Below.refl _ _⟩
                  · have hIt : I = true := by rw [HI.out, g1]; exact decide_eq_true ⟨by omega, by omega⟩
                    subst hIt
                    subst g1
                    obtain ⟨g, o, rfl, hg, hc⟩ := H2.out (fun e0 => by have := HN.out; rw [e0] at this; simp at this; omega)
                    obtain ⟨p0, p1, p2, p3, p4, p5⟩ := DocAt.six hc g3
                    obtain ⟨ka, kc, hke, hk2⟩ := g6
                    obtain ⟨ba, bc, hbe, hb2⟩ := g4
                    rw [hke, List.length_map] at p4
                    rw [hbe] at p3
                    obtain ⟨mk, hmk⟩ : ∃ mk, lk.length = mk := ⟨_, rfl⟩
                    obtain ⟨ma, hma⟩ : ∃ ma, l.length = ma := ⟨_, rfl⟩
                    have hmk4 : mk ≤ 4000 := by rw [← hmk, g7]; exact (HSM.out k y g3).1
                    have hma4 : ma ≤ 4000 := by rw [← hma, g5]; exact (HSM.out k y g3).2
                    rw [hmk] at p4
                    rw [hma] at p3
                    have HMK := Lib.hid hmk
                    have HMA := Lib.hid hma
                    have HK2 := Lib.hid hk2
                    have HB2' := Lib.hid hb2
                    have HC := Lib.hid hc
                    have H8 := Lib.hid g8
                    have H9 := Lib.hid g9
                    have H10 := Lib.hid g10
                    have q1 : (0 : Int) ≤ (k : Int) := by omega
                    have q2 : (k : Int) < (n : Int) := by omega
                    have c4 := (HBr.out.cell (p := ⟨g, o + k * 6 + 4, none⟩) hg).trans p4
                    have HP3 := Lib.hid p3
                    clear p0 p1 p2 p3 p4 p5 hke hk2 hbe hb2 hmk hma hc g3 g5 g7 g8 g9 g10
                    go_wp2
                    go_loopw [14, 135] (fun kv q X => ∃ t : Nat, q = .int .i64 t ∧ t ≤ mk ∧ IntsAt wr.heap.size X ((lk.take t).filter (keepN ys nm)) kv ∧ Below wr.heap.size wr X) (fun kv q X => mk - (intOf q).toNat)
                    case atStart => exact ⟨0, rfl, Nat.zero_le _, World.ownsRow_nil _ _ _ _, Below.refl _ _⟩
                    case round =>
                      rename World => wk
                      obtain ⟨t, rfl, ht, hkI, hkB⟩ := hrel
                      obtain ⟨va, vc, rfl⟩ := ownsRow_slice' hkI
                      obtain ⟨L, hL⟩ : ∃ L, ((lk.take t).filter (keepN ys nm)).length = L := ⟨_, rfl⟩
                      have hLk : L ≤ t := by rw [← hL]; exact Nat.le_trans (List.length_filter_le _ _) (List.length_take_le _ _)
                      have HKB := Lib.hid hkB
                      have HKI := Lib.hid (show wk.ownsRow wr.heap.size 3 1 (.slice va L vc) L (intCells ((lk.take t).filter (keepN ys nm))) from by unfold IntsAt at hkI; rwa [hL] at hkI)
                      have HBV := Lib.hid (HBr.out.trans (hkB.mono HBr.out.size))
                      have hbV : wr.heap.size ≤ wk.heap.size := hkB.size
                      have HBKk := Lib.hid (HBKr.out.below hkB HBKr.out.lt)
                      have cv := HBKk.out.cell 0
                      rw [hL]
                      have HL := Lib.hid hL
                      clear hkI hkB hL
                      by_cases hlt : t < mk
                      · obtain ⟨x, hx⟩ : ∃ x, lk[t]? = some x := ⟨_, List.getElem?_eq_getElem (by rw [HMK.out]; exact hlt)⟩
                        have hxn := H8.out x (List.mem_of_getElem? hx)
                        obtain ⟨z, hz⟩ : ∃ z, ys[x]? = some z := ⟨_, List.getElem?_eq_getElem (by rw [HN.out]; exact hxn)⟩
                        obtain ⟨kb, ko, rfl, hkb, hkc⟩ := HK2.out (fun h0 => by have h1 := HMK.out; rw [List.map_eq_nil_iff.1 h0] at h1; have h3 : (0 : Nat) = mk := h1; omega)
                        have cx := (HBV.out.cell (p := ⟨kb, ko + t, none⟩) hkb).trans ((hkc t (by rw [List.length_map, HMK.out]; exact hlt)).trans (by rw [List.getD_eq_getElem?_getD, List.getElem?_map, hx]; rfl : _ = some (Value.int .i64 (x : Nat))))
                        have cz := (HBV.out.cell (p := ⟨g, o + x * 6, none⟩) hg).trans (DocAt.six HC.out hz).1
                        have HFT := Lib.hid (filter_take (P := keepN ys nm) hx)
                        have hkn : keepN ys nm x = decide (nm = ⟨#[]⟩ ∨ z.nm = nm) := by unfold keepN; rw [hz]
                        have HKN := Lib.hid hkn
                        obtain ⟨zn, hzn⟩ : ∃ zn, z.nm = zn := ⟨_, rfl⟩
                        rw [hzn] at cz HKN
                        have r1 : (0 : Int) ≤ (x : Int) := by omega
                        have r2 : (x : Int) < (n : Int) := by omega
                        clear hx hz hkc hkn hzn
                        by_cases hkeep : nm = ⟨#[]⟩ ∨ zn = nm
                        · have HF := Lib.hid (show (lk.take (t + 1)).filter (keepN ys nm) = (lk.take t).filter (keepN ys nm) ++ [x] by rw [HFT.out, HKN.out, decide_eq_true hkeep]; rfl)
                          by_cases hem : nm = ⟨#[]⟩
                          · have E1 : (nm.toList == []) = true := by rw [hem, ByteArray.toList_eq]; rfl
                            have E2 : nm.toList.isEmpty = true := by rw [hem, ByteArray.toList_eq]; rfl
                            clear hem hkeep
                            go_wp2_with (at_builtin; refine wpList_append_lies _ rfl _ _ _ rfl wr.heap.size 3 j0 _ 1 8 Tryz.underlying32 hj0 hy0 hy1 hy2 rfl (by omega) (.slice va L vc) L (intCells ((lk.take t).filter (keepN ys nm))) (by rfl) (HKI.out.alloc _) ⟨wk.heap.size, 0, none⟩ 1 1 [.int .i64 (x : Nat)] (by rfl) (by rfl) (cell_one_new _ _ _) (by simp [Value.oneCell']) (by omega) (by unfold maxLen; omega) (by omega) (by simp; omega) (wk.heap.size + 1) (by simp) ?_; intro gg kc w6 hown hgrow hat hlt6; have HO6 := Lib.hid hown; have HG6 := Lib.hid hgrow; clear hown hgrow hat)
                            go_roundw
                            case rel =>
                              refine ⟨t + 1, by go_num, by omega, ?_, ?_⟩
                              · rw [HF.out]
                                unfold IntsAt
                                rw [List.length_append, HL.out, show intCells ((lk.take t).filter (keepN ys nm) ++ [x]) = intCells ((lk.take t).filter (keepN ys nm)) ++ [.int .i64 x] from by simp [intCells]]
                                exact HO6.out
                              · exact (HKB.out.alloc hbV _).grown HG6.out (by simp; omega) (fun k e => (HKI.out.lt k e).1)
                            case measure => simp [intOf]; omega
                          · have hzn : zn = nm := by rcases hkeep with h | h; exact absurd h hem; exact h
                            have E0 := name_ne hem
                            have E1 : (nm.toList == []) = false := E0.1
                            have E2 : nm.toList.isEmpty = false := E0.2
                            have E3 : (zn.toList == nm.toList) = true := by rw [hzn]; exact beq_iff_eq.2 rfl
                            clear hem hkeep hzn E0
                            go_wp2_with (at_builtin; refine wpList_append_lies _ rfl _ _ _ rfl wr.heap.size 3 j0 _ 1 8 Tryz.underlying32 hj0 hy0 hy1 hy2 rfl (by omega) (.slice va L vc) L (intCells ((lk.take t).filter (keepN ys nm))) (by rfl) (HKI.out.alloc _) ⟨wk.heap.size, 0, none⟩ 1 1 [.int .i64 (x : Nat)] (by rfl) (by rfl) (cell_one_new _ _ _) (by simp [Value.oneCell']) (by omega) (by unfold maxLen; omega) (by omega) (by simp; omega) (wk.heap.size + 1) (by simp) ?_; intro gg kc w6 hown hgrow hat hlt6; have HO6 := Lib.hid hown; have HG6 := Lib.hid hgrow; clear hown hgrow hat)
                            go_roundw
                            case rel =>
                              refine ⟨t + 1, by go_num, by omega, ?_, ?_⟩
                              · rw [HF.out]
                                unfold IntsAt
                                rw [List.length_append, HL.out, show intCells ((lk.take t).filter (keepN ys nm) ++ [x]) = intCells ((lk.take t).filter (keepN ys nm)) ++ [.int .i64 x] from by simp [intCells]]
                                exact HO6.out
                              · exact (HKB.out.alloc hbV _).grown HG6.out (by simp; omega) (fun k e => (HKI.out.lt k e).1)
                            case measure => simp [intOf]; omega
                        · have HF := Lib.hid (show (lk.take (t + 1)).filter (keepN ys nm) = (lk.take t).filter (keepN ys nm) by rw [HFT.out, HKN.out, decide_eq_false hkeep]; simp)
                          have E0 := name_ne (fun h => hkeep (.inl h))
                          have E1 : (nm.toList == []) = false := E0.1
                          have E2 : nm.toList.isEmpty = false := E0.2
                          have E3 : (zn.toList == nm.toList) = false := bytes_ne (fun h => hkeep (.inr h))
                          clear hkeep E0
                          go_wp2
                          go_roundw
                          case rel =>
                            refine ⟨t + 1, by go_num, by omega, ?_, HKB.out⟩
                            rw [HF.out]
                            unfold IntsAt
                            rw [HL.out]
                            exact HKI.out
                          case measure => simp [intOf]; omega
                      · obtain rfl : t = mk := by omega
                        have hKall : lk.take t = lk := List.take_of_length_le (by rw [HMK.out]; exact Nat.le_refl _)
                        have HKLr := Lib.hid (show IntRd wk (.slice va L vc) (KL.map fun (k : Nat) => (k : Int)) from by
                          have := IntRd.of_ints (base := wr.heap.size) (l := (lk.take t).filter (keepN ys nm)) (W := wk) (v := .slice va L vc) (by unfold IntsAt; rw [HL.out]; exact HKI.out)
                          rw [hKall] at this
                          rw [H10.out]
                          exact this)
                        have c3 := (HBV.out.cell (p := ⟨g, o + k * 6 + 3, none⟩) hg).trans HP3.out
                        have hz0 : attrF nm (l.drop ma) = (⟨#[]⟩, 0, false) := by rw [← HMA.out]; exact attrF_nil nm l
                        have HZ0 := Lib.hid hz0
                        clear hKall hz0
                        go_wp2
                        go_loopw [15, 16, 17, 20] (fun x y z q X => ∃ u : Nat, q = .int .i64 ((u : Int) - 1) ∧ u ≤ ma ∧ x = .string (attrF nm (l.drop u)).1 ∧ y = .int .i64 (attrF nm (l.drop u)).2.1 ∧ z = .bool (attrF nm (l.drop u)).2.2 ∧ Below wk.heap.size wk X) (fun x y z q X => (intOf q + 1).toNat)
                        case atStart => exact ⟨ma, rfl, Nat.le_refl _, by rw [HZ0.out], by rw [HZ0.out], by rw [HZ0.out], Below.refl _ _⟩
                        case round =>
                          rename World => wa
                          obtain ⟨u, rfl, hu, rfl, rfl, rfl, hBa⟩ := hrel
                          obtain ⟨⟨f0, f1, f2⟩, hf⟩ : ∃ f, attrF nm (l.drop u) = f := ⟨_, rfl⟩
                          rw [hf]
                          have HFf := Lib.hid hf
                          have HBa := Lib.hid hBa
                          have HBav := Lib.hid (HBV.out.trans (hBa.mono HBV.out.size))
                          have da := (HBKk.out.below hBa HBKk.out.lt).cell 0
                          have c3a := (HBav.out.cell (p := ⟨g, o + k * 6 + 3, none⟩) hg).trans HP3.out
                          clear hf hBa cv c3
                          rcases Nat.eq_zero_or_pos u with hu0 | hu1
                          · have hfe : (f0, f1, f2) = (av, aa, ab) := by rw [← HFf.out, hu0, List.drop_zero]; exact H9.out.symm
                            cases hfe
                            have hneg : ¬ (0 : Int) ≤ (u : Int) - 1 := by omega
                            clear hu0
                            go_wp2
                            go_meet
                            exact ⟨HKLr.out.below HBa.out, rfl, rfl, rfl, HKB.out.trans (HBa.out.mono HKB.out.size)⟩
                          · obtain ⟨v, rfl⟩ : ∃ v, u = v + 1 := ⟨u - 1, by omega⟩
                            rw [show ((v + 1 : Nat) : Int) - 1 = (v : Int) by omega]
                            have hvm : v < ma := by omega
                            obtain ⟨x, hx⟩ : ∃ x, l[v]? = some x := ⟨_, List.getElem?_eq_getElem (by rw [HMA.out]; exact hvm)⟩
                            obtain ⟨b2, o2, rfl, hb3, hcl⟩ := HB2'.out (fun h0 => by have h1 := HMA.out; rw [h0] at h1; have h3 : (0 : Nat) = ma := h1; omega)
                            obtain ⟨r0, r1, r2⟩ := hcl v x hx
                            have s0 := (HBav.out.cell (p := ⟨b2, o2 + v * 3, none⟩) hb3).trans r0
                            have s1 := (HBav.out.cell (p := ⟨b2, o2 + v * 3 + 1, none⟩) hb3).trans r1
                            have s2 := (HBav.out.cell (p := ⟨b2, o2 + v * 3 + 2, none⟩) hb3).trans r2
                            have HDr := Lib.hid (attrF_drop (nm := nm) hx)
                            obtain ⟨x0, x1, x2⟩ := x
                            have t1 : (0 : Int) ≤ (v : Int) := by omega
                            have t2 : (v : Int) < (ma : Int) := by omega
                            clear hx hcl r0 r1 r2 hu1
                            by_cases hxn : x0 = nm
                            · have HR := Lib.hid (show attrF nm (l.drop v) = (x1, x2, true) by rw [HDr.out, if_pos hxn])
                              have E1 : (x0.toList == nm.toList) = true := by rw [hxn]; exact beq_iff_eq.2 rfl
                              clear hxn
                              go_wp2
                              go_quiet (fail)
                              go_wp2
                              go_roundw
                              case rel => exact ⟨v, rfl, by omega, by rw [HR.out], by rw [HR.out], by rw [HR.out], HBa.out.trans (belowM _ _ _)⟩
                              case measure => first | (simp [intOf]; done) | (simp [intOf]; omega)
                            · have HR := Lib.hid (show attrF nm (l.drop v) = (f0, f1, f2) by rw [HDr.out, if_neg hxn]; exact HFf.out)
                              have E1 := bytes_ne hxn
                              clear hxn
                              go_wp2
                              go_roundw
                              case rel => exact ⟨v, rfl, by omega, by rw [HR.out], by rw [HR.out], by rw [HR.out], HBa.out⟩
                              case measure => first | (simp [intOf]; done) | (simp [intOf]; omega)
                case rest => as_aux_lemma =>
                  rename World => wx
                  obtain ⟨hkr, rfl, rfl, rfl, hBx⟩ := hcut
                  have HKr := Lib.hid hkr
                  have HBx := Lib.hid (HBr.out.trans (hBx.mono HBr.out.size))
                  have HBKx := Lib.hid (HBKr.out.below hBx HBKr.out.lt)
                  have d6 := HBKx.out.cell 0
                  have HxB := Lib.hid (HB.out.trans (hBx.mono HB.out.size))
                  have HDPe := Lib.hid (fun (X : World) (hX : Below w.heap.size w X) => show Calls Tryz.prog 8 #[.agg #[.slice a n c], .int .i64 e] X fun en W' => en = .returned (.int .i64 dX) ∧ Below X.heap.size X W' from by
                    have := HDP.out X hX e
                    rwa [HdX.out] at this)
                  have hKLl : (KL.map fun (k : Nat) => (k : Int)).length ≤ 1000000 := by
                    rw [List.length_map]
                    rcases HIn.out with ⟨-, -, g3⟩ | ⟨k, y, l, lk, -, -, g3, -, -, -, g7, -, -, g10⟩
                    · rw [g3]; exact Nat.zero_le _
                    · rw [g10]
                      have h1 := List.length_filter_le (keepN ys nm) lk
                      have h2 := (HSM.out k y g3).1
                      omega
                  have HSI := Lib.hid (fun (X : World) (v u : Value) (hv : IntRd X v (KL.map fun (k : Nat) => (k : Int))) (hu : IntRd X u (KL.map fun (k : Nat) => (k : Int))) => show Calls Tryz.prog 15 #[v, u] X fun e W' => e = .returned (.bool true) ∧ Below X.heap.size X W' from by
                    have := sameInts_any hv hu hKLl hKLl
                    rwa [decide_eq_true rfl] at this)
                  have hdd : (dX != dX) = false := by simp
                  have haa : (aa != aa) = false := by simp
                  have hav : (av.toList != av.toList) = false := by simp
                  have hab : (ab != ab) = false := by cases ab <;> rfl
                  clear hkr hBx d5 hKLl
                  go_upto_block 10 with (first
                    | (go_at_call 14; refine (HAt.out wx HBx.out).mono ?_; rintro _ w5 ⟨rfl, hB5⟩; have HB5 := Lib.hid (HBx.out.trans (hB5.mono HBx.out.size)); have HBK5 := Lib.hid (HBKx.out.below hB5 HBKx.out.lt); have d7 := HBK5.out.cell 0; have HKr5 := Lib.hid (HKr.out.below hB5); have Hx5 := Lib.hid (HxB.out.trans (hB5.mono HxB.out.size)); clear hB5 d6)
                    | (go_at_call 8; refine (HDPe.out w5 HB5.out).mono ?_; rintro _ w6 ⟨rfl, hB6⟩; have HB6 := Lib.hid (HB5.out.trans (hB6.mono HB5.out.size)); have HBK6 := Lib.hid (HBK5.out.below hB6 HBK5.out.lt); have d8 := HBK6.out.cell 0; have HKr6 := Lib.hid (HKr5.out.below hB6); have Hx6 := Lib.hid (Hx5.out.trans (hB6.mono Hx5.out.size)); clear hB6 d7)
                    | (go_at_call 9; refine (HKd.out w6 HB6.out).mono ?_; rintro _ w7 ⟨kv2, rfl, hr7, hB7⟩; have HB7 := Lib.hid (HB6.out.trans (hB7.mono HB6.out.size)); have HBK7 := Lib.hid (HBK6.out.below hB7 HBK6.out.lt); have HKr7 := Lib.hid (HKr6.out.below hB7); have HR7 := Lib.hid hr7; have Hx7 := Lib.hid (Hx6.out.trans (hB7.mono Hx6.out.size)); clear hB7 hr7 d8)
                    | (go_at_call 15; refine (HSI.out w7 _ _ HR7.out HKr7.out).mono ?_; rintro _ w8 ⟨rfl, hB8⟩; have HB8 := Lib.hid (HB7.out.trans (hB8.mono HB7.out.size)); have HBK8 := Lib.hid (HBK7.out.below hB8 HBK7.out.lt); have d9 := HBK8.out.cell 0; have Hx8 := Lib.hid (Hx7.out.trans (hB8.mono Hx7.out.size)); clear hB8)
                    | (go_at_call 16; refine (walk_any a n c e w8).mono ?_; rintro _ w9 ⟨rfl, h9⟩; have H9 := Lib.hid h9; have hnf : ∀ w : World, (binOp .eql 47 (.func (.func 30) #[] #[.pointer (some ⟨w8.heap.size, 0, none⟩), .pointer (some ⟨w8.heap.size + 1, 0, none⟩)]) .nilFunc).run Tryz.prog w = .ok (.bool false) w := (fun _ => (by kernel_rfl)); clear h9 d9)
                    | (go_at_call 17; refine (HTO.out w8 w9 HB8.out e H9.out).mono ?_; rintro _ w10 ⟨vA, vB, rfl, hA10, hV10, hB10⟩; have HB10 := Lib.hid (HB8.out.trans (hB10.mono HB8.out.size)); have HBK10 := Lib.hid (HBK8.out.below hB10 HBK8.out.lt); have HA10 := Lib.hid hA10; have HV10 := Lib.hid hV10; have Hx10 := Lib.hid (Hx8.out.trans (hB10.mono Hx8.out.size)); clear hB10 hA10 hV10))
                  clear hdd haa hav hab HBx HBKx HB5 HBK5 HB6 HBK6 HB7 HBK7 HKr HKr5 HKr6 HKr7 HR7 HSI HDPe HAt HKd HxB Hx5 Hx6 Hx7 Hx8 HBK8 HB8
                  obtain ⟨L, hL⟩ : ∃ L, (cutL stop (walkY D n e)).length = L := ⟨_, rfl⟩
                  obtain ⟨aA, cA, hvA, hA2⟩ := HA10.out
                  obtain ⟨aB, cB, hvB, hV2⟩ := HV10.out
                  rw [List.length_map, List.length_map, hL] at hvA hvB
                  have HL := Lib.hid hL
                  have HA2 := Lib.hid hA2
                  have HV2 := Lib.hid hV2
                  clear hL hA2 hV2 HA10 HV10
                  subst hvA
                  subst hvB
                  have hLn : L ≤ n := by
                    rw [← HL.out]
                    refine Nat.le_trans (cutL_le _ _) (walkY_len ?_ e)
                    exact HW.out.len
                  go_cut [27] (fun q wy => Below w10.heap.size w10 wy)
                  case first => as_aux_lemma =>
                    go_wp2
                    go_loopw [27] (fun q X => ∃ i : Nat, q = .int .i64 i ∧ i ≤ L ∧ Below w10.heap.size w10 X) (fun q X => L - (intOf q).toNat)
                    case atStart => exact ⟨0, rfl, Nat.zero_le _, Below.refl _ _⟩
                    case round =>
                      rename World => wi
                      obtain ⟨i, rfl, hi, hBi⟩ := hrel
                      have HBi := Lib.hid hBi
                      clear hBi
                      by_cases hlt : i < L
                      · rcases HIn.out with ⟨g1, -, -⟩ | ⟨k, y, l, lk, g1, g2, -⟩
                        · exfalso
                          have h1 := HL.out
                          rw [walkY_out g1, cutL_nil] at h1
                          simp at h1
                          omega
                        · have hIt : I = true := by rw [HI.out, g1]; exact decide_eq_true ⟨by omega, by omega⟩
                          subst hIt
                          subst g1
                          obtain ⟨d, hd⟩ : ∃ d, D[k]? = some d := ⟨_, List.getElem?_eq_getElem (by rw [HW.out.len]; exact g2)⟩
                          have hdX : dX = (d : Int) := by rw [← HdX.out]; exact depthX_in HV.out HD.out (by rw [List.length_map, HN.out]; exact g2) hd
                          have hwk := walkY_in (D := D) g2
                          obtain ⟨k1, b, k2, k3, k4⟩ := HW.out.told_at (stop := stop) g2 hd (i := i) (by rw [← hwk, HL.out]; exact hlt)
                          rw [← hwk] at k4
                          have hne : ∀ f : Nat × Nat → Nat, ((cutL stop (walkY D n (k : Int))).map f).map (fun (k : Nat) => (k : Int)) ≠ [] := fun f h => by
                            rw [List.map_eq_nil_iff, List.map_eq_nil_iff] at h
                            rw [h] at k4
                            simp at k4
                          obtain ⟨ga, oa, rfl, hga, hca⟩ := HA2.out (hne _)
                          obtain ⟨gb, ob, rfl, hgb, hcb⟩ := HV2.out (hne _)
                          have ca := (HBi.out.cell (p := ⟨ga, oa + i, none⟩) hga).trans (hca i (by rw [List.length_map, List.length_map, HL.out]; exact hlt))
                          have cb := (HBi.out.cell (p := ⟨gb, ob + i, none⟩) hgb).trans (hcb i (by rw [List.length_map, List.length_map, HL.out]; exact hlt))
                          rw [List.getD_eq_getElem?_getD, List.getElem?_map, List.getElem?_map, k4] at ca cb
                          obtain ⟨q, hq⟩ : ∃ q, k + i = q := ⟨_, rfl⟩
                          obtain ⟨m2, hm2⟩ : ∃ m2, b - d = m2 := ⟨_, rfl⟩
                          have ca' : wi.cell? ⟨ga, oa + i, none⟩ = some (.int .i64 (q : Nat)) := by rw [ca, ← hq]; rfl
                          have cb' : wi.cell? ⟨gb, ob + i, none⟩ = some (.int .i64 (m2 : Nat)) := by rw [cb, ← hm2]; rfl
                          have hdq : depthX (ys.map (·.up)) ks (q : Int) = (b : Int) := depthX_in HV.out HD.out (by rw [List.length_map, HN.out]; omega) (by rw [← hq]; exact k2)
                          have hb100 := HDb.out b (List.mem_of_getElem? k2)
                          have HBiw := Lib.hid (HB10.out.trans (HBi.out.mono HB10.out.size))
                          have hbki := HBK10.out.below HBi.out HBK10.out.lt
                          have ci := hbki.cell 0
                          have HDq := Lib.hid (fun p => show Calls Tryz.prog 8 #[.agg #[.slice a n c], .int .i64 (q : Nat)] (lift wi p) fun en W' => en = .returned (.int .i64 (b : Nat)) ∧ Below (lift wi p).heap.size (lift wi p) W' from by
                            have := HDP.out (lift wi p) (HBiw.out.trans ((below_lift wi p).mono HBiw.out.size)) (q : Int)
                            rwa [hdq] at this)
                          have e1 : ∀ p, (lift wi p).cell? ⟨ga, oa + i, none⟩ = some (.int .i64 (q : Nat)) := lift_cell (a := ⟨ga, oa + i, none⟩) (Nat.lt_of_lt_of_le hga HBi.out.size) ca'
                          have e2 : ∀ p, (lift wi p).cell? ⟨gb, ob + i, none⟩ = some (.int .i64 (m2 : Nat)) := lift_cell (a := ⟨gb, ob + i, none⟩) (Nat.lt_of_lt_of_le hgb HBi.out.size) cb'
                          have e3 : ∀ p, (lift wi p).cell? ⟨w.heap.size, 0, none⟩ = some (.slice a n c) := lift_cell (a := ⟨w.heap.size, 0, none⟩) hbki.lt ci
                          have E1 := Lib.hid e1
                          have E2 := Lib.hid e2
                          have E3 := Lib.hid e3
                          have hw1 : IntKind.i64.wrap ((k : Int) + (i : Int)) = (q : Int) := by rw [← hq]; unfold IntKind.wrap; simp [IntKind.bits, IntKind.signed]; omega
                          have hw2 : IntKind.i64.wrap ((b : Int) - (d : Int)) = (m2 : Int) := by rw [← hm2]; unfold IntKind.wrap; simp [IntKind.bits, IntKind.signed]; omega
                          have hqq : ((q : Int) != (q : Int)) = false := by simp
                          have hmm : ((m2 : Int) != (m2 : Int)) = false := by simp
                          have hi1 : (0 : Int) ≤ (i : Int) := by omega
                          have hi2 : (i : Int) < (L : Int) := by omega
                          clear hq hm2 e1 e2 e3 ca cb ca' cb' hca hcb hdq hd hwk k2 k4 hne hbki ci HdX
                          subst hdX
                          go_upto_region 46 with (fail)
                          refine wp_region_quiet_below mixed (by kernel_rfl) ?_
                          have e1 := E1.out
                          have e2 := E2.out
                          have e3 := E3.out
                          repeat (go_big_quiet_step ((go_at_call 8; exact calls_lift (HDq.out _))))
                          refine wpQuiet_nil ?_
                          intro _ hw'
                          obtain ⟨p, hw''⟩ := hw'
                          subst hw''
                          have HB2i := Lib.hid (HBi.out.trans ((below_lift wi p).mono HBi.out.size))
                          clear e1 e2 e3 hw1 hw2
                          generalize lift wi p = wj at *
                          go_wp2
                          go_roundw
                          case rel => exact ⟨i + 1, by go_num, hlt, HB2i.out⟩
                          case measure => simp [intOf]; omega
                      · go_wp2
                        go_meet
                        exact HBi.out
                  case rest => as_aux_lemma =>
                    rename World => wy
                    have HBy := Lib.hid (HB10.out.trans (hcut.mono HB10.out.size))
                    have HBKy := Lib.hid (HBK10.out.below hcut HBK10.out.lt)
                    have HBwy := Lib.hid (Hx10.out.trans (hcut.mono Hx10.out.size))
                    have d11 := HBKy.out.cell 0
                    obtain ⟨sz, hsz⟩ : ∃ sz, (walkY D n e).length = sz := ⟨_, rfl⟩
                    have HSz := Lib.hid hsz
                    have hszn : sz ≤ n := by rw [← hsz]; exact walkY_len HW.out.len e
                    have hLsz := cutL_len stop (walkY D n e)
                    rw [HL.out, hsz] at hLsz
                    have HLsz := Lib.hid hLsz
                    clear hcut hsz hLsz HA2 HV2 HB10 HBK10 Hx10
                    go_upto_block 12 with (fail)
                    go_cut [28, 29] (fun s q wz => s = .int .i64 (sz : Nat) ∧ Below wy.heap.size wy wz)
                    case first => as_aux_lemma =>
                      rcases HIn.out with ⟨g1, -, -⟩ | ⟨k, y, l, lk, g1, g2, -⟩
                      · have hIf : I = false := by rw [HI.out]; exact decide_eq_false g1
                        have hs0 : sz = 0 := by rw [← HSz.out, walkY_out g1]; rfl
                        subst hIf
                        clear g1 HSz HLsz
                        subst hs0
                        go_wp2
                        go_loopw [28, 29] (fun s q X => s = .int .i64 0 ∧ q = .int .i64 e ∧ wy = X) (fun _ _ _ => 0)
                        case atStart => exact ⟨rfl, rfl, rfl⟩
                        case round =>
                          obtain ⟨rfl, rfl, rfl⟩ := hrel
                          go_wp2
                          go_meet
                          exact ⟨rfl, Below.refl _ _⟩
                      · have hIt : I = true := by rw [HI.out, g1]; exact decide_eq_true ⟨by omega, by omega⟩
                        subst hIt
                        subst g1
                        obtain ⟨d, hd⟩ : ∃ d, D[k]? = some d := ⟨_, List.getElem?_eq_getElem (by rw [HW.out.len]; exact g2)⟩
                        have hdX : dX = (d : Int) := by rw [← HdX.out]; exact depthX_in HV.out HD.out (by rw [List.length_map, HN.out]; exact g2) hd
                        have hseg : segN D k = sz := by rw [← HSz.out, walkY_in g2, segY_len]
                        have HSeg := Lib.hid hseg
                        have HDk := Lib.hid hd
                        clear HSz HLsz HdX hd hseg
                        subst hdX
                        go_wp2
                        go_loopw [28, 29] (fun s q X => ∃ t z : Nat, s = .int .i64 (t : Nat) ∧ q = .int .i64 (z : Nat) ∧ k + t = z ∧ t ≤ sz ∧ Below wy.heap.size wy X) (fun s q X => n - (intOf q).toNat)
                        case atStart => exact ⟨0, k, rfl, rfl, rfl, Nat.zero_le _, Below.refl _ _⟩
                        case round =>
                          rename World => wt
                          obtain ⟨t, z, rfl, rfl, hz, ht, hBt⟩ := hrel
                          have HBt := Lib.hid hBt
                          have HBtw := Lib.hid (HBy.out.trans (hBt.mono HBy.out.size))
                          have hbkt := HBKy.out.below hBt HBKy.out.lt
                          have HBKt := Lib.hid hbkt
                          have ct := hbkt.cell 0
                          have hnx := seg_next (D := D) (e := k) (t := t) (by rw [HSeg.out]; exact ht) HDk.out
                          rw [HSeg.out, hz] at hnx
                          have HNX := Lib.hid hnx
                          have HZ := Lib.hid hz
                          have hkz : k ≤ z := by omega
                          clear hBt hbkt hnx hz d11
                          by_cases hzn : z < n
                          · obtain ⟨b, hb⟩ : ∃ b, D[z]? = some b := ⟨_, List.getElem?_eq_getElem (by rw [HW.out.len]; exact hzn)⟩
                            have hdz : depthX (ys.map (·.up)) ks (z : Int) = (b : Int) := depthX_in HV.out HD.out (by rw [List.length_map, HN.out]; exact hzn) hb
                            have hb100 := HDb.out b (List.mem_of_getElem? hb)
                            have HDz := Lib.hid (show Calls Tryz.prog 8 #[.agg #[.slice a n c], .int .i64 (z : Nat)] wt fun en W' => en = .returned (.int .i64 (b : Nat)) ∧ Below wt.heap.size wt W' from by
                              have := HDP.out wt HBtw.out (z : Int)
                              rwa [hdz] at this)
                            have HBb := Lib.hid hb
                            clear hb hdz
                            by_cases ht0 : t = 0
                            · have E1 : ((z : Int) == (k : Int)) = true := beq_iff_eq.2 (by have := HZ.out; omega)
                              have htz : t < sz := HNX.out.2 ⟨b, HBb.out, .inl ht0⟩
                              clear ht0
                              go_wp2
                              go_roundw
                              case rel => exact ⟨t + 1, z + 1, by go_num, by go_num, by have := HZ.out; omega, htz, HBt.out⟩
                              case measure => simp [intOf]; omega
                            · have E1 : ((z : Int) == (k : Int)) = false := beq_eq_false_iff_ne.2 (by have := HZ.out; omega)
                              by_cases hgt : (d : Int) < (b : Int)
                              · have htz : t < sz := HNX.out.2 ⟨b, HBb.out, .inr (by omega)⟩
                                clear ht0
                                go_wp2_with (go_at_call 8; refine HDz.out.mono ?_; rintro _ wv ⟨rfl, hBv⟩; have HBv := Lib.hid hBv; clear hBv)
                                go_roundw
                                case rel => exact ⟨t + 1, z + 1, by go_num, by go_num, by have := HZ.out; omega, htz, HBt.out.trans (HBv.out.mono HBt.out.size)⟩
                                case measure => simp [intOf]; omega
                              · have htz : t = sz := by
                                  have h1 : ¬ t < sz := fun h => by
                                    obtain ⟨b', k1, k2⟩ := HNX.out.1 h
                                    rw [HBb.out] at k1
                                    cases k1
                                    omega
                                  omega
                                clear ht0
                                subst htz
                                go_wp2_with (go_at_call 8; refine HDz.out.mono ?_; rintro _ wv ⟨rfl, hBv⟩; have HBv := Lib.hid hBv; clear hBv)
                                go_meet
                                exact ⟨rfl, HBt.out.trans (HBv.out.mono HBt.out.size)⟩
                          · have htz : t = sz := by
                              have h1 : ¬ t < sz := fun h => by
                                obtain ⟨b', k1, k2⟩ := HNX.out.1 h
                                have := (List.getElem?_eq_some_iff.1 k1).1
                                rw [HW.out.len] at this
                                omega
                              omega
                            subst htz
                            have hzn2 : ¬ (z : Int) < (n : Int) := by omega
                            go_wp2
                            go_meet
                            exact ⟨rfl, HBt.out⟩
                    case rest => as_aux_lemma =>
                      rename World => wz
                      obtain ⟨rfl, hBz⟩ := hcut
                      have HBz := Lib.hid (HBwy.out.trans (hBz.mono HBwy.out.size))
                      clear hBz d11
                      by_cases hs : 0 < stop
                      · by_cases hm : (sz : Int) ≤ stop
                        · have hLs : L = sz := by have := HLsz.out; rw [if_pos hs, Int.min_eq_left hm] at this; omega
                          have hmin : min (sz : Int) stop = sz := Int.min_eq_left hm
                          have E1 : ((sz : Int) != (sz : Int)) = false := by simp
                          clear HLsz
                          subst hLs
                          go_wp2
                          go_roundw
                          case rel => exact ⟨e + 1, by go_num, by omega, by omega, HBz.out⟩
                          case measure => simp [intOf]; omega
                        · have hLs : (L : Int) = stop := by have := HLsz.out; rw [if_pos hs, Int.min_eq_right (by omega)] at this; exact this
                          have hmin : min (sz : Int) stop = stop := Int.min_eq_right (by omega)
                          have E1 : ((L : Int) != stop) = false := by rw [hLs]; simp
                          clear HLsz hLs
                          go_wp2
                          go_roundw
                          case rel => exact ⟨e + 1, by go_num, by omega, by omega, HBz.out⟩
                          case measure => simp [intOf]; omega
                      · have hLs : L = sz := by have := HLsz.out; rw [if_neg hs] at this; omega
                        have E1 : ((sz : Int) != (sz : Int)) = false := by simp
                        clear HLsz
                        subst hLs
                        go_wp2
                        go_roundw
                        case rel => exact ⟨e + 1, by go_num, by omega, by omega, HBz.out⟩
                        case measure => simp [intOf]; omega
          · go_wp2
            go_ret
            exact ⟨rfl, HBr.out⟩
end Go.Proofs.YtlldpmjnledhgaaGreatDoor
