/- The walk of a document's depths. -/
import Derived.Test.YtajnpmhgldfgfaaXtBi
import Derived.Test.YtajnpmhgldfgfaaXtSi
import Derived.Test.YtajnpmhgldfgfaaXpMO
import Derived.Test.YtajnpmhgldfgfaaShelf
import Derived.WalkKit
import Derived.ProofKit
import Derived.LoopTactic
import Derived.WalkSpells
import Derived.WalkLawsBesides
import Derived.Lib.Hide
import Derived.Outline
import Derived.Handy
import Derived.Deep.AppendLies
import Derived.RegionTactic
import Derived.BigRegion
namespace Go.Proofs.Ytajnpmhgldfgfaa
open Go.RowKit
set_option linter.unusedVariables false

/-- An element's cells as they lie. -/
structure YE where
  nm : ByteArray
  pl : Int
  up : Int
  ab : Option Addr
  an : Nat
  ac : Nat
  kb : Option Addr
  kn : Nat
  kc : Nat
  tx : ByteArray
def yeCells (y : YE) : List Value := [.string y.nm, .int .i64 y.pl, .int .i64 y.up, .slice y.ab y.an y.ac, .slice y.kb y.kn y.kc, .string y.tx]
/-- A slice of elements as it lies. -/
def DocAt (W : World) (ev : Value) (ys : List YE) : Prop :=
  ∃ a c, ev = .slice a ys.length c ∧ (ys ≠ [] → ∃ g o, a = some ⟨g, o, none⟩ ∧ g < W.heap.size ∧ ∀ i y, ys[i]? = some y → ∀ j u, (yeCells y)[j]? = some u → W.cell? ⟨g, o + i * 6 + j, none⟩ = some u)
theorem DocAt.below {W W' : World} {ev : Value} {ys : List YE} (h : DocAt W ev ys) (hB : Below W.heap.size W W') : DocAt W' ev ys := by
  obtain ⟨a, c, h1, h2⟩ := h
  refine ⟨a, c, h1, fun hne => ?_⟩
  obtain ⟨g, o, g1, g2, g3⟩ := h2 hne
  exact ⟨g, o, g1, Nat.lt_of_lt_of_le g2 hB.size, fun i y hy j u hu => (hB.cell (p := ⟨g, o + i * 6 + j, none⟩) g2).trans (g3 i y hy j u hu)⟩
theorem DocAt.six {W : World} {g o : Nat} {ys : List YE} {y : YE} {i : Nat} (h : ∀ i y, ys[i]? = some y → ∀ j u, (yeCells y)[j]? = some u → W.cell? ⟨g, o + i * 6 + j, none⟩ = some u) (hy : ys[i]? = some y) :
    W.cell? ⟨g, o + i * 6, none⟩ = some (.string y.nm) ∧ W.cell? ⟨g, o + i * 6 + 1, none⟩ = some (.int .i64 y.pl) ∧ W.cell? ⟨g, o + i * 6 + 2, none⟩ = some (.int .i64 y.up) ∧ W.cell? ⟨g, o + i * 6 + 3, none⟩ = some (.slice y.ab y.an y.ac) ∧ W.cell? ⟨g, o + i * 6 + 4, none⟩ = some (.slice y.kb y.kn y.kc) ∧ W.cell? ⟨g, o + i * 6 + 5, none⟩ = some (.string y.tx) :=
  ⟨h i y hy 0 _ rfl, h i y hy 1 _ rfl, h i y hy 2 _ rfl, h i y hy 3 _ rfl, h i y hy 4 _ rfl, h i y hy 5 _ rfl⟩
/-- What depths comes to. -/
def DepR (W : World) (R : Option (List Nat)) (e : Ending) (W' : World) : Prop :=
  match R with
  | none => e = .returned (.tuple #[.slice none 0 0, .bool false]) ∧ Below W.heap.size W W'
  | some D => ∃ v, e = .returned (.tuple #[v, .bool true]) ∧ IntsAt W.heap.size W' D v ∧ Below W.heap.size W W'
/-- The loop. -/
def DepL (W : World) (ev : Value) (ups : List Int) (R : Option (List Nat)) (x y : Value) (V : World) : Prop :=
  ∃ D : List Nat, y = .int .i64 (D.length : Nat) ∧ D.length ≤ ups.length ∧ IntsAt W.heap.size V D x ∧ UpsOk ups D.length ∧ depGo ups (ups.length - D.length) D = R ∧ Below W.heap.size W V ∧ BlkAt V W.heap.size 32 #[ev] ∧ DepSm D
theorem depL_next {W wr X w6 : World} {ev v : Value} {ups : List Int} {R : Option (List Nat)} {D : List Nat} {i k gg kc : Nat} (hD : D.length = i) (hi : i < ups.length) (ho : UpsOk ups D.length) (hst : depStep ups D = some (D ++ [k])) (hgo : depGo ups (ups.length - D.length) D = R)
    (hB : Below W.heap.size W wr) (hb : BlkAt wr W.heap.size 32 #[ev]) (hI : wr.ownsRow W.heap.size 3 1 v i (intCells D)) (hX : Below wr.heap.size wr X) (hsm : DepSm D)
    (hown : w6.ownsRow W.heap.size 3 1 (.slice (some ⟨gg, 0, none⟩) (i + 1) kc) (i + 1) (intCells D ++ [.int .i64 k])) (hgrow : X.grownBy w6 v.ownBlock) : DepL W ev ups R (.slice (some ⟨gg, 0, none⟩) (i + 1) kc) (.int .i64 ((i + 1 : Nat) : Int)) w6 := by
  have hl : (D ++ [k]).length = i + 1 := by rw [List.length_append, hD]; rfl
  have hIX : X.ownsRow W.heap.size 3 1 v i (intCells D) := own_below hI hX
  refine ⟨D ++ [k], by rw [hl], by rw [hl]; omega, ?_, depStep_ok (by omega) hst ho, ?_, ?_, ?_, depStep_sm hst hsm⟩
  · show w6.ownsRow W.heap.size 3 1 _ (D ++ [k]).length (intCells (D ++ [k]))
    rw [hl, show intCells (D ++ [k]) = intCells D ++ [.int .i64 k] from by simp [intCells]]
    exact hown
  · rw [← hgo, hl, hD, show ups.length - i = (ups.length - (i + 1)) + 1 from by omega]
    show _ = (match depStep ups D with | none => none | some E => depGo ups (ups.length - (i + 1)) E)
    rw [hst]
  · exact (hB.trans (hX.mono hB.size)).grown hgrow (Nat.le_trans hB.size hX.size) (fun k e => (hIX.lt k e).1)
  · have hbX : BlkAt X W.heap.size 32 #[ev] := hb.below hX hb.lt
    exact hbX.grown hgrow (fun e => blk_ne hIX hbX (by decide) e.symm)

set_option maxRecDepth 100000 in
set_option maxHeartbeats 16000000 in
theorem depths_any {W : World} {ev : Value} {ys : List YE} (h : DocAt W ev ys) (hn : ys.length ≤ 1000000) :
    Calls Try.prog 42 #[.agg #[ev]] W fun e W' => DepR W (depthsX (ys.map (·.up))) e W' := by
  obtain ⟨a, c, rfl, h2⟩ := h
  obtain ⟨n, hnn⟩ : ∃ n, ys.length = n := ⟨_, rfl⟩
  obtain ⟨ups, hups⟩ : ∃ ups, ys.map (·.up) = ups := ⟨_, rfl⟩
  have hul : ups.length = n := by rw [← hups, List.length_map]; exact hnn
  obtain ⟨R, hR⟩ : ∃ R, depthsX ups = R := ⟨_, rfl⟩
  rw [hups, hR, hnn]
  rw [hnn] at hn
  have HU := Lib.hid hups
  have HUL := Lib.hid hul
  have HN := Lib.hid hnn
  have hR0 : depGo ups (ups.length - 0) [] = R := hR
  have H2 := Lib.hid h2
  obtain ⟨j0, hj0, hy0, hy1, hy2⟩ := info_parts infoInt
  obtain ⟨W1, hW1⟩ : ∃ W1, W.alloc (.cells #[.slice a n c] 32) = W1 := ⟨_, rfl⟩
  have hB1 : Below W.heap.size W W1 := by rw [← hW1]; exact (Below.refl _ W).alloc (Nat.le_refl _) _
  have hb1 : BlkAt W1 W.heap.size 32 #[.slice a n c] := by rw [← hW1]; exact BlkAt.new _ _ _
  have H0 := Lib.hid (show DepL W (.slice a n c) ups R (.slice none 0 0) (.int .i64 (0 : Nat)) W1 from ⟨[], rfl, Nat.zero_le _, World.ownsRow_nil _ _ _ _, (fun j hj => absurd hj (Nat.not_lt_zero _)), hR0, hB1, hb1, (fun j d h => by simp at h)⟩)
  have HW1 := Lib.hid hW1
  clear h2 hups hul hnn hR hR0 hW1 hB1 hb1
  go_enter Try.func42, Try.ntmps42
  go_wp2
  rw [HW1.out]
  go_loopw [4, 11] (fun x y V => DepL W (.slice a n c) ups R x y V) (fun x y V => n - (intOf y).toNat)
  case atStart => exact H0.out
  case round =>
    obtain ⟨D, rfl, hD, hI, ho, hgo, hB, hbk, hsm⟩ := hrel
    have HSM := Lib.hid hsm
    clear hsm
    obtain ⟨va, vc, rfl⟩ := ownsRow_slice' hI
    rw [HUL.out] at hD
    obtain ⟨i, hi⟩ : ∃ i, D.length = i := ⟨_, rfl⟩
    have HO := Lib.hid ho
    have HGO := Lib.hid hgo
    have HB := Lib.hid hB
    have HBK := Lib.hid hbk
    have HI := Lib.hid (show wr.ownsRow W.heap.size 3 1 (.slice va i vc) i (intCells D) from by unfold IntsAt at hI; rwa [hi] at hI)
    rw [hi] at hD
    rw [hi]
    have HD := Lib.hid hi
    have hbz := hB.size
    by_cases hlt : i < n
    · have hys : ys ≠ [] := fun e => by have := HN.out; rw [e] at this; simp at this; omega
      obtain ⟨g, o, rfl, hg, hc⟩ := H2.out hys
      obtain ⟨y, hy⟩ : ∃ y, ys[i]? = some y := ⟨_, List.getElem?_eq_getElem (by rw [HN.out]; exact hlt)⟩
      obtain ⟨p0, p1, p2, p3, p4, p5⟩ := DocAt.six hc hy
      have hcw : ∀ q, (wr.cell? ⟨g, q, none⟩) = W.cell? ⟨g, q, none⟩ := fun q => hB.cell (p := ⟨g, q, none⟩) hg
      rw [← hcw] at p0 p1 p2 p3 p4 p5
      have hut : ups[i]? = some y.up := by rw [← HU.out, List.getElem?_map, hy]; rfl
      obtain ⟨t, ht⟩ : ∃ t, y.up = t := ⟨_, rfl⟩
      rw [ht] at p2 hut
      have HC := Lib.hid hc
      have HCW := Lib.hid hcw
      have HUT := Lib.hid hut
      have HLT := Lib.hid (show i < ups.length by rw [HUL.out]; exact hlt)
      obtain ⟨EL, hEL⟩ : ∃ EL, (Obj.cells #[.string y.nm, .int .i64 y.pl, .int .i64 t, .slice y.ab y.an y.ac, .slice y.kb y.kn y.kc, .string y.tx] 57) = EL := ⟨_, rfl⟩
      have HEL := Lib.hid hEL
      have hXE : Below wr.heap.size wr (wr.alloc (Obj.cells #[.string y.nm, .int .i64 y.pl, .int .i64 t, .slice y.ab y.an y.ac, .slice y.kb y.kn y.kc, .string y.tx] 57)) := (Below.refl _ wr).alloc (Nat.le_refl _) _
      have HXE := Lib.hid hXE
      clear hI ho hgo hB hc hcw hut hy hys hi ht hbk hEL hXE
      by_cases h0 : i = 0
      · have E0 : ((i : Int) == 0) = true := beq_iff_eq.2 (by omega)
        have hD0 : D = [] := List.length_eq_zero_iff.1 (by rw [HD.out]; exact h0)
        by_cases ht1 : t = -1
        · have E1 : (t != -1) = false := by rw [ht1]; rfl
          have HST := Lib.hid (show depStep ups D = some (D ++ [1]) from by
            rw [hD0]
            unfold depStep
            have h1 : ups[0]? = some t := by have := HUT.out; rwa [h0] at this
            rw [if_pos rfl, h1]
            show (if t = -1 then some [1] else none) = _
            rw [if_pos ht1]; rfl)
          have hn1 : ∀ (X : World) (k : Int) j u, [Value.int .i64 k][j]? = some u → (X.alloc (.cells #[.int .i64 k] 3)).cell? ((⟨X.heap.size, 0, none⟩ : Addr).add j) = some u := fun X k => cell_one_new X (.int .i64 k) 3
          have HN1 := Lib.hid hn1
          clear h0 ht1 hD0 hn1
          go_wp2_with (at_builtin; refine wpList_append_lies _ rfl _ _ _ rfl W.heap.size 3 j0 _ 1 8 Try.underlying33 hj0 hy0 hy1 hy2 rfl (by omega) (.slice va i vc) i (intCells D) (by rfl) ((HI.out.alloc _).alloc _) ⟨wr.heap.size + 1, 0, none⟩ 1 1 [.int .i64 1] (by rfl) (by rfl) (by have := HN1.out (wr.alloc (Obj.cells #[.string y.nm, .int .i64 y.pl, .int .i64 t, .slice y.ab y.an y.ac, .slice y.kb y.kn y.kc, .string y.tx] 57)) 1; rwa [World.size_alloc] at this) (by simp [Value.oneCell']) (by omega) (by unfold maxLen; omega) (by omega) (by simp; omega) (wr.heap.size + 1 + 1) (by simp) ?_; intro gg kc w6 hown hgrow hat hlt6; have HO6 := Lib.hid hown; have HG6 := Lib.hid hgrow; clear hown hgrow hat)
          go_roundw
          case rel => exact depL_next (k := 1) HD.out HLT.out HO.out HST.out HGO.out HB.out HBK.out HI.out (HXE.out.alloc (by simp) _) HSM.out HO6.out HG6.out
          case measure => simp [intOf]; omega
        · have E1 : (t != -1) = true := by simpa using ht1
          have HR := Lib.hid (show R = none from by
            rw [← HGO.out, HD.out, h0, hD0]
            have : ups.length - 0 = (ups.length - 1) + 1 := by have := HLT.out; omega
            rw [this]
            unfold depGo depStep
            have h1 : ups[0]? = some t := by have := HUT.out; rwa [h0] at this
            rw [if_pos rfl, h1]
            show (match (if t = -1 then some [1] else none) with | none => none | some E => depGo ups (ups.length - 1) E) = none
            rw [if_neg ht1])
          clear h0 hD0
          go_wp2
          go_ret2
          rw [HR.out]
          exact ⟨rfl, HB.out.trans (HXE.out.mono hbz)⟩
      · have E0 : ((i : Int) == 0) = false := beq_eq_false_iff_ne.2 (by omega)
        have hbE : BlkAt (wr.alloc (Obj.cells #[.string y.nm, .int .i64 y.pl, .int .i64 t, .slice y.ab y.an y.ac, .slice y.kb y.kn y.kc, .string y.tx] 57)) wr.heap.size 57 #[.string y.nm, .int .i64 y.pl, .int .i64 t, .slice y.ab y.an y.ac, .slice y.kb y.kn y.kc, .string y.tx] := BlkAt.new _ _ _
        have HBE := Lib.hid hbE
        have hpos : 1 ≤ i := by omega
        clear h0 hbE
        go_wp2
        obtain ⟨X, hX⟩ : ∃ X, wr.alloc (Obj.cells #[.string y.nm, .int .i64 y.pl, .int .i64 t, .slice y.ab y.an y.ac, .slice y.kb y.kn y.kc, .string y.tx] 57) = X := ⟨_, rfl⟩
        rw [hX] at HXE HBE ⊢
        have hbx := HBE.out.cell 2
        have hdx := (HBK.out.below HXE.out HBK.out.lt).cell 0
        have HIX := Lib.hid (own_below HI.out HXE.out)
        have hcx : ∀ (j : Nat) (u : Int), ups[j]? = some u → X.cell? ⟨g, o + j * 6 + 2, none⟩ = some (.int .i64 u) := fun j u hu => by
          have hw : wr.cell? ⟨g, o + j * 6 + 2, none⟩ = some (.int .i64 u) := by
            rw [HCW.out]
            rw [← HU.out, List.getElem?_map] at hu
            obtain ⟨z, hz, rfl⟩ := Option.map_eq_some_iff.1 hu
            exact (DocAt.six HC.out hz).2.2.1
          exact (HXE.out.cell (p := ⟨g, o + j * 6 + 2, none⟩) (Nat.lt_of_lt_of_le hg hbz)).trans hw
        have HCX := Lib.hid hcx
        have hxz : wr.heap.size + 1 ≤ X.heap.size := by rw [← hX]; simp
        obtain ⟨U, hU⟩ : ∃ U, goUp ups i t ((i : Int) - 1) = U := ⟨_, rfl⟩
        have HUU := Lib.hid hU
        clear hX hcx p0 p1 p2 p3 p4 p5 hU
        go_loop [7] (fun a => ∃ (u : Int) (f : Nat), a = .int .i64 u ∧ -1 ≤ u ∧ u < i ∧ u < f ∧ goUp ups f t u = U) (fun a => (intOf a + 1).toNat)
        case atStart => exact ⟨_, i, rfl, by omega, by omega, by omega, HUU.out⟩
        case round =>
          obtain ⟨u, f, rfl, hu1, hu2, hu3, hu4⟩ := hrel
          by_cases hcond : 0 ≤ u ∧ u ≠ t
          · obtain ⟨hc1, hc2⟩ := hcond
            obtain ⟨uN, rfl⟩ : ∃ uN : Nat, u = (uN : Int) := ⟨u.toNat, by omega⟩
            obtain ⟨v, hv⟩ : ∃ v, ups[uN]? = some v := ⟨_, List.getElem?_eq_getElem (by have := HLT.out; omega)⟩
            have hvb := upsOk_le HO.out (j := uN) (by rw [HD.out]; omega) hv
            obtain ⟨f', rfl⟩ : ∃ f', f = f' + 1 := ⟨f - 1, by omega⟩
            have hne : ((uN : Int) != t) = true := by rw [bne_iff_ne]; exact hc2
            have hcv := HCX.out uN v hv
            have huN : uN < n := by omega
            have HST := Lib.hid (show goUp ups f' t v = U from by
              rw [goUp_step ⟨hc1, hc2⟩] at hu4
              rw [Int.toNat_natCast, hv] at hu4
              exact hu4)
            clear hu4 hv hc2
            go_wp2
            go_round
            case rel => exact ⟨v, f', rfl, hvb.1, by omega, by omega, HST.out⟩
            case measure => simp [intOf]; omega
          · have huU : u = U := by rw [← hu4]; exact (goUp_stop hcond).symm
            subst huU
            have hg : goUp ups D.length (ups[D.length]?.getD 0) ((D.length : Int) - 1) = u := by
              rw [HD.out, HUT.out]; exact HUU.out
            have hD0 : D ≠ [] := fun e => by have := HD.out; rw [e] at this; simp at this; omega
            by_cases hneg : u < 0
            · have HR := Lib.hid (show R = none from by
                rw [← HGO.out, HD.out, show ups.length - i = (ups.length - (i + 1)) + 1 from by have := HLT.out; omega]
                unfold depGo depStep
                rw [if_neg hD0, hg, if_pos hneg])
              have hc1 : ¬ (0 : Int) ≤ u := by omega
              clear hcond hu4 hg hD0
              go_wp2
              go_ret2
              rw [HR.out]
              exact ⟨rfl, HB.out.trans (HXE.out.mono hbz)⟩
            · have hut : u = t := Decidable.byContradiction fun e => hcond ⟨by omega, e⟩
              obtain ⟨uN, hun⟩ : ∃ uN : Nat, u = (uN : Int) := ⟨u.toNat, by omega⟩
              subst hun
              obtain ⟨d, hd⟩ : ∃ d, D[uN]? = some d := ⟨_, List.getElem?_eq_getElem (by rw [HD.out]; omega)⟩
              have hdb : (d : Int) ≤ 2000000 := by have := HSM.out uN d hd; omega
              have HST := Lib.hid (show depStep ups D = some (D ++ [d + 1]) from by
                unfold depStep
                rw [if_neg hD0, hg, if_neg hneg, Int.toNat_natCast, hd]; rfl)
              have hne : ((uN : Int) != t) = false := by rw [hut]; simp
              obtain ⟨og, hog⟩ : ∃ og, va = some ⟨og, 0, none⟩ := by
                rcases HIX.out.2 with ⟨h1, h2⟩ | ⟨g, cap, cur, h1, _⟩
                · omega
                · simp only [Value.slice.injEq] at h1
                  exact ⟨g, h1.1⟩
              subst hog
              have hcd : X.cell? ⟨og, uN, none⟩ = some (.int .i64 d) := by
                have h1 := World.ownsRow.cellAt HIX.out uN (by omega)
                rw [h1]
                unfold intCells
                rw [List.getElem?_map, hd]; rfl
              have q1 : (0 : Int) ≤ (uN : Int) := by omega
              have q2 : (uN : Int) < (i : Int) := by omega
              have q3 : ¬ (uN : Int) < 0 := by omega
              have HUt := Lib.hid hut
              clear hcond hu4 hg hD0 hneg hd hut
              go_wp2_with (at_builtin; refine wpList_append_lies _ rfl _ _ _ rfl W.heap.size 3 j0 _ 1 8 Try.underlying33 hj0 hy0 hy1 hy2 rfl (by omega) (.slice (some ⟨og, 0, none⟩) i vc) i (intCells D) (by rfl) (HIX.out.alloc _) ⟨X.heap.size, 0, none⟩ 1 1 [.int .i64 ((d : Int) + 1)] (by rfl) (by rfl) (cell_one_new _ _ _) (by simp [Value.oneCell']) (by omega) (by unfold maxLen; omega) (by omega) (by simp; omega) (X.heap.size + 1) (by simp) ?_; intro gg kc w6 hown hgrow hat hlt6; have HO6 := Lib.hid hown; have HG6 := Lib.hid hgrow; clear hown hgrow hat)
              go_roundw
              case rel => exact depL_next (k := d + 1) HD.out HLT.out HO.out HST.out HGO.out HB.out HBK.out HI.out (HXE.out.alloc (by omega) _) HSM.out (by have := HO6.out; push_cast; exact this) HG6.out
              case measure => simp [intOf]; omega
    · obtain rfl : i = n := by omega
      have HR := Lib.hid (show R = some D from by rw [← HGO.out, HD.out, HUL.out, Nat.sub_self]; rfl)
      clear hI ho hgo hB hbk hi
      go_wp2
      go_ret2
      rw [HR.out]
      exact ⟨_, rfl, by unfold IntsAt; rw [HD.out]; exact HI.out, HB.out⟩
end Go.Proofs.Ytajnpmhgldfgfaa
