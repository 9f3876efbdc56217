/- The document's Gcd, Make, Int and RatText of whole numbers; Digits is the decimal text. -/
import Derived.Test.YtgdnibdahldekabDoorNmD
import Derived.Test.YtgdnibdahldekabDoorNmX
namespace Go.Proofs.YtgdnibdahldekabDoor
open Go.RowKit
set_option linter.unusedVariables false

set_option maxRecDepth 100000 in
theorem gcd_one (a b : Value) (xs : List Int) (hm : xs.length ≤ 100) (hxs : ∀ x ∈ xs, 0 ≤ x ∧ x < 10000) (hl : 0 < xs.length → xs.getD (xs.length - 1) 0 ≠ 0) (w : World) (ha : NS w a xs) (hb : NS w b [1]) :
    Calls Tryd.prog 83 #[a, b] w fun e W' => e = .returned b ∧ Below w.heap.size w W' := by
  have HD := Lib.hid (divmod_one a b xs hm hxs hl w ha hb)
  obtain ⟨g, c, rfl, hc, hg, hb0⟩ := hb.one
  clear hb ha hl hxs hm
  go_enter Tryd.func83, Tryd.ntmps83
  go_wp2
  refine wp_loop_rounds 2 ?_
  rw [rounds_succ]
  go_wp2_with fail
  refine HD.out.mono ?_
  rintro e w1 ⟨q, r, rfl, hq, hr, hB⟩
  obtain ⟨a1, c1, rfl⟩ := hr.none
  clear hq hr
  go_wp2_with fail
  rw [rounds_succ]
  go_wp2
  go_ret
  exact ⟨rfl, hB⟩

theorem NS.set {W : World} {v : Value} {xs : List Int} {G : Nat} {t : TypeId} {cs : Array Value} (h : NS W v xs) (hG : BlkAt W G t cs) (hc : ∀ (k : Nat) (z : Int), cs[k]? ≠ some (Value.int .i64 z)) (j : Nat) (u : Value) : NS (W.setCell ⟨G, j, Option.none⟩ u) v xs := by
  obtain ⟨a, c', he, h1, h2, h3⟩ := h
  refine ⟨a, c', he, h1, h2, fun i hi => ?_⟩
  obtain ⟨g', e, h4, h5⟩ := h3 i hi
  have hne : g' ≠ G := fun e' => by
    subst e'
    rw [hG.cell] at h5
    exact hc _ _ h5
  refine ⟨g', e, by rw [World.size_setCell]; exact h4, ?_⟩
  rw [← h5]
  simp only [World.cell?, Below.heap_setCell W ⟨G, j, Option.none⟩ u g' hne]
theorem aggR : AggT Tryd.prog 78 3 := ⟨_, Tryd.underlying78, rfl, by kernel_rfl⟩
theorem results_c {P : Program} {fn : Func} {p : Tmp} {ty : TypeId} (hf : fn.results = #[.cell p ty]) {tmps : Array Value} {w : World} {g n : Nat} {t : TypeId} {cs : Array Value}
    (hp : tmps.getD p undef = .pointer (some ⟨g, 0, none⟩)) (T : AggT P ty n) (hn : cs.size = n) (h : BlkAt w g t cs) : (results fn tmps).run P w = .ok (.agg cs) w := by
  have hl := T.load hn h
  have hp' : tmps[p]?.getD undef = .pointer (some ⟨g, 0, none⟩) := by simpa using hp
  simp only [results, hf]
  simp [hp', asAddr, hl]
/-- A struct of a flag and two slices, laid in a block: what stands elsewhere stays. -/
theorem rat_laid {B : Nat} {w W : World} {G : Nat} (hG : BlkAt W G 78 #[.bool false, .slice none 0 0, .slice none 0 0]) (hB : Below B w W) (hBG : B ≤ G) (neg : Bool) {q d : Value} {n m c1 c2 : Nat} {a1 a2 : Option Addr} (hq : q = .slice a1 n c1) (hd : d = .slice a2 m c2) :
    ∃ W', ((W.setCell ⟨G, 0, none⟩ (.bool neg)).setCell ⟨G, 1, none⟩ q).setCell ⟨G, 2, none⟩ d = W' ∧ BlkAt W' G 78 #[.bool neg, q, d] ∧ Below B w W' ∧ ∀ v xs, NS W v xs → NS W' v xs := by
  subst hq hd
  refine ⟨_, rfl, ?_, ((hB.setCell hBG _).setCell hBG _).setCell hBG _, fun v xs h => ?_⟩
  · have h3 := ((hG.set 0 (.bool neg)).set 1 (.slice a1 n c1)).set 2 (.slice a2 m c2)
    exact h3
  · have hc : ∀ (k : Nat) (z : Int), (#[.bool false, .slice none 0 0, .slice none 0 0] : Array Value)[k]? ≠ some (Value.int .i64 z) := fun k z e => by
      match k with
      | 0 => cases e
      | 1 => cases e
      | 2 => cases e
      | k + 3 => cases e
    have hc1 : ∀ (k : Nat) (z : Int), ((#[.bool false, .slice none 0 0, .slice none 0 0] : Array Value).setIfInBounds 0 (.bool neg))[k]? ≠ some (Value.int .i64 z) := fun k z e => by
      rw [Array.getElem?_setIfInBounds] at e
      split at e
      · split at e <;> cases e
      · exact hc k z e
    have hc2 : ∀ (k : Nat) (z : Int), (((#[.bool false, .slice none 0 0, .slice none 0 0] : Array Value).setIfInBounds 0 (.bool neg)).setIfInBounds 1 (.slice a1 n c1))[k]? ≠ some (Value.int .i64 z) := fun k z e => by
      rw [Array.getElem?_setIfInBounds] at e
      split at e
      · split at e <;> cases e
      · exact hc1 k z e
    exact ((h.set hG hc 0 _).set (hG.set 0 _) hc1 1 _).set ((hG.set 0 _).set 1 _) hc2 2 _
/-- What Make answers. -/
def MakeD (w : World) (xs : List Int) (neg : Bool) (e : Ending) (W' : World) : Prop := ∃ q d, e = .returned (.agg #[.bool neg, q, d]) ∧ NS W' q xs ∧ NS W' d [1] ∧ Below w.heap.size w W'
set_option maxRecDepth 100000 in
set_option maxHeartbeats 1600000 in
theorem make_one (neg : Bool) (a b : Value) (xs : List Int) (hm : xs.length ≤ 100) (hxs : ∀ x ∈ xs, 0 ≤ x ∧ x < 10000) (hl : 0 < xs.length → xs.getD (xs.length - 1) 0 ≠ 0) (hneg : neg = true → 0 < xs.length) (w : World) (ha : NS w a xs) (hb : NS w b [1]) :
    Calls Tryd.prog 73 #[.bool neg, a, b] w fun e W' => MakeD w xs neg e W' := by
  have hxs1 : ∀ x ∈ [(1 : Int)], 0 ≤ x ∧ x < 10000 := fun x hx => by simp at hx; omega
  have hl1 : 0 < [(1 : Int)].length → [(1 : Int)].getD ([(1 : Int)].length - 1) 0 ≠ 0 := fun _ => by simp
  have HXS := Lib.hid hxs
  have HL := Lib.hid hl
  have HXS1 := Lib.hid hxs1
  have HL1 := Lib.hid hl1
  have HNeg := Lib.hid hneg
  have HA := Lib.hid ha
  have HB := Lib.hid hb
  clear hxs hl hxs1 hl1 ha hb hneg
  go_enter Tryd.func73, Tryd.ntmps73
  have hB0 : Below w.heap.size w (w.alloc (.cells #[.bool false, .slice none 0 0, .slice none 0 0] 78)) := (Below.refl _ w).alloc (Nat.le_refl _) _
  have hK0 : BlkAt (w.alloc (.cells #[.bool false, .slice none 0 0, .slice none 0 0] 78)) w.heap.size 78 #[.bool false, .slice none 0 0, .slice none 0 0] := BlkAt.new _ _ _
  have hs0 : w.heap.size < (w.alloc (.cells #[.bool false, .slice none 0 0, .slice none 0 0] 78)).heap.size := by simp
  go_wp2_with fail
  have HA1 := Lib.hid (HA.out.below hB0)
  have HB1 := Lib.hid (HB.out.below hB0)
  generalize w.alloc (.cells #[.bool false, .slice none 0 0, .slice none 0 0] 78) = w1 at *
  have HT1 := Lib.hid (trim_same HA1.out (by omega) HL.out)
  refine HT1.out.mono ?_
  rintro e w1' ⟨rfl, rfl⟩
  have HT2 := Lib.hid (trim_same HB1.out (by decide) HL1.out)
  go_wp2_with fail
  refine HT2.out.mono ?_
  rintro e w1'' ⟨rfl, rfl⟩
  have HGc := Lib.hid (gcd_one a b xs hm HXS.out HL.out _ HA1.out HB1.out)
  go_wp2_with fail
  refine HGc.out.mono ?_
  rintro e w2 ⟨rfl, hB2⟩
  have HD := Lib.hid (divmod_one a b xs hm HXS.out HL.out w2 (HA1.out.below hB2) (HB1.out.below hB2))
  have HBB2 := Lib.hid hB2
  clear hB2
  go_wp2_with fail
  refine HD.out.mono ?_
  rintro e w3 ⟨q, r, rfl, hq, hr, hB3⟩
  have HQ := Lib.hid hq
  obtain ⟨qa, qc, rfl, hqc, _⟩ := hq
  obtain ⟨ra, rc, rfl⟩ := hr.none
  have HB3 := Lib.hid hB3
  have HD2 := Lib.hid (divmod_one b b [1] (by decide) HXS1.out HL1.out w3 ((HB1.out.below HBB2.out).below hB3) ((HB1.out.below HBB2.out).below hB3))
  clear hr hB3
  go_wp2_with fail
  refine HD2.out.mono ?_
  rintro e w4 ⟨d, r2, rfl, hd, hr2, hB4⟩
  have HD4 := Lib.hid hd
  obtain ⟨dg, dc, rfl, _, _, _⟩ := hd.one
  obtain ⟨ra2, rc2, rfl⟩ := hr2.none
  have hB14 := (HBB2.out.trans (HB3.out.mono HBB2.out.size)).trans (hB4.mono (Nat.le_trans HBB2.out.size HB3.out.size))
  have hK4 := hK0.below hB14 hs0
  have fz := hK4.frozen
  have c0 : w4.cell? ⟨w.heap.size, 0, none⟩ = some (.bool false) := (hK4.cell 0).trans rfl
  have c1 : w4.cell? ⟨w.heap.size, 1, none⟩ = some (.slice none 0 0) := (hK4.cell 1).trans rfl
  have c2 : w4.cell? ⟨w.heap.size, 2, none⟩ = some (.slice none 0 0) := (hK4.cell 2).trans rfl
  have HF := Lib.hid (rat_laid hK4 (hB0.trans (hB14.mono (Nat.le_of_lt hs0))) (Nat.le_refl _) neg (q := .slice qa xs.length qc) (d := .slice (some ⟨dg, 0, none⟩) 1 dc) rfl rfl)
  have HQ4 := Lib.hid (HQ.out.below hB4)
  clear hd hr2 hB4 hB14 hK4 hB0 hK0
  have HN1 := Lib.hid (fun h : neg = true => HNeg.out h)
  generalize hn : xs.length = n at *
  have HN := Lib.hid hn
  clear hn
  have hlast : ∀ W', ((w4.setCell ⟨w.heap.size, 0, none⟩ (.bool neg)).setCell ⟨w.heap.size, 1, none⟩ (.slice qa n qc)).setCell ⟨w.heap.size, 2, none⟩ (.slice (some ⟨dg, 0, none⟩) 1 dc) = W' → BlkAt W' w.heap.size 78 #[.bool neg, .slice qa n qc, .slice (some ⟨dg, 0, none⟩) 1 dc] ∧ Below w.heap.size w W' ∧ NS W' (.slice qa n qc) xs ∧ NS W' (.slice (some ⟨dg, 0, none⟩) 1 dc) [1] := fun W' e => by
    obtain ⟨W2, e2, h1, h2, h3⟩ := HF.out
    rw [e] at e2
    subst e2
    exact ⟨h1, h2, h3 _ _ HQ4.out, h3 _ _ HD4.out⟩
  have HLast := Lib.hid hlast
  clear hlast HF HQ4 HD4
  cases neg with
  | true =>
    have hn0n : 0 < n := HN1.out rfl
    have hn0 : (n : Int) > 0 := by omega
    go_wp2
    obtain ⟨k1, k2, k3, k4⟩ := HLast.out _ rfl
    refine bodyPost_ret (results_c rfl rfl aggR rfl k1) rfl ?_
    exact ⟨_, _, rfl, k3, k4, k2⟩
  | false =>
    go_wp2
    obtain ⟨k1, k2, k3, k4⟩ := HLast.out _ rfl
    refine bodyPost_ret (results_c rfl rfl aggR rfl k1) rfl ?_
    exact ⟨_, _, rfl, k3, k4, k2⟩
end Go.Proofs.YtgdnibdahldekabDoor
