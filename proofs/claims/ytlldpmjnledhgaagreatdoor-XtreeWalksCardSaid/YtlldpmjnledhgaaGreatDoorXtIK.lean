/- The walks of a document's is and Depth; a document that was read lies as one. The walk of a document's Depth. -/
import Derived.Test.YtlldpmjnledhgaaGreatDoorXtH
import Derived.Test.YtlldpmjnledhgaaGreatDoorXtP
namespace Go.Proofs.YtlldpmjnledhgaaGreatDoor
open Go.RowKit
set_option linter.unusedVariables false

def slOf : Value → Option Addr × Nat × Nat
  | .slice a n c => (a, n, c)
  | _ => (none, 0, 0)
def toYE (q : QL) : YE := ⟨⟨q.1.name.toArray⟩, q.1.place, q.1.up, (slOf q.2.1).1, (slOf q.2.1).2.1, (slOf q.2.1).2.2, (slOf q.2.2).1, (slOf q.2.2).2.1, (slOf q.2.2).2.2, ⟨q.1.text.toArray⟩⟩
theorem slOf_eq {v : Value} (h : ∃ a n c, v = .slice a n c) : .slice (slOf v).1 (slOf v).2.1 (slOf v).2.2 = v := by
  obtain ⟨a, n, c, rfl⟩ := h
  rfl
theorem toYE_cells {n0 : Nat} {W : World} {q : QL} (hA : NoA q.1.attrs q.2.1) (hK : IntsAt n0 W q.1.kids q.2.2) : yeCells (toYE q) = elemCells q := by
  obtain ⟨b, c, hb⟩ := hA
  obtain ⟨k, d, hk⟩ := ownsRow_slice' hK
  unfold yeCells toYE elemCells
  rw [slOf_eq ⟨_, _, _, hb⟩, slOf_eq ⟨_, _, _, hk⟩]
/-- A document that was read lies as one. -/
theorem ElemsI.docAt {n0 : Nat} {els : List XL} {es : List QL} {ev : Value} {W : World} (h : ElemsI n0 els es ev W) : DocAt W ev (es.map toYE) := by
  obtain ⟨a, c, hev⟩ := ownsRow_slice' h.row
  refine ⟨a, c, by rw [List.length_map]; exact hev, fun hne => ?_⟩
  obtain ⟨q, hq⟩ : ∃ q, es[0]? = some q := ⟨_, List.getElem?_eq_getElem (List.length_pos_iff.2 fun e => hne (by rw [e]; rfl))⟩
  obtain ⟨g, cap, hg, _⟩ := elems_form h hq
  have hrow := h.row
  rw [hg] at hev hrow
  simp only [Value.slice.injEq] at hev
  refine ⟨g, 0, hev.1.symm, own_lt hrow rfl, fun i y hy j u hu => ?_⟩
  rw [List.getElem?_map] at hy
  obtain ⟨r, hr, rfl⟩ := Option.map_eq_some_iff.1 hy
  have hm := List.mem_of_getElem? hr
  rw [toYE_cells (h.attrs r hm) (h.kids r hm)] at hu
  have hj : j < 6 := (List.getElem?_eq_some_iff.1 hu).1
  have hi := (List.getElem?_eq_some_iff.1 hr).1
  rw [Nat.zero_add, World.ownsRow.cellAt hrow (i * 6 + j) (by omega), flat_at elemCells 6 (fun x => rfl) es i j r hr hj]
  exact hu
theorem ElemsI.len {n0 : Nat} {els : List XL} {es : List QL} {ev : Value} {W : World} (h : ElemsI n0 els es ev W) : es.length = els.length := by rw [← h.told, List.length_map]
theorem ElemsI.ups {n0 : Nat} {els : List XL} {es : List QL} {ev : Value} {W : World} (h : ElemsI n0 els es ev W) : (es.map toYE).map (·.up) = upsX els := by
  rw [← h.told]
  unfold upsX
  rw [List.map_map, List.map_map]
  rfl
/-- The kids that elements tell. -/
def kidsX (els : List XL) : List (List Int) := els.map fun e => e.kids.map fun (k : Nat) => (k : Int)
theorem ElemsI.kidsRd {n0 : Nat} {els : List XL} {es : List QL} {ev : Value} {W : World} (h : ElemsI n0 els es ev W) (hb : ∀ e ∈ els, e.kids.length ≤ 1000000) (i : Nat) (y : YE) (hy : (es.map toYE)[i]? = some y) :
    ∃ k, (kidsX els)[i]? = some k ∧ k.length ≤ 1000000 ∧ IntRd W (.slice y.kb y.kn y.kc) k := by
  rw [List.getElem?_map] at hy
  obtain ⟨r, hr, rfl⟩ := Option.map_eq_some_iff.1 hy
  have hm := List.mem_of_getElem? hr
  have he : els[i]? = some r.1 := by rw [← h.told, List.getElem?_map, hr]; rfl
  refine ⟨r.1.kids.map fun (k : Nat) => (k : Int), by unfold kidsX; rw [List.getElem?_map, he]; rfl, by rw [List.length_map]; exact hb _ (List.mem_of_getElem? he), ?_⟩
  obtain ⟨k, d, hk⟩ := ownsRow_slice' (h.kids r hm)
  show IntRd W (.slice (slOf r.2.2).1 (slOf r.2.2).2.1 (slOf r.2.2).2.2) _
  rw [slOf_eq ⟨_, _, _, hk⟩]
  exact IntRd.of_ints (h.kids r hm)
/-- A document that was read can be. -/
theorem Fine.valid {b : XB} {D : List Nat} (h : Fine b D) (hn : b.elems.length ≤ 10000) (hd : b.most ≤ 100) : validX (upsX b.elems) (kidsX b.elems) = true := by
  refine validX_yes h.depths (by rw [upsX_len]; exact hn) (List.all_eq_true.2 fun d hm => decide_eq_true (Nat.le_trans (h.le d hm) hd)) fun i hi => ?_
  rw [upsX_len] at hi
  unfold kidsX
  rw [List.getElem?_map, List.getElem?_eq_getElem hi, Option.map_some, h.kids i _ (List.getElem?_eq_getElem hi), kidsI_eq]

set_option maxRecDepth 100000 in
set_option maxHeartbeats 4000000 in
/-- Whether there is an element. -/
theorem is_any (a : Option Addr) (n c : Nat) (e : Int) (W : World) :
    Calls Tryz.prog 22 #[.agg #[.slice a n c], .int .i64 e] W fun en W' => en = .returned (.bool (decide (0 ≤ e ∧ e < n))) ∧ Below W.heap.size W W' := by
  obtain ⟨W1, hW1⟩ : ∃ W1, W.alloc (.cells #[.slice a n c] 25) = W1 := ⟨_, rfl⟩
  have HB1 := Lib.hid (show Below W.heap.size W W1 by rw [← hW1]; exact (Below.refl _ W).alloc (Nat.le_refl _) _)
  have hb1 : BlkAt W1 W.heap.size 25 #[.slice a n c] := by rw [← hW1]; exact BlkAt.new _ _ _
  have HW1 := Lib.hid hW1
  by_cases h0 : 0 ≤ e
  · by_cases h1 : e < n
    · rw [decide_eq_true (⟨h0, h1⟩ : 0 ≤ e ∧ e < (n : Int))]
      clear hb1 hW1
      go_enter Tryz.func22, Tryz.ntmps22
      go_wp2
      go_ret
      rw [HW1.out]
      refine ⟨?_, HB1.out⟩
      simp
    · rw [decide_eq_false (fun h => h1 h.2 : ¬ (0 ≤ e ∧ e < (n : Int)))]
      clear hb1 hW1
      go_enter Tryz.func22, Tryz.ntmps22
      go_wp2
      go_ret
      rw [HW1.out]
      refine ⟨?_, HB1.out⟩
      simp
  · rw [decide_eq_false (fun h => h0 h.1 : ¬ (0 ≤ e ∧ e < (n : Int)))]
    clear hb1 hW1
    go_enter Tryz.func22, Tryz.ntmps22
    go_wp2
    go_ret
    rw [HW1.out]
    refine ⟨?_, HB1.out⟩
    simp
end Go.Proofs.YtlldpmjnledhgaaGreatDoor
namespace Go.Proofs.YtlldpmjnledhgaaGreatDoor
open Go.RowKit
set_option linter.unusedVariables false

theorem validX_some {ups : List Int} {ks : List (List Int)} (h : validX ups ks = true) : ∃ D, depthsX ups = some D := by
  cases hD : depthsX ups with
  | none => unfold validX at h; rw [hD] at h; cases h
  | some D => exact ⟨D, rfl⟩
/-- How deep an element is. -/
def depthX (ups : List Int) (ks : List (List Int)) (e : Int) : Int :=
  if 0 ≤ e ∧ e < ups.length ∧ validX ups ks = true then (((depthsX ups).getD [])[e.toNat]?.getD 0 : Nat) else 0

set_option maxRecDepth 100000 in
set_option maxHeartbeats 8000000 in
theorem depth_any {W : World} {ev : Value} {ys : List YE} {ks : List (List Int)} (h : DocAt W ev ys) (hn : ys.length ≤ 1000000) (hkl : ks.length = ys.length) (hkk : ∀ (i : Nat) (y : YE), ys[i]? = some y → ∃ k, ks[i]? = some k ∧ k.length ≤ 1000000 ∧ IntRd W (.slice y.kb y.kn y.kc) k) (e : Int) :
    Calls Tryz.prog 8 #[.agg #[ev], .int .i64 e] W fun en W' => en = .returned (.int .i64 (depthX (ys.map (·.up)) ks e)) ∧ Below W.heap.size W W' := by
  have HDOC := Lib.hid h
  obtain ⟨a, c, rfl, h2⟩ := h
  obtain ⟨n, hnn⟩ : ∃ n, ys.length = n := ⟨_, rfl⟩
  obtain ⟨ups, hups⟩ : ∃ ups, ys.map (·.up) = ups := ⟨_, rfl⟩
  have hul : ups.length = n := by rw [← hups, List.length_map]; exact hnn
  rw [hups, hnn]
  obtain ⟨W1, hW1⟩ : ∃ W1, W.alloc (.cells #[.slice a n c] 25) = W1 := ⟨_, rfl⟩
  have hB1 : Below W.heap.size W W1 := by rw [← hW1]; exact (Below.refl _ W).alloc (Nat.le_refl _) _
  have hb1 : BlkAt W1 W.heap.size 25 #[.slice a n c] := by rw [← hW1]; exact BlkAt.new _ _ _
  have hc1 := hb1.cell 0
  have HU := Lib.hid hups
  have HUL := Lib.hid hul
  have HN := Lib.hid hnn
  have HW1 := Lib.hid hW1
  have HB1 := Lib.hid hB1
  have HBK1 := Lib.hid hb1
  have hkk0 : ∀ X, Below W.heap.size W X → ∀ (i : Nat) (y : YE), ys[i]? = some y → ∃ k, ks[i]? = some k ∧ k.length ≤ 1000000 ∧ IntRd X (.slice y.kb y.kn y.kc) k := fun X hX i y hy => by
    obtain ⟨k, k1, k2, k3⟩ := hkk i y hy
    exact ⟨k, k1, k2, k3.below hX⟩
  have HIS := Lib.hid (show ∀ X : World, Calls Tryz.prog 22 #[.agg #[.slice a n c], .int .i64 e] X fun en W' => en = .returned (.bool (decide (0 ≤ e ∧ e < n))) ∧ Below X.heap.size X W' from fun X => is_any a n c e X)
  obtain ⟨VX, hVX⟩ : ∃ VX, validX ups ks = VX := ⟨_, rfl⟩
  have HVX := Lib.hid hVX
  have HVA := Lib.hid (show ∀ X : World, Below W.heap.size W X → Calls Tryz.prog 13 #[.agg #[.slice a n c]] X fun en W' => en = .returned (.bool VX) ∧ Below X.heap.size X W' from fun X hX => by
    have h1 := valid_any (HDOC.out.below hX) hn hkl (hkk0 X hX)
    rw [HU.out, HN.out, HVX.out] at h1
    exact h1)
  have HDE := Lib.hid (show ∀ X : World, Below W.heap.size W X → Calls Tryz.prog 23 #[.agg #[.slice a n c]] X fun en W' => DepR X (depthsX ups) en W' from fun X hX => by
    have h1 := depths_any (HDOC.out.below hX) hn
    rw [HU.out, HN.out] at h1
    exact h1)
  clear h2 hups hul hnn hkl hkk hW1 hB1 hb1 hkk0 hVX
  by_cases he : 0 ≤ e ∧ e < (n : Int)
  · have E1 : decide (0 ≤ e ∧ e < (n : Int)) = true := decide_eq_true he
    obtain ⟨he0, he1⟩ := he
    rw [E1] at HIS
    cases VX with
    | false =>
      rw [show depthX ups ks e = 0 from by unfold depthX; rw [if_neg (by rw [HVX.out]; simp)]]
      go_enter Tryz.func8, Tryz.ntmps8
      go_wp2_with (first
        | (go_at_call 22; rw [HW1.out]; refine (HIS.out _).mono ?_; rintro _ w2 ⟨rfl, hB2⟩; have hB2' := HB1.out.trans (hB2.mono HB1.out.size); have HB2 := Lib.hid hB2'; have HBK2 := Lib.hid (HBK1.out.below hB2 HBK1.out.lt); have hc2 := HBK2.out.cell 0)
        | (go_at_call 13; refine (HVA.out _ HB2.out).mono ?_; rintro _ w3 ⟨rfl, hB3⟩; have HB3 := Lib.hid (HB2.out.trans (hB3.mono HB2.out.size))))
      go_ret
      exact ⟨rfl, HB3.out⟩
    | true =>
      obtain ⟨D, hD⟩ := validX_some HVX.out
      obtain ⟨eN, rfl⟩ : ∃ eN : Nat, e = (eN : Int) := ⟨e.toNat, by omega⟩
      obtain ⟨hDl, _, _⟩ := depthsX_ok hD
      rw [HUL.out] at hDl
      obtain ⟨d, hd⟩ : ∃ d, D[eN]? = some d := ⟨_, List.getElem?_eq_getElem (by omega)⟩
      rw [show depthX ups ks eN = (d : Nat) from by unfold depthX; rw [if_pos ⟨he0, by rw [HUL.out]; exact he1, HVX.out⟩, hD, Int.toNat_natCast]; show ((D[eN]?.getD 0 : Nat) : Int) = _; rw [hd]; rfl]
      rw [hD] at HDE
      have HD := Lib.hid hd
      have HDL := Lib.hid hDl
      clear hd hDl hD
      go_enter Tryz.func8, Tryz.ntmps8
      go_wp2_with (first
        | (go_at_call 22; rw [HW1.out]; refine (HIS.out _).mono ?_; rintro _ w2 ⟨rfl, hB2⟩; have hB2' := HB1.out.trans (hB2.mono HB1.out.size); have HB2 := Lib.hid hB2'; have HBK2 := Lib.hid (HBK1.out.below hB2 HBK1.out.lt); have hc2 := HBK2.out.cell 0)
        | (go_at_call 13; refine (HVA.out _ HB2.out).mono ?_; rintro _ w3 ⟨rfl, hB3⟩; have HB3 := Lib.hid (HB2.out.trans (hB3.mono HB2.out.size)); have HBK3 := Lib.hid (HBK2.out.below hB3 HBK2.out.lt); have hc3 := HBK3.out.cell 0)
        | (go_at_call 23; refine (HDE.out _ HB3.out).mono ?_; rintro _ w4 ⟨v, rfl, hI4, hB4⟩; have HB4 := Lib.hid (HB3.out.trans (hB4.mono HB3.out.size)); obtain ⟨a4, c4, rfl, hr4⟩ := IntRd.of_ints hI4; obtain ⟨b4, o4, rfl, _, g4⟩ := hr4 (fun h0 => by have h1 := HDL.out; rw [List.map_eq_nil_iff.1 h0] at h1; have h2 : (0 : Nat) = n := h1; omega); have k4 : w4.cell? ⟨b4, o4 + eN, none⟩ = some (.int .i64 (d : Nat)) := ((g4 eN (by rw [List.length_map, HDL.out]; omega)).trans (by rw [List.getD_eq_getElem?_getD, List.getElem?_map, HD.out]; rfl)); rw [List.length_map, HDL.out]; clear g4 hr4 hI4))
      go_ret
      exact ⟨rfl, HB4.out⟩
  · have E1 : decide (0 ≤ e ∧ e < (n : Int)) = false := decide_eq_false he
    rw [E1] at HIS
    rw [show depthX ups ks e = 0 from by unfold depthX; rw [if_neg (by rw [HUL.out]; exact fun h => he ⟨h.1, h.2.1⟩)]]
    clear he
    go_enter Tryz.func8, Tryz.ntmps8
    go_wp2_with (go_at_call 22; rw [HW1.out]; refine (HIS.out _).mono ?_; rintro _ w2 ⟨rfl, hB2⟩; have HB2 := Lib.hid (HB1.out.trans (hB2.mono HB1.out.size)); have hc2 := (HBK1.out.below hB2 HBK1.out.lt).cell 0)
    go_ret
    exact ⟨rfl, HB2.out⟩
end Go.Proofs.YtlldpmjnledhgaaGreatDoor
