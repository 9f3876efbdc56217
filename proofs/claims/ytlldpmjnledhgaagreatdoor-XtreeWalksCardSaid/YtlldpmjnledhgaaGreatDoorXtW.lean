/- The walk of the builder's take, but for begins. -/
import Derived.Test.YtlldpmjnledhgaaGreatDoorXtST
import Derived.Test.YtlldpmjnledhgaaGreatDoorXpMO
import Derived.StillTailTactics
import Derived.Deep.QuietTactic
import Derived.BigQuiet
import Derived.Laws.Concat
namespace Go.Proofs.YtlldpmjnledhgaaGreatDoor
open Go.RowKit
set_option linter.unusedVariables false

/-- What holds of the builder's lists: those that are open are elements; nothing is too great. -/
structure Fits (els : List XL) (op : List Nat) : Prop where
  l1 : els.length ≤ 10000
  l2 : op.length ≤ 100
  ups : ∀ u ∈ op, u < els.length
  kids : ∀ q ∈ els, q.kids.length ≤ 100000
  text : ∀ q ∈ els, q.text.length ≤ 1000000000000
theorem below_drewN (B : Nat) (w : World) (n : Nat) : Below B w (w.drewN n) := ⟨rfl, rfl, rfl, Nat.le_refl _, fun _ _ => rfl⟩
set_option maxRecDepth 100000 in
set_option maxHeartbeats 64000000 in
theorem take_rest {n0 bb m : Nat} {els : List XL} {op : List Nat} {es : List QL} {ev ov tv : Value} {W : World} {t : XT} (h : BldI n0 bb els op es ev ov W) (hA : NoA t.attrs tv) (hf : Fits els op) (htl : t.text.length ≤ 100000000) (hk1 : t.kind ≠ 1) :
    Calls Tryz.prog 20 #[.pointer (some ⟨bb, 0, none⟩), .agg (tokCells (t, tv)).toArray] W fun e W' => BldR n0 bb W (takeX ⟨els, op, m⟩ t) e W' := by
  have hbs := h.base
  have hlen := bld_len h
  obtain ⟨l1, l2, l3, l4, l5⟩ := hf
  have HFi := Lib.hid (Fits.mk l1 l2 l3 l4 l5)
  obtain ⟨ea, ec, rfl⟩ := ownsRow_slice' h.elems.row
  obtain ⟨oa, oc, rfl⟩ := ownsRow_slice' h.opened
  have hbl := h.blk.lt
  obtain ⟨N, hN⟩ : ∃ N, es.length = N := ⟨_, rfl⟩
  obtain ⟨K, hK⟩ : ∃ K, op.reverse.length = K := ⟨_, rfl⟩
  have hK2 : op.length = K := by rw [← hK, List.length_reverse]
  have HH := Lib.hid h
  rw [hN, hK] at HH
  have HKK := Lib.hid hK
  have HK2 := Lib.hid hK2
  have HNN := Lib.hid hN
  have hK9 : K ≤ 100 := by omega
  have hN9 : N ≤ 10000 := by omega
  have HA0 := Lib.hid hA
  obtain ⟨av, ac, rfl⟩ := hA
  obtain ⟨an, han⟩ : ∃ an, t.attrs.length = an := ⟨_, rfl⟩
  rw [han] at HA0 ⊢
  have HT0 := Lib.hid (tokd_tok W t (.slice av an ac))
  have HD0 := Lib.hid (tokd_dg W t (.slice av an ac))
  have hz2 := tokd_size W t (.slice av an ac)
  have HB1 := Lib.hid (HH.out.below (tokd_below W t (.slice av an ac)))
  have HK1 := Lib.hid (KeepP.of_below (tokd_below W t (.slice av an ac)) hbs)
  have k0 : (tokd W t (.slice av an ac)).cell? ⟨bb, 0, none⟩ = some (.slice ea N ec) := HB1.out.blk.cell 0
  have k1 : (tokd W t (.slice av an ac)).cell? ⟨bb, 1, none⟩ = some (.slice oa K oc) := HB1.out.blk.cell 1
  have kf1 : (tokd W t (.slice av an ac)).frozen? ⟨bb, 1, none⟩ = false := HB1.out.blk.frozen 1
  obtain ⟨t0, t1, t2, t3, t4, t5⟩ := tok_box HT0.out
  obtain ⟨⟨r0, r1, r2⟩, g0, g1, g2⟩ := res_cells HD0.out
  have HSP := Lib.hid (fun W => spaces_any ⟨t.text.toArray⟩ (by rw [size_mk]; omega) W)
  rw [show (⟨t.text.toArray⟩ : ByteArray).data.toList = t.text from rfl] at HSP
  obtain ⟨R, hR⟩ : ∃ R, takeX ⟨els, op, m⟩ t = R := ⟨_, rfl⟩
  have HRn := Lib.hid (show R ≠ .none by rw [← hR]; exact takeX_some _ _)
  rw [hR]
  unfold takeX at hR
  simp only [] at hR
  rw [if_neg hk1] at hR
  have E1 : ((t.kind : Int) == 1) = false := beq_eq_false_iff_ne.2 (by omega)
  by_cases hk3 : t.kind = 3
  · have E3 : ((t.kind : Int) == 3) = true := beq_iff_eq.2 (by omega)
    cases op with
    | nil =>
      simp only [] at hR
      rw [if_pos hk3] at hR
      have hK0 : K = 0 := by rw [← hK2]; rfl
      have E5 : ((K : Int) - 1 < 0) := by omega
      cases hsp : spacesX t.text with
      | true =>
        rw [hsp] at hR HSP
        have HR := Lib.hid (show (XR.ok ⟨els, [], m⟩ : XR XB) = R from hR)
        clear h hR hk1 hN hK hK2 hlen l1 l2 l3 l4 l5 hk3 hK0
        go_enter Tryz.func20, Tryz.ntmps20
        go_wp2_with (go_at_call 37; refine (HSP.out _).mono ?_; rintro en w3 ⟨rfl, hW3⟩; have HD3 := Lib.hid (HD0.out.below hW3 HD0.out.lt); have HT3 := Lib.hid (HT0.out.below hW3 HT0.out.lt); have HK3 := Lib.hid (HK1.out.trans (KeepP.of_below hW3 (by omega))); have HB3 := Lib.hid (HB1.out.below hW3); clear r0 r1 r2 g0 g1 g2 t0 t1 t2 t3 t4 t5; obtain ⟨⟨r0, r1, r2⟩, g0, g1, g2⟩ := res_cells HD3.out; obtain ⟨t0, t1, t2, t3, t4, t5⟩ := tok_box HT3.out)
        have hE := dg_end (.int .i64 0) (.int .i64 0) (.string ⟨#[]⟩) HD3.out
        refine bodyPost_ret (results_c rfl rfl aggDiag rfl hE.1) rfl ?_
        rw [← HR.out]
        exact ⟨rfl, HK3.out.fresh hE.2 (by omega) hbs, es, _, _, HB3.out.dg HD3.out hE.2⟩
      | false =>
        rw [hsp] at hR HSP
        have HR := Lib.hid (show (XR.bad ⟨11, t.place, wText⟩ : XR XB) = R from hR)
        clear h hR hk1 hN hK hK2 hlen l1 l2 l3 l4 l5 hk3 hK0
        go_enter Tryz.func20, Tryz.ntmps20
        go_wp2_with (first | (go_at_call 37; refine (HSP.out _).mono ?_; rintro en w3 ⟨rfl, hW3⟩; have HD3 := Lib.hid (HD0.out.below hW3 HD0.out.lt); have HT3 := Lib.hid (HT0.out.below hW3 HT0.out.lt); have HK3 := Lib.hid (HK1.out.trans (KeepP.of_below hW3 (by omega))); have HB3 := Lib.hid (HB1.out.below hW3); clear r0 r1 r2 g0 g1 g2 t0 t1 t2 t3 t4 t5; obtain ⟨⟨r0, r1, r2⟩, g0, g1, g2⟩ := res_cells HD3.out; obtain ⟨t0, t1, t2, t3, t4, t5⟩ := tok_box HT3.out) | (go_at_call 21; refine (xwrong_any _ _ _).mono ?_; rintro en w4 ⟨rfl, hW4⟩; have hr := HD3.out.below hW4 HD3.out.lt; have HK4 := Lib.hid (HK3.out.trans (KeepP.of_below hW4 (by have := HK3.out.1.size; omega))); clear r0 r1 r2 g0 g1 g2; obtain ⟨⟨r0, r1, r2⟩, g0, g1, g2⟩ := res_cells hr))
        have hE := dg_end (.int .i64 11) (.int .i64 t.place) (.string ⟨#[116, 101, 120, 116]⟩) hr
        refine bodyPost_ret (results_c rfl rfl aggDiag rfl hE.1) rfl ?_
        rw [← HR.out]
        exact ⟨rfl, HK4.out.fresh hE.2 (by omega) hbs⟩
    | cons u r =>
      obtain ⟨L, hL⟩ : ∃ L, r.length = L := ⟨_, rfl⟩
      have hKL : K = L + 1 := by rw [← hK2]; simp [hL]
      subst hKL
      have HL := Lib.hid hL
      obtain ⟨og, hog⟩ : ∃ og, oa = some ⟨og, 0, none⟩ := by
        rcases HH.out.opened.2 with ⟨h1, h2⟩ | ⟨g, cap, cur, h1, _⟩
        · rw [hK] at h2; omega
        · simp only [Value.slice.injEq] at h1
          exact ⟨g, h1.1⟩
      subst hog
      have huN : u < N := by have := l3 u (by simp); omega
      obtain ⟨q, hq⟩ : ∃ q, es[u]? = some q := ⟨_, List.getElem?_eq_getElem (by omega)⟩
      have hqm : q ∈ es := List.mem_of_getElem? hq
      have hqt : q.1.text.length ≤ 1000000000000 := l5 _ (by rw [← h.elems.told]; exact List.mem_map_of_mem hqm)
      obtain ⟨g, gc, hg, hg0⟩ := elems_form h.elems hq
      simp only [Value.slice.injEq] at hg
      obtain ⟨rfl, -, rfl⟩ := hg
      have hrow : IntsAt n0 W (u :: r).reverse (.slice (some ⟨og, 0, none⟩) (u :: r).reverse.length oc) := h.opened
      have hcu : ∀ X : World, Below W.heap.size W X → X.cell? ⟨og, L, none⟩ = some (.int .i64 u) := fun X hX => by
        have h1 := World.ownsRow.cellAt (own_below hrow hX) L (by rw [hK]; omega)
        rw [h1, List.reverse_cons]
        unfold intCells
        rw [List.map_append, List.getElem?_append_right (by simp; omega)]
        simp [hL]
      have hgl : g < W.heap.size := own_lt h.elems.row rfl
      have hogl : og < W.heap.size := own_lt hrow rfl
      have hE : ∀ X : World, Below W.heap.size W X → (X.cell? ⟨g, u * 6, none⟩ = some (.string ⟨q.1.name.toArray⟩)) ∧ (X.cell? ⟨g, u * 6 + 5, none⟩ = some (.string ⟨q.1.text.toArray⟩)) ∧ ∀ j, X.frozen? ⟨g, j, none⟩ = false := fun X hX => by
        obtain ⟨⟨h0, _, _, _, _, h5⟩, h7⟩ := elem_cells (h.elems.below hX) hq
        exact ⟨h0, h5, h7⟩
      have hqe : els[u]? = some q.1 := by rw [← h.elems.told, List.getElem?_map, hq]; rfl
      obtain ⟨e0, e5, ef⟩ := hE _ (tokd_below W t (.slice av an ac))
      have ef5 := ef (u * 6 + 5)
      have ecu := hcu _ (tokd_below W t (.slice av an ac))
      have HQ := Lib.hid hq
      have hoc : (L : Int) ≤ (oc : Int) := by
        rcases HH.out.opened.2 with ⟨h1, h2⟩ | ⟨g, cap, cur, h1, _, _, h4, _⟩
        · cases h1
        · simp only [Value.slice.injEq] at h1
          rw [hK] at h4
          omega
      have m1 : ¬ bb = W.heap.size + 1 := by omega
      have m3 : ¬ og = W.heap.size + 1 := by omega
      have m5 : ¬ g = W.heap.size + 1 := by omega
      have q1c : IntKind.i64.wrap (L : Int) = (L : Int) := wrap_in (by omega) (by omega)
      have q1 : IntKind.i64.wrap ((L : Int) + 1 - 1) = (L : Int) := by rw [show (L : Int) + 1 - 1 = L from by omega]; exact wrap_in (by omega) (by omega)
      have q2 : (0 : Int) ≤ (L : Int) := by omega
      have q2b : ¬ (L : Int) < 0 := by omega
      have q3 : (L : Int) < (L : Int) + 1 := by omega
      have q3b : (L : Int) < ((L + 1 : Nat) : Int) := by omega
      have q4 : (0 : Int) ≤ (u : Int) := by omega
      have q5 : (u : Int) < (N : Int) := by omega
      simp only [] at hR
      rw [if_pos hk3] at hR
      have HR := Lib.hid hR
      have HE := Lib.hid hE
      have hadd : ∀ w', (Op.stringOp .add ⟨q.1.text.toArray⟩ ⟨t.text.toArray⟩).run Tryz.prog w' = .ok (.string ⟨(q.1.text ++ t.text).toArray⟩) w' := fun w' => by
        refine (run_string_add_sum (P := Tryz.prog) (w := w') _ _ (by rw [size_mk, size_mk]; omega)).trans ?_
        exact congrArg (fun b => Result.ok (Value.string b) w') (ByteArray.ext (by simp))
      have hs1 := size_mk q.1.text
      have hs2 := size_mk t.text
      have hcat : (⟨q.1.text.toArray⟩ : ByteArray).size + (⟨t.text.toArray⟩ : ByteArray).size ≤ 2000000000000 := by rw [size_mk, size_mk]; omega
      clear h hR hk1 hN hK hK2 hlen l1 l2 l3 l4 l5 hk3 hL hq hqm hg0 hrow hcu hE hqe
      go_enter Tryz.func20, Tryz.ntmps20
      go_wp2
      obtain ⟨V, hV⟩ : ∃ V, (W.alloc (tok0 t (.slice av an ac))).alloc dg0 = V := ⟨_, rfl⟩
      rw [show tokd W t (.slice av an ac) = V from hV] at k0 k1 kf1 e0 e5 ef5 ecu t0 t1 t2 t3 t4 t5 r0 r1 r2 g0 g1 g2 HB1 HK1 HT0 HD0
      rw [hV]
      clear hV
      go_still_tail 20, (by kernel_rfl)
      go_wp2
      have hX := BldI.text (x := t.text) (cap := ec) (ov := .slice (some ⟨og, 0, none⟩) (L + 1) oc) (h := by rw [HNN.out]; exact HB1.out) HQ.out
      rw [HNN.out] at hX
      have hd1 := HD0.out.far (p := ⟨g, u * 6 + 5, none⟩) (by simp; omega) (.string ⟨(q.1.text ++ t.text).toArray⟩)
      have hE2 := dg_end (.int .i64 0) (.int .i64 0) (.string ⟨#[]⟩) hd1
      obtain ⟨Y, hY⟩ : ∃ Y, (((V.setCell ⟨g, u * 6 + 5, none⟩ (.string ⟨(q.1.text ++ t.text).toArray⟩)).setCell ⟨W.heap.size + 1, 0, none⟩ (.int .i64 0)).setCell ⟨W.heap.size + 1, 1, none⟩ (.int .i64 0)).setCell ⟨W.heap.size + 1, 2, none⟩ (.string ⟨#[]⟩) = Y := ⟨_, rfl⟩
      rw [hY] at hE2 ⊢
      have hG : (V.setCell ⟨g, u * 6 + 5, none⟩ (.string ⟨(q.1.text ++ t.text).toArray⟩)).grownBy Y.drew (some (W.heap.size + 1)) := ⟨hE2.2.os, hE2.2.tape, hE2.2.output, hE2.2.size, hE2.2.block⟩
      refine bodyPost_ret (results_c rfl rfl aggDiag rfl hE2.1.drew) rfl ?_
      rw [← HR.out]
      exact ⟨rfl, (HK1.out.trans hX.2).fresh hG (by omega) hbs, _, _, _, hX.1.dg hd1 hG⟩
  · have E3 : ((t.kind : Int) == 3) = false := beq_eq_false_iff_ne.2 (by omega)
    cases op with
    | nil =>
      simp only [] at hR
      rw [if_neg hk3] at hR
      have hK0 : K = 0 := by rw [← hK2]; rfl
      have E5 : ((K : Int) - 1 < 0) := by omega
      have HR := Lib.hid hR
      clear h hR hk1 hN hK hK2 hlen l1 l2 l3 l4 l5 hk3 hK0
      go_enter Tryz.func20, Tryz.ntmps20
      go_wp2
      obtain ⟨V, hV⟩ : ∃ V, (W.alloc (tok0 t (.slice av an ac))).alloc dg0 = V := ⟨_, rfl⟩
      rw [show tokd W t (.slice av an ac) = V from hV] at k0 k1 kf1 t0 t1 t2 t3 t4 t5 r0 r1 r2 g0 g1 g2 HB1 HK1 HT0 HD0
      rw [hV]
      clear hV
      go_quiet (fail)
      go_wp2_with (go_at_call 21; refine (xwrong_any _ _ _).mono ?_; rintro en w4 ⟨rfl, hW4⟩; have hr := (HD0.out.drewN _).below hW4 (HD0.out.drewN _).lt; have HK4 := Lib.hid ((HK1.out.trans (KeepP.of_below (below_drewN V.heap.size V _) (by have := HK1.out.1.size; omega))).trans (KeepP.of_below hW4 (by have := HK1.out.1.size; show n0 ≤ V.heap.size; omega))); clear r0 r1 r2 g0 g1 g2; obtain ⟨⟨r0, r1, r2⟩, g0, g1, g2⟩ := res_cells hr)
      have hE := dg_end (.int .i64 11) (.int .i64 t.place) (.string ⟨#[101, 110, 100]⟩) hr
      refine bodyPost_ret (results_c rfl rfl aggDiag rfl hE.1) rfl ?_
      rw [← HR.out]
      exact ⟨rfl, HK4.out.fresh hE.2 (by omega) hbs⟩
    | cons u r =>
      obtain ⟨L, hL⟩ : ∃ L, r.length = L := ⟨_, rfl⟩
      have hKL : K = L + 1 := by rw [← hK2]; simp [hL]
      subst hKL
      have HL := Lib.hid hL
      obtain ⟨og, hog⟩ : ∃ og, oa = some ⟨og, 0, none⟩ := by
        rcases HH.out.opened.2 with ⟨h1, h2⟩ | ⟨g, cap, cur, h1, _⟩
        · rw [hK] at h2; omega
        · simp only [Value.slice.injEq] at h1
          exact ⟨g, h1.1⟩
      subst hog
      have huN : u < N := by have := l3 u (by simp); omega
      obtain ⟨q, hq⟩ : ∃ q, es[u]? = some q := ⟨_, List.getElem?_eq_getElem (by omega)⟩
      have hqm : q ∈ es := List.mem_of_getElem? hq
      have hqt : q.1.text.length ≤ 1000000000000 := l5 _ (by rw [← h.elems.told]; exact List.mem_map_of_mem hqm)
      obtain ⟨g, gc, hg, hg0⟩ := elems_form h.elems hq
      simp only [Value.slice.injEq] at hg
      obtain ⟨rfl, -, rfl⟩ := hg
      have hrow : IntsAt n0 W (u :: r).reverse (.slice (some ⟨og, 0, none⟩) (u :: r).reverse.length oc) := h.opened
      have hcu : ∀ X : World, Below W.heap.size W X → X.cell? ⟨og, L, none⟩ = some (.int .i64 u) := fun X hX => by
        have h1 := World.ownsRow.cellAt (own_below hrow hX) L (by rw [hK]; omega)
        rw [h1, List.reverse_cons]
        unfold intCells
        rw [List.map_append, List.getElem?_append_right (by simp; omega)]
        simp [hL]
      have hgl : g < W.heap.size := own_lt h.elems.row rfl
      have hogl : og < W.heap.size := own_lt hrow rfl
      have hE : ∀ X : World, Below W.heap.size W X → (X.cell? ⟨g, u * 6, none⟩ = some (.string ⟨q.1.name.toArray⟩)) ∧ (X.cell? ⟨g, u * 6 + 5, none⟩ = some (.string ⟨q.1.text.toArray⟩)) ∧ ∀ j, X.frozen? ⟨g, j, none⟩ = false := fun X hX => by
        obtain ⟨⟨h0, _, _, _, _, h5⟩, h7⟩ := elem_cells (h.elems.below hX) hq
        exact ⟨h0, h5, h7⟩
      have hqe : els[u]? = some q.1 := by rw [← h.elems.told, List.getElem?_map, hq]; rfl
      obtain ⟨e0, e5, ef⟩ := hE _ (tokd_below W t (.slice av an ac))
      have ef5 := ef (u * 6 + 5)
      have ecu := hcu _ (tokd_below W t (.slice av an ac))
      have HQ := Lib.hid hq
      have hoc : (L : Int) ≤ (oc : Int) := by
        rcases HH.out.opened.2 with ⟨h1, h2⟩ | ⟨g, cap, cur, h1, _, _, h4, _⟩
        · cases h1
        · simp only [Value.slice.injEq] at h1
          rw [hK] at h4
          omega
      have m1 : ¬ bb = W.heap.size + 1 := by omega
      have m3 : ¬ og = W.heap.size + 1 := by omega
      have m5 : ¬ g = W.heap.size + 1 := by omega
      have q1c : IntKind.i64.wrap (L : Int) = (L : Int) := wrap_in (by omega) (by omega)
      have q1 : IntKind.i64.wrap ((L : Int) + 1 - 1) = (L : Int) := by rw [show (L : Int) + 1 - 1 = L from by omega]; exact wrap_in (by omega) (by omega)
      have q2 : (0 : Int) ≤ (L : Int) := by omega
      have q2b : ¬ (L : Int) < 0 := by omega
      have q3 : (L : Int) < (L : Int) + 1 := by omega
      have q3b : (L : Int) < ((L + 1 : Nat) : Int) := by omega
      have q4 : (0 : Int) ≤ (u : Int) := by omega
      have q5 : (u : Int) < (N : Int) := by omega
      simp only [] at hR
      rw [if_neg hk3, hqe, Option.map_some] at hR
      by_cases hnm : q.1.name = t.name
      · rw [if_pos (by rw [hnm])] at hR
        have HR := Lib.hid hR
        have E6 : ((⟨q.1.name.toArray⟩ : ByteArray).toList != (⟨t.name.toArray⟩ : ByteArray).toList) = false := by rw [ByteArray.toList_eq, ByteArray.toList_eq]; simp [hnm]
        have E7 : (q.1.name != t.name) = false := by simp [hnm]
        have E8 : (q.1.name == t.name) = true := by simp [hnm]
        have E9 : ((⟨q.1.name.toArray⟩ : ByteArray).toList == (⟨t.name.toArray⟩ : ByteArray).toList) = true := by rw [str_beq]; exact E8
        have HNMQ := Lib.hid hnm
        clear h hR hk1 hN hK hK2 hlen l1 l2 l3 l4 l5 hk3 hL hq hqm hg0 hrow hcu hE hqe hnm
        go_enter Tryz.func20, Tryz.ntmps20
        go_wp2
        obtain ⟨V, hV⟩ : ∃ V, (W.alloc (tok0 t (.slice av an ac))).alloc dg0 = V := ⟨_, rfl⟩
        rw [show tokd W t (.slice av an ac) = V from hV] at k0 k1 kf1 e0 e5 ef5 ecu t0 t1 t2 t3 t4 t5 r0 r1 r2 g0 g1 g2 HB1 HK1 HT0 HD0
        rw [hV]
        clear hV
        go_quiet (fail)
        go_wp2
        have hBq : BldI n0 bb els (u :: r) es (.slice (some ⟨g, 0, none⟩) N ec) (.slice (some ⟨og, 0, none⟩) (r.length + 1) oc) (V.drewN nq) := by rw [HL.out]; exact HB1.out.below (below_drewN _ _ _)
        have hC := BldI.close_ hBq
        rw [HL.out] at hC
        have hd1 := (HD0.out.drewN nq).far (p := ⟨bb, 1, none⟩) (by simp; omega) (.slice (some ⟨og, 0, none⟩) L oc)
        have hE := dg_end (.int .i64 0) (.int .i64 0) (.string ⟨#[]⟩) hd1
        refine bodyPost_ret (results_c rfl rfl aggDiag rfl hE.1) rfl ?_
        rw [← HR.out]
        exact ⟨rfl, ((HK1.out.trans (KeepP.of_below (below_drewN _ _ _) HB1.out.base)).trans hC.2).fresh hE.2 (by omega) hbs, es, _, _, hC.1.dg hd1 hE.2⟩
      · rw [if_neg (by intro e; exact hnm (Option.some.inj e))] at hR
        have HR := Lib.hid hR
        have E6 : ((⟨q.1.name.toArray⟩ : ByteArray).toList != (⟨t.name.toArray⟩ : ByteArray).toList) = true := by rw [ByteArray.toList_eq, ByteArray.toList_eq]; simpa using hnm
        have E7 : (q.1.name != t.name) = true := by simpa using hnm
        have E8 : (q.1.name == t.name) = false := by simpa using hnm
        have E9 : ((⟨q.1.name.toArray⟩ : ByteArray).toList == (⟨t.name.toArray⟩ : ByteArray).toList) = false := by rw [str_beq]; exact E8
        clear h hR hk1 hN hK hK2 hlen l1 l2 l3 l4 l5 hk3 hL hq hqm hg0 hrow hcu hE hqe hnm
        go_enter Tryz.func20, Tryz.ntmps20
        go_wp2
        obtain ⟨V, hV⟩ : ∃ V, (W.alloc (tok0 t (.slice av an ac))).alloc dg0 = V := ⟨_, rfl⟩
        rw [show tokd W t (.slice av an ac) = V from hV] at k0 k1 kf1 e0 e5 ef5 ecu t0 t1 t2 t3 t4 t5 r0 r1 r2 g0 g1 g2 HB1 HK1 HT0 HD0
        rw [hV]
        clear hV
        go_quiet (fail)
        go_wp2_with (go_at_call 21; refine (xwrong_any _ _ _).mono ?_; rintro en w4 ⟨rfl, hW4⟩; have hr := (HD0.out.drewN _).below hW4 (HD0.out.drewN _).lt; have HK4 := Lib.hid ((HK1.out.trans (KeepP.of_below (below_drewN V.heap.size V _) (by have := HK1.out.1.size; omega))).trans (KeepP.of_below hW4 (by have := HK1.out.1.size; show n0 ≤ V.heap.size; omega))); clear r0 r1 r2 g0 g1 g2; obtain ⟨⟨r0, r1, r2⟩, g0, g1, g2⟩ := res_cells hr)
        have hE := dg_end (.int .i64 11) (.int .i64 t.place) (.string ⟨#[101, 110, 100]⟩) hr
        refine bodyPost_ret (results_c rfl rfl aggDiag rfl hE.1) rfl ?_
        rw [← HR.out]
        exact ⟨rfl, HK4.out.fresh hE.2 (by omega) hbs⟩
end Go.Proofs.YtlldpmjnledhgaaGreatDoor
