/- The walk of the builder's begin, within an element. The walk of the builder's begin, at the root. -/
import Derived.Test.YtlldpmjnledhgaaGreatDoorXtST
import Derived.StillTailTactics
namespace Go.Proofs.YtlldpmjnledhgaaGreatDoor
open Go.RowKit
set_option linter.unusedVariables false

set_option maxRecDepth 100000 in
set_option maxHeartbeats 64000000 in
theorem begin_sub {n0 bb m : Nat} {els : List XL} {op : List Nat} {es : List QL} {ev ov tv : Value} {W : World} {t : XT} {b : XB} (h : BldI n0 bb els op es ev ov W) (hA : NoA t.attrs tv) (hl1 : els.length ≤ 10000) (hl2 : op.length ≤ 100) (hu : ∀ u ∈ op, u < els.length) (hkl : ∀ q ∈ els, q.kids.length ≤ 100000) (hv : beginX ⟨els, op, m⟩ t = .ok b) (hop : op ≠ []) :
    Calls Tryz.prog 36 #[.pointer (some ⟨bb, 0, none⟩), .agg (tokCells (t, tv)).toArray] W fun e W' => BldR n0 bb W (.ok b) e W' := by
  have hbs := h.base
  have hlen := bld_len h
  obtain ⟨av, ac, rfl⟩ := hA
  obtain ⟨an, han⟩ : ∃ an, t.attrs.length = an := ⟨_, rfl⟩
  rw [han]
  obtain ⟨ea, ec, rfl⟩ := ownsRow_slice' h.elems.row
  obtain ⟨oa, oc, rfl⟩ := ownsRow_slice' h.opened
  have hbl := h.blk.lt
  obtain ⟨N, hN⟩ : ∃ N, es.length = N := ⟨_, rfl⟩
  obtain ⟨K, hK⟩ : ∃ K, op.reverse.length = K := ⟨_, rfl⟩
  have hK2 : op.length = K := by rw [← hK, List.length_reverse]
  have HH := Lib.hid h
  rw [hN, hK] at HH
  have HKK := Lib.hid hK
  have HK2 := Lib.hid hK2
  have HNN := Lib.hid hN
  have HNL := Lib.hid (hlen.symm.trans hN)
  unfold beginX at hv
  simp only [] at hv
  by_cases c1 : op = [] ∧ 0 < els.length
  · rw [if_pos c1] at hv; cases hv
  rw [if_neg c1] at hv
  by_cases c4 : 100 ≤ op.length ∨ 10000 ≤ els.length
  · rw [if_pos c4] at hv; cases hv
  rw [if_neg c4] at hv
  have hK9 : K < 100 := by omega
  have hN9 : N < 10000 := by omega
  have HR := Lib.hid hv
  obtain ⟨i0, hi0, hz0, hz1, hz2'⟩ := info_parts infoElem
  obtain ⟨j0, hj0, hy0, hy1, hy2⟩ := info_parts infoInt
  have E3 : ¬ (100 : Int) ≤ (K : Int) := by omega
  have E4 : ¬ (10000 : Int) ≤ (N : Int) := by omega
  have k0 : (tokd W t (.slice av an ac)).cell? ⟨bb, 0, none⟩ = some (.slice ea N ec) := (HH.out.below (tokd_below _ _ _)).blk.cell 0
  have k1 : (tokd W t (.slice av an ac)).cell? ⟨bb, 1, none⟩ = some (.slice oa K oc) := (HH.out.below (tokd_below _ _ _)).blk.cell 1
  obtain ⟨t0, t1, t2, t3, t4, t5⟩ := tok_box (tokd_tok W t (.slice av an ac))
  have hz2 := tokd_size W t (.slice av an ac)
  obtain ⟨u, r, hop⟩ : ∃ u r, op = u :: r := by cases op with | nil => exact absurd rfl hop | cons u r => exact ⟨u, r, rfl⟩
  obtain ⟨L, hL⟩ : ∃ L, r.length = L := ⟨_, rfl⟩
  have hKL : K = L + 1 := by rw [← hK2, hop]; simp [hL]
  subst hKL
  obtain ⟨og, hog⟩ : ∃ og, oa = some ⟨og, 0, none⟩ := by
    rcases HH.out.opened.2 with ⟨h1, h2⟩ | ⟨g, cap, cur, h1, _⟩
    · rw [hK] at h2; omega
    · simp only [Value.slice.injEq] at h1
      exact ⟨g, h1.1⟩
  subst hog
  have huN : u < N := by have := hu u (by rw [hop]; simp); omega
  obtain ⟨q, hq⟩ : ∃ q, es[u]? = some q := ⟨_, List.getElem?_eq_getElem (by omega)⟩
  have hqm : q ∈ es := List.mem_of_getElem? hq
  have hqk : q.1.kids.length ≤ 100000 := hkl _ (by rw [← h.elems.told]; exact List.mem_map_of_mem hqm)
  obtain ⟨g, gc, hg, hg0⟩ := elems_form h.elems hq
  simp only [Value.slice.injEq] at hg
  obtain ⟨rfl, -, rfl⟩ := hg
  obtain ⟨ka, kc0, hkv⟩ := ownsRow_slice' (h.elems.kids q hqm)
  obtain ⟨kn, hkn⟩ : ∃ kn, q.1.kids.length = kn := ⟨_, rfl⟩
  rw [hkn] at hkv hqk
  have hrow : IntsAt n0 W op.reverse (.slice (some ⟨og, 0, none⟩) op.reverse.length oc) := h.opened
  have hcu : ∀ X : World, Below W.heap.size W X → X.cell? ⟨og, L, none⟩ = some (.int .i64 u) := fun X hX => by
    have h1 := World.ownsRow.cellAt (own_below hrow hX) L (by rw [hK]; omega)
    rw [h1, hop, List.reverse_cons]
    unfold intCells
    rw [List.map_append, List.getElem?_append_right (by simp; omega)]
    simp [hL]
  have HCU := Lib.hid hcu
  have hgl : g < W.heap.size := own_lt h.elems.row rfl
  have hE : ∀ X : World, Below W.heap.size W X → (X.cell? ⟨g, u * 6 + 4, none⟩ = some (.slice ka kn kc0)) ∧ ∀ j, X.frozen? ⟨g, j, none⟩ = false := fun X hX => by
    obtain ⟨⟨_, _, _, _, h5, _⟩, h7⟩ := elem_cells (h.elems.below hX) hq
    rw [hkv] at h5
    exact ⟨h5, h7⟩
  have HE := Lib.hid hE
  have HQ := Lib.hid hq
  have HKN := Lib.hid hkn
  have HKV := Lib.hid hkv
  have KX := Lib.hid (show kidX els op = atX (addKid N) els u by rw [hop]; show atX (addKid els.length) els u = _; rw [HNL.out])
  have UX := Lib.hid (show upX op = (u : Int) by rw [hop]; rfl)
  have HOP := Lib.hid hop
  have hbi : ∀ X : World, Below W.heap.size W X → X.cell? ⟨bb, 0, none⟩ = some (.slice (some ⟨g, 0, none⟩) N ec) ∧ X.cell? ⟨bb, 1, none⟩ = some (.slice (some ⟨og, 0, none⟩) (L + 1) oc) := fun X hX => ⟨(HH.out.below hX).blk.cell 0, (HH.out.below hX).blk.cell 1⟩
  have HBI := Lib.hid hbi
  have E1 : (((L : Int) + 1) == 0) = false := beq_eq_false_iff_ne.2 (by omega)
  have E1b : (((L + 1 : Nat) : Int) == 0) = false := beq_eq_false_iff_ne.2 (by omega)
  have E2 : (0 : Int) < (L : Int) + 1 := by omega
  have q1 : IntKind.i64.wrap ((L : Int) + 1 - 1) = (L : Int) := by rw [show (L : Int) + 1 - 1 = L from by omega]; exact wrap_in (by omega) (by omega)
  have hogl : og < W.heap.size := own_lt hrow rfl
  have m1 : ¬ bb = W.heap.size + 1 + 1 := by omega
  have m2 : ¬ W.heap.size + 1 + 1 = bb := by omega
  have m3 : ¬ og = W.heap.size + 1 + 1 := by omega
  have m4 : ¬ W.heap.size + 1 + 1 = og := by omega
  have m5 : ¬ g = W.heap.size + 1 + 1 := by omega
  have m6 : ¬ W.heap.size + 1 + 1 = g := by omega
  have q1c : IntKind.i64.wrap (L : Int) = (L : Int) := wrap_in (by omega) (by omega)
  have q1b : IntKind.i64.wrap (((L + 1 : Nat) : Int) - 1) = (L : Int) := by rw [show ((L + 1 : Nat) : Int) - 1 = L from by omega]; exact wrap_in (by omega) (by omega)
  have q3b : (L : Int) < ((L + 1 : Nat) : Int) := by omega
  have q2 : (0 : Int) ≤ (L : Int) := by omega
  have q2t : ((L : Int)).toNat = L := by omega
  have q3 : (L : Int) < (L : Int) + 1 := by omega
  have q4 : (0 : Int) ≤ (u : Int) := by omega
  have q5 : (u : Int) < (N : Int) := by omega
  have k1e : ((tokd W t (.slice av an ac)).alloc (.cells #[.string ⟨t.name.toArray⟩, .int .i64 t.place, .int .i64 (-1), .slice av an ac, .slice none 0 0, .string ⟨#[]⟩] 36)).cell? ⟨bb, 1, none⟩ = some (.slice (some ⟨og, 0, none⟩) (L + 1) oc) := ((HH.out.below (tokd_below _ _ _)).blk.alloc _).cell 1
  obtain ⟨V, hV⟩ : ∃ V, (tokd W t (.slice av an ac)).alloc (.cells #[.string ⟨t.name.toArray⟩, .int .i64 t.place, .int .i64 (-1), .slice av an ac, .slice none 0 0, .string ⟨#[]⟩] 36) = V := ⟨_, rfl⟩
  have hWV : Below W.heap.size W V := by rw [← hV]; exact (tokd_below W t (.slice av an ac)).alloc (by omega) _
  have hVz : V.heap.size = W.heap.size + 3 := by rw [← hV]; simp
  have HTV := Lib.hid (show BlkAt V W.heap.size 60 (tokCells (t, .slice av an ac)).toArray by rw [← hV]; exact (tokd_tok W t _).alloc _)
  have HDV := Lib.hid (show BlkAt V (W.heap.size + 1) 28 #[.int .i64 0, .int .i64 0, .string ⟨#[]⟩] by rw [← hV]; exact (tokd_dg W t _).alloc _)
  have HEV := Lib.hid (show BlkAt V (W.heap.size + 1 + 1) 36 #[.string ⟨t.name.toArray⟩, .int .i64 t.place, .int .i64 (-1), .slice av an ac, .slice none 0 0, .string ⟨#[]⟩] by rw [← hV]; have := BlkAt.new (tokd W t (.slice av an ac)) 36 #[.string ⟨t.name.toArray⟩, .int .i64 t.place, .int .i64 (-1), .slice av an ac, .slice none 0 0, .string ⟨#[]⟩]; rwa [hz2] at this)
  have HWV := Lib.hid hWV
  have HVE := Lib.hid hV
  clear h hv c1 c4 hu hkl hK hK2 hN hlen hl1 hl2 hop hL hq hkv hrow hcu hE hbi hV hWV hkn hz2 hg0
  go_enter Tryz.func36, Tryz.ntmps36
  go_wp2
  rw [HVE.out]
  have hwv := HWV.out
  obtain ⟨c0v, c1v⟩ := HBI.out V hwv
  have cuv := HCU.out V hwv
  have fe := HEV.out.frozen 2
  have ce : V.cell? ⟨W.heap.size + 1 + 1, 2, none⟩ = some (.int .i64 (-1)) := HEV.out.cell 2
  clear t0 t1 t2 t3 t4 t5 k0 k1 k1e hwv
  go_region_held3 (fun w' => w'.cell? ⟨bb, 1, none⟩ = some (.slice (some ⟨og, 0, none⟩) (L + 1) oc) ∧ w'.cell? ⟨og, L, none⟩ = some (.int .i64 u)) (go_keep) (fail)
  go_wp2
  have hW2 : Below W.heap.size W (V.setCell ⟨W.heap.size + 1 + 1, 2, none⟩ (.int .i64 u)).drew := (HWV.out.setCell (p := ⟨W.heap.size + 1 + 1, 2, none⟩) (by simp; omega) _).drew
  have HT2 := Lib.hid ((HTV.out.far (p := ⟨W.heap.size + 1 + 1, 2, none⟩) (by simp; omega) (.int .i64 u)).drew)
  have HD2 := Lib.hid ((HDV.out.far (p := ⟨W.heap.size + 1 + 1, 2, none⟩) (by simp) (.int .i64 u)).drew)
  have HE2 := Lib.hid (show BlkAt (V.setCell ⟨W.heap.size + 1 + 1, 2, none⟩ (.int .i64 u)).drew (W.heap.size + 1 + 1) 36 #[.string ⟨t.name.toArray⟩, .int .i64 t.place, .int .i64 u, .slice av an ac, .slice none 0 0, .string ⟨#[]⟩] from (HEV.out.set 2 (.int .i64 u)).drew)
  have hz2 : (V.setCell ⟨W.heap.size + 1 + 1, 2, none⟩ (.int .i64 u)).drew.heap.size = W.heap.size + 3 := by show (V.setCell _ _).heap.size = _; rw [World.size_setCell]; exact hVz
  obtain ⟨V2, hV2⟩ : ∃ V2, (V.setCell ⟨W.heap.size + 1 + 1, 2, none⟩ (.int .i64 u)).drew = V2 := ⟨_, rfl⟩
  rw [hV2] at hW2 HT2 HD2 HE2 hz2 ⊢
  have HW2 := Lib.hid hW2
  obtain ⟨c02, c12⟩ := HBI.out V2 hW2
  have e22 := HE2.out.cell 2
  clear c0v c1v cuv fe ce hV2 hW2 HTV HDV HEV HWV HVE hVz
  go_region_held3 (fun w' => w'.cell? ⟨bb, 0, none⟩ = some (.slice (some ⟨g, 0, none⟩) N ec) ∧ w'.cell? ⟨W.heap.size + 1 + 1, 2, none⟩ = some (.int .i64 u)) (go_keep) (fail)
  have hW3 : Below W.heap.size W V2.drew := HW2.out.drew
  have HT3 := Lib.hid HT2.out.drew
  have HD3 := Lib.hid HD2.out.drew
  have HE3 := Lib.hid HE2.out.drew
  have hz3 : V2.drew.heap.size = W.heap.size + 3 := hz2
  obtain ⟨V3, hV3⟩ : ∃ V3, V2.drew = V3 := ⟨_, rfl⟩
  rw [hV3] at hW3 HT3 HD3 HE3 hz3 ⊢
  have HW3 := Lib.hid hW3
  have hz3' : W.heap.size + 3 ≤ V3.heap.size := by omega
  have HZ3 := Lib.hid hz3
  clear hz3
  obtain ⟨kc3, kf3⟩ := HE.out V3 hW3
  have kf34 := kf3 (u * 6 + 4)
  have HKR := Lib.hid (show V3.ownsRow n0 3 1 (.slice ka kn kc0) kn (intCells q.1.kids) from by
    have := own_below (HH.out.elems.kids q (List.mem_of_getElem? HQ.out)) hW3
    rw [HKV.out, HKN.out] at this
    exact this)
  clear c02 c12 e22 hV3 hW3 kf3 HT2 HD2 HE2 hz2 HW2
  go_wp2_with (at_builtin; refine wpList_append_lies _ rfl _ _ _ rfl n0 3 j0 _ 1 8 Tryz.underlying32 hj0 hy0 hy1 hy2 rfl (by omega) (.slice ka kn kc0) kn (intCells q.1.kids) (by rfl) (HKR.out.alloc _) ⟨V3.heap.size, 0, none⟩ 1 1 [.int .i64 N] (by rfl) (by rfl) (cell_one_new _ _ _) (by simp [Value.oneCell']) (by omega) (by unfold maxLen; omega) (by omega) (by simp; omega) (V3.heap.size + 1) (by simp) ?_; intro kg kc w6 hown hgrow hat hlt6; have HO6 := Lib.hid hown; have HG6 := Lib.hid hgrow; have HA6 := Lib.hid hat; have hW3a := HW3.out.alloc (show W.heap.size ≤ V3.heap.size by omega) (.cells #[.int .i64 N] 3); have hne6 : some g ≠ (Value.slice ka kn kc0).ownBlock := (fun e => own_ne (HH.out.below hW3a).elems.row (HKR.out.alloc (.cells #[.int .i64 N] 3)) (by decide) rfl e.symm); have kc6 := (hgrow.cell_far ⟨g, u * 6 + 4, none⟩ (by simp; omega) hne6).trans (HE.out _ hW3a).1; have kf6 := (hgrow.frozen_far ⟨g, u * 6 + 4, none⟩ (by simp; omega) hne6).trans ((HE.out _ hW3a).2 _); clear hown hgrow hat)
  have hk4 := BldI.kid (n := N) (gg := kg) (kc := kc) (o := .cells #[.int .i64 N] 3) (q := q) (u := u) (W := V3) (cap := ec) (ov := .slice (some ⟨og, 0, none⟩) (L + 1) oc) (by rw [HNN.out]; exact HH.out.below HW3.out) HQ.out (by rw [HKN.out]; exact HO6.out) (by rw [HKV.out]; exact HG6.out) (by rw [HKV.out]; exact HA6.out)
  rw [HNN.out, HKN.out] at hk4
  have hfar : ∀ {B : Nat} {ty : TypeId} {cs : Array Value}, BlkAt V3 B ty cs → ty ≠ 3 → g ≠ B → BlkAt (w6.setCell ⟨g, u * 6 + 4, none⟩ (.slice (some ⟨kg, 0, none⟩) (kn + 1) kc)) B ty cs := fun {B} {ty} {cs} hb hne hgB =>
    ((hb.alloc (.cells #[.int .i64 N] 3)).grown HG6.out (fun e => blk_ne (HKR.out.alloc _) (hb.alloc (.cells #[.int .i64 N] 3)) (Ne.symm hne) e.symm)).far (p := ⟨g, u * 6 + 4, none⟩) (fun e => hgB e.symm) _
  have hT4 := hfar HT3.out (by decide) (by omega)
  have hD4 := hfar HD3.out (by decide) (by omega)
  have hE4 := hfar HE3.out (by decide) (by omega)
  have hK4 : KeepP n0 W (w6.setCell ⟨g, u * 6 + 4, none⟩ (.slice (some ⟨kg, 0, none⟩) (kn + 1) kc)) := (KeepP.of_below HW3.out hbs).trans hk4.2
  have hB4 := hk4.1
  have hS4 : (w6.setCell ⟨g, u * 6 + 4, none⟩ (.slice (some ⟨kg, 0, none⟩) (kn + 1) kc)).heap.size = w6.heap.size := World.size_setCell _ _ _
  have hz6 : W.heap.size + 4 ≤ w6.heap.size := by have := HG6.out.size; simp at this; omega
  obtain ⟨V4, hV4⟩ : ∃ V4, w6.setCell ⟨g, u * 6 + 4, none⟩ (.slice (some ⟨kg, 0, none⟩) (kn + 1) kc) = V4 := ⟨_, rfl⟩
  obtain ⟨es4, hes4⟩ : ∃ es4, es.set u (addKid N q.1, q.2.1, .slice (some ⟨kg, 0, none⟩) (kn + 1) kc) = es4 := ⟨_, rfl⟩
  have hl4 : es4.length = N := by rw [← hes4, List.length_set]; exact HNN.out
  rw [hV4] at hT4 hD4 hE4 hK4 hB4 hS4 ⊢
  rw [hes4] at hB4
  have hz4 : W.heap.size + 4 ≤ V4.heap.size := by omega
  have HT4 := Lib.hid hT4
  have HD4 := Lib.hid hD4
  have HE4 := Lib.hid hE4
  have HK4 := Lib.hid hK4
  have HB4 := Lib.hid hB4
  have HL4 := Lib.hid hl4
  have hRW : V4.ownsRow n0 36 6 (.slice (some ⟨g, 0, none⟩) N ec) N (es4.flatMap elemCells) := by have := hB4.elems.row; rwa [hl4] at this
  have HRW := Lib.hid hRW
  have b4 := HB4.out.blk.cell 0
  have b4a : (V4.drew.alloc (.cells #[.string ⟨t.name.toArray⟩, .int .i64 t.place, .int .i64 u, .slice av an ac, .slice none 0 0, .string ⟨#[]⟩] 36)).cell? ⟨bb, 0, none⟩ = some (.slice (some ⟨g, 0, none⟩) N ec) := (HB4.out.drew.alloc _).blk.cell 0
  have b4b : (V4.alloc (.cells #[.string ⟨t.name.toArray⟩, .int .i64 t.place, .int .i64 u, .slice av an ac, .slice none 0 0, .string ⟨#[]⟩] 36)).cell? ⟨bb, 0, none⟩ = some (.slice (some ⟨g, 0, none⟩) N ec) := b4a
  have x0 := HE4.out.cell 0
  have x1 := HE4.out.cell 1
  have x2 := HE4.out.cell 2
  have x3 := HE4.out.cell 3
  have x4 := HE4.out.cell 4
  have x5 := HE4.out.cell 5
  have hn04 : n0 ≤ V4.heap.size := HB4.out.base
  clear hk4 hfar hT4 hD4 hE4 hK4 hB4 hV4 hes4 hl4 hRW kc6 kf6 kc3 kf34 hW3a hne6 hlt6 hS4
  go_region_law ((refine step_append_lies _ (by rfl) _ _ _ (by rfl) n0 36 i0 _ 6 96 Tryz.underlying23 hi0 hz0 hz1 hz2' rfl (by omega) (.slice (some ⟨g, 0, none⟩) N ec) N (es4.flatMap elemCells) (by rfl) (HRW.out.drew.alloc _) ⟨V4.heap.size, 0, none⟩ 1 1 [.string ⟨t.name.toArray⟩, .int .i64 t.place, .int .i64 u, .slice av an ac, .slice none 0 0, .string ⟨#[]⟩] (by rfl) (by rfl) (World.news_of_block (cs := #[.string ⟨t.name.toArray⟩, .int .i64 t.place, .int .i64 u, .slice av an ac, .slice none 0 0, .string ⟨#[]⟩]) (t := 36) (fr := (0, 0)) (heap_alloc_new V4.drew _)) (by simp [Value.oneCell']) (by omega) (by unfold maxLen; omega) (by omega) (by have e0 : V4.drew.heap.size = V4.heap.size := rfl; simp; omega) (V4.heap.size + 1) (by simp) ?_; intro gg kc_1 w7 hown hgrow hat7 hlt7; have hb7 := ((HB4.out.drew.alloc (Obj.cells #[.string ⟨t.name.toArray⟩, .int .i64 t.place, .int .i64 u, .slice av an ac, .slice none 0 0, .string ⟨#[]⟩] 36)).blk.grown hgrow (fun e => blk_ne (HRW.out.drew.alloc _) (HB4.out.drew.alloc (Obj.cells #[.string ⟨t.name.toArray⟩, .int .i64 t.place, .int .i64 u, .slice av an ac, .slice none 0 0, .string ⟨#[]⟩] 36)).blk (by decide) e.symm)); have f70 := hb7.frozen 0; have c70 := hb7.cell 0; have HO7 := Lib.hid hown; have HG7 := Lib.hid hgrow; clear hown hgrow hat7))
  all_goals
    have hP := BldI.push (gg := gg) (kc := kc_1) (x := ⟨t.name, t.place, u, t.attrs, [], []⟩) (av := .slice av an ac) (o := .cells #[.string ⟨t.name.toArray⟩, .int .i64 t.place, .int .i64 u, .slice av an ac, .slice none 0 0, .string ⟨#[]⟩] 36) HB4.out.drew rfl ⟨av, ac, by rw [han]⟩ (by rw [HL4.out]; exact HO7.out) HG7.out
    rw [HL4.out] at hP
    have hfar5 : ∀ {B : Nat} {ty : TypeId} {cs : Array Value}, BlkAt V4 B ty cs → ty ≠ 36 → bb ≠ B → BlkAt (w7.setCell ⟨bb, 0, none⟩ (.slice (some ⟨gg, 0, none⟩) (N + 1) kc_1)) B ty cs := fun {B} {ty} {cs} hb hne hgB =>
      ((hb.drew.alloc (Obj.cells #[.string ⟨t.name.toArray⟩, .int .i64 t.place, .int .i64 u, .slice av an ac, .slice none 0 0, .string ⟨#[]⟩] 36)).grown HG7.out (fun e => blk_ne (HRW.out.drew.alloc (Obj.cells #[.string ⟨t.name.toArray⟩, .int .i64 t.place, .int .i64 u, .slice av an ac, .slice none 0 0, .string ⟨#[]⟩] 36)) (hb.drew.alloc (Obj.cells #[.string ⟨t.name.toArray⟩, .int .i64 t.place, .int .i64 u, .slice av an ac, .slice none 0 0, .string ⟨#[]⟩] 36)) (Ne.symm hne) e.symm)).far (p := ⟨bb, 0, none⟩) (fun e => hgB e.symm) _
    have hT5 := hfar5 HT4.out (by decide) (by omega)
    have hD5 := hfar5 HD4.out (by decide) (by omega)
    have hK5 : KeepP n0 W (w7.setCell ⟨bb, 0, none⟩ (.slice (some ⟨gg, 0, none⟩) (N + 1) kc_1)) := (HK4.out.trans (KeepP.of_below (Below.refl _ V4).drew hn04)).trans hP.2
    have hB5 := hP.1
    have hz7 : W.heap.size + 4 ≤ w7.heap.size := by have h7 := HG7.out.size; have e0 : V4.drew.heap.size = V4.heap.size := rfl; simp at h7; omega
    have hS5 : (w7.setCell ⟨bb, 0, none⟩ (.slice (some ⟨gg, 0, none⟩) (N + 1) kc_1)).heap.size = w7.heap.size := World.size_setCell _ _ _
    obtain ⟨V5, hV5⟩ : ∃ V5, w7.setCell ⟨bb, 0, none⟩ (.slice (some ⟨gg, 0, none⟩) (N + 1) kc_1) = V5 := ⟨_, rfl⟩
    rw [hV5] at hT5 hD5 hK5 hB5 hS5 ⊢
    have hz5 : W.heap.size + 4 ≤ V5.heap.size := by omega
    have HT5 := Lib.hid hT5
    have HD5 := Lib.hid hD5
    have HK5 := Lib.hid hK5
    have HB5 := Lib.hid hB5
    clear hP hfar5 hT5 hD5 hK5 hB5 hV5 hS5 f70 c70 b4 b4a b4b x0 x1 x2 x3 x4 x5 hlt7 hb7
    have c1b : V5.cell? ⟨bb, 1, none⟩ = some (.slice (some ⟨og, 0, none⟩) (L + 1) oc) := HB5.out.blk.cell 1
    have f1b : V5.frozen? ⟨bb, 1, none⟩ = false := HB5.out.blk.frozen 1
    obtain ⟨t0, t1, t2, t3, t4, t5⟩ := tok_box HT5.out
    obtain ⟨⟨r0, r1, r2⟩, g0, g1, g2⟩ := res_cells HD5.out
    by_cases hem : t.empty = true
    · rw [hem] at t5
      have HEM := Lib.hid hem
      clear hem
      go_wp2
      have hE := dg_end (.int .i64 0) (.int .i64 0) (.string ⟨#[]⟩) HD5.out
      refine bodyPost_ret (results_c rfl rfl aggDiag rfl hE.1) rfl ?_
      have hR := HR.out
      rw [if_pos HEM.out, KX.out, UX.out] at hR
      cases hR
      exact ⟨rfl, HK5.out.fresh hE.2 (by omega) hbs, _, _, _, HB5.out.dg HD5.out hE.2⟩
    · have hem' : t.empty = false := by simpa using hem
      rw [hem'] at t5
      have HEM := Lib.hid hem'
      clear hem hem'
      have hop : V5.ownsRow n0 3 1 (.slice (some ⟨og, 0, none⟩) (L + 1) oc) (L + 1) (intCells op.reverse) := by have := HB5.out.opened; unfold IntsAt at this; rwa [HKK.out] at this
      have HOP := Lib.hid hop
      have HBV := Lib.hid HB5.out.base
      have hbv := HBV.out
      clear hop
      go_wp2_with (at_builtin; refine wpList_append_lies _ rfl _ _ _ rfl n0 3 j0 _ 1 8 Tryz.underlying32 hj0 hy0 hy1 hy2 rfl (by omega) (.slice (some ⟨og, 0, none⟩) (L + 1) oc) (L + 1) (intCells op.reverse) rfl (HOP.out.alloc _) ⟨V5.heap.size, 0, none⟩ 1 1 [.int .i64 N] rfl rfl (cell_one_new _ _ _) (by simp [Value.oneCell']) (by omega) (by unfold maxLen; omega) (by omega) (by simp; omega) (V5.heap.size + 1) (by simp) ?_; intro gg2 kc2 w6 hown hgrow hat hlt6; have hb6 := ((HB5.out.alloc (.cells #[.int .i64 N] 3)).blk.grown hgrow (fun e => blk_ne (HOP.out.alloc _) (HB5.out.alloc (.cells #[.int .i64 N] 3)).blk (by decide) e.symm)); have f61 := hb6.frozen 1; have c61 := hb6.cell 1; have hd6 := ((HD5.out.alloc (.cells #[.int .i64 N] 3)).grown hgrow (fun e => blk_ne (HOP.out.alloc _) (HD5.out.alloc (.cells #[.int .i64 N] 3)) (by decide) e.symm)); clear r0 r1 r2 g0 g1 g2; obtain ⟨⟨r0, r1, r2⟩, g0, g1, g2⟩ := res_cells hd6; have HO6 := Lib.hid hown; have HG6 := Lib.hid hgrow; have HA6 := Lib.hid hat; clear hown hgrow hat)
      have hP := BldI.open_ (n := N) (gg := gg2) (kc := kc2) HB5.out (by rw [HK2.out]; exact HO6.out) HG6.out HA6.out
      rw [HK2.out] at hP
      have HP := Lib.hid hP
      have hd7 := hd6.far (p := ⟨bb, 1, none⟩) (fun e => by simp at e; omega) (.slice (some ⟨gg2, 0, none⟩) (L + 1 + 1) kc2)
      clear hP
      have hE := dg_end (.int .i64 0) (.int .i64 0) (.string ⟨#[]⟩) hd7
      refine bodyPost_ret (results_c rfl rfl aggDiag rfl hE.1) rfl ?_
      have hR := HR.out
      rw [if_neg (by rw [HEM.out]; simp), KX.out, UX.out, HNL.out] at hR
      cases hR
      exact ⟨rfl, (HK5.out.trans HP.out.2).fresh hE.2 (by omega) hbs, _, _, _, HP.out.1.dg hd7 hE.2⟩
end Go.Proofs.YtlldpmjnledhgaaGreatDoor
namespace Go.Proofs.YtlldpmjnledhgaaGreatDoor
open Go.RowKit
set_option linter.unusedVariables false

set_option maxRecDepth 100000 in
set_option maxHeartbeats 64000000 in
theorem begin_root {n0 bb m : Nat} {els : List XL} {op : List Nat} {es : List QL} {ev ov tv : Value} {W : World} {t : XT} {b : XB} (h : BldI n0 bb els op es ev ov W) (hA : NoA t.attrs tv) (hl1 : els.length ≤ 10000) (hl2 : op.length ≤ 100) (hu : ∀ u ∈ op, u < els.length) (hkl : ∀ q ∈ els, q.kids.length ≤ 100000) (hv : beginX ⟨els, op, m⟩ t = .ok b) (hop : op = []) :
    Calls Tryz.prog 36 #[.pointer (some ⟨bb, 0, none⟩), .agg (tokCells (t, tv)).toArray] W fun e W' => BldR n0 bb W (.ok b) e W' := by
  have hbs := h.base
  have hlen := bld_len h
  obtain ⟨av, ac, rfl⟩ := hA
  obtain ⟨an, han⟩ : ∃ an, t.attrs.length = an := ⟨_, rfl⟩
  rw [han]
  obtain ⟨ea, ec, rfl⟩ := ownsRow_slice' h.elems.row
  obtain ⟨oa, oc, rfl⟩ := ownsRow_slice' h.opened
  have hbl := h.blk.lt
  obtain ⟨N, hN⟩ : ∃ N, es.length = N := ⟨_, rfl⟩
  obtain ⟨K, hK⟩ : ∃ K, op.reverse.length = K := ⟨_, rfl⟩
  have hK2 : op.length = K := by rw [← hK, List.length_reverse]
  have HH := Lib.hid h
  rw [hN, hK] at HH
  have HKK := Lib.hid hK
  have HK2 := Lib.hid hK2
  have HNN := Lib.hid hN
  have HNL := Lib.hid (hlen.symm.trans hN)
  unfold beginX at hv
  simp only [] at hv
  by_cases c1 : op = [] ∧ 0 < els.length
  · rw [if_pos c1] at hv; cases hv
  rw [if_neg c1] at hv
  by_cases c4 : 100 ≤ op.length ∨ 10000 ≤ els.length
  · rw [if_pos c4] at hv; cases hv
  rw [if_neg c4] at hv
  have hK9 : K < 100 := by omega
  have hN9 : N < 10000 := by omega
  have HR := Lib.hid hv
  obtain ⟨i0, hi0, hz0, hz1, hz2'⟩ := info_parts infoElem
  obtain ⟨j0, hj0, hy0, hy1, hy2⟩ := info_parts infoInt
  have E3 : ¬ (100 : Int) ≤ (K : Int) := by omega
  have E4 : ¬ (10000 : Int) ≤ (N : Int) := by omega
  have k0 : (tokd W t (.slice av an ac)).cell? ⟨bb, 0, none⟩ = some (.slice ea N ec) := (HH.out.below (tokd_below _ _ _)).blk.cell 0
  have k1 : (tokd W t (.slice av an ac)).cell? ⟨bb, 1, none⟩ = some (.slice oa K oc) := (HH.out.below (tokd_below _ _ _)).blk.cell 1
  obtain ⟨t0, t1, t2, t3, t4, t5⟩ := tok_box (tokd_tok W t (.slice av an ac))
  have hz2 := tokd_size W t (.slice av an ac)
  have hK0 : K = 0 := by rw [← hK2, hop]; rfl
  have KX := Lib.hid (show kidX els op = els by rw [hop]; rfl)
  have UX := Lib.hid (show upX op = (-1 : Int) by rw [hop]; rfl)
  have hN0 : N = 0 := by
    have h1 : els.length = N := hlen.symm.trans hN
    have h2 : ¬ 0 < els.length := fun e => c1 ⟨hop, e⟩
    omega
  have E1 : ((K : Int) == 0) = true := beq_iff_eq.2 (by omega)
  have E5 : ¬ (0 : Int) < (K : Int) := by omega
  have E2 : ¬ (0 : Int) < (N : Int) := by omega
  have k1e : ((tokd W t (.slice av an ac)).alloc (.cells #[.string ⟨t.name.toArray⟩, .int .i64 t.place, .int .i64 (-1), .slice av an ac, .slice none 0 0, .string ⟨#[]⟩] 36)).cell? ⟨bb, 1, none⟩ = some (.slice oa K oc) := ((HH.out.below (tokd_below _ _ _)).blk.alloc _).cell 1
  obtain ⟨V4, hV⟩ : ∃ V4, (tokd W t (.slice av an ac)).alloc (.cells #[.string ⟨t.name.toArray⟩, .int .i64 t.place, .int .i64 (-1), .slice av an ac, .slice none 0 0, .string ⟨#[]⟩] 36) = V4 := ⟨_, rfl⟩
  have hWV : Below W.heap.size W V4 := by rw [← hV]; exact (tokd_below W t (.slice av an ac)).alloc (by omega) _
  have hz4 : W.heap.size + 3 ≤ V4.heap.size := by rw [← hV]; simp
  have HT4 := Lib.hid (show BlkAt V4 W.heap.size 60 (tokCells (t, .slice av an ac)).toArray by rw [← hV]; exact (tokd_tok W t _).alloc _)
  have HD4 := Lib.hid (show BlkAt V4 (W.heap.size + 1) 28 #[.int .i64 0, .int .i64 0, .string ⟨#[]⟩] by rw [← hV]; exact (tokd_dg W t _).alloc _)
  have HE4 := Lib.hid (show BlkAt V4 (W.heap.size + 1 + 1) 36 #[.string ⟨t.name.toArray⟩, .int .i64 t.place, .int .i64 (-1), .slice av an ac, .slice none 0 0, .string ⟨#[]⟩] by rw [← hV]; have := BlkAt.new (tokd W t (.slice av an ac)) 36 #[.string ⟨t.name.toArray⟩, .int .i64 t.place, .int .i64 (-1), .slice av an ac, .slice none 0 0, .string ⟨#[]⟩]; rwa [hz2] at this)
  have HK4 := Lib.hid (KeepP.of_below hWV hbs)
  have HB4 := Lib.hid (HH.out.below hWV)
  have HRW := Lib.hid (show V4.ownsRow n0 36 6 (.slice ea N ec) N (es.flatMap elemCells) by have := HB4.out.elems.row; rwa [hN] at this)
  have HVE := Lib.hid hV
  have hn04 : n0 ≤ V4.heap.size := HB4.out.base
  clear h hv c1 c4 hu hkl hK hK2 hN hlen hl1 hl2 hop hV hWV hz2 hK0 hN0
  go_enter Tryz.func36, Tryz.ntmps36
  go_wp2
  rw [HVE.out]
  have b4 := HB4.out.blk.cell 0
  have b4a : (V4.drew.alloc (.cells #[.string ⟨t.name.toArray⟩, .int .i64 t.place, .int .i64 (-1), .slice av an ac, .slice none 0 0, .string ⟨#[]⟩] 36)).cell? ⟨bb, 0, none⟩ = some (.slice ea N ec) := (HB4.out.drew.alloc _).blk.cell 0
  have b4b : (V4.alloc (.cells #[.string ⟨t.name.toArray⟩, .int .i64 t.place, .int .i64 (-1), .slice av an ac, .slice none 0 0, .string ⟨#[]⟩] 36)).cell? ⟨bb, 0, none⟩ = some (.slice ea N ec) := b4a
  have x0 := HE4.out.cell 0
  have x1 := HE4.out.cell 1
  have x2 := HE4.out.cell 2
  have x3 := HE4.out.cell 3
  have x4 := HE4.out.cell 4
  have x5 := HE4.out.cell 5
  clear t0 t1 t2 t3 t4 t5 k0 k1 k1e
  go_region_law ((refine step_append_lies _ (by rfl) _ _ _ (by rfl) n0 36 i0 _ 6 96 Tryz.underlying23 hi0 hz0 hz1 hz2' rfl (by omega) (.slice ea N ec) N (es.flatMap elemCells) (by rfl) (HRW.out.drew.alloc _) ⟨V4.heap.size, 0, none⟩ 1 1 [.string ⟨t.name.toArray⟩, .int .i64 t.place, .int .i64 (-1), .slice av an ac, .slice none 0 0, .string ⟨#[]⟩] (by rfl) (by rfl) (World.news_of_block (cs := #[.string ⟨t.name.toArray⟩, .int .i64 t.place, .int .i64 (-1), .slice av an ac, .slice none 0 0, .string ⟨#[]⟩]) (t := 36) (fr := (0, 0)) (heap_alloc_new V4.drew _)) (by simp [Value.oneCell']) (by omega) (by unfold maxLen; omega) (by omega) (by have e0 : V4.drew.heap.size = V4.heap.size := rfl; simp; omega) (V4.heap.size + 1) (by simp) ?_; intro gg kc_1 w7 hown hgrow hat7 hlt7; have hb7 := ((HB4.out.drew.alloc (Obj.cells #[.string ⟨t.name.toArray⟩, .int .i64 t.place, .int .i64 (-1), .slice av an ac, .slice none 0 0, .string ⟨#[]⟩] 36)).blk.grown hgrow (fun e => blk_ne (HRW.out.drew.alloc _) (HB4.out.drew.alloc (Obj.cells #[.string ⟨t.name.toArray⟩, .int .i64 t.place, .int .i64 (-1), .slice av an ac, .slice none 0 0, .string ⟨#[]⟩] 36)).blk (by decide) e.symm)); have f70 := hb7.frozen 0; have c70 := hb7.cell 0; have HO7 := Lib.hid hown; have HG7 := Lib.hid hgrow; clear hown hgrow hat7))
  all_goals
    have hP := BldI.push (gg := gg) (kc := kc_1) (x := ⟨t.name, t.place, -1, t.attrs, [], []⟩) (av := .slice av an ac) (o := .cells #[.string ⟨t.name.toArray⟩, .int .i64 t.place, .int .i64 (-1), .slice av an ac, .slice none 0 0, .string ⟨#[]⟩] 36) HB4.out.drew rfl ⟨av, ac, by rw [han]⟩ (by rw [HNN.out]; exact HO7.out) HG7.out
    rw [HNN.out] at hP
    have hfar5 : ∀ {B : Nat} {ty : TypeId} {cs : Array Value}, BlkAt V4 B ty cs → ty ≠ 36 → bb ≠ B → BlkAt (w7.setCell ⟨bb, 0, none⟩ (.slice (some ⟨gg, 0, none⟩) (N + 1) kc_1)) B ty cs := fun {B} {ty} {cs} hb hne hgB =>
      ((hb.drew.alloc (Obj.cells #[.string ⟨t.name.toArray⟩, .int .i64 t.place, .int .i64 (-1), .slice av an ac, .slice none 0 0, .string ⟨#[]⟩] 36)).grown HG7.out (fun e => blk_ne (HRW.out.drew.alloc (Obj.cells #[.string ⟨t.name.toArray⟩, .int .i64 t.place, .int .i64 (-1), .slice av an ac, .slice none 0 0, .string ⟨#[]⟩] 36)) (hb.drew.alloc (Obj.cells #[.string ⟨t.name.toArray⟩, .int .i64 t.place, .int .i64 (-1), .slice av an ac, .slice none 0 0, .string ⟨#[]⟩] 36)) (Ne.symm hne) e.symm)).far (p := ⟨bb, 0, none⟩) (fun e => hgB e.symm) _
    have hT5 := hfar5 HT4.out (by decide) (by omega)
    have hD5 := hfar5 HD4.out (by decide) (by omega)
    have hK5 : KeepP n0 W (w7.setCell ⟨bb, 0, none⟩ (.slice (some ⟨gg, 0, none⟩) (N + 1) kc_1)) := (HK4.out.trans (KeepP.of_below (Below.refl _ V4).drew hn04)).trans hP.2
    have hB5 := hP.1
    have hz7 : W.heap.size + 4 ≤ w7.heap.size := by have h7 := HG7.out.size; have e0 : V4.drew.heap.size = V4.heap.size := rfl; simp at h7; omega
    have hS5 : (w7.setCell ⟨bb, 0, none⟩ (.slice (some ⟨gg, 0, none⟩) (N + 1) kc_1)).heap.size = w7.heap.size := World.size_setCell _ _ _
    obtain ⟨V5, hV5⟩ : ∃ V5, w7.setCell ⟨bb, 0, none⟩ (.slice (some ⟨gg, 0, none⟩) (N + 1) kc_1) = V5 := ⟨_, rfl⟩
    rw [hV5] at hT5 hD5 hK5 hB5 hS5 ⊢
    have hz5 : W.heap.size + 4 ≤ V5.heap.size := by omega
    have HT5 := Lib.hid hT5
    have HD5 := Lib.hid hD5
    have HK5 := Lib.hid hK5
    have HB5 := Lib.hid hB5
    clear hP hfar5 hT5 hD5 hK5 hB5 hV5 hS5 f70 c70 b4 b4a b4b x0 x1 x2 x3 x4 x5 hlt7 hb7
    have c1b : V5.cell? ⟨bb, 1, none⟩ = some (.slice oa K oc) := HB5.out.blk.cell 1
    have f1b : V5.frozen? ⟨bb, 1, none⟩ = false := HB5.out.blk.frozen 1
    obtain ⟨t0, t1, t2, t3, t4, t5⟩ := tok_box HT5.out
    obtain ⟨⟨r0, r1, r2⟩, g0, g1, g2⟩ := res_cells HD5.out
    by_cases hem : t.empty = true
    · rw [hem] at t5
      have HEM := Lib.hid hem
      clear hem
      go_wp2
      have hE := dg_end (.int .i64 0) (.int .i64 0) (.string ⟨#[]⟩) HD5.out
      refine bodyPost_ret (results_c rfl rfl aggDiag rfl hE.1) rfl ?_
      have hR := HR.out
      rw [if_pos HEM.out, KX.out, UX.out] at hR
      cases hR
      exact ⟨rfl, HK5.out.fresh hE.2 (by omega) hbs, _, _, _, HB5.out.dg HD5.out hE.2⟩
    · have hem' : t.empty = false := by simpa using hem
      rw [hem'] at t5
      have HEM := Lib.hid hem'
      clear hem hem'
      have hop : V5.ownsRow n0 3 1 (.slice oa K oc) K (intCells op.reverse) := by have := HB5.out.opened; unfold IntsAt at this; rwa [HKK.out] at this
      have HOP := Lib.hid hop
      have HBV := Lib.hid HB5.out.base
      have hbv := HBV.out
      clear hop
      go_wp2_with (at_builtin; refine wpList_append_lies _ rfl _ _ _ rfl n0 3 j0 _ 1 8 Tryz.underlying32 hj0 hy0 hy1 hy2 rfl (by omega) (.slice oa K oc) K (intCells op.reverse) rfl (HOP.out.alloc _) ⟨V5.heap.size, 0, none⟩ 1 1 [.int .i64 N] rfl rfl (cell_one_new _ _ _) (by simp [Value.oneCell']) (by omega) (by unfold maxLen; omega) (by omega) (by simp; omega) (V5.heap.size + 1) (by simp) ?_; intro gg2 kc2 w6 hown hgrow hat hlt6; have hb6 := ((HB5.out.alloc (.cells #[.int .i64 N] 3)).blk.grown hgrow (fun e => blk_ne (HOP.out.alloc _) (HB5.out.alloc (.cells #[.int .i64 N] 3)).blk (by decide) e.symm)); have f61 := hb6.frozen 1; have c61 := hb6.cell 1; have hd6 := ((HD5.out.alloc (.cells #[.int .i64 N] 3)).grown hgrow (fun e => blk_ne (HOP.out.alloc _) (HD5.out.alloc (.cells #[.int .i64 N] 3)) (by decide) e.symm)); clear r0 r1 r2 g0 g1 g2; obtain ⟨⟨r0, r1, r2⟩, g0, g1, g2⟩ := res_cells hd6; have HO6 := Lib.hid hown; have HG6 := Lib.hid hgrow; have HA6 := Lib.hid hat; clear hown hgrow hat)
      have hP := BldI.open_ (n := N) (gg := gg2) (kc := kc2) HB5.out (by rw [HK2.out]; exact HO6.out) HG6.out HA6.out
      rw [HK2.out] at hP
      have HP := Lib.hid hP
      have hd7 := hd6.far (p := ⟨bb, 1, none⟩) (fun e => by simp at e; omega) (.slice (some ⟨gg2, 0, none⟩) (K + 1) kc2)
      clear hP
      have hE := dg_end (.int .i64 0) (.int .i64 0) (.string ⟨#[]⟩) hd7
      refine bodyPost_ret (results_c rfl rfl aggDiag rfl hE.1) rfl ?_
      have hR := HR.out
      rw [if_neg (by rw [HEM.out]; simp), KX.out, UX.out, HNL.out] at hR
      cases hR
      exact ⟨rfl, (HK5.out.trans HP.out.2).fresh hE.2 (by omega) hbs, _, _, _, HP.out.1.dg hd7 hE.2⟩
end Go.Proofs.YtlldpmjnledhgaaGreatDoor
