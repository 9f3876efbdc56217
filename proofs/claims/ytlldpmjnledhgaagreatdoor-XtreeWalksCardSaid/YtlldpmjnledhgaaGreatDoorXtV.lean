/- The walk of the builder's take. -/
import Derived.Test.YtlldpmjnledhgaaGreatDoorXtUU
import Derived.Test.YtlldpmjnledhgaaGreatDoorXtW
namespace Go.Proofs.YtlldpmjnledhgaaGreatDoor
open Go.RowKit
set_option linter.unusedVariables false

theorem begin_any {n0 bb m : Nat} {els : List XL} {op : List Nat} {es : List QL} {ev ov tv : Value} {W : World} {t : XT} (h : BldI n0 bb els op es ev ov W) (hA : NoA t.attrs tv) (hf : Fits els op) :
    Calls Tryz.prog 36 #[.pointer (some ⟨bb, 0, none⟩), .agg (tokCells (t, tv)).toArray] W fun e W' => BldR n0 bb W (beginX ⟨els, op, m⟩ t) e W' := by
  cases hv : beginX ⟨els, op, m⟩ t with
  | none =>
    exfalso
    have := takeX_some ⟨els, op, m⟩ { t with kind := 1 }
    unfold takeX at this
    rw [if_pos rfl] at this
    exact this hv
  | bad er => exact begin_bad h hA hf.l1 hf.l2 hv
  | ok b =>
    by_cases ho : op = []
    · exact begin_root h hA hf.l1 hf.l2 hf.ups hf.kids hv ho
    · exact begin_sub h hA hf.l1 hf.l2 hf.ups hf.kids hv ho
theorem bldR_keep {n0 bb : Nat} {W W1 W' : World} {R : XR XB} {e : Ending} (hk : KeepP n0 W W1) (h : BldR n0 bb W1 R e W') : BldR n0 bb W R e W' := by
  cases R with
  | none => trivial
  | bad er => exact ⟨h.1, hk.trans h.2⟩
  | ok b => exact ⟨h.1, hk.trans h.2.1, h.2.2⟩
/-- A step's answer, laid into the caller's own cell. -/
theorem bldR_end {n0 bb B : Nat} {W W1 W' : World} {R : XR XB} {e : Ending} {cs : Array Value} (hb : n0 ≤ W.heap.size) (hB : W.heap.size ≤ B) (hd : BlkAt W1 B 28 cs) (hk : KeepP n0 W W1) (h : BldR n0 bb W1 R e W') (hR : R ≠ .none) :
    ∃ code at_ what, e = .returned (dgv code at_ what) ∧ BlkAt W' B 28 cs ∧ ∀ Y, W'.grownBy Y (some B) → BldR n0 bb W R (.returned (dgv code at_ what)) Y := by
  cases R with
  | none => exact absurd rfl hR
  | bad er =>
    obtain ⟨rfl, h2⟩ := h
    exact ⟨_, _, _, rfl, h2.blk hd, fun Y hg => ⟨rfl, (hk.trans h2).fresh hg hB hb⟩⟩
  | ok b =>
    obtain ⟨rfl, h2, es, ev, ov, h3⟩ := h
    exact ⟨_, _, _, rfl, h2.blk hd, fun Y hg => ⟨rfl, (hk.trans h2).fresh hg hB hb, es, ev, ov, h3.dg (h2.blk hd) hg⟩⟩

set_option maxRecDepth 100000 in
set_option maxHeartbeats 64000000 in
theorem take_any {n0 bb m : Nat} {els : List XL} {op : List Nat} {es : List QL} {ev ov tv : Value} {W : World} {t : XT} (h : BldI n0 bb els op es ev ov W) (hA : NoA t.attrs tv) (hf : Fits els op) (htl : t.text.length ≤ 100000000) :
    Calls Tryz.prog 20 #[.pointer (some ⟨bb, 0, none⟩), .agg (tokCells (t, tv)).toArray] W fun e W' => BldR n0 bb W (takeX ⟨els, op, m⟩ t) e W' := by
  have hbs := h.base
  have hlen := bld_len h
  obtain ⟨l1, l2, l3, l4, l5⟩ := hf
  have HFi := Lib.hid (Fits.mk l1 l2 l3 l4 l5)
  obtain ⟨ea, ec, rfl⟩ := ownsRow_slice' h.elems.row
  obtain ⟨oa, oc, rfl⟩ := ownsRow_slice' h.opened
  have hbl := h.blk.lt
  obtain ⟨N, hN⟩ : ∃ N, es.length = N := ⟨_, rfl⟩
  obtain ⟨K, hK⟩ : ∃ K, op.reverse.length = K := ⟨_, rfl⟩
  have hK2 : op.length = K := by rw [← hK, List.length_reverse]
  have HH := Lib.hid h
  rw [hN, hK] at HH
  have HKK := Lib.hid hK
  have HK2 := Lib.hid hK2
  have HNN := Lib.hid hN
  have hK9 : K ≤ 100 := by omega
  have hN9 : N ≤ 10000 := by omega
  have HA0 := Lib.hid hA
  obtain ⟨av, ac, rfl⟩ := hA
  obtain ⟨an, han⟩ : ∃ an, t.attrs.length = an := ⟨_, rfl⟩
  rw [han] at HA0 ⊢
  have HT0 := Lib.hid (tokd_tok W t (.slice av an ac))
  have HD0 := Lib.hid (tokd_dg W t (.slice av an ac))
  have hz2 := tokd_size W t (.slice av an ac)
  have HB1 := Lib.hid (HH.out.below (tokd_below W t (.slice av an ac)))
  have HK1 := Lib.hid (KeepP.of_below (tokd_below W t (.slice av an ac)) hbs)
  have k0 : (tokd W t (.slice av an ac)).cell? ⟨bb, 0, none⟩ = some (.slice ea N ec) := HB1.out.blk.cell 0
  have k1 : (tokd W t (.slice av an ac)).cell? ⟨bb, 1, none⟩ = some (.slice oa K oc) := HB1.out.blk.cell 1
  have kf1 : (tokd W t (.slice av an ac)).frozen? ⟨bb, 1, none⟩ = false := HB1.out.blk.frozen 1
  obtain ⟨t0, t1, t2, t3, t4, t5⟩ := tok_box HT0.out
  obtain ⟨⟨r0, r1, r2⟩, g0, g1, g2⟩ := res_cells HD0.out
  have HSP := Lib.hid (fun W => spaces_any ⟨t.text.toArray⟩ (by rw [size_mk]; omega) W)
  rw [show (⟨t.text.toArray⟩ : ByteArray).data.toList = t.text from rfl] at HSP
  obtain ⟨R, hR⟩ : ∃ R, takeX ⟨els, op, m⟩ t = R := ⟨_, rfl⟩
  have HRn := Lib.hid (show R ≠ .none by rw [← hR]; exact takeX_some _ _)
  rw [hR]
  unfold takeX at hR
  simp only [] at hR
  by_cases hk1 : t.kind = 1
  · rw [if_pos hk1] at hR
    have E1 : ((t.kind : Int) == 1) = true := beq_iff_eq.2 (by omega)
    have HBe := Lib.hid (begin_any (m := m) HB1.out HA0.out HFi.out)
    rw [hR] at HBe
    have HR := Lib.hid hR
    clear h hR hk1 hN hK hK2 hlen l1 l2 l3 l4 l5
    go_enter Tryz.func20, Tryz.ntmps20
    go_wp2_with (go_at_call 36; refine (HBe.out).mono ?_; rintro en w2 hst; obtain ⟨code, at1, what, rfl, hr, hY⟩ := bldR_end (B := W.heap.size + 1) hbs (by omega) HD0.out HK1.out hst HRn.out; clear r0 r1 r2 g0 g1 g2; obtain ⟨⟨r0, r1, r2⟩, g0, g1, g2⟩ := res_cells hr; clear hst)
    have hE := dg_end (.int .i64 code) (.int .i64 at1) (.string what) hr
    refine bodyPost_ret (results_c rfl rfl aggDiag rfl hE.1) rfl ?_
    exact hY _ hE.2
  · rw [← hR]
    have := take_rest (m := m) h HA0.out HFi.out htl hk1
    unfold takeX at this
    exact this
end Go.Proofs.YtlldpmjnledhgaaGreatDoor
