/- The walks of xtree's spaces and wrong. The walk of the builder's begin. -/
import Derived.Test.YtlldpmjnledhgaaGreatDoorXkN
import Derived.Test.YtlldpmjnledhgaaGreatDoorXpAL
import Derived.Test.YtlldpmjnledhgaaGreatDoorUtI
import Derived.Test.YtlldpmjnledhgaaGreatDoorUtWs
import Derived.Test.YtlldpmjnledhgaaGreatDoorXtB
import Derived.Deep.AppendLies
namespace Go.Proofs.YtlldpmjnledhgaaGreatDoor
open Go.RowKit Go.Shelf
set_option linter.unusedVariables false
attribute [local go_sem] Oper.semAt_some

theorem loadVar_bool {P : Program} {w : World} {g : Nat} {t ty : TypeId} {v : Value} (hu : P.underlying ty = some .bool) (h : BlkAt w g t #[v]) : (loadVar ty ⟨g, 0, none⟩).run P w = .ok v w := by
  have hc : w.cell? ⟨g, 0, none⟩ = some v := h.cell 0
  simp only [loadVar, Sem.run_bind, run_isAgg_plain hu rfl w, Result.andThen_ok, Bool.false_eq_true, if_false]
  rw [run_load, hc]
theorem results_b {P : Program} {fn : Func} {p : Tmp} {ty : TypeId} (hf : fn.results = #[.cell p ty]) {tmps : Array Value} {w : World} {g : Nat} {t : TypeId} {v : Value}
    (hp : tmps.getD p undef = .pointer (some ⟨g, 0, none⟩)) (hu : P.underlying ty = some .bool) (h : BlkAt w g t #[v]) : (results fn tmps).run P w = .ok v w := by
  have hp' : tmps[p]?.getD undef = .pointer (some ⟨g, 0, none⟩) := by simpa using hp
  simp only [results, hf]
  simp [hp', asAddr, loadVar_bool hu h]
def offSpace (p : Nat × Nat) : Bool := !spaceR (p.2 : Int)
theorem spacesX_done {s : List UInt8} (h : ∀ p ∈ allRunes s, offSpace p = false) : spacesX s = true := by
  unfold spacesX
  rw [List.all_eq_true]
  intro p hp
  have := h p hp
  unfold offSpace at this
  simpa using this
theorem spacesX_stop {s : List UInt8} {pre : List (Nat × Nat)} {x : Nat × Nat} (hp : pre ++ [x] <+: allRunes s) (hx : offSpace x = true) : spacesX s = false := by
  unfold spacesX
  rw [Bool.eq_false_iff]
  intro h
  rw [List.all_eq_true] at h
  have := h x (hp.subset (by simp))
  unfold offSpace at hx
  rw [this] at hx
  cases hx
theorem xwrong_any (at_ : Int) (what : ByteArray) (w : World) :
    Calls Tryz.prog 21 #[.int .i64 at_, .string what] w fun e w' => e = .returned (dgv 11 at_ what) ∧ Below w.heap.size w w' := by
  go_enter Tryz.func21, Tryz.ntmps21
  go_wp2
  refine bodyPost_ret (results_c rfl rfl aggDiag rfl (BlkAt.new w _ _)) rfl ?_
  exact ⟨rfl, (Below.refl _ _).alloc (Nat.le_refl _) _⟩

set_option maxRecDepth 100000 in
set_option maxHeartbeats 3200000 in
theorem spaces_any (s : ByteArray) (hs : s.size ≤ 9223372036854775807) (w : World) :
    Calls Tryz.prog 37 #[.string s] w fun e w' => e = .returned (.bool (spacesX s.data.toList)) ∧ Below w.heap.size w w' := by
  refine (callsIn_wide (n := 3)).1 ?_
  refine callsIn_of_wp_marks Tryz.func37 rfl trivial ?_ rfl
  simp only [Tryz.ntmps37, List.size_toArray, List.length_cons, List.length_nil, Nat.reduceAdd, Nat.reduceSub, Array.replicate_succ, Array.replicate_zero, List.push_toArray, List.append_toArray, List.nil_append, List.cons_append]
  gi_wp2_with (refine ⟨trivial, ?_⟩; gi_at_call 48; refine (callsIn_wide.2 (runes_any _ _)).mono ?_; rintro e w' ⟨rfl, rfl⟩)
  have bS := Boxed.new (w.alloc (.cells #[.bool false] 4)) 9 (.string s)
  rw [World.size_alloc] at bS
  have bR : BlkAt ((w.alloc (.cells #[.bool false] 4)).alloc (.cells #[.string s] 9)) w.heap.size 4 #[.bool false] := (BlkAt.new w _ _).alloc _
  have hB0 : Below w.heap.size w ((w.alloc (.cells #[.bool false] 4)).alloc (.cells #[.string s] 9)) := ((Below.refl _ w).alloc (Nat.le_refl _) _).alloc (by simp) _
  obtain ⟨W0, hW0⟩ : ∃ W0, (w.alloc (.cells #[.bool false] 4)).alloc (.cells #[.string s] 9) = W0 := ⟨_, rfl⟩
  have hz0 : W0.heap.size = w.heap.size + 2 := by rw [← hW0]; simp
  rw [hW0] at bS bR hB0 ⊢
  clear hW0
  refine wpIn_rangeFunc_ownG rfl (by omega) (gf := 65) (lb := #[.pointer (some ⟨w.heap.size + 1, 0, none⟩)]) rfl trivial (enters_of Tryz.func65 (by kernel_rfl) rfl)
    (runes_stops 2 (by omega) (w.heap.size + 1) s (by omega) _ bS) keepB_t (keepB_b (by omega)) (Below.refl _ _) (fun _ => rfl)
    (fun pre W => BlkAt W w.heap.size 4 #[.bool false] ∧ (∀ q ∈ pre, offSpace q = false) ∧ Below w.heap.size w W ∧ w.heap.size + 2 ≤ W.heap.size)
    (fun c pre W => c = .ret ∧ ∃ p x, pre = p ++ [x] ∧ offSpace x = true ∧ BlkAt W w.heap.size 4 #[.bool false] ∧ Below w.heap.size w W)
    ?hI ?hIx
    ⟨bR, by simp, hB0, by omega⟩
    (fun x => { tmps := #[.string s, undef, .pointer (some ⟨w.heap.size, 0, none⟩), undef, .int .i64 x.2, .string s, .func (.func 65) #[] #[.pointer (some ⟨w.heap.size + 1, 0, none⟩)], .int .i64 x.1, .int .i64 x.2, undef, undef, undef], defers := [] }) ?assign ?body ?done ?stop
  case hI =>
    intro pre W W' row hs hg hr
    obtain ⟨h1, h2, h3, h4⟩ := hs
    exact ⟨blk_own _ _ (fun _ => #[.bool false]) () W W' row h1 hg (fun r e => (hr r e).2), h2, h3.grown hg h3.size (fun k e => by have := (hr k e).1; omega), Nat.le_trans h4 hg.size⟩
  case hIx =>
    intro c pre W W' row hs hg hr
    obtain ⟨hc, p, x, h1, h3, h4, h5⟩ := hs
    exact ⟨hc, p, x, h1, h3, blk_own _ _ (fun _ => #[.bool false]) () W W' row h4 hg (fun r e => (hr r e).2), h5.grown hg h5.size (fun k e => by have := (hr k e).1; omega)⟩
  case assign =>
    rintro l ⟨x1, x2⟩ W K hK
    simp only [encII]
    gi_wp2
    exact hK
  case body =>
    rintro l pre ⟨x1, x2⟩ W ⟨hv, hf, hB, hz⟩ hlt
    have HF := Lib.hid hf
    clear hs hlt hf bS hB0 bR
    by_cases hp : spaceR (x2 : Int) = true
    · have HP := Lib.hid hp
      have HO := Lib.hid (show offSpace (x1, x2) = false by unfold offSpace; simp [hp])
      clear hp
      gi_wp2_with (refine ⟨trivial, ?_⟩; gi_at_call 49; refine (callsIn_wide.2 (space_any _ _)).mono ?_; rintro e w' ⟨rfl, rfl⟩; rw [HP.out])
      refine ⟨(KeepsOthers.refl _).from _, KeepB.refl _ _, hv, ?_, hB, hz⟩
      intro q hq
      rw [List.mem_append] at hq
      rcases hq with hq | hq
      · exact HF.out q hq
      · simp at hq; subst hq; exact HO.out
    · have HP := Lib.hid (show spaceR (x2 : Int) = false by simpa using hp)
      have HO := Lib.hid (show offSpace (x1, x2) = true by unfold offSpace; simp [hp])
      have c0 := hv.cell 0
      have f0 := hv.frozen 0
      clear hp
      gi_wp2_with (refine ⟨trivial, ?_⟩; gi_at_call 49; refine (callsIn_wide.2 (space_any _ _)).mono ?_; rintro e w' ⟨rfl, rfl⟩; rw [HP.out])
      exact ⟨(KeepsOthers.setCell _ _ _).from _, rfl, pre, (x1, x2), rfl, HO.out, hv.set 0 _, hB.setCell (p := ⟨w.heap.size, 0, none⟩) (Nat.le_refl _) _⟩
  case done =>
    rintro D ys W hD rfl ⟨hv, hf, hB, hz⟩ hK
    have c0 := hv.cell 0
    have f0 := hv.frozen 0
    have HN := Lib.hid (spacesX_done hf)
    gi_wp2
    obtain ⟨Y, hY⟩ : ∃ Y, W.setCell ⟨w.heap.size, 0, none⟩ (.bool true) = Y := ⟨_, rfl⟩
    have g1 : W.grownBy Y (some w.heap.size) := by rw [← hY]; exact grown_set W _ _ _
    have v1 : BlkAt Y w.heap.size 4 #[.bool true] := by rw [← hY]; exact hv.set 0 _
    rw [hY]
    have hlD := (Array.getElem?_eq_some_iff.1 hK).1
    have hYD : Y.heap[D]? = _ := (g1.block D hlD (fun e => by have := Option.some.inj e; omega)).trans hK
    refine ⟨by simp, .inl ⟨_, _, rfl, run_takeDeferred hYD, ?_⟩⟩
    have z1 : BlkAt (Y.putObj D (.deferred none)) w.heap.size 4 #[.bool true] := v1.below (belowK_b (w := W0) (Nat.le_refl _) Y D _ _ (by omega) hYD rfl rfl) (by omega)
    refine ⟨_, results_b rfl rfl Tryz.underlying4 z1, ?_⟩
    rw [HN.out]
    exact ⟨rfl, (hB.trans (grown_below g1 (Nat.le_refl _) (by omega))).trans (belowK_b (w := w) (Nat.le_refl _) Y D _ _ (by omega) hYD rfl rfl)⟩
  case stop =>
    rintro D c pre W hD hpre ⟨rfl, p, x, rfl, hx, hv, hB⟩ hK
    have HN := Lib.hid (spacesX_stop hpre hx)
    gi_wp2
    refine ⟨by simp, .inl ⟨_, _, rfl, run_takeDeferred hK, ?_⟩⟩
    have z1 : BlkAt (W.putObj D (.deferred none)) w.heap.size 4 #[.bool false] := hv.below (belowK_b (w := W0) (Nat.le_refl _) W D _ _ (by omega) hK rfl rfl) (by omega)
    refine ⟨_, results_b rfl rfl Tryz.underlying4 z1, ?_⟩
    rw [HN.out]
    exact ⟨rfl, hB.trans (belowK_b (w := w) (Nat.le_refl _) W D _ _ (by omega) hK rfl rfl)⟩
end Go.Proofs.YtlldpmjnledhgaaGreatDoor
namespace Go.Proofs.YtlldpmjnledhgaaGreatDoor
open Go.RowKit
set_option linter.unusedVariables false

theorem infoElem : (Tryz.prog.info? 36).map (fun i => (i.zero, i.size, i.bytes)) = some (some (.agg #[.string ⟨#[]⟩, .int .i64 0, .int .i64 0, .slice none 0 0, .slice none 0 0, .string ⟨#[]⟩]), 6, 96) := by kernel_rfl
theorem infoInt : (Tryz.prog.info? 3).map (fun i => (i.zero, i.size, i.bytes)) = some (some (.int .i64 0), 1, 8) := by kernel_rfl
/-- What a step of the builder comes to. -/
def BldR (n0 bb : Nat) (W : World) (R : XR XB) (e : Ending) (W' : World) : Prop :=
  match R with
  | .none => True
  | .bad er => e = .returned (errV er) ∧ KeepP n0 W W'
  | .ok b => e = .returned okV ∧ KeepP n0 W W' ∧ ∃ es ev ov, BldI n0 bb b.elems b.opened es ev ov W'
abbrev tok0 (t : XT) (tv : Value) : Obj := .cells (tokCells (t, tv)).toArray 60
theorem tok_box {W : World} {B : Nat} {t : XT} {tv : Value} (h : BlkAt W B 60 (tokCells (t, tv)).toArray) :
    W.cell? ⟨B, 0, none⟩ = some (.int .i64 t.kind) ∧ W.cell? ⟨B, 1, none⟩ = some (.int .i64 t.place) ∧ W.cell? ⟨B, 2, none⟩ = some (.string ⟨t.name.toArray⟩) ∧ W.cell? ⟨B, 3, none⟩ = some (.string ⟨t.text.toArray⟩) ∧ W.cell? ⟨B, 4, none⟩ = some tv ∧ W.cell? ⟨B, 5, none⟩ = some (.bool t.empty) :=
  ⟨h.cell 0, h.cell 1, h.cell 2, h.cell 3, h.cell 4, h.cell 5⟩
/-- A call's first two boxes: the token, the answer. -/
abbrev tokd (W : World) (t : XT) (tv : Value) : World := (W.alloc (tok0 t tv)).alloc dg0
theorem tokd_size (W : World) (t : XT) (tv : Value) : (tokd W t tv).heap.size = W.heap.size + 2 := by simp [tokd]
theorem tokd_below (W : World) (t : XT) (tv : Value) : Below W.heap.size W (tokd W t tv) := ((Below.refl _ W).alloc (Nat.le_refl _) _).alloc (by simp) _
theorem tokd_tok (W : World) (t : XT) (tv : Value) : BlkAt (tokd W t tv) W.heap.size 60 (tokCells (t, tv)).toArray := (BlkAt.new W _ _).alloc _
theorem tokd_dg (W : World) (t : XT) (tv : Value) : BlkAt (tokd W t tv) (W.heap.size + 1) 28 #[.int .i64 0, .int .i64 0, .string ⟨#[]⟩] := by
  have := BlkAt.new (W.alloc (tok0 t tv)) 28 #[.int .i64 0, .int .i64 0, .string ⟨#[]⟩]
  rwa [World.size_alloc] at this
theorem bld_len {n0 bb : Nat} {els : List XL} {op : List Nat} {es : List QL} {ev ov : Value} {W : World} (h : BldI n0 bb els op es ev ov W) : es.length = els.length := by rw [← h.elems.told, List.length_map]
/-- The end of a step: the answer's cells. -/
theorem dg_end {B : Nat} {W : World} {a b c : Value} (x y z : Value) (h : BlkAt W B 28 #[a, b, c]) :
    BlkAt (((W.setCell ⟨B, 0, none⟩ x).setCell ⟨B, 1, none⟩ y).setCell ⟨B, 2, none⟩ z) B 28 #[x, y, z] ∧ W.grownBy (((W.setCell ⟨B, 0, none⟩ x).setCell ⟨B, 1, none⟩ y).setCell ⟨B, 2, none⟩ z) (some B) := by
  have hT := three_sets x y z h
  exact ⟨hT.1, hT.2⟩
theorem BldI.dg {n0 bb B : Nat} {els : List XL} {op : List Nat} {es : List QL} {ev ov : Value} {W W' : World} {cs : Array Value} (h : BldI n0 bb els op es ev ov W) (hb : BlkAt W B 28 cs) (hg : W.grownBy W' (some B)) : BldI n0 bb els op es ev ov W' :=
  h.off hb (by decide) (by decide) (by decide) (by decide) hg

set_option maxRecDepth 100000 in
set_option maxHeartbeats 6400000 in
theorem begin_bad {n0 bb m : Nat} {els : List XL} {op : List Nat} {es : List QL} {ev ov tv : Value} {W : World} {t : XT} {er : XE} (h : BldI n0 bb els op es ev ov W) (hA : NoA t.attrs tv) (hl1 : els.length ≤ 10000) (hl2 : op.length ≤ 100) (hv : beginX ⟨els, op, m⟩ t = .bad er) :
    Calls Tryz.prog 36 #[.pointer (some ⟨bb, 0, none⟩), .agg (tokCells (t, tv)).toArray] W fun e W' => BldR n0 bb W (.bad er) e W' := by
  have hbs := h.base
  have hlen := bld_len h
  obtain ⟨ea, ec, rfl⟩ := ownsRow_slice' h.elems.row
  obtain ⟨oa, oc, rfl⟩ := ownsRow_slice' h.opened
  have hbl := h.blk.lt
  have HT0 := Lib.hid (tokd_tok W t tv)
  have HD0 := Lib.hid (tokd_dg W t tv)
  have hz2 := tokd_size W t tv
  have HB1 := Lib.hid (h.below (tokd_below W t tv))
  have HK1 := Lib.hid (KeepP.of_below (tokd_below W t tv) hbs)
  obtain ⟨N, hN⟩ : ∃ N, es.length = N := ⟨_, rfl⟩
  obtain ⟨K, hK⟩ : ∃ K, op.reverse.length = K := ⟨_, rfl⟩
  have hK2 : op.length = K := by rw [← hK, List.length_reverse]
  rw [hN, hK] at HB1
  have k0 : (tokd W t tv).cell? ⟨bb, 0, none⟩ = some (.slice ea N ec) := HB1.out.blk.cell 0
  have k1 : (tokd W t tv).cell? ⟨bb, 1, none⟩ = some (.slice oa K oc) := HB1.out.blk.cell 1
  obtain ⟨t0, t1, t2, t3, t4, t5⟩ := tok_box HT0.out
  obtain ⟨⟨r0, r1, r2⟩, g0, g1, g2⟩ := res_cells HD0.out
  unfold beginX at hv
  simp only [] at hv
  by_cases c1 : op = [] ∧ 0 < els.length
  · rw [if_pos c1] at hv
    have HR := Lib.hid hv
    obtain ⟨c2, c3⟩ := c1
    have E1 : ((K : Int) == 0) = true := beq_iff_eq.2 (by rw [c2] at hK2; simp at hK2; omega)
    have E2 : (0 : Int) < (N : Int) := by omega
    clear h hA hv c2 hK hK2 hN hlen c3 hz2
    go_enter Tryz.func36, Tryz.ntmps36
    go_wp2_with (go_at_call 21; refine (xwrong_any _ _ _).mono ?_; rintro en w4 ⟨rfl, hW4⟩; have hr := HD0.out.below hW4 HD0.out.lt; have HK4 := Lib.hid (HK1.out.trans (KeepP.of_below hW4 (by simp; omega))); clear r0 r1 r2 g0 g1 g2; obtain ⟨⟨r0, r1, r2⟩, g0, g1, g2⟩ := res_cells hr)
    have hE := dg_end (.int .i64 11) (.int .i64 t.place) (.string ⟨#[114, 111, 111, 116]⟩) hr
    refine bodyPost_ret (results_c rfl rfl aggDiag rfl hE.1) rfl ?_
    cases HR.out
    exact ⟨rfl, HK4.out.fresh hE.2 (by omega) hbs⟩
  · rw [if_neg c1] at hv
    by_cases c4 : 100 ≤ op.length ∨ 10000 ≤ els.length
    · rw [if_pos c4] at hv
      have HR := Lib.hid hv
      clear h hA hv hz2 hl1 hl2
      by_cases c5 : K = 0
      · have E1 : ((K : Int) == 0) = true := beq_iff_eq.2 (by omega)
        have E2 : ¬ (0 : Int) < (N : Int) := by
          intro h
          exact c1 ⟨List.length_eq_zero_iff.1 (by omega), by omega⟩
        exfalso; omega
      · have E1 : ((K : Int) == 0) = false := beq_eq_false_iff_ne.2 (by omega)
        by_cases c6 : 100 ≤ K
        · have E3 : (100 : Int) ≤ (K : Int) := by omega
          clear c1 c4 c5 c6 hK hK2 hN hlen
          go_enter Tryz.func36, Tryz.ntmps36
          go_wp2
          have hE := BlkAt.new (W.alloc (tok0 t tv)) 28 #[.int .i64 2, .int .i64 t.place, .string ⟨#[101, 108, 101, 109, 101, 110, 116, 115]⟩]
          rw [World.size_alloc] at hE
          refine bodyPost_ret (results_c rfl rfl aggDiag rfl hE) rfl ?_
          cases HR.out
          exact ⟨rfl, KeepP.of_below (((Below.refl _ W).alloc (Nat.le_refl _) _).alloc (by simp) _) hbs⟩
        · have E3 : ¬ (100 : Int) ≤ (K : Int) := by omega
          have E4 : (10000 : Int) ≤ (N : Int) := by omega
          clear c1 c4 c5 c6 hK hK2 hN hlen
          go_enter Tryz.func36, Tryz.ntmps36
          go_wp2
          have hE := BlkAt.new (W.alloc (tok0 t tv)) 28 #[.int .i64 2, .int .i64 t.place, .string ⟨#[101, 108, 101, 109, 101, 110, 116, 115]⟩]
          rw [World.size_alloc] at hE
          refine bodyPost_ret (results_c rfl rfl aggDiag rfl hE) rfl ?_
          cases HR.out
          exact ⟨rfl, KeepP.of_below (((Below.refl _ W).alloc (Nat.le_refl _) _).alloc (by simp) _) hbs⟩
    · rw [if_neg c4] at hv
      cases hv
end Go.Proofs.YtlldpmjnledhgaaGreatDoor
