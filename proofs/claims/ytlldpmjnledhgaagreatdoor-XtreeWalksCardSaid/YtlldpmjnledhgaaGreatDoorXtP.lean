/- The walk of xtree.Parse. -/
import Derived.Test.YtlldpmjnledhgaaGreatDoorXtE
import Derived.Test.YtlldpmjnledhgaaGreatDoorXtV
namespace Go.Proofs.YtlldpmjnledhgaaGreatDoor
open Go.RowKit Go.Shelf
set_option linter.unusedVariables false
attribute [local go_sem] Oper.semAt_some

/-- What Parse comes to. -/
def ParR (w : World) (R : XR XB) (e : Ending) (w' : World) : Prop :=
  match R with
  | .none => True
  | .bad er => e = .returned (.tuple #[.agg #[.slice none 0 0], errV er]) ∧ Below w.heap.size w w'
  | .ok b => ∃ es ev, e = .returned (.tuple #[.agg #[ev], okV]) ∧ ElemsI w.heap.size b.elems es ev w' ∧ Below w.heap.size w w'
/-- What came so far: a document that is being made. -/
def PreOk (pre : List TokX) (b : XB) : Prop := (∀ x ∈ pre, x.1.2.2.1 = 0) ∧ treeX (pre.map fun x => x.1.1) b0X = .ok b ∧ TextsIn (1000000 * pre.length) b.elems
theorem preOk_nil : PreOk [] b0X := ⟨fun x h => (nomatch h), rfl, fun q h => (nomatch h)⟩
theorem preOk_fits {pre : List TokX} {b : XB} (h : PreOk pre b) (hl : pre.length ≤ 130000) : Fits b.elems b.opened := by
  obtain ⟨h1, h2, h3⟩ := h
  obtain ⟨k1, k2, k3, k4⟩ := tree_keeps h2
  exact ⟨k1, k2, k3, k4, fun q hq => by have := h3 q hq; omega⟩
theorem preOk_more {pre : List TokX} {b c : XB} {x : TokX} (h : PreOk pre b) (hx : x.1.2.2.1 = 0) (ht : takeX b x.1.1 = .ok c) : PreOk (pre ++ [x]) c := by
  obtain ⟨h1, h2, h3⟩ := h
  refine ⟨fun y hy => ?_, ?_, ?_⟩
  · rcases List.mem_append.1 hy with g | g
    · exact h1 y g
    · obtain rfl := List.mem_singleton.1 g
      exact hx
  · rw [List.map_append, treeX_app, h2]
    simp only [List.map_cons, List.map_nil, treeX, ht]
  · have := take_texts h3 ht x.2.2
    intro q hq
    have := this q hq
    rw [List.length_append, List.length_singleton]
    omega
/-- Where it was left. -/
def EndBad (pre : List TokX) (code at_ : Int) (what : ByteArray) : Prop :=
  ∃ p x b, pre = p ++ [x] ∧ PreOk p b ∧ ((x.1.2.2.1 ≠ 0 ∧ x.1.2.2 = (code, at_, what)) ∨ (x.1.2.2.1 = 0 ∧ ∃ er, takeX b x.1.1 = .bad er ∧ code = (er.code : Int) ∧ at_ = (er.place : Int) ∧ what = ⟨er.what.toArray⟩))
theorem parse_cutbad {s : List UInt8} {er : XE} (h : cutF s = .bad er) : parseX s = .bad er := by unfold parseX; rw [h]
theorem endBad_parse {s : List UInt8} {R : XR (List XT)} {pre : List TokX} {code at_ : Int} {what : ByteArray} (hv : cutF s = R) (hp : ToldP R pre) (he : EndBad pre code at_ what) :
    ∃ er : XE, parseX s = .bad er ∧ code = (er.code : Int) ∧ at_ = (er.place : Int) ∧ what = ⟨er.what.toArray⟩ := by
  obtain ⟨ys, hS, hpre⟩ := hp
  obtain ⟨p, x, b, rfl, ⟨h1, h2, h3⟩, h4⟩ := he
  cases R with
  | none => exact hS.elim
  | bad er =>
    have hys : ys = [badX er] := hS
    rw [hys] at hpre
    have hp0 : p = [] ∧ x = badX er := by
      cases p with
      | nil =>
        have := List.cons_prefix_cons.1 hpre
        exact ⟨rfl, this.1⟩
      | cons y p =>
        have := hpre.length_le
        simp at this
    obtain ⟨rfl, rfl⟩ := hp0
    rcases h4 with ⟨g1, g2⟩ | ⟨g1, g2⟩
    · have e : ((er.code : Int), (er.place : Int), (⟨er.what.toArray⟩ : ByteArray)) = (code, at_, what) := g2
      simp only [Prod.mk.injEq] at e
      obtain ⟨e1, e2, e3⟩ := e
      exact ⟨er, parse_cutbad hv, e1.symm, e2.symm, e3.symm⟩
    · have e : (er.code : Int) = 0 := g1
      rw [cutF_code hv] at e
      cases e
  | ok l =>
    obtain ⟨hl, hz⟩ := hS
    have hxm : x ∈ ys := hpre.subset (by simp)
    rcases h4 with ⟨g1, g2⟩ | ⟨g1, er, g2, g3, g4, g5⟩
    · rw [hz x hxm] at g1
      exact absurd rfl g1
    · refine ⟨er, ?_, g3, g4, g5⟩
      obtain ⟨z, hz2⟩ := hpre
      refine parse_bad hv ?_
      rw [← hl, ← hz2, List.map_append, List.map_append, treeX_app, treeX_app, h2]
      simp only [List.map_cons, List.map_nil, treeX, g2]
theorem done_parse {s : List UInt8} {R : XR (List XT)} {ys : List TokX} {b : XB} (hv : cutF s = R) (hS : ToldS R ys) (hP : PreOk ys b) :
    parseX s = if b.elems = [] ∨ b.opened ≠ [] then .bad ⟨11, s.length, wEnd⟩ else .ok b := by
  obtain ⟨h1, h2, h3⟩ := hP
  cases R with
  | none => exact hS.elim
  | bad er =>
    have hys : ys = [badX er] := hS
    have e : (er.code : Int) = 0 := h1 (badX er) (by rw [hys]; simp)
    rw [cutF_code hv] at e
    cases e
  | ok l =>
    obtain ⟨hl, hz⟩ := hS
    rw [hl] at h2
    unfold parseX
    rw [hv]
    simp only [docX, h2]
theorem four_sets {W : World} {B : Nat} {t t' : TypeId} {a b0 b1 b2 : Value} (u c0 c1 c2 : Value) (h3 : BlkAt W B t #[a]) (h4 : BlkAt W (B + 1) t' #[b0, b1, b2]) :
    ∃ Y, (((W.setCell ⟨B, 0, none⟩ u).setCell ⟨B + 1, 0, none⟩ c0).setCell ⟨B + 1, 1, none⟩ c1).setCell ⟨B + 1, 2, none⟩ c2 = Y ∧
    BlkAt Y B t #[u] ∧ BlkAt Y (B + 1) t' #[c0, c1, c2] ∧ Below B W Y ∧ KeepsOthers W Y ∧ (∀ D, B + 2 ≤ D → Y.heap[D]? = W.heap[D]?) ∧ Y.heap.size = W.heap.size := by
  refine ⟨_, rfl, ?_, ?_, ?_, ?_, ?_, by simp⟩
  · exact ((((h3.set 0 u).far (by simp) _).far (by simp) _).far (by simp) _)
  · exact ((((h4.far (p := ⟨B, 0, none⟩) (by simp) u).set 0 c0).set 1 c1).set 2 c2)
  · exact ((((Below.refl B W).setCell (p := ⟨B, 0, none⟩) (Nat.le_refl _) _).setCell (p := ⟨B + 1, 0, none⟩) (by simp) _).setCell (p := ⟨B + 1, 1, none⟩) (by simp) _).setCell (p := ⟨B + 1, 2, none⟩) (by simp) _
  · exact (((KeepsOthers.setCell _ _ _).trans (KeepsOthers.setCell _ _ _)).trans (KeepsOthers.setCell _ _ _)).trans (KeepsOthers.setCell _ _ _)
  · intro D hD
    rw [Below.heap_setCell _ _ _ D (by simp; omega), Below.heap_setCell _ _ _ D (by simp; omega), Below.heap_setCell _ _ _ D (by simp; omega), Below.heap_setCell _ _ _ D (by simp; omega)]
theorem aggDoc : AggT Tryz.prog 25 1 := ⟨_, Tryz.underlying25, rfl, by kernel_rfl⟩
/-- The elements stay where all from a block on stays. -/
theorem ElemsI.above {n0 : Nat} {els : List XL} {es : List QL} {ev : Value} {W Y : World} (h : ElemsI n0 els es ev W) (hY : ∀ D, n0 ≤ D → D < W.heap.size → Y.heap[D]? = W.heap[D]?) : ElemsI n0 els es ev Y := by
  have key : ∀ {e : TypeId} {size n : Nat} {v : Value} {xs : List Value}, W.ownsRow n0 e size v n xs → Y.ownsRow n0 e size v n xs := fun ho => own_keep ho fun g hg => hY g (own_at ho hg).choose_spec.2 (own_lt ho hg)
  exact ⟨key h.row, h.told, h.attrs, fun q hq => key (h.kids q hq)⟩
theorem ElemsI.mono {n0 n1 : Nat} {els : List XL} {es : List QL} {ev : Value} {W : World} (h : ElemsI n0 els es ev W) (hn : n1 ≤ n0) : ElemsI n1 els es ev W :=
  ⟨ownsRow_mono h.row hn, h.told, h.attrs, fun q hq => ownsRow_mono (h.kids q hq) hn⟩
/-- What is no cells may turn. -/
theorem ElemsI.own {n0 : Nat} {els : List XL} {es : List QL} {ev : Value} {W W' : World} {row : Option Nat} (h : ElemsI n0 els es ev W) (hg : W.grownBy W' row) (hr : ∀ r, row = some r → ∃ o : Obj, W.heap[r]? = some o ∧ o.isCells = false) : ElemsI n0 els es ev W' :=
  ⟨row_own _ _ _ ev (fun _ => es.length) (fun _ => es.flatMap elemCells) () W W' row h.row hg hr, h.told, h.attrs, fun q hq => row_own _ _ _ q.2.2 (fun _ => q.1.kids.length) (fun _ => intCells q.1.kids) () W W' row (h.kids q hq) hg hr⟩
theorem BldI.own {n0 bb : Nat} {els : List XL} {op : List Nat} {es : List QL} {ev ov : Value} {W W' : World} {row : Option Nat} (h : BldI n0 bb els op es ev ov W) (hg : W.grownBy W' row) (hr : ∀ r, row = some r → ∃ o : Obj, W.heap[r]? = some o ∧ o.isCells = false) : BldI n0 bb els op es ev ov W' :=
  ⟨h.hbb, blk_own _ _ (fun _ => #[ev, ov]) () W W' row h.blk hg hr, h.elems.own hg hr, row_own _ _ _ ov (fun _ => op.reverse.length) (fun _ => intCells op.reverse) () W W' row h.opened hg hr, h.apart, h.far⟩
/-- Between two rounds. -/
def ParI (w : World) (pre : List TokX) (W : World) : Prop :=
  (∃ b es ev ov, PreOk pre b ∧ BldI (w.heap.size + 1 + 1) (w.heap.size + 1 + 1) b.elems b.opened es ev ov W) ∧ Boxed W (w.heap.size + 1 + 1 + 1) 54 (.pointer (some ⟨w.heap.size + 1 + 1, 0, none⟩)) ∧ BlkAt W w.heap.size 25 #[.slice none 0 0] ∧ BlkAt W (w.heap.size + 1) 28 #[.int .i64 0, .int .i64 0, .string ⟨#[]⟩] ∧ Below w.heap.size w W ∧ w.heap.size + 5 ≤ W.heap.size
/-- A round that has left. -/
def ParX (w : World) (c : Code) (pre : List TokX) (W : World) : Prop :=
  c = .ret ∧ ∃ code at_ what, EndBad pre code at_ what ∧ BlkAt W w.heap.size 25 #[.slice none 0 0] ∧ BlkAt W (w.heap.size + 1) 28 #[.int .i64 code, .int .i64 at_, .string what] ∧ Below w.heap.size w W

set_option maxRecDepth 100000 in
set_option maxHeartbeats 16000000 in
theorem parse_any (s : ByteArray) (hs : s.size ≤ 60000) (w : World) {m : Int} (hm : w.cell? ⟨0, 0, none⟩ = some (.int .i64 m)) (hT : FoldTab w) :
    Calls Tryz.prog 7 #[.string s] w fun e w' => ParR w (parseX s.data.toList) e w' := by
  have hls : s.data.toList.length = s.size := by simp
  refine (callsIn_wide (n := 3)).1 ?_
  refine callsIn_of_wp_marks Tryz.func7 rfl trivial ?_ rfl
  simp only [Tryz.ntmps7, List.size_toArray, List.length_cons, List.length_nil, Nat.reduceAdd, Nat.reduceSub, Array.replicate_succ, Array.replicate_zero, List.push_toArray, List.append_toArray, List.nil_append, List.cons_append]
  gi_wp2_with (refine ⟨trivial, ?_⟩; gi_at_call 19; refine (callsIn_wide.2 (eachT_any _ _)).mono ?_; rintro e w' ⟨rfl, rfl⟩)
  obtain ⟨W0, hW0⟩ : ∃ W0, ((((w.alloc (.cells #[.slice none 0 0] 25)).alloc dg0).alloc (.cells #[.slice none 0 0, .slice none 0 0] 56)).alloc (.cells #[.pointer (some ⟨w.heap.size + 1 + 1, 0, none⟩)] 54)).alloc (.cells #[.string s] 9) = W0 := ⟨_, rfl⟩
  have hB0 : Below w.heap.size w W0 := by rw [← hW0]; exact (((((Below.refl _ w).alloc (Nat.le_refl _) _).alloc (by simp) _).alloc (by simp; omega) _).alloc (by simp; omega) _).alloc (by simp; omega) _
  have hz0 : W0.heap.size = w.heap.size + 5 := by rw [← hW0]; simp
  have k0 : BlkAt W0 w.heap.size 25 #[.slice none 0 0] := by rw [← hW0]; exact ((((BlkAt.new w _ _).alloc _).alloc _).alloc _).alloc _
  have k1 : BlkAt W0 (w.heap.size + 1) 28 #[.int .i64 0, .int .i64 0, .string ⟨#[]⟩] := by
    rw [← hW0]
    have := BlkAt.new (w.alloc (.cells #[.slice none 0 0] 25)) 28 #[.int .i64 0, .int .i64 0, .string ⟨#[]⟩]
    rw [World.size_alloc] at this
    exact ((this.alloc _).alloc _).alloc _
  have k2 : BlkAt W0 (w.heap.size + 1 + 1) 56 #[.slice none 0 0, .slice none 0 0] := by
    rw [← hW0]
    have := BlkAt.new ((w.alloc (.cells #[.slice none 0 0] 25)).alloc dg0) 56 #[.slice none 0 0, .slice none 0 0]
    simp only [World.size_alloc] at this
    exact (this.alloc _).alloc _
  have k3 : Boxed W0 (w.heap.size + 1 + 1 + 1) 54 (.pointer (some ⟨w.heap.size + 1 + 1, 0, none⟩)) := by
    rw [← hW0]
    have := Boxed.new (((w.alloc (.cells #[.slice none 0 0] 25)).alloc dg0).alloc (.cells #[.slice none 0 0, .slice none 0 0] 56)) 54 (.pointer (some ⟨w.heap.size + 1 + 1, 0, none⟩))
    simp only [World.size_alloc] at this
    exact this.alloc _
  have k4 : Boxed W0 (w.heap.size + 1 + 1 + 1 + 1) 9 (.string s) := by
    rw [← hW0]
    have := Boxed.new ((((w.alloc (.cells #[.slice none 0 0] 25)).alloc dg0).alloc (.cells #[.slice none 0 0, .slice none 0 0] 56)).alloc (.cells #[.pointer (some ⟨w.heap.size + 1 + 1, 0, none⟩)] 54)) 9 (.string s)
    simp only [World.size_alloc] at this
    exact this
  rw [hW0]
  clear hW0
  obtain ⟨R, hv⟩ : ∃ R, cutF s.data.toList = R := ⟨_, rfl⟩
  have hRn : R ≠ .none := by rw [← hv]; exact cutF_some (by rw [hls]; show s.size < 100000; omega)
  have hm0 : W0.cell? ⟨0, 0, none⟩ = some (.int .i64 m) := by rw [hB0.cell (p := ⟨0, 0, none⟩) (block_lt' hm)]; exact hm
  have hT0 := hT.below hB0
  have HV := Lib.hid hv
  refine wpIn_rangeFunc_ownH rfl (by omega) (gf := 33) (lb := #[.pointer (some ⟨w.heap.size + 1 + 1 + 1 + 1, 0, none⟩)]) rfl trivial (enters_of Tryz.func33 (by kernel_rfl) rfl)
    (eachT_stops 2 (by omega) (w.heap.size + 1 + 1 + 1 + 1) (2 * s.size + 2) s hs hv hRn (Nat.le_refl _) W0 hm0 hT0 k4) keepK_t (fun W l o o' h1 h2 h3 h4 => keepK_b W l o o' h1 h2 h3 h4) (Below.refl _ _) (fun _ => rfl)
    (ParI w) (ParX w) ?hI ?hIx ⟨⟨b0X, [], .slice none 0 0, .slice none 0 0, preOk_nil, ⟨Nat.le_refl _, k2, ⟨World.ownsRow_nil _ _ _ _, rfl, (fun q h => nomatch h), (fun q h => nomatch h)⟩, World.ownsRow_nil _ _ _ _, (fun i j q r g h => by simp at h), (fun q h => nomatch h)⟩⟩, k3, k0, k1, hB0, by omega⟩
    (fun x a' W => ∃ Bt Bd, w.heap.size + 5 ≤ Bt ∧ w.heap.size + 5 ≤ Bd ∧ BlkAt W Bt 60 (tokCells (x.1.1, x.1.2.1)).toArray ∧ BlkAt W Bd 28 #[.int .i64 x.1.2.2.1, .int .i64 x.1.2.2.2.1, .string x.1.2.2.2.2] ∧
      a' = { tmps := #[.string s, undef, .pointer (some ⟨w.heap.size, 0, none⟩), .pointer (some ⟨w.heap.size + 1, 0, none⟩), .pointer (some ⟨w.heap.size + 1 + 1 + 1, 0, none⟩), .pointer (some ⟨Bt, 0, none⟩), .pointer (some ⟨Bd, 0, none⟩), .agg #[.slice none 0 0, .slice none 0 0], .pointer (some ⟨w.heap.size + 1 + 1, 0, none⟩), .string s, .func (.func 33) #[] #[.pointer (some ⟨w.heap.size + 1 + 1 + 1 + 1, 0, none⟩)], .agg (tokCells (x.1.1, x.1.2.1)).toArray, dgv x.1.2.2.1 x.1.2.2.2.1 x.1.2.2.2.2, undef, undef, undef, undef, undef, undef, undef, undef, undef, undef, undef, undef, undef, undef, undef, undef, undef, undef, undef, undef, undef, undef, undef, undef, undef, undef, undef, undef, undef, undef, undef, undef, undef, undef, undef], defers := [] })
    ?hAx ?assign ?body ?done ?stop
  case hI =>
    intro pre W W' row hs hg hr
    obtain ⟨⟨b, es, ev, ov, h1, h2⟩, h3, h4, h5, h6, h7⟩ := hs
    have hr' : ∀ r, row = some r → ∃ o : Obj, W.heap[r]? = some o ∧ o.isCells = false := fun r e => (hr r e).2
    exact ⟨⟨b, es, ev, ov, h1, h2.own hg hr'⟩, boxed_own _ _ (fun _ => .pointer (some ⟨w.heap.size + 1 + 1, 0, none⟩)) () W W' row h3 hg hr', blk_own _ _ (fun _ => #[.slice none 0 0]) () W W' row h4 hg hr', blk_own _ _ (fun _ => #[.int .i64 0, .int .i64 0, .string ⟨#[]⟩]) () W W' row h5 hg hr', h6.grown hg (by omega) (fun k e => by have := (hr k e).1; omega), Nat.le_trans h7 hg.size⟩
  case hIx =>
    intro c pre W W' row hs hg hr
    obtain ⟨hc, code, at_, what, h3, h4, h5, h6⟩ := hs
    have hr' : ∀ r, row = some r → ∃ o : Obj, W.heap[r]? = some o ∧ o.isCells = false := fun r e => (hr r e).2
    exact ⟨hc, code, at_, what, h3, blk_own _ _ (fun _ => #[.slice none 0 0]) () W W' row h4 hg hr', blk_own _ _ (fun _ => #[.int .i64 code, .int .i64 at_, .string what]) () W W' row h5 hg hr', h6.grown hg h6.size (fun k e => by have := (hr k e).1; omega)⟩
  case hAx =>
    intro x a' u W W' row hs hg hr
    obtain ⟨Bt, Bd, h1, h2, h3, h4, h5⟩ := hs
    have hr' : ∀ r, row = some r → ∃ o : Obj, W.heap[r]? = some o ∧ o.isCells = false := fun r e => (hr r e).2
    exact ⟨Bt, Bd, h1, h2, blk_own _ _ (fun _ => (tokCells (x.1.1, x.1.2.1)).toArray) () W W' row h3 hg hr', blk_own _ _ (fun _ => #[.int .i64 x.1.2.2.1, .int .i64 x.1.2.2.2.1, .string x.1.2.2.2.2]) () W W' row h4 hg hr', h5⟩
  case assign =>
    rintro l pre ⟨⟨t, tv, code, at_, what⟩, hxx⟩ W K ⟨⟨b, es, ev, ov, h1, h2⟩, h3, h4, h5, h6, h7⟩ hK
    have hx2 := hxx
    obtain ⟨⟨qb, qc, htv⟩, htl⟩ := hx2
    dsimp only at htv htl
    subst htv
    simp only [encT, tokCells]
    gi_wp2
    have bt := BlkAt.new W 60 (tokCells (t, .slice qb t.attrs.length qc)).toArray
    have bd := BlkAt.new (W.alloc (.cells (tokCells (t, .slice qb t.attrs.length qc)).toArray 60)) 28 #[.int .i64 code, .int .i64 at_, .string what]
    rw [World.size_alloc] at bd
    have hb4 : Below W.heap.size W ((W.alloc (.cells (tokCells (t, .slice qb t.attrs.length qc)).toArray 60)).alloc (.cells #[.int .i64 code, .int .i64 at_, .string what] 28)) := ((Below.refl _ W).alloc (Nat.le_refl _) _).alloc (by simp) _
    refine hK _ _ (((KeepsOthers.alloc W _).trans (KeepsOthers.alloc _ _)).from _) (KeepK.of_below hb4) ⟨⟨b, es, ev, ov, h1, (h2.alloc _).alloc _⟩, (h3.alloc _).alloc _, (h4.alloc _).alloc _, (h5.alloc _).alloc _, h6.trans (hb4.mono (by omega)), by simp; omega⟩ ⟨W.heap.size, W.heap.size + 1, h7, by omega, bt.alloc _, bd, rfl⟩
  case body =>
    rintro l pre ⟨⟨t, tv, code, at_, what⟩, hxx⟩ a' W hl ⟨r, hr⟩ ⟨⟨b, es, ev, ov, h1, h2⟩, h3, h4, h5, h6, h7⟩ ⟨Bt, Bd, hf, hd, bt, bd, rfl⟩ hlt
    have hx2 := hxx
    obtain ⟨⟨qb, qc, htv⟩, htl⟩ := hx2
    dsimp only at htv htl
    subst htv
    dsimp only at bt bd ⊢
    obtain ⟨⟨c0, c1, c2⟩, _, _, _⟩ := res_cells bd
    obtain ⟨t0, t1, t2, t3, t4, t5⟩ := tok_box bt
    have p0 := h3.cell
    have hpl : pre.length ≤ 130000 := by omega
    have HP := Lib.hid h1
    by_cases hx : code = 0
    · subst hx
      have HTk := Lib.hid (take_any (m := b.most) (tv := .slice qb t.attrs.length qc) h2 ⟨qb, qc, rfl⟩ (preOk_fits h1 hpl) (by omega))
      obtain ⟨RR, hRR⟩ : ∃ RR, takeX ⟨b.elems, b.opened, b.most⟩ t = RR := ⟨_, rfl⟩
      have hRRn : RR ≠ .none := by rw [← hRR]; exact takeX_some _ _
      rw [hRR] at HTk
      cases RR with
      | none => exact absurd rfl hRRn
      | ok c =>
        have HT2 := Lib.hid (show takeX b t = .ok c from hRR)
        clear hRR hRRn hlt h1
        try clear hv
        try clear hm0
        try clear hm
        gi_wp2_with (refine ⟨trivial, ?_⟩; gi_at_call 20; refine (callsIn_wide.2 HTk.out).mono ?_; rintro e w1 ⟨rfl, hk1, es1, ev1, ov1, hb1⟩; have bd1 := hk1.blk bd; have HK1 := Lib.hid hk1; have HB1 := Lib.hid hb1; have H31 := Lib.hid ((hk1.2.1 _ (by decide) (by decide) (by decide)) _ _ h3); have H41 := Lib.hid ((hk1.2.1 _ (by decide) (by decide) (by decide)) _ _ h4); have H51 := Lib.hid (hk1.blk h5); clear hk1 hb1 c0 c1 c2; obtain ⟨⟨c0, c1, c2⟩, f0, f1, f2⟩ := res_cells bd1)
        have hE := dg_end (.int .i64 0) (.int .i64 0) (.string ⟨#[]⟩) bd1
        obtain ⟨Y, hY⟩ : ∃ Y, ((w1.setCell ⟨Bd, 0, none⟩ (.int .i64 0)).setCell ⟨Bd, 1, none⟩ (.int .i64 0)).setCell ⟨Bd, 2, none⟩ (.string ⟨#[]⟩) = Y := ⟨_, rfl⟩
        rw [hY] at hE ⊢
        have hkp : KeepsOthers W Y := ⟨Nat.le_trans HK1.out.1.size hE.2.size, fun k o hk hc => KeepN.blk bd1 hE.2 k o (HK1.out.2.2 k o hk hc) hc⟩
        have hfar : ∀ {B : Nat} {ty : TypeId} {cs : Array Value}, BlkAt w1 B ty cs → B ≠ Bd → BlkAt Y B ty cs := fun hb hne => hb.grown hE.2 (fun e => hne (Option.some.inj e))
        refine ⟨hkp.from _, ⟨HK1.out.tok.trans (KeepT.blk bd1 (by decide) hE.2), hkp.size⟩, ⟨c, es1, ev1, ov1, preOk_more HP.out rfl HT2.out, HB1.out.dg bd1 hE.2⟩, hfar H31.out (by omega), hfar H41.out (by omega), hfar H51.out (by omega), ?_, Nat.le_trans h7 hkp.size⟩
        exact (h6.trans (HK1.out.1.mono (by omega))).trans (grown_below hE.2 (by omega) (by have := HK1.out.1.size; omega))
      | bad er =>
        have HT2 := Lib.hid (show takeX b t = .bad er from hRR)
        have hez : ((er.code : Int) == 0) = false := beq_eq_false_iff_ne.2 (by have := takeX_code hRR; omega)
        have hez2 : ¬ (er.code : Int) = 0 := by have := takeX_code hRR; omega
        clear hRR hRRn hlt h1
        try clear hv
        try clear hm0
        try clear hm
        gi_wp2_with (refine ⟨trivial, ?_⟩; gi_at_call 20; refine (callsIn_wide.2 HTk.out).mono ?_; rintro e w1 ⟨rfl, hk1⟩; have bd1 := hk1.blk bd; have HK1 := Lib.hid hk1; have h41 := ((hk1.2.1 _ (by decide) (by decide) (by decide)) _ _ h4); have h51 := (hk1.blk h5); clear hk1 c0 c1 c2; obtain ⟨⟨c0, c1, c2⟩, f0, f1, f2⟩ := res_cells bd1)
        have hE := dg_end (.int .i64 er.code) (.int .i64 er.place) (.string ⟨er.what.toArray⟩) bd1
        obtain ⟨Y, hY⟩ : ∃ Y, ((w1.setCell ⟨Bd, 0, none⟩ (.int .i64 er.code)).setCell ⟨Bd, 1, none⟩ (.int .i64 er.place)).setCell ⟨Bd, 2, none⟩ (.string ⟨er.what.toArray⟩) = Y := ⟨_, rfl⟩
        rw [hY] at hE ⊢
        have hko : KeepsOthers W Y := ⟨Nat.le_trans HK1.out.1.size hE.2.size, fun k o hk hc => KeepN.blk bd1 hE.2 k o (HK1.out.2.2 k o hk hc) hc⟩
        have h4y : BlkAt Y w.heap.size 25 #[.slice none 0 0] := BlkAt.grown h41 hE.2 (fun e => by have := Option.some.inj e; omega)
        have h5y : BlkAt Y (w.heap.size + 1) 28 #[.int .i64 0, .int .i64 0, .string ⟨#[]⟩] := h51.grown hE.2 (fun e => by have := Option.some.inj e; omega)
        have hBy : Below w.heap.size w Y := (h6.trans (HK1.out.1.mono (by omega))).trans (grown_below hE.2 (by omega) (by have := HK1.out.1.size; omega))
        clear c0 c1 c2 f0 f1 f2 hY
        obtain ⟨⟨c0, c1, c2⟩, f0, f1, f2⟩ := res_cells hE.1
        have k0 := h4y.cell 0
        have k0f := h4y.frozen 0
        obtain ⟨⟨e0, e1, e2⟩, ef, ef1, ef2⟩ := res_cells h5y
        gi_region
        all_goals
          gi_wp2
          obtain ⟨Z, hZ, y1, y2, y3, y4, y5, y6⟩ := four_sets (.slice none 0 0) (.int .i64 er.code) (.int .i64 er.place) (.string ⟨er.what.toArray⟩) h4y h5y
          rw [hZ]
          exact ⟨((hko.trans y4).trans (KeepsOthers.drew _)).from _, rfl, _, _, _, ⟨pre, _, b, rfl, HP.out, .inr ⟨rfl, er, HT2.out, rfl, rfl, rfl⟩⟩, y1, y2, (hBy.trans y3).drew⟩
    · have hx' : ¬ (code : Int) = 0 := hx
      have hez : (code == 0) = false := beq_eq_false_iff_ne.2 hx
      have k0 := h4.cell 0
      have k0f := h4.frozen 0
      obtain ⟨⟨e0, e1, e2⟩, ef, ef1, ef2⟩ := res_cells h5
      clear hlt h1 t0 t1 t2 t3 t4 t5
      try clear hv
      try clear hm0
      try clear hm
      gi_wp2
      gi_region
      all_goals
        gi_wp2
        obtain ⟨Y, hY, y1, y2, y3, y4, y5, y6⟩ := four_sets (.slice none 0 0) (.int .i64 code) (.int .i64 at_) (.string what) h4 h5
        rw [hY]
        exact ⟨(y4.trans (KeepsOthers.drew _)).from _, rfl, code, at_, what, ⟨pre, _, b, rfl, HP.out, .inl ⟨hx, rfl⟩⟩, y1, y2, (h6.trans y3).drew⟩
  case done =>
    rintro D ys W hD hS ⟨⟨b, es, ev, ov, h1, h2⟩, h3, h4, h5, h6, h7⟩ hK
    have HPa := Lib.hid (done_parse HV.out hS h1)
    obtain ⟨ea, ec, rfl⟩ := ownsRow_slice' h2.elems.row
    obtain ⟨oa, oc, rfl⟩ := ownsRow_slice' h2.opened
    have hlen := bld_len h2
    obtain ⟨N, hN⟩ : ∃ N, es.length = N := ⟨_, rfl⟩
    obtain ⟨K, hK0⟩ : ∃ K, b.opened.reverse.length = K := ⟨_, rfl⟩
    have hK2 : b.opened.length = K := by rw [← hK0, List.length_reverse]
    have H2 := Lib.hid h2
    rw [hN, hK0] at H2
    have HN := Lib.hid hN
    have p0 := h3.cell
    have q0 : W.cell? ⟨w.heap.size + 1 + 1, 0, none⟩ = some (.slice ea N ec) := H2.out.blk.cell 0
    have q1 : W.cell? ⟨w.heap.size + 1 + 1, 1, none⟩ = some (.slice oa K oc) := H2.out.blk.cell 1
    have k0 := h4.cell 0
    have k0f := h4.frozen 0
    obtain ⟨⟨e0, e1, e2⟩, ef, ef1, ef2⟩ := res_cells h5
    have HE : (b.elems = [] ∨ b.opened ≠ []) ∨ ¬ (b.elems = [] ∨ b.opened ≠ []) := Classical.em _
    have hN0 : b.elems = [] ↔ N = 0 := by rw [← List.length_eq_zero_iff, ← hlen, hN]
    have hK0' : b.opened = [] ↔ K = 0 := by rw [← List.length_eq_zero_iff, hK2]
    rcases HE with hbad | hok
    · have HPb := Lib.hid (show parseX s.data.toList = .bad ⟨11, s.size, wEnd⟩ by rw [HPa.out, if_pos hbad, hls])
      have hcase : N = 0 ∨ (N ≠ 0 ∧ K ≠ 0) := by
        by_cases hn : N = 0
        · exact .inl hn
        · refine .inr ⟨hn, fun hk => ?_⟩
          rcases hbad with g | g
          · exact hn (hN0.1 g)
          · exact g (hK0'.2 hk)
      have E1 : ((N : Int) == 0) = true ∨ (((N : Int) == 0) = false ∧ (0 : Int) < (K : Int)) := by
        rcases hcase with g | ⟨g1, g2⟩
        · exact .inl (beq_iff_eq.2 (by omega))
        · exact .inr ⟨beq_eq_false_iff_ne.2 (by omega), by omega⟩
      clear h1 h2 hlen hN hK0 hK2 hbad hN0 hK0' hcase hv hm0 hm
      rcases E1 with E1 | ⟨E1, E2⟩
      all_goals
        gi_wp2_with (refine ⟨trivial, ?_⟩; gi_at_call 21; refine (callsIn_wide.2 (xwrong_any _ _ _)).mono ?_; rintro e w1 ⟨rfl, hB1⟩; have h41 := h4.below hB1 h4.lt; have h51 := h5.below hB1 h5.lt; have HB1 := Lib.hid hB1; clear k0 k0f e0 e1 e2 ef ef1 ef2; have k0 := h41.cell 0; have k0f := h41.frozen 0; obtain ⟨⟨e0, e1, e2⟩, ef, ef1, ef2⟩ := res_cells h51)
        obtain ⟨Y, hY, y1, y2, y3, y4, y5, y6⟩ := four_sets (.slice none 0 0) (.int .i64 11) (.int .i64 s.size) (.string ⟨#[101, 110, 100]⟩) h41 h51
        rw [hY]
        have hlD := (Array.getElem?_eq_some_iff.1 hK).1
        have hYD : Y.heap[D]? = _ := (y5 D (by omega)).trans ((HB1.out.block D hlD).trans hK)
        refine ⟨by simp, .inl ⟨_, _, rfl, run_takeDeferred hYD, ?_⟩⟩
        have z1 : BlkAt (Y.putObj D (.deferred none)) w.heap.size 25 #[.slice none 0 0] := y1.below (belowK_b (w := W0) (Nat.le_refl _) Y D _ _ hD hYD rfl rfl) (by omega)
        have z2 : BlkAt (Y.putObj D (.deferred none)) (w.heap.size + 1) 28 #[.int .i64 11, .int .i64 s.size, .string ⟨#[101, 110, 100]⟩] := y2.below (belowK_b (w := W0) (Nat.le_refl _) Y D _ _ hD hYD rfl rfl) (by omega)
        refine ⟨_, results_cc rfl rfl rfl (aggDoc.load rfl z1) (aggDiag.load rfl z2), ?_⟩
        rw [HPb.out]
        exact ⟨rfl, ((h6.trans (HB1.out.mono (by omega))).trans y3).trans (belowK_b (w := w) (Nat.le_refl _) Y D _ _ (by omega) hYD rfl rfl)⟩
    · have HPb := Lib.hid (show parseX s.data.toList = .ok b by rw [HPa.out, if_neg hok])
      have E1 : ((N : Int) == 0) = false := beq_eq_false_iff_ne.2 (by intro e; exact hok (.inl (hN0.2 (by omega))))
      have E2 : ¬ (0 : Int) < (K : Int) := by
        intro e
        refine hok (.inr fun g => ?_)
        have := hK0'.1 g
        omega
      clear h1 h2 hlen hN hK0 hK2 hok hN0 hK0' hv hm0 hm
      gi_wp2
      obtain ⟨Y, hY, y1, y2, y3, y4, y5, y6⟩ := four_sets (.slice ea N ec) (.int .i64 0) (.int .i64 0) (.string ⟨#[]⟩) h4 h5
      rw [hY]
      have hlD := (Array.getElem?_eq_some_iff.1 hK).1
      have hYD : Y.heap[D]? = _ := (y5 D (by omega)).trans hK
      refine ⟨by simp, .inl ⟨_, _, rfl, run_takeDeferred hYD, ?_⟩⟩
      have z1 : BlkAt (Y.putObj D (.deferred none)) w.heap.size 25 #[.slice ea N ec] := y1.below (belowK_b (w := W0) (Nat.le_refl _) Y D _ _ hD hYD rfl rfl) (by omega)
      have z2 : BlkAt (Y.putObj D (.deferred none)) (w.heap.size + 1) 28 #[.int .i64 0, .int .i64 0, .string ⟨#[]⟩] := y2.below (belowK_b (w := W0) (Nat.le_refl _) Y D _ _ hD hYD rfl rfl) (by omega)
      refine ⟨_, results_cc rfl rfl rfl (aggDoc.load rfl z1) (aggDiag.load rfl z2), ?_⟩
      rw [HPb.out]
      have hyE : ElemsI (w.heap.size + 1 + 1) b.elems es (.slice ea N ec) Y := H2.out.elems.above (fun D hD _ => y5 D (by omega))
      refine ⟨es, _, rfl, ElemsI.mono (hyE.own (grownBy_putObj' Y D (.deferred none)) (fun r e => by cases e; exact ⟨_, hYD, rfl⟩)) (by omega), (h6.trans y3).trans (belowK_b (w := w) (Nat.le_refl _) Y D _ _ (by omega) hYD rfl rfl)⟩
  case stop =>
    rintro D c pre W hD hpre ⟨rfl, code, at_, what, he, h3, h4, h6⟩ hK
    obtain ⟨er, e1, e2, e3, e4⟩ := endBad_parse HV.out hpre he
    gi_wp2
    refine ⟨by simp, .inl ⟨_, _, rfl, run_takeDeferred hK, ?_⟩⟩
    have z1 : BlkAt (W.putObj D (.deferred none)) w.heap.size 25 #[.slice none 0 0] := h3.below (belowK_b (w := W0) (Nat.le_refl _) W D _ _ hD hK rfl rfl) (by omega)
    have z2 : BlkAt (W.putObj D (.deferred none)) (w.heap.size + 1) 28 #[.int .i64 code, .int .i64 at_, .string what] := h4.below (belowK_b (w := W0) (Nat.le_refl _) W D _ _ hD hK rfl rfl) (by omega)
    refine ⟨_, results_cc rfl rfl rfl (aggDoc.load rfl z1) (aggDiag.load rfl z2), ?_⟩
    rw [e1, e2, e3, e4]
    exact ⟨rfl, h6.trans (belowK_b (w := w) (Nat.le_refl _) W D _ _ (by omega) hK rfl rfl)⟩
end Go.Proofs.YtlldpmjnledhgaaGreatDoor
