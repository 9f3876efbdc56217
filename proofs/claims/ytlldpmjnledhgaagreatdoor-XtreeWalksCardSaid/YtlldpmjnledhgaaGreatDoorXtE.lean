/- The iterator xtok.Each: its contract, at the wide fence. -/
import Derived.Test.YtlldpmjnledhgaaGreatDoorXsZ
import Derived.Test.YtlldpmjnledhgaaGreatDoorXtB
import Derived.Test.YtlldpmjnledhgaaGreatDoorXpMO
import Derived.Test.YtlldpmjnledhgaaGreatDoorIt
namespace Go.Proofs.YtlldpmjnledhgaaGreatDoor
open Go.RowKit Go.Shelf
set_option linter.unusedVariables false
attribute [local go_sem] Oper.semAt_some

/-- A token as it is handed on, with its attributes' row and a reason. -/
abbrev TokX := { x : XT × Value × Int × Int × ByteArray // NoA x.1.attrs x.2.1 ∧ x.1.text.length ≤ 1000000 }
abbrev encT (x : TokX) : Array Value := #[.agg (tokCells (x.1.1, x.1.2.1)).toArray, dgv x.1.2.2.1 x.1.2.2.2.1 x.1.2.2.2.2]
/-- What a round keeps: the tokens' rows. -/
def KeepK (W W' : World) : Prop := KeepT 60 W W' ∧ W.heap.size ≤ W'.heap.size
theorem keepK_t {a b c : World} (h : KeepK a b) (k : KeepK b c) : KeepK a c := ⟨h.1.trans k.1, Nat.le_trans h.2 k.2⟩
theorem keepK_b {n : Nat} (W : World) (l : Nat) (o o' : Obj) (hl : n ≤ l) (h : W.heap[l]? = some o) (hc : o.isCells = false) (_ : o.isWalk = false) : KeepK W (W.putObj l o') := by
  have g := grownBy_putObj' W l o'
  refine ⟨fun k cur h1 => ?_, g.size⟩
  rw [g.block k (Array.getElem?_eq_some_iff.1 h1).1 (fun e => ?_)]
  · exact h1
  · cases e
    rw [h1] at h
    cases h
    cases hc
theorem KeepK.of_below {W W' : World} (h : Below W.heap.size W W') : KeepK W W' := ⟨KeepT.of_below h, h.size⟩
def zeroT : XT := ⟨0, 0, [], [], [], false⟩
theorem noA_nil : NoA [] (.slice none 0 0) := ⟨none, 0, rfl⟩
def badX (er : XE) : TokX := ⟨(zeroT, .slice none 0 0, (er.code : Int), (er.place : Int), ⟨er.what.toArray⟩), noA_nil, Nat.zero_le _⟩
/-- What is handed on of a text. -/
def ToldS (R : XR (List XT)) (ys : List TokX) : Prop :=
  match R with
  | .none => False
  | .bad er => ys = [badX er]
  | .ok l => ys.map (fun x => x.1.1) = l ∧ ∀ x ∈ ys, x.1.2.2 = (0, 0, ⟨#[]⟩)
def ToldP (R : XR (List XT)) (pre : List TokX) : Prop := ∃ ys, ToldS R ys ∧ pre <+: ys
theorem tok_cells {base g cap : Nat} {ts : List (XT × Value)} {W : World} (h : W.ownsRow base 60 6 (.slice (some ⟨g, 0, none⟩) ts.length cap) ts.length (ts.flatMap tokCells)) {k : Nat} {q : XT × Value} (hq : ts[k]? = some q) :
    W.cell? ⟨g, k * 6, none⟩ = some (.int .i64 q.1.kind) ∧ W.cell? ⟨g, k * 6 + 1, none⟩ = some (.int .i64 q.1.place) ∧ W.cell? ⟨g, k * 6 + 2, none⟩ = some (.string ⟨q.1.name.toArray⟩) ∧ W.cell? ⟨g, k * 6 + 3, none⟩ = some (.string ⟨q.1.text.toArray⟩) ∧ W.cell? ⟨g, k * 6 + 4, none⟩ = some q.2 ∧ W.cell? ⟨g, k * 6 + 5, none⟩ = some (.bool q.1.empty) := by
  have hl := (List.getElem?_eq_some_iff.1 hq).1
  have h1 := fun i (hi : i < 6) => (h.cellAt (k * 6 + i) (by omega)).trans (flat_at tokCells 6 (fun x => rfl) ts k i q hq hi)
  exact ⟨h1 0 (by omega), h1 1 (by omega), h1 2 (by omega), h1 3 (by omega), h1 4 (by omega), h1 5 (by omega)⟩
/-- The tokens as they are handed on. -/
def okXs (ts : List (XT × Value)) (h : ∀ q ∈ ts, NoA q.1.attrs q.2 ∧ q.1.text.length ≤ 1000000) : List TokX := ts.pmap (fun q hq => (⟨(q.1, q.2, (0 : Int), (0 : Int), (⟨#[]⟩ : ByteArray)), hq⟩ : TokX)) h
theorem okXs_len (ts : List (XT × Value)) (h : ∀ q ∈ ts, NoA q.1.attrs q.2 ∧ q.1.text.length ≤ 1000000) : (okXs ts h).length = ts.length := by unfold okXs; simp
theorem okXs_told (ts : List (XT × Value)) (h : ∀ q ∈ ts, NoA q.1.attrs q.2 ∧ q.1.text.length ≤ 1000000) : ToldS (.ok (ts.map (·.1))) (okXs ts h) := by
  refine ⟨?_, fun x hx => ?_⟩
  · unfold okXs; rw [List.map_pmap]; simp
  · unfold okXs at hx
    obtain ⟨q, hq, rfl⟩ := List.mem_pmap.1 hx
    rfl
theorem okXs_at (ts : List (XT × Value)) (h : ∀ q ∈ ts, NoA q.1.attrs q.2 ∧ q.1.text.length ≤ 1000000) {k : Nat} {q : XT × Value} (hq : ts[k]? = some q) : ∃ hn, (okXs ts h)[k]? = some ⟨(q.1, q.2, (0 : Int), (0 : Int), (⟨#[]⟩ : ByteArray)), hn⟩ := by
  refine ⟨h q (List.mem_of_getElem? hq), ?_⟩
  unfold okXs
  rw [List.getElem?_pmap]
  simp only [hq]
  rfl

set_option maxRecDepth 100000 in
set_option maxHeartbeats 8000000 in
theorem eachT_in (n : Nat) (hn : 1 ≤ n) (l B N : Nat) (s : ByteArray) (hs : s.size ≤ 60000) {m : Int} {R : XR (List XT)} (hv : cutF s.data.toList = R) (hR : R ≠ .none) (hN : 2 * s.size + 2 ≤ N) (J Jx : List TokX → World → Prop)
    (W : World) (hJ : AbidesFrom W.heap.size J) (hJx : AbidesFrom W.heap.size Jx)
    (hY : ∀ pre x W, J pre W → pre.length < N → YieldAt Fence.wide (n - 1) Tryz.prog l (encT x) W fun e W' =>
      (e = .returned (.bool true) ∧ J (pre ++ [x]) W' ∧ KeepK W W') ∨ (e = .returned (.bool false) ∧ Jx (pre ++ [x]) W'))
    (hm : W.cell? ⟨0, 0, none⟩ = some (.int .i64 m)) (hT : FoldTab W) (hb : Boxed W B 9 (.string s)) (h0 : J [] W) :
    CallsIn Fence.wide n Tryz.prog 33 #[.func (.yield l) #[] #[], .pointer (some ⟨B, 0, none⟩)] W fun e W' => (∃ v, e = .returned v) ∧
      ((∃ ys, ToldS R ys ∧ J ys W') ∨ (∃ pre, ToldP R pre ∧ Jx pre W')) := by
  have HCut := Lib.hid (cut_all (w := W) hs hm hT hv hR)
  have hls : s.data.toList.length = s.size := by simp
  have hc := hb.cell
  have HJ := Lib.hid hJ
  have HY := Lib.hid hY
  have H0 := Lib.hid h0
  cases R with
  | none => exact absurd rfl hR
  | bad er =>
    have hez : ((er.code : Int) == 0) = false := by rw [cutF_code hv]; rfl
    clear hJ hY hv hR hm hT hJx h0
    refine callsIn_of_wp Tryz.func33 rfl trivial ?_ rfl
    simp only [Tryz.ntmps33, List.size_toArray, List.length_cons, List.length_nil, Nat.reduceAdd, Nat.reduceSub, Array.replicate_succ, Array.replicate_zero, List.push_toArray, List.append_toArray, List.nil_append, List.cons_append]
    gi_wp2_with (first
      | (refine ⟨trivial, ?_⟩; gi_at_call 34; refine (callsIn_wide.2 HCut.out).mono ?_; rintro e w1 ⟨rfl, hB1⟩)
      | (refine ⟨trivial, ?_⟩; gi_at_call 35; refine (callsIn_wide.2 (fine_any er.code er.place ⟨er.what.toArray⟩ _)).mono ?_; rintro en w2 ⟨rfl, hB2⟩; have hB3 : Below W.heap.size W w2 := (hB1.alloc hB1.size (.cells #[.int .i64 er.code, .int .i64 er.place, .string ⟨er.what.toArray⟩] 28)).trans (hB2.mono (by have := hB1.size; simp; omega)); have bd : BlkAt w2 w1.heap.size 28 #[.int .i64 er.code, .int .i64 er.place, .string ⟨er.what.toArray⟩] := (BlkAt.new w1 _ _).below hB2 (by simp); have hJ3 : J [] w2 := HJ.out [] W w2 none H0.out (grown_none hB3) (fun r e => by cases e); obtain ⟨fn, tmps, assign, body, hy, hR⟩ := HY.out [] (badX er) w2 hJ3 (by simp; omega); obtain ⟨⟨d0, d1, d2⟩, _, _, _⟩ := res_cells bd; have HR := Lib.hid hR; have hy : (Instr.yield l #[.agg #[.int .i64 0, .int .i64 0, .string ⟨#[]⟩, .string ⟨#[]⟩, .slice none 0 0, .bool false], .agg #[.int .i64 er.code, .int .i64 er.place, .string ⟨er.what.toArray⟩]]).run Tryz.prog w2 = .ok (.round l fn tmps assign body) w2 := hy; clear hR hB1 hB2 hJ3 hB3 bd))
    refine HR.out.mono ?_
    rintro e W4 (⟨rfl, hJ4, hk4⟩ | ⟨rfl, hJx4⟩)
    · gi_wp2
      refine bodyPost_ret (results_none rfl _ _ _) rfl ?_
      exact ⟨⟨_, rfl⟩, .inl ⟨[badX er], rfl, hJ4⟩⟩
    · gi_wp2
      refine bodyPost_ret (results_none rfl _ _ _) rfl ?_
      exact ⟨⟨_, rfl⟩, .inr ⟨[badX er], ⟨_, rfl, List.prefix_rfl⟩, hJx4⟩⟩
  | ok L =>
    have HSm := Lib.hid (show ∀ t ∈ L, t.text.length ≤ 4 * s.size by have := cut_small hv; rw [hls] at this; exact this)
    have hLl : L.length ≤ 2 * s.size + 1 := by have := runs_len (cut_runs hv).2; rw [hls] at this; exact this
    clear hJ hY hv hR hm hT hJx h0
    refine callsIn_of_wp Tryz.func33 rfl trivial ?_ rfl
    simp only [Tryz.ntmps33, List.size_toArray, List.length_cons, List.length_nil, Nat.reduceAdd, Nat.reduceSub, Array.replicate_succ, Array.replicate_zero, List.push_toArray, List.append_toArray, List.nil_append, List.cons_append]
    gi_wp2_with (first
      | (refine ⟨trivial, ?_⟩; gi_at_call 34; refine (callsIn_wide.2 HCut.out).mono ?_; rintro e w1 ⟨out, rfl, ⟨ts, hrow, htold, hattr⟩, hB1⟩; obtain ⟨ao, ac, rfl⟩ := ownsRow_slice' hrow)
      | (refine ⟨trivial, ?_⟩; gi_at_call 35; refine (callsIn_wide.2 (fine_any 0 0 ⟨#[]⟩ _)).mono ?_; rintro en w2 ⟨rfl, hB2⟩))
    have hB12 : Below w1.heap.size w1 w2 := ((Below.refl _ w1).alloc (Nat.le_refl _) dg0).trans (hB2.mono (by simp))
    have hB3 : Below W.heap.size W w2 := hB1.trans (hB12.mono hB1.size)
    have hrow2 : w2.ownsRow W.heap.size 60 6 (.slice ao ts.length ac) ts.length (ts.flatMap tokCells) := own_keep hrow (fun g hg => hB12.block g (own_lt hrow hg))
    have hna : ∀ q ∈ ts, NoA q.1.attrs q.2 ∧ q.1.text.length ≤ 1000000 := fun q hq => ⟨ownsRow_slice' (hattr q hq), by have := HSm.out q.1 (by rw [← htold]; exact List.mem_map_of_mem hq); omega⟩
    have hJ3 : J [] w2 := HJ.out [] W w2 none H0.out (grown_none hB3) (fun r e => by cases e)
    obtain ⟨M, hM⟩ : ∃ M, ts.length = M := ⟨_, rfl⟩
    have hMl : M ≤ 2 * s.size + 1 := by rw [← hM]; have := congrArg List.length htold; simp at this; omega
    have HROW := Lib.hid hrow2
    have HM := Lib.hid hM
    have HTo := Lib.hid htold
    obtain ⟨ys, hys⟩ : ∃ ys, okXs ts hna = ys := ⟨_, rfl⟩
    have HYS := Lib.hid hys
    have hyl : ys.length = M := by rw [← hys, okXs_len]; exact hM
    have HYL := Lib.hid hyl
    have hws : W.heap.size ≤ w2.heap.size := hB3.size
    rw [hM]
    have H2 := Lib.hid (show J (ys.take 0) w2 from hJ3)
    clear hrow hattr hB1 hB2 hB12 hrow2 hM htold hys hyl hJ3 hc hb hB3
    gi_wp2
    gi_loopw [21] (fun p wr => ∃ k : Nat, p = .int .i64 k ∧ k ≤ M ∧ J (ys.take k) wr ∧ KeepK w2 wr) (fun p wr => M - (intOf p).toNat)
    case atStart => exact ⟨0, rfl, Nat.zero_le _, H2.out, KeepT.refl _ _, Nat.le_refl _⟩
    case round =>
      obtain ⟨k, rfl, hk, hJr, hkp⟩ := hrel
      by_cases hlt : k < M
      · have hkl : k < ts.length := by rw [HM.out]; exact hlt
        obtain ⟨q, hq⟩ : ∃ q, ts[k]? = some q := ⟨_, List.getElem?_eq_getElem hkl⟩
        obtain ⟨hqn, hyk⟩ := okXs_at ts hna hq
        rw [HYS.out] at hyk
        obtain ⟨g, hg⟩ : ∃ g, ao = some ⟨g, 0, none⟩ := by
          rcases HROW.out.2 with ⟨h1, h2⟩ | ⟨g, cap, cur, h1, _⟩
          · omega
          · simp only [Value.slice.injEq] at h1; exact ⟨g, h1.1⟩
        subst hg
        obtain ⟨p0, p1, p2, p3, p4, p5⟩ := tok_cells (hkp.1.owns HROW.out) hq
        have hst : ys.take (k + 1) = ys.take k ++ [⟨(q.1, q.2, (0 : Int), (0 : Int), (⟨#[]⟩ : ByteArray)), hqn⟩] := by rw [List.take_add_one, hyk]; rfl
        obtain ⟨⟨qb, qc, hqv⟩, hqt⟩ := hqn
        obtain ⟨q1, q2⟩ := q
        obtain ⟨ql, hql⟩ : ∃ ql, q1.attrs.length = ql := ⟨_, rfl⟩
        simp only [] at hqv p0 p1 p2 p3 p4 p5
        subst hqv
        obtain ⟨W4, hW4⟩ : ∃ W4, wr.alloc (.cells #[.int .i64 q1.kind, .int .i64 q1.place, .string ⟨q1.name.toArray⟩, .string ⟨q1.text.toArray⟩, .slice qb q1.attrs.length qc, .bool q1.empty] 60) = W4 := ⟨_, rfl⟩
        have hwB : Below wr.heap.size wr W4 := by rw [← hW4]; exact (Below.refl _ wr).alloc (Nat.le_refl _) _
        have hJ4 : J (ys.take k) W4 := HJ.out _ wr _ none hJr (grown_none hwB) (fun r e => by cases e)
        have bq : BlkAt W4 wr.heap.size 60 #[.int .i64 q1.kind, .int .i64 q1.place, .string ⟨q1.name.toArray⟩, .string ⟨q1.text.toArray⟩, .slice qb q1.attrs.length qc, .bool q1.empty] := by rw [← hW4]; exact BlkAt.new _ _ _
        have b0 := bq.cell 0
        have b1 := bq.cell 1
        have b2 := bq.cell 2
        have b3 := bq.cell 3
        have b4 := bq.cell 4
        have b5 := bq.cell 5
        obtain ⟨fn, tmps, assign, body, hy, hR⟩ := HY.out (ys.take k) ⟨(q1, .slice qb q1.attrs.length qc, (0 : Int), (0 : Int), (⟨#[]⟩ : ByteArray)), ⟨qb, qc, rfl⟩, hqt⟩ W4 hJ4 (by rw [List.length_take, HYL.out]; omega)
        have HR := Lib.hid hR
        have HS := Lib.hid hst
        have HK4 := Lib.hid (keepK_t hkp (KeepK.of_below hwB))
        have hy : (Instr.yield l #[.agg #[.int .i64 q1.kind, .int .i64 q1.place, .string ⟨q1.name.toArray⟩, .string ⟨q1.text.toArray⟩, .slice qb q1.attrs.length qc, .bool q1.empty], .agg #[.int .i64 0, .int .i64 0, .string ⟨#[]⟩]]).run Tryz.prog W4 = .ok (.round l fn tmps assign body) W4 := hy
        clear hR hst hJ4 hyk hq hkp hJr hwB hkl hql
        gi_wp2
        refine HR.out.mono ?_
        rintro e W3 (⟨rfl, hJ3, hk3⟩ | ⟨rfl, hJx3⟩)
        · have hk5 := keepK_t HK4.out hk3
          gi_wp2
          go_roundw
          case rel => exact ⟨k + 1, by go_num, by omega, by rw [HS.out]; exact hJ3, hk5⟩
          case measure => simp [intOf]; omega
        · gi_wp2
          refine bodyPost_ret (results_none rfl _ _ _) rfl ?_
          exact ⟨⟨_, rfl⟩, .inr ⟨_, ⟨ys, by rw [← HYS.out, ← HTo.out]; exact okXs_told ts hna, ⟨ys.drop (k + 1), by rw [← HS.out]; exact List.take_append_drop _ _⟩⟩, hJx3⟩⟩
      · obtain rfl : k = M := by omega
        have hfin : ys.take k = ys := List.take_of_length_le (by rw [HYL.out]; exact Nat.le_refl _)
        rw [hfin] at hJr
        have HJr := Lib.hid hJr
        clear hJr hfin
        gi_wp2
        go_end0
        refine ⟨⟨_, rfl⟩, .inl ⟨_, ?_, HJr.out⟩⟩
        rw [← HYS.out, ← HTo.out]
        exact okXs_told ts hna
theorem eachT_any (s : ByteArray) (w : World) :
    Calls Tryz.prog 19 #[.string s] w fun e w' => e = .returned (.func (.func 33) #[] #[.pointer (some ⟨w.heap.size, 0, none⟩)]) ∧ w.alloc (.cells #[.string s] 9) = w' := by
  go_enter Tryz.func19, Tryz.ntmps19
  go_wp2
  go_ret
  exact ⟨rfl, rfl⟩
theorem eachT_stops (n : Nat) (hn : 1 ≤ n) (B N : Nat) (s : ByteArray) (hs : s.size ≤ 60000) {m : Int} {R : XR (List XT)} (hv : cutF s.data.toList = R) (hR : R ≠ .none) (hN : 2 * s.size + 2 ≤ N) (w : World)
    (hm : w.cell? ⟨0, 0, none⟩ = some (.int .i64 m)) (hT : FoldTab w) (hb : Boxed w B 9 (.string s)) :
    SeqStopsK Fence.wide n Tryz.prog 33 #[.pointer (some ⟨B, 0, none⟩)] encT KeepK (ToldS R) (ToldP R) N w :=
  fun l J Jx W hW hJ hJx hY h0 => eachT_in n hn l B N s hs hv hR hN J Jx W hJ hJx hY (by rw [hW.cell (p := ⟨0, 0, none⟩) (block_lt' hm)]; exact hm) (hT.below hW) ((hW.block B hb.lt).trans hb) h0
end Go.Proofs.YtlldpmjnledhgaaGreatDoor
