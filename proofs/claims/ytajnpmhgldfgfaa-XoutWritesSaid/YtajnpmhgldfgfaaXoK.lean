/- The walks of a writer's fail, Text, Close, Done. -/
import Derived.Test.YtajnpmhgldfgfaaXoJ
import Derived.BigRegion
namespace Go.Proofs.Ytajnpmhgldfgfaa
open Go.RowKit
set_option linter.unusedVariables false

theorem wrapo {x : Int} (h0 : 0 ≤ x) (h1 : x < 4611686018427387904) : IntKind.i64.wrap x = x := by
  simp [IntKind.wrap, IntKind.bits, IntKind.signed]
  omega
/-- What a writer holds: elements, the open ones, a root more, its first error. -/
structure WS where
  els : List XW
  op : List Nat
  more : Bool
  bad : Bool
def codeW (b : Bool) : Int := if b then 1 else 0
/-- What a call of a writer leaves. -/
def WrTo (n0 wb : Nat) (W : World) (es : List QW) (ev ov : Value) (s : WS) (W' : World) : Prop :=
  ∃ es' ev' ov', WrI n0 wb s.els s.op s.more (codeW s.bad) es' ev' ov' W' ∧ KeepF n0 (FootW wb es ev ov) W W' ∧ ∀ k, FootW wb es' ev' ov' k → FootW wb es ev ov k ∨ W.heap.size ≤ k
/-- What a writer's call answers: itself. -/
def WrR (n0 wb : Nat) (W : World) (es : List QW) (ev ov : Value) (s : WS) (e : Ending) (W' : World) : Prop := e = .returned (.pointer (some ⟨wb, 0, none⟩)) ∧ WrTo n0 wb W es ev ov s W'

set_option maxRecDepth 100000 in
set_option maxHeartbeats 4000000 in
theorem fail_old {n0 wb : Nat} {els : List XW} {op : List Nat} {more : Bool} {es : List QW} {ev ov : Value} {W : World} (h : WrI n0 wb els op more (codeW true) es ev ov W) (b : Bool) :
    Calls Try.prog 15 #[.pointer (some ⟨wb, 0, none⟩), .bool b] W fun e W' => e = .returned (.bool true) ∧ W = W' := by
  have c3 : W.cell? ⟨wb, 3, none⟩ = some (.int .i64 1) := h.blk.cell 3
  clear h
  go_enter Try.func15, Try.ntmps15
  go_wp2
  go_ret
  exact ⟨rfl, rfl⟩
set_option maxRecDepth 100000 in
set_option maxHeartbeats 4000000 in
theorem fail_no {n0 wb : Nat} {els : List XW} {op : List Nat} {more : Bool} {es : List QW} {ev ov : Value} {W : World} (h : WrI n0 wb els op more (codeW false) es ev ov W) :
    Calls Try.prog 15 #[.pointer (some ⟨wb, 0, none⟩), .bool false] W fun e W' => e = .returned (.bool false) ∧ W = W' := by
  have c3 : W.cell? ⟨wb, 3, none⟩ = some (.int .i64 0) := h.blk.cell 3
  clear h
  go_enter Try.func15, Try.ntmps15
  go_wp2
  go_ret
  exact ⟨rfl, rfl⟩
set_option maxRecDepth 100000 in
set_option maxHeartbeats 4000000 in
theorem fail_new {n0 wb : Nat} {els : List XW} {op : List Nat} {more : Bool} {es : List QW} {ev ov : Value} {W : World} (h : WrI n0 wb els op more (codeW false) es ev ov W) :
    Calls Try.prog 15 #[.pointer (some ⟨wb, 0, none⟩), .bool true] W fun e W' => e = .returned (.bool true) ∧ WrI n0 wb els op more (codeW true) es ev ov W' ∧ KeepF n0 (FootW wb es ev ov) W W' := by
  have c3 : W.cell? ⟨wb, 3, none⟩ = some (.int .i64 0) := h.blk.cell 3
  have f3 := h.blk.frozen 3
  obtain ⟨h1, h2⟩ := h.set (i := 3) (more' := more) (code' := codeW true) (.int .i64 1) (by simp [codeW])
  have e3 : (W.setCell ⟨wb, 3, none⟩ (.int .i64 1)).cell? ⟨wb, 3, none⟩ = some (.int .i64 1) := h1.blk.cell 3
  have H1 := Lib.hid h1
  have H2 := Lib.hid h2
  clear h h1 h2
  go_enter Try.func15, Try.ntmps15
  go_wp2
  go_ret
  exact ⟨rfl, H1.out, H2.out⟩

/-- A writer's close: the innermost one is open no more; an error, if none is. -/
def closeW (s : WS) : WS := if s.bad then s else match s.op with | [] => { s with bad := true } | _ :: t => { s with op := t }
theorem WrTo.same {n0 wb : Nat} {els : List XW} {op : List Nat} {more : Bool} {b : Bool} {es : List QW} {ev ov : Value} {W : World} (h : WrI n0 wb els op more (codeW b) es ev ov W) : WrTo n0 wb W es ev ov ⟨els, op, more, b⟩ W :=
  ⟨es, ev, ov, h, KeepF.refl _ _ _, fun k hk => .inl hk⟩
/-- The innermost one is closed. -/
theorem WrI.close {n0 wb gg kc k : Nat} {els : List XW} {op : List Nat} {more : Bool} {code : Int} {es : List QW} {ev : Value} {W : World} (h : WrI n0 wb els (k :: op) more code es ev (.slice (some ⟨gg, 0, none⟩) (op.length + 1) kc) W) :
    WrI n0 wb els op more code es ev (.slice (some ⟨gg, 0, none⟩) op.length kc) (W.setCell ⟨wb, 1, none⟩ (.slice (some ⟨gg, 0, none⟩) op.length kc)) ∧ KeepF n0 (FootW wb es ev (.slice (some ⟨gg, 0, none⟩) (op.length + 1) kc)) W (W.setCell ⟨wb, 1, none⟩ (.slice (some ⟨gg, 0, none⟩) op.length kc)) := by
  have ho := h.opened
  unfold IntsAt at ho
  rw [List.length_reverse, List.length_cons] at ho
  have hc : intCells (k :: op).reverse = intCells op.reverse ++ [.int .i64 k] := by simp [intCells]
  rw [hc] at ho
  have h2 := ownsRow_pop (by simp [intCells]) ho
  have hw : WrI n0 wb els op more code es ev (.slice (some ⟨gg, 0, none⟩) (op.length + 1) kc) W → True := fun _ => trivial
  have hk : KeepF n0 (fun k => k = wb) W (W.setCell ⟨wb, 1, none⟩ (.slice (some ⟨gg, 0, none⟩) op.length kc)) := ⟨(Below.refl _ _).setCell (p := ⟨wb, 1, none⟩) h.lo _, fun k hk hne => (grown_set W wb 1 _).block k hk (fun e => hne (Option.some.inj e))⟩
  have hE : ∀ g, FootE es ev g → ¬ g = wb := fun g hg e => by
    rcases hg with hg | ⟨q, hq, hg | hg⟩
    · exact blk_ne h.elems.row h.blk (by decide) (e ▸ hg)
    · exact blk_ne (h.elems.kids q hq) h.blk (by decide) (e ▸ hg)
    · exact blk_ne (h.elems.attrs q hq) h.blk (by decide) (e ▸ hg)
  refine ⟨⟨h.lo, h.blk.set 1 _, h.elems.foot hk hE, ?_, h.far⟩, ⟨hk.below, fun i hi hf => hk.rest i hi (fun e => hf (.inl e))⟩⟩
  unfold IntsAt
  rw [List.length_reverse]
  exact own_foot h2 hk (fun g hg e => blk_ne h2 h.blk (by decide) (e ▸ hg))

set_option maxRecDepth 100000 in
set_option maxHeartbeats 8000000 in
theorem close_any {n0 wb : Nat} {s : WS} {es : List QW} {ev ov : Value} {W : World} (h : WrI n0 wb s.els s.op s.more (codeW s.bad) es ev ov W) (hl : s.op.length ≤ 1000000) :
    Calls Try.prog 11 #[.pointer (some ⟨wb, 0, none⟩)] W (WrR n0 wb W es ev ov (closeW s)) := by
  obtain ⟨els, op, more, bad⟩ := s
  simp only at h hl
  have H := Lib.hid h
  have ho := h.opened
  have hw1 := h.blk.cell 1
  have c1 : W.cell? ⟨wb, 1, none⟩ = some ov := h.blk.cell 1
  cases op with
  | nil =>
    obtain ⟨oa, oc, rfl⟩ := ownsRow_slice' ho
    rw [List.reverse_nil, List.length_nil] at c1
    cases bad with
    | true =>
      have HF := Lib.hid (fun b => fail_old h b)
      clear h ho hw1
      go_enter Try.func11, Try.ntmps11
      go_wp2_with (go_at_call 15; refine (HF.out _).mono ?_; rintro _ w2 ⟨rfl, rfl⟩)
      go_ret
      exact ⟨rfl, WrTo.same H.out⟩
    | false =>
      have HF := Lib.hid (fail_new h)
      clear h ho hw1
      go_enter Try.func11, Try.ntmps11
      go_wp2_with (go_at_call 15; refine HF.out.mono ?_; rintro _ w2 ⟨rfl, hW2, hK2⟩; have HW2 := Lib.hid hW2; have HK2 := Lib.hid hK2; clear hW2 hK2)
      go_ret
      exact ⟨rfl, _, _, _, HW2.out, HK2.out, fun k hk => .inl hk⟩
  | cons k t =>
    obtain ⟨gg, kc, hform, -, -⟩ := World.ownsRow.form ho (by simp)
    have hlen : (k :: t).reverse.length = t.length + 1 := by simp
    rw [hlen] at hform
    subst hform
    simp only [List.length_cons] at hl
    cases bad with
    | true =>
      have HF := Lib.hid (fun b => fail_old h b)
      clear h ho hw1
      go_enter Try.func11, Try.ntmps11
      go_wp2_with (go_at_call 15; refine (HF.out _).mono ?_; rintro _ w2 ⟨rfl, rfl⟩)
      go_ret
      exact ⟨rfl, WrTo.same H.out⟩
    | false =>
      have HF := Lib.hid (fail_no h)
      have HC := Lib.hid (fun (X : World) (hX : Below W.heap.size W X) => (h.below hX).close)
      have f1 := h.blk.frozen 1
      have HB := Lib.hid h.base
      obtain ⟨L, hL⟩ : ∃ L, t.length = L := ⟨_, rfl⟩
      have hkc : (L : Int) ≤ (kc : Int) := by
        rcases h.opened.2 with ⟨h1, h2⟩ | ⟨g, cap, cur, h1, _, _, h4, _⟩
        · cases h1
        · simp only [Value.slice.injEq] at h1
          rw [hlen] at h4
          omega
      have q1c : IntKind.i64.wrap (L : Int) = (L : Int) := wrapo (by omega) (by omega)
      have q1 : IntKind.i64.wrap ((L : Int) + 1 - 1) = (L : Int) := by rw [show (L : Int) + 1 - 1 = L from by omega]; exact wrapo (by omega) (by omega)
      have q2 : (0 : Int) ≤ (L : Int) := by omega
      rw [hL] at c1
      have HL := Lib.hid hL
      clear h ho hw1 hL hlen
      go_enter Try.func11, Try.ntmps11
      go_wp2_with (go_at_call 15; refine HF.out.mono ?_; rintro _ w2 ⟨rfl, rfl⟩)
      go_region
      go_wp2
      go_ret
      have hD : Below W.heap.size W W.drew := (Below.refl _ W).drew
      have hC := HC.out _ hD
      rw [HL.out] at hC ⊢
      exact ⟨rfl, _, _, _, hC.1, (KeepF.of_below hD HB.out).trans hC.2 fun k hk => .inl hk, fun k hk => .inl hk⟩
end Go.Proofs.Ytajnpmhgldfgfaa
