/- The walk of a writer's Text. -/
import Derived.Test.YtajnpmhgldfgfaaXoK
namespace Go.Proofs.Ytajnpmhgldfgfaa
open Go.RowKit
set_option linter.unusedVariables false

theorem flat_setW {α β : Type} (f : α → List β) (m : Nat) (hm : ∀ x, (f x).length = m) : ∀ (l : List α) (k i : Nat) (x y : α) (u : β), l[k]? = some x → i < m → f y = (f x).set i u → (l.flatMap f).set (k * m + i) u = (l.set k y).flatMap f
  | [], k, i, x, y, u, h, _, _ => by cases h
  | a :: l, 0, i, x, y, u, h, hi, hf => by
    obtain rfl : a = x := by simpa using h
    rw [List.flatMap_cons, Nat.zero_mul, Nat.zero_add, List.set_append_left _ _ (by rw [hm]; exact hi), List.set_cons_zero, List.flatMap_cons, hf]
  | a :: l, k + 1, i, x, y, u, h, hi, hf => by
    rw [List.flatMap_cons, List.set_append_right _ _ (by rw [hm, Nat.succ_mul]; omega), hm, show (k + 1) * m + i - m = k * m + i from by rw [Nat.succ_mul]; omega, List.set_cons_succ, List.flatMap_cons]
    rw [flat_setW f m hm l k i x y u (by simpa using h) hi hf]
theorem ElemsW.form {tE tA : TypeId} {n0 : Nat} {els : List XW} {es : List QW} {ev : Value} {W : World} (h : ElemsW tE tA n0 els es ev W) {u : Nat} {q : QW} (hq : es[u]? = some q) : ∃ g cap, ev = .slice (some ⟨g, 0, none⟩) es.length cap ∧ n0 ≤ g := by
  have hl := (List.getElem?_eq_some_iff.1 hq).1
  rcases h.row.2 with ⟨h1, h2⟩ | ⟨g, cap, cur, h1, h2, _⟩
  · omega
  · exact ⟨g, cap, h1, h2⟩
theorem ElemsW.cell {tE tA : TypeId} {n0 g cap : Nat} {els : List XW} {es : List QW} {W : World} (h : ElemsW tE tA n0 els es (.slice (some ⟨g, 0, none⟩) es.length cap) W) {u i : Nat} {q : QW} (hq : es[u]? = some q) (hi : i < 6) : W.cell? ⟨g, u * 6 + i, none⟩ = (wCells q)[i]? ∧ W.frozen? ⟨g, u * 6 + i, none⟩ = false := by
  have hl := (List.getElem?_eq_some_iff.1 hq).1
  exact ⟨(h.row.cellAt (u * 6 + i) (by omega)).trans (flat_at wCells 6 (fun x => rfl) es u i q hq hi), h.row.frozenAt _⟩
/-- A store into an element. -/
theorem ElemsW.set {tE tA : TypeId} {n0 g cap : Nat} {els : List XW} {es : List QW} {W : World} (h : ElemsW tE tA n0 els es (.slice (some ⟨g, 0, none⟩) es.length cap) W) (hEA : tE ≠ tA) (hEI : tE ≠ 3) {u i : Nat} {q y : QW} {x : Value} (hq : es[u]? = some q) (hi : i < 6) (hf : wCells y = (wCells q).set i x)
    (hA : AttrsW tA n0 (W.setCell ⟨g, u * 6 + i, none⟩ x) y.1.attrs y.2.1) (hK : IntsAt n0 (W.setCell ⟨g, u * 6 + i, none⟩ x) y.1.kids y.2.2) (hg : y.2.2.ownBlock = q.2.2.ownBlock) :
    ElemsW tE tA n0 (els.set u y.1) (es.set u y) (.slice (some ⟨g, 0, none⟩) es.length cap) (W.setCell ⟨g, u * 6 + i, none⟩ x) ∧ W.grownBy (W.setCell ⟨g, u * 6 + i, none⟩ x) (some g) := by
  obtain ⟨h1, h2⟩ := h.row.stored (u * 6 + i) x
  rw [flat_setW wCells 6 (fun x => rfl) es u i q y x hq hi hf] at h1
  have hE : ∀ {e : TypeId} {size n : Nat} {v : Value} {xs : List Value}, W.ownsRow n0 e size v n xs → e ≠ tE → (W.setCell ⟨g, u * 6 + i, none⟩ x).ownsRow n0 e size v n xs := fun ho hne =>
    (KeepT.grown (v := .slice (some ⟨g, 0, none⟩) es.length cap) h.row hne h2).owns ho
  refine ⟨⟨by rw [List.length_set]; exact h1, by rw [← h.told, List.map_set], fun r hr => ?_, fun r hr => ?_, fun i j r r' k hi hj hij hk => ?_⟩, h2⟩
  · rcases List.mem_or_eq_of_mem_set hr with hr | rfl
    · exact hE (h.attrs r hr) hEA.symm
    · exact hA
  · rcases List.mem_or_eq_of_mem_set hr with hr | rfl
    · exact hE (h.kids r hr) hEI.symm
    · exact hK
  · have hold : ∀ (a : Nat) (s : QW), (es.set u y)[a]? = some s → ∃ s', es[a]? = some s' ∧ s'.2.2.ownBlock = s.2.2.ownBlock := fun a s ha => by
      rw [List.getElem?_set] at ha
      split at ha
      · rename_i hua
        split at ha
        · cases ha; exact ⟨q, by rw [← hua]; exact hq, hg.symm⟩
        · cases ha
      · exact ⟨s, ha, rfl⟩
    obtain ⟨s1, a1, a2⟩ := hold i r hi
    obtain ⟨s2, b1, b2⟩ := hold j r' hj
    rw [← a2] at hk
    rw [← b2]
    exact h.apart i j s1 s2 k a1 b1 hij hk
/-- A text written: what the innermost one holds grows; an error, if none is open. -/
def addT (x : ByteArray) (e : XW) : XW := { e with text := e.text ++ x }
def textW (x : ByteArray) (s : WS) : WS := if s.bad then s else match s.op with | [] => { s with bad := true } | k :: _ => { s with els := s.els.modify k (addT x) }
theorem WrI.text {n0 wb g cap u : Nat} {els : List XW} {op : List Nat} {more : Bool} {code : Int} {es : List QW} {ov : Value} {W : World} {q : QW} (x : ByteArray) (h : WrI n0 wb els op more code es (.slice (some ⟨g, 0, none⟩) es.length cap) ov W) (hq : es[u]? = some q) :
    WrI n0 wb (els.set u (addT x q.1)) op more code (es.set u (addT x q.1, q.2.1, q.2.2)) (.slice (some ⟨g, 0, none⟩) es.length cap) ov (W.setCell ⟨g, u * 6 + 5, none⟩ (.string (q.1.text ++ x))) ∧
      KeepF n0 (FootW wb es (.slice (some ⟨g, 0, none⟩) es.length cap) ov) W (W.setCell ⟨g, u * 6 + 5, none⟩ (.string (q.1.text ++ x))) ∧
      ∀ k, FootW wb (es.set u (addT x q.1, q.2.1, q.2.2)) (.slice (some ⟨g, 0, none⟩) es.length cap) ov k → FootW wb es (.slice (some ⟨g, 0, none⟩) es.length cap) ov k := by
  have hqm : q ∈ es := List.mem_of_getElem? hq
  have g2 : W.grownBy (W.setCell ⟨g, u * 6 + 5, none⟩ (.string (q.1.text ++ x))) (some g) := (h.elems.row.stored _ _).2
  have hS : ∀ {e : TypeId} {size n : Nat} {v : Value} {xs : List Value}, W.ownsRow n0 e size v n xs → e ≠ 57 → (W.setCell ⟨g, u * 6 + 5, none⟩ (.string (q.1.text ++ x))).ownsRow n0 e size v n xs := fun ho hne =>
    (KeepT.grown (v := .slice (some ⟨g, 0, none⟩) es.length cap) h.elems.row hne g2).owns ho
  obtain ⟨h1, _⟩ := h.elems.set (by decide) (by decide) (i := 5) (y := (addT x q.1, q.2.1, q.2.2)) (x := .string (q.1.text ++ x)) hq (by omega) rfl (hS (h.elems.attrs q hqm) (by decide)) (hS (h.elems.kids q hqm) (by decide)) rfl
  have hgn : n0 ≤ g := (h.elems.row.lt g rfl).1
  refine ⟨⟨h.lo, h.blk.grown g2 (fun e => ?_), h1, hS h.opened (by decide), fun k hk r hr => ?_⟩, ⟨?_, fun k hk hf => ?_⟩, fun k hk => ?_⟩
  · have e1 := Option.some.inj e
    exact blk_ne h.elems.row h.blk (by decide) (by rw [e1]; rfl)
  · rcases List.mem_or_eq_of_mem_set hr with hr | rfl
    · exact h.far k hk r hr
    · exact h.far k hk q hqm
  · exact ⟨g2.os, g2.tape, g2.output, g2.size, fun k hk => g2.block k (by have := h.base; omega) (fun e => by have := Option.some.inj e; omega)⟩
  · exact g2.block k hk (fun e => hf (.inr (.inr (.inl e.symm))))
  · rcases hk with hk | hk | hk | ⟨r, hr, hk⟩
    · exact .inl hk
    · exact .inr (.inl hk)
    · exact .inr (.inr (.inl hk))
    · rcases List.mem_or_eq_of_mem_set hr with hr | rfl
      · exact .inr (.inr (.inr ⟨r, hr, hk⟩))
      · exact .inr (.inr (.inr ⟨q, hqm, hk⟩))

set_option maxRecDepth 100000 in
set_option maxHeartbeats 8000000 in
theorem text_any {n0 wb : Nat} {s : WS} {es : List QW} {ev ov : Value} {W : World} (x : ByteArray) (h : WrI n0 wb s.els s.op s.more (codeW s.bad) es ev ov W) (hl : s.op.length ≤ 1000000) (hle : s.els.length ≤ 1000000) (hop : ∀ k ∈ s.op, k < s.els.length) (ht : ∀ e ∈ s.els, e.text.size ≤ 1000000000) (hx : x.size ≤ 1000000000) :
    Calls Try.prog 10 #[.pointer (some ⟨wb, 0, none⟩), .string x] W (WrR n0 wb W es ev ov (textW x s)) := by
  obtain ⟨els, op, more, bad⟩ := s
  simp only at h hl hle hop ht
  have H := Lib.hid h
  have ho := h.opened
  have hw1 := h.blk.cell 1
  have c1 : W.cell? ⟨wb, 1, none⟩ = some ov := h.blk.cell 1
  cases op with
  | nil =>
    obtain ⟨oa, oc, rfl⟩ := ownsRow_slice' ho
    rw [List.reverse_nil, List.length_nil] at c1
    cases bad with
    | true =>
      have HF := Lib.hid (fun b => fail_old h b)
      clear h ho hw1
      go_enter Try.func10, Try.ntmps10
      go_wp2_with (go_at_call 15; refine (HF.out _).mono ?_; rintro _ w2 ⟨rfl, rfl⟩)
      go_ret
      exact ⟨rfl, WrTo.same H.out⟩
    | false =>
      have HF := Lib.hid (fail_new h)
      clear h ho hw1
      go_enter Try.func10, Try.ntmps10
      go_wp2_with (go_at_call 15; refine HF.out.mono ?_; rintro _ w2 ⟨rfl, hW2, hK2⟩; have HW2 := Lib.hid hW2; have HK2 := Lib.hid hK2; clear hW2 hK2)
      go_ret
      exact ⟨rfl, _, _, _, HW2.out, HK2.out, fun k hk => .inl hk⟩
  | cons u t =>
    obtain ⟨gg, kc, hform, -, -⟩ := World.ownsRow.form ho (by simp)
    have hlen : (u :: t).reverse.length = t.length + 1 := by simp
    rw [hlen] at hform
    subst hform
    simp only [List.length_cons] at hl
    cases bad with
    | true =>
      have HF := Lib.hid (fun b => fail_old h b)
      clear h ho hw1 hop ht
      go_enter Try.func10, Try.ntmps10
      go_wp2_with (go_at_call 15; refine (HF.out _).mono ?_; rintro _ w2 ⟨rfl, rfl⟩)
      go_ret
      exact ⟨rfl, WrTo.same H.out⟩
    | false =>
      have hu := hop u List.mem_cons_self
      have hlen2 := h.elems.len
      have hq : es[u]? = some es[u] := List.getElem?_eq_getElem (by omega)
      obtain ⟨q, hqe⟩ : ∃ q, es[u] = q := ⟨_, rfl⟩
      rw [hqe] at hq
      obtain ⟨g, ec, hform, -⟩ := h.elems.form hq
      subst hform
      have HF := Lib.hid (fail_no h)
      have HC := Lib.hid (fun (X : World) (hX : Below W.heap.size W X) => (h.below hX).text x hq)
      have hqm : q.1 ∈ els := by rw [← h.elems.told]; exact List.mem_map_of_mem (List.mem_of_getElem? hq)
      have hts := ht _ hqm
      obtain ⟨e5, f5⟩ := h.elems.cell (i := 5) hq (by omega)
      have e5' : W.cell? ⟨g, u * 6 + 5, none⟩ = some (.string q.1.text) := e5
      have c0 : W.cell? ⟨wb, 0, none⟩ = some (.slice (some ⟨g, 0, none⟩) es.length ec) := h.blk.cell 0
      have HB := Lib.hid h.base
      have k1 : W.cell? ⟨gg, t.length, none⟩ = some (.int .i64 u) := by
        have ho2 := ho
        unfold IntsAt at ho2
        rw [hlen] at ho2
        rw [ho2.cellAt t.length (by omega)]
        simp [intCells]
      have hels : els.set u (addT x q.1) = els.modify u (addT x) := by
        have : els[u]? = some q.1 := by rw [← h.elems.told, List.getElem?_map, hq]; rfl
        apply List.ext_getElem?
        intro i
        rw [List.getElem?_set, List.getElem?_modify]
        by_cases hi : u = i
        · subst hi
          rw [if_pos rfl, if_pos hu, this]
          simp
        · rw [if_neg hi]
          simp [hi]
      have HE := Lib.hid hels
      obtain ⟨L, hL⟩ : ∃ L, t.length = L := ⟨_, rfl⟩
      obtain ⟨N, hN⟩ : ∃ N, es.length = N := ⟨_, rfl⟩
      obtain ⟨tx, htx⟩ : ∃ tx, q.1.text = tx := ⟨_, rfl⟩
      obtain ⟨ty, hty⟩ : ∃ ty, tx ++ x = ty := ⟨_, rfl⟩
      rw [htx] at hts e5'
      have m1 : ∀ w, (Op.stringOp .add tx x).run Try.prog w = .ok (.string ty) w := fun w => by rw [← hty]; exact run_string_add_sum w _ _ (by omega)
      have hNu : u < N := by omega
      have q1c : IntKind.i64.wrap (L : Int) = (L : Int) := wrapo (by omega) (by omega)
      have q1 : IntKind.i64.wrap ((L : Int) + 1 - 1) = (L : Int) := by rw [show (L : Int) + 1 - 1 = L from by omega]; exact wrapo (by omega) (by omega)
      have q2 : (0 : Int) ≤ (L : Int) := by omega
      have q2b : ¬ (L : Int) < 0 := by omega
      have q3 : (L : Int) < (L : Int) + 1 := by omega
      have q3b : (L : Int) < ((L + 1 : Nat) : Int) := by omega
      have q4 : (0 : Int) ≤ (u : Int) := by omega
      have q4b : ¬ (u : Int) < 0 := by omega
      have q5 : (u : Int) < (N : Int) := by omega
      rw [hL] at c1 k1
      rw [hN] at c0
      have HL := Lib.hid hL
      have HN := Lib.hid hN
      have HT := Lib.hid htx
      have HT2 := Lib.hid hty
      clear h ho hw1 hL hlen hop ht hN htx hty hels hqm hqe hq hlen2 hle hu e5
      go_enter Try.func10, Try.ntmps10
      go_wp2_with (go_at_call 15; refine HF.out.mono ?_; rintro _ w2 ⟨rfl, rfl⟩)
      go_region
      go_wp2
      go_ret
      have hD : Below W.heap.size W W.drew := (Below.refl _ W).drew
      have hC := HC.out _ hD
      rw [HL.out, HN.out, HT.out, HT2.out, HE.out] at hC
      rw [HL.out, HN.out]
      exact ⟨rfl, _, _, _, hC.1, (KeepF.of_below hD HB.out).trans hC.2.1 fun k hk => .inl hk, fun k hk => .inl (hC.2.2 k hk)⟩
end Go.Proofs.Ytajnpmhgldfgfaa
