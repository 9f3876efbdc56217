/- The walk of a writer's Done; strings.Clone. -/
import Derived.Test.YtajnpmhgldfgfaaXoL
import Derived.Test.YtajnpmhgldfgfaaShelf
import Derived.BigQuiet
namespace Go.Proofs.Ytajnpmhgldfgfaa
open Go.RowKit
set_option linter.unusedVariables false

def slQ : Value → Option Addr × Nat × Nat
  | .slice a n c => (a, n, c)
  | _ => (none, 0, 0)
theorem slQ_eq {v : Value} (h : ∃ a n c, v = .slice a n c) : Value.slice (slQ v).1 (slQ v).2.1 (slQ v).2.2 = v := by
  obtain ⟨a, n, c, rfl⟩ := h
  rfl
def toYQ (q : QW) : YE := ⟨q.1.name, 0, q.1.up, (slQ q.2.1).1, (slQ q.2.1).2.1, (slQ q.2.1).2.2, (slQ q.2.2).1, (slQ q.2.2).2.1, (slQ q.2.2).2.2, q.1.text⟩
theorem own_sl {n0 size n : Nat} {e : TypeId} {v : Value} {xs : List Value} {W : World} (h : W.ownsRow n0 e size v n xs) : ∃ a n c, v = .slice a n c := by
  obtain ⟨b, c, e⟩ := ownsRow_slice' h
  exact ⟨b, n, c, e⟩
theorem AttrsW.rd {tA : TypeId} {n0 : Nat} {W : World} {l : List (ByteArray × ByteArray)} {v : Value} (h : AttrsW tA n0 W l v) : AttrRd W v (l.map fun x => (x.1, x.2, 0)) := by
  obtain ⟨a, c, rfl⟩ := ownsRow_slice' h
  refine ⟨a, c, by rw [List.length_map], fun hne => ?_⟩
  have hl : 0 < l.length := List.length_pos_iff.2 fun e => hne (by rw [e]; rfl)
  obtain ⟨g, cap, hf, -, -⟩ := World.ownsRow.form h hl
  simp only [Value.slice.injEq] at hf
  obtain ⟨rfl, -, rfl⟩ := hf
  have hh : W.ownsRow n0 tA 3 (.slice (some ⟨g, 0, none⟩) l.length c) l.length (l.flatMap aCells) := h
  refine ⟨g, 0, rfl, own_lt hh rfl, fun i x hx => ?_⟩
  rw [List.getElem?_map] at hx
  obtain ⟨r, hr, rfl⟩ := Option.map_eq_some_iff.1 hx
  have hi := (List.getElem?_eq_some_iff.1 hr).1
  have k1 := fun j hj => (hh.cellAt (i * 3 + j) (by omega)).trans (flat_at aCells 3 (fun x => rfl) l i j r hr hj)
  rw [Nat.zero_add]
  exact ⟨k1 0 (by omega), k1 1 (by omega), k1 2 (by omega)⟩
theorem AttrsW.cap {tA : TypeId} {n0 : Nat} {W : World} {l : List (ByteArray × ByteArray)} {v : Value} (h : AttrsW tA n0 W l v) : (slQ v).2.1 ≤ (slQ v).2.2 := by
  rcases h.2 with ⟨rfl, _⟩ | ⟨g, cap, cur, rfl, _, _, h4, _⟩
  · exact Nat.le_refl _
  · exact h4
/-- What a writer holds lies as a document. -/
theorem ElemsW.doc {tE tA : TypeId} {n0 : Nat} {els : List XW} {es : List QW} {ev : Value} {W : World} (h : ElemsW tE tA n0 els es ev W) : WDoc W ev els (es.map toYQ) := by
  have hsa := fun q hq => own_sl (h.attrs q hq)
  have hsk := fun q hq => own_sl (h.kids q hq)
  refine ⟨?_, by rw [List.length_map, h.len], fun i y e hy he => ?_⟩
  · obtain ⟨a, c, hev⟩ := ownsRow_slice' h.row
    refine ⟨a, c, by rw [List.length_map]; exact hev, fun hne => ?_⟩
    obtain ⟨q, hq⟩ : ∃ q, es[0]? = some q := ⟨_, List.getElem?_eq_getElem (List.length_pos_iff.2 fun e => hne (by rw [e]; rfl))⟩
    obtain ⟨g, cap, hg, _⟩ := h.form hq
    have hrow := h.row
    rw [hg] at hev hrow
    simp only [Value.slice.injEq] at hev
    refine ⟨g, 0, hev.1.symm, own_lt hrow rfl, fun i y hy j u hu => ?_⟩
    rw [List.getElem?_map] at hy
    obtain ⟨r, hr, rfl⟩ := Option.map_eq_some_iff.1 hy
    have hm := List.mem_of_getElem? hr
    have hc : yeCells (toYQ r) = wCells r := by
      unfold yeCells toYQ wCells
      simp only
      rw [slQ_eq (hsa r hm), slQ_eq (hsk r hm)]
    rw [hc] at hu
    have hj : j < 6 := (List.getElem?_eq_some_iff.1 hu).1
    have hi := (List.getElem?_eq_some_iff.1 hr).1
    rw [Nat.zero_add, World.ownsRow.cellAt hrow (i * 6 + j) (by omega), flat_at wCells 6 (fun x => rfl) es i j r hr hj]
    exact hu
  · rw [List.getElem?_map] at hy
    obtain ⟨r, hr, rfl⟩ := Option.map_eq_some_iff.1 hy
    have hm := List.mem_of_getElem? hr
    have he2 : els[i]? = some r.1 := by rw [← h.told, List.getElem?_map, hr]; rfl
    rw [he2] at he
    obtain rfl := Option.some.inj he
    refine ⟨rfl, rfl, rfl, ⟨r.1.attrs.map fun x => (x.1, x.2, 0), ?_, ?_⟩, (h.attrs r hm).cap, ?_⟩
    · show AttrRd W (.slice (slQ r.2.1).1 (slQ r.2.1).2.1 (slQ r.2.1).2.2) _
      rw [slQ_eq (hsa r hm)]
      exact (h.attrs r hm).rd
    · unfold pairsOf
      rw [List.map_map]
      exact List.map_id _
    · show IntRd W (.slice (slQ r.2.2).1 (slQ r.2.2).2.1 (slQ r.2.2).2.2) _
      rw [slQ_eq (hsk r hm)]
      exact IntRd.of_ints (h.kids r hm)
set_option maxRecDepth 100000 in
set_option maxHeartbeats 4000000 in
theorem clone_any (s : ByteArray) (w : World) (hlim : s.size ≤ 281474976710656) : Calls Try.prog 16 #[.string s] w fun e w' => e = .returned (.string s) ∧ Below w.heap.size w w' := by
  go_enter Try.func16, Try.ntmps16
  go_wp2_with (go_at_call 26; refine (Try.stringslite_Clone s _ hlim).mono ?_; rintro _ w2 ⟨rfl, hB⟩)
  go_ret
  exact ⟨rfl, hB⟩
/-- What a writer tells at its end. -/
def doneW (s : WS) : List UInt8 × Int := if s.bad then ([], 1) else if s.op ≠ [] ∨ s.more = true then ([], 1) else printE s.els
set_option maxRecDepth 100000 in
set_option maxHeartbeats 8000000 in
theorem done_any {n0 wb : Nat} {s : WS} {es : List QW} {ev ov : Value} {W : World} (h : WrI n0 wb s.els s.op s.more (codeW s.bad) es ev ov W) (hl : s.op.length ≤ 1000000) (hs : SmX s.els) :
    Calls Try.prog 12 #[.pointer (some ⟨wb, 0, none⟩)] W fun e W' => e = .returned (.tuple #[.string ⟨(doneW s).1.toArray⟩, .int .i64 (doneW s).2]) ∧ Below W.heap.size W W' := by
  obtain ⟨els, op, more, bad⟩ := s
  simp only at h hl hs
  have c0 : W.cell? ⟨wb, 0, none⟩ = some ev := h.blk.cell 0
  have c1 : W.cell? ⟨wb, 1, none⟩ = some ov := h.blk.cell 1
  have c2 : W.cell? ⟨wb, 2, none⟩ = some (.bool more) := h.blk.cell 2
  have c3 : W.cell? ⟨wb, 3, none⟩ = some (.int .i64 (codeW bad)) := h.blk.cell 3
  obtain ⟨oa, oc, rfl⟩ := ownsRow_slice' h.opened
  rw [List.length_reverse] at c1
  have HP := Lib.hid (fun (X : World) (hX : Below W.heap.size W X) => print_any (h.elems.below hX).doc hs)
  cases bad with
  | true =>
    have c3' : W.cell? ⟨wb, 3, none⟩ = some (.int .i64 1) := c3
    clear h c3
    go_enter Try.func12, Try.ntmps12
    go_wp2
    go_quiet (fail)
    go_wp2
    refine bodyPost_ret (results_tmp2 rfl _ _ _) rfl ?_
    exact ⟨rfl, below_drewN (Below.refl _ _) _⟩
  | false =>
    have c3' : W.cell? ⟨wb, 3, none⟩ = some (.int .i64 0) := c3
    cases op with
    | cons u t =>
      obtain ⟨L, hL⟩ : ∃ L, t.length = L := ⟨_, rfl⟩
      rw [List.length_cons, hL] at c1
      have q1 : (0 : Int) < (L : Int) + 1 := by omega
      clear h c3 hl
      go_enter Try.func12, Try.ntmps12
      go_wp2
      refine bodyPost_ret (results_tmp2 rfl _ _ _) rfl ?_
      exact ⟨rfl, Below.refl _ _⟩
    | nil =>
      rw [List.length_nil] at c1
      cases more with
      | true =>
        clear h c3 hl
        go_enter Try.func12, Try.ntmps12
        go_wp2
        refine bodyPost_ret (results_tmp2 rfl _ _ _) rfl ?_
        exact ⟨rfl, Below.refl _ _⟩
      | false =>
        clear h c3 hl
        go_enter Try.func12, Try.ntmps12
        go_wp2_with (go_at_call 13; refine (HP.out _ (Below.refl _ _)).mono ?_; rintro _ w2 ⟨rfl, hB⟩; have HB := Lib.hid hB; clear hB)
        refine bodyPost_ret (results_tmp2 rfl _ _ _) rfl ?_
        exact ⟨rfl, HB.out⟩
end Go.Proofs.Ytajnpmhgldfgfaa
