/- A writer's kid more; a writer's open, in plain words. -/
import Derived.Test.YtajnpmhgldfgfaaXoP
namespace Go.Proofs.Ytajnpmhgldfgfaa
open Go.RowKit
set_option linter.unusedVariables false

theorem infoAt : (Try.prog.info? 58).map (fun i => (i.zero, i.size, i.bytes)) = some (some (.agg #[.string ⟨#[]⟩, .string ⟨#[]⟩, .int .i64 0]), 3, 40) := by kernel_rfl
/-- A slice of texts that can be read. -/
def StrRd (W : World) (v : Value) (l : List ByteArray) : Prop :=
  ∃ a c, v = .slice a l.length c ∧ (l ≠ [] → ∃ b o, a = some ⟨b, o, none⟩ ∧ b < W.heap.size ∧ ∀ j x, l[j]? = some x → W.cell? ⟨b, o + j, none⟩ = some (.string x))
theorem StrRd.below {W W' : World} {v : Value} {l : List ByteArray} (h : StrRd W v l) (hB : Below W.heap.size W W') : StrRd W' v l := by
  obtain ⟨a, c, h1, h2⟩ := h
  refine ⟨a, c, h1, fun hne => ?_⟩
  obtain ⟨b, o, g1, g2, g3⟩ := h2 hne
  exact ⟨b, o, g1, Nat.lt_of_lt_of_le g2 hB.size, fun j x hj => (hB.cell (p := ⟨b, o + j, none⟩) g2).trans (g3 j x hj)⟩
/-- Texts by two: attributes. -/
def pairA : List ByteArray → List (ByteArray × ByteArray)
  | a :: b :: r => (a, b) :: pairA r
  | _ => []
theorem pairA_take : ∀ (l : List ByteArray) (j : Nat) (x y : ByteArray), l[2 * j]? = some x → l[2 * j + 1]? = some y → (pairA l).take (j + 1) = (pairA l).take j ++ [(x, y)] ∧ j < (pairA l).length
  | [], j, x, y, h, _ => by simp at h
  | [a], j, x, y, h, h2 => by simp at h2
  | a :: b :: r, 0, x, y, h, h2 => by
    simp at h h2
    subst h h2
    simp [pairA]
  | a :: b :: r, j + 1, x, y, h, h2 => by
    have e1 : 2 * (j + 1) = 2 * j + 1 + 1 := by omega
    rw [e1] at h h2
    rw [List.getElem?_cons_succ, List.getElem?_cons_succ] at h
    rw [List.getElem?_cons_succ, List.getElem?_cons_succ] at h2
    obtain ⟨i1, i2⟩ := pairA_take r j x y h h2
    simp only [pairA, List.take_succ_cons, List.length_cons]
    exact ⟨by rw [i1]; rfl, by omega⟩
theorem pairA_len : ∀ (l : List ByteArray), (pairA l).length = l.length / 2
  | [] => rfl
  | [a] => by simp [pairA]
  | a :: b :: r => by
    simp only [pairA, List.length_cons]
    rw [pairA_len r]
    omega
def addK (n : Nat) (e : XW) : XW := { e with kids := e.kids ++ [n] }
theorem modify_set {f : XW → XW} {els : List XW} {u : Nat} {q : XW} (hq : els[u]? = some q) : els.set u (f q) = els.modify u f := by
  have hu := (List.getElem?_eq_some_iff.1 hq).1
  apply List.ext_getElem?
  intro i
  rw [List.getElem?_set, List.getElem?_modify]
  by_cases hi : u = i
  · subst hi
    rw [if_pos rfl, if_pos hu, hq]
    simp
  · rw [if_neg hi]
    simp [hi]
/-- One more kid. -/
theorem WrI.kid {n0 wb g cap gg kc u n : Nat} {els : List XW} {op : List Nat} {more : Bool} {code : Int} {es : List QW} {ov : Value} {W W1 : World} {q : QW} (h : WrI n0 wb els op more code es (.slice (some ⟨g, 0, none⟩) es.length cap) ov W) (hq : es[u]? = some q)
    (hown : W1.ownsRow n0 3 1 (.slice (some ⟨gg, 0, none⟩) (q.1.kids.length + 1) kc) (q.1.kids.length + 1) (intCells q.1.kids ++ [.int .i64 n])) (hgrow : W.grownBy W1 q.2.2.ownBlock) (hat : q.2.2.ownBlock = some gg ∨ gg = W.heap.size) :
    WrI n0 wb (els.modify u (addK n)) op more code (es.set u (addK n q.1, q.2.1, .slice (some ⟨gg, 0, none⟩) (q.1.kids.length + 1) kc)) (.slice (some ⟨g, 0, none⟩) es.length cap) ov (W1.setCell ⟨g, u * 6 + 4, none⟩ (.slice (some ⟨gg, 0, none⟩) (q.1.kids.length + 1) kc)) ∧
      KeepF n0 (FootW wb es (.slice (some ⟨g, 0, none⟩) es.length cap) ov) W (W1.setCell ⟨g, u * 6 + 4, none⟩ (.slice (some ⟨gg, 0, none⟩) (q.1.kids.length + 1) kc)) ∧
      ∀ k, FootW wb (es.set u (addK n q.1, q.2.1, .slice (some ⟨gg, 0, none⟩) (q.1.kids.length + 1) kc)) (.slice (some ⟨g, 0, none⟩) es.length cap) ov k → FootW wb es (.slice (some ⟨g, 0, none⟩) es.length cap) ov k ∨ W.heap.size ≤ k := by
  have hqm : q ∈ es := List.mem_of_getElem? hq
  have hbs := h.base
  have hkq := h.elems.kids q hqm
  have hT : ∀ {e : TypeId} {size n : Nat} {v : Value} {xs : List Value}, W.ownsRow n0 e size v n xs → e ≠ 3 → W1.ownsRow n0 e size v n xs := fun ho hne => (KeepT.grown hkq hne hgrow).owns ho
  have hI : ∀ {n : Nat} {v : Value} {xs : List Value}, W.ownsRow n0 3 1 v n xs → (∀ g, v.ownBlock = some g → q.2.2.ownBlock ≠ some g) → W1.ownsRow n0 3 1 v n xs := fun ho hne =>
    own_keep ho fun g hg => hgrow.block g (own_lt ho hg) (fun e => hne g hg e.symm)
  have hb1 : BlkAt W1 wb _ _ := h.blk.grown hgrow (fun e => blk_ne hkq h.blk (by decide) e.symm)
  have hE1 : W1.ownsRow n0 57 6 (.slice (some ⟨g, 0, none⟩) es.length cap) es.length (es.flatMap wCells) := hT h.elems.row (by decide)
  obtain ⟨h1, h2⟩ := hE1.stored (u * 6 + 4) (.slice (some ⟨gg, 0, none⟩) (q.1.kids.length + 1) kc)
  rw [flat_setW wCells 6 (fun x => rfl) es u 4 q (addK n q.1, q.2.1, .slice (some ⟨gg, 0, none⟩) (q.1.kids.length + 1) kc) _ hq (by omega) rfl] at h1
  have hS : ∀ {e : TypeId} {size n : Nat} {v : Value} {xs : List Value}, W1.ownsRow n0 e size v n xs → e ≠ 57 → (W1.setCell ⟨g, u * 6 + 4, none⟩ (.slice (some ⟨gg, 0, none⟩) (q.1.kids.length + 1) kc)).ownsRow n0 e size v n xs := fun ho hne =>
    (KeepT.grown (v := .slice (some ⟨g, 0, none⟩) es.length cap) hE1 hne h2).owns ho
  have hnew : ∀ r ∈ es, ∀ k, r.2.2.ownBlock = some k → gg = k → q.2.2.ownBlock = some k := fun r hr k hk e => by
    subst e
    rcases hat with h7 | h7
    · exact h7
    · have := own_lt (h.elems.kids r hr) hk
      omega
  have hgF : ∀ k, some g = some k → FootW wb es (.slice (some ⟨g, 0, none⟩) es.length cap) ov k := fun k e => .inr (.inr (.inl e))
  refine ⟨⟨h.lo, ?_, ⟨by rw [List.length_set]; exact h1, ?_, ?_, ?_, ?_⟩, ?_, ?_⟩, ?_, ?_⟩
  · exact hb1.grown h2 (fun e => by
      have e1 := Option.some.inj e
      exact blk_ne hE1 hb1 (by decide) (by rw [e1]; rfl))
  · rw [List.map_set, h.elems.told, ← modify_set (f := addK n) (els := els) (u := u) (q := q.1) (by rw [← h.elems.told, List.getElem?_map, hq]; rfl)]
  · intro r hr
    rcases List.mem_or_eq_of_mem_set hr with hr | rfl
    · exact hS (hT (h.elems.attrs r hr) (by decide)) (by decide)
    · exact hS (hT (h.elems.attrs q hqm) (by decide)) (by decide)
  · intro r hr
    obtain ⟨i, hi, rfl⟩ := List.mem_iff_getElem.1 hr
    rw [List.getElem_set]
    by_cases hiu : u = i
    · rw [if_pos hiu]
      show (_ : World).ownsRow n0 3 1 _ (addK n q.1).kids.length (intCells (addK n q.1).kids)
      have : intCells (addK n q.1).kids = intCells q.1.kids ++ [.int .i64 n] := by simp [intCells, addK]
      rw [this, show (addK n q.1).kids.length = q.1.kids.length + 1 from by simp [addK]]
      exact hS hown (by decide)
    · rw [if_neg hiu]
      rw [List.length_set] at hi
      have hmem : es[i] ∈ es := List.getElem_mem hi
      exact hS (hI (h.elems.kids _ hmem) (fun k hk => h.elems.apart i u _ q k (List.getElem?_eq_getElem hi) hq (Ne.symm hiu) hk)) (by decide)
  · intro i j r r' k hi hj hij hk
    rw [List.getElem?_set] at hi hj
    split at hi
    · rename_i hui
      split at hi
      · cases hi
        rw [if_neg (by omega)] at hj
        have e : gg = k := by simpa [Value.ownBlock] using hk
        intro hk2
        exact h.elems.apart u j q r' k hq hj (by omega) (hnew r' (List.mem_of_getElem? hj) k hk2 e) hk2
      · cases hi
    · rename_i hui
      split at hj
      · split at hj
        · cases hj
          intro hk2
          have e : gg = k := by simpa [Value.ownBlock] using hk2
          exact h.elems.apart i u r q k hi hq (by omega) hk (hnew r (List.mem_of_getElem? hi) k hk e)
        · cases hj
      · exact h.elems.apart i j r r' k hi hj hij hk
  · exact hS (hI h.opened (fun k hk hk2 => h.far k hk q hqm hk2)) (by decide)
  · intro k hk r hr hk2
    rcases List.mem_or_eq_of_mem_set hr with hr | rfl
    · exact h.far k hk r hr hk2
    · have e : gg = k := by simpa [Value.ownBlock] using hk2
      subst e
      rcases hat with h5 | h5
      · exact h.far _ hk q hqm h5
      · have := own_lt h.opened hk
        omega
  · refine ((KeepF.refl n0 _ W).grown hgrow (fun k e => .inl (.inr (.inr (.inr ⟨q, hqm, .inl e⟩)))) (fun k e => (hkq.lt k e).1) hbs).grown h2 (fun k e => .inl (hgF k e)) (fun k e => by
      have : g = k := Option.some.inj e
      subst this
      exact (h.elems.row.lt _ rfl).1) (Nat.le_trans hbs hgrow.size)
  · intro k hk
    rcases hk with hk | hk | hk | ⟨r, hr, hk⟩
    · exact .inl (.inl hk)
    · exact .inl (.inr (.inl hk))
    · exact .inl (.inr (.inr (.inl hk)))
    · rcases List.mem_or_eq_of_mem_set hr with hr | rfl
      · exact .inl (.inr (.inr (.inr ⟨r, hr, hk⟩)))
      · rcases hk with hk | hk
        · have e : gg = k := by simpa [Has, Value.ownBlock] using hk
          subst e
          rcases hat with h5 | h5
          · exact .inl (.inr (.inr (.inr ⟨q, hqm, .inl h5⟩)))
          · exact .inr (by omega)
        · exact .inl (.inr (.inr (.inr ⟨q, hqm, .inr hk⟩)))
def upK : List Nat → Int
  | [] => -1
  | u :: _ => u
def elsK (els : List XW) : List Nat → List XW
  | [] => els
  | u :: _ => els.modify u (addK els.length)
/-- A writer's open. -/
def openW (nm : ByteArray) (ps : List ByteArray) (s : WS) : WS :=
  if s.bad then s else if ps.length % 2 = 1 then { s with bad := true } else
    { els := elsK s.els s.op ++ [⟨nm, upK s.op, pairA ps, [], ⟨#[]⟩⟩], op := s.els.length :: s.op, more := s.more || (decide (upK s.op < 0) && decide (0 < s.els.length)), bad := false }
end Go.Proofs.Ytajnpmhgldfgfaa
