/- A slice of the call's own whose block bears a mark behind its last cell (what a conversion from a string makes): append, store, text; no program in sight. -/
import Derived.Test.YtgdnibdahldekaaMem
import Derived.Lib.FrozenHead
import Derived.Laws.CopyRow
namespace Go.Proofs.Ytgdnibdahldekaa
open Go.RowKit
set_option linter.unusedVariables false

def OwnZ (w : World) (base : Nat) (e : TypeId) (v : Value) (l : List UInt8) : Prop :=
  ∃ g cap cur fz, v = .slice (some ⟨g, 0, none⟩) l.length cap ∧ base ≤ g ∧ w.heap[g]? = some (.cells cur e fz) ∧ (fz = (0, 0) ∨ cur.size ≤ fz.1) ∧ l.length ≤ cap ∧ cap ≤ maxLen ∧ cur.size = cap ∧ cur.toList.take l.length = l.map bv

theorem cell_free {w : World} {g : Nat} {cur : Array Value} {e : TypeId} {fz : Nat × Nat} (hg : w.heap[g]? = some (.cells cur e fz)) (hz : fz = (0, 0) ∨ cur.size ≤ fz.1) {i : Nat} (hi : i < cur.size) : w.frozen? ⟨g, i, none⟩ = false := by
  obtain ⟨lo, hi'⟩ := fz
  simp only [World.frozen?, hg, Bool.and_eq_false_iff, decide_eq_false_iff_not]
  rcases hz with h | h
  · obtain ⟨rfl, rfl⟩ := Prod.mk.inj h
    right; omega
  · left; simp only at h; omega
theorem run_storeCells_atZ (P : Program) (g o : Nat) (t : TypeId) (fz : Nat × Nat) : ∀ (vs : List Value) (i : Nat) (cur : Array Value) (w : World), w.heap[g]? = some (.cells cur t fz) → (fz = (0, 0) ∨ cur.size ≤ fz.1) → o + i + vs.length ≤ cur.size → (∀ v ∈ vs, v.oneCell' = true) →
    (storeCells ⟨g, o, none⟩ vs i).run P w = .ok () (w.setRow g (cur.toList.take (o + i) ++ vs ++ cur.toList.drop (o + i + vs.length)).toArray)
  | [], i, cur, w, hg, _, _, _ => by
    simp only [storeCells, List.append_nil, List.length_nil, Nat.add_zero, List.take_append_drop, Array.toArray_toList]
    rw [setRow_self w g cur t fz hg]
    rfl
  | v :: rest, i, cur, w, hg, hfz, hl, h1 => by
    have hi : o + i < cur.size := by simp at hl; omega
    have hadd : (⟨g, o, none⟩ : Addr).add i = ⟨g, o + i, none⟩ := by unfold Addr.add; split <;> simp_all
    have hcell : w.cell? ⟨g, o + i, none⟩ = some cur[o + i] := by simp [World.cell?, hg, hi]
    have hfro := cell_free hg hfz hi
    have hst : (store ((⟨g, o, none⟩ : Addr).add i) v).run P w = .ok () (w.setRow g (cur.setIfInBounds (o + i) v)) := by
      rw [hadd, run_store P w _ v _ (h1 v (by simp)), hcell]
      simp [hfro, setCell_eq_setRow w g (o + i) cur t fz v hg]
    have ih := run_storeCells_atZ P g o t fz rest (i + 1) (cur.setIfInBounds (o + i) v) (w.setRow g (cur.setIfInBounds (o + i) v)) (setRow_heap w g cur _ t _ hg) (by simpa using hfz) (by simp at hl ⊢; omega) (fun x hx => h1 x (by simp [hx]))
    simp only [storeCells, Sem.run_bind, hst, Result.andThen_ok, ih, setRow_setRow]
    congr 3
    have e := list_seg_step cur.toList (o + i) v rest (by simp at hl ⊢; omega)
    simpa [Array.toList_setIfInBounds, Nat.add_assoc] using e

section
variable {P : Program} {w : World} {base : Nat} {e : TypeId} {v : Value} {l : List UInt8}
theorem OwnZ.cell (h : OwnZ w base e v l) : ∃ g cap, v = .slice (some ⟨g, 0, none⟩) l.length cap ∧ base ≤ g ∧ g < w.heap.size ∧ ∀ j (hj : j < l.length), w.cell? ⟨g, j, none⟩ = some (bv l[j]) ∧ w.frozen? ⟨g, j, none⟩ = false := by
  obtain ⟨g, cap, cur, fz, rfl, hb, hg, hz, hn, hc, hs, ht⟩ := h
  refine ⟨g, cap, rfl, hb, (Array.getElem?_eq_some_iff.1 hg).1, fun j hj => ⟨?_, cell_free hg hz (by omega)⟩⟩
  rw [cell_of_row w g j cur e fz hg]
  have : (cur.toList.take l.length)[j]? = (l.map bv)[j]? := by rw [ht]
  rw [List.getElem?_take_of_lt hj] at this
  rw [Array.getElem?_toList] at this
  rw [this]
  simp [List.getElem?_eq_getElem hj]
theorem OwnZ.convert {src dst : TypeId} (h : OwnZ w base e v l) (hs : P.underlying src = some (.slice e)) (he : P.underlying e = some (.int .u8)) (hd : P.underlying dst = some .string) :
    (Go.convert src dst v).run P w = .ok (str l) w := by
  obtain ⟨g, cap, rfl, _, _, hc⟩ := h.cell
  refine run_convert_bytes_back w src dst e ⟨g, 0, none⟩ cap l hs he hd fun j hj => ?_
  have hadd : (⟨g, 0, none⟩ : Addr).add j = ⟨g, j, none⟩ := by unfold Addr.add; split <;> simp_all
  rw [hadd, (hc j hj).1]; rfl
theorem OwnZ.alloc (h : OwnZ w base e v l) (o : Obj) : OwnZ (w.alloc o) base e v l := by
  obtain ⟨g, cap, cur, fz, rfl, hb, hg, r⟩ := h
  exact ⟨g, cap, cur, fz, rfl, hb, by rw [Below.heap_alloc w o g (Array.getElem?_eq_some_iff.1 hg).1]; exact hg, r⟩
theorem OwnZ.made (w : World) (base : Nat) (e : TypeId) (s : ByteArray) (hb : base ≤ w.heap.size) (hm : s.size ≤ maxLen) :
    OwnZ (w.drew.alloc (.cells (bytesRow s (grownCap w s.size 0 e)) e ((bytesRow s (grownCap w s.size 0 e)).size, (bytesRow s (grownCap w s.size 0 e)).size + 1))) base e (.slice (some ⟨w.heap.size, 0, none⟩) s.size (grownCap w s.size 0 e)) s.data.toList := by
  have hge := grownCap_ge w s.size 0 e
  have hsz : (bytesRow s (grownCap w s.size 0 e)).size = grownCap w s.size 0 e := by simp [bytesRow]; omega
  refine ⟨w.heap.size, _, _, _, by simp, hb, heap_alloc_new w.drew _, .inr (Nat.le_refl _), by simpa using hge, grownCap_le_maxLen w _ _ e hm, hsz, ?_⟩
  have h1 : (s.data.toList).length = s.size := by simp
  rw [h1]
  simp [bytesRow, bv]
theorem OwnZ.set (h : OwnZ w base e v l) {g cap : Nat} (hv : v = .slice (some ⟨g, 0, none⟩) l.length cap) (j : Nat) (hj : j < l.length) (c : UInt8) : OwnZ (w.setCell ⟨g, j, none⟩ (bv c)) base e v (l.set j c) := by
  obtain ⟨g', cap', cur, fz, rfl, hb, hg, hz, hn, hc, hs, ht⟩ := h
  injection hv with h1 h2 h3
  injection h1 with h1
  injection h1 with h1 _ _
  subst h1
  refine ⟨g', cap', cur.setIfInBounds j (bv c), fz, by simp, hb, ?_, by simpa using hz, by simpa using hn, hc, by simpa using hs, ?_⟩
  · simp [World.setCell, Array.getElem?_modify, hg]
  · simp only [List.length_set, Array.toList_setIfInBounds, List.take_set, ht, List.map_set]
theorem run_append_Z {t : TypeId} {i : TypeInfo} {z : Value} (ty : TypeId) (ht : P.underlying t = some (.slice e)) (hi : P.info? e = some i) (hz : i.zero = some z) (hsize : i.size = 1) (hby : i.bytes = 1) (hzs : z.cells.size = 1)
    (h : OwnZ w base e v l) (ad : Addr) (c : UInt8) (k : Nat) (hc : w.cell? ad = some (bv c)) (hl : l.length + 1 ≤ 140737488355328) (hbase : base ≤ w.heap.size) :
    ∃ v' w', (Builtin.append_ #[t, t] ty #[v, .slice (some ad) 1 k]).run P w = .ok v' w' ∧ OwnZ w' base e v' (l ++ [c]) ∧ w.grownBy w' v.ownBlock := by
  have hown := h
  obtain ⟨g, cap, cur, fz, rfl, hb, hg, hfz, hn, hcm, hs, htk⟩ := h
  have hnews : ∀ j u, [bv c][j]? = some u → w.cell? (ad.add j) = some u := by
    intro j u hu
    match j, hu with
    | 0, hu => simp at hu; subst hu; simpa [Addr.add] using hc
  by_cases hroom : l.length + 1 ≤ cap
  · have hf := run_firstCells_some (P := P) w 1 1 ad 1 k [bv c] (by simp) hnews
    have hst := run_storeCells_atZ P g l.length e fz [bv c] 0 cur w hg hfz (by simp; omega) (by intro x hx; simp at hx; subst hx; rfl)
    simp only [Nat.add_zero] at hst
    refine ⟨.slice (some ⟨g, 0, none⟩) (l.length + 1) cap, w.setRow g (cur.toList.take l.length ++ [bv c] ++ cur.toList.drop (l.length + [bv c].length)).toArray, ?_, ?_, ?_⟩
    · simp [Builtin.append_, run_underlying ht, sizeOf, typeInfo, hi, hsize, Builtin.lenOf, hroom, hf, Addr.add_lit, hst]
    · refine ⟨g, cap, _, fz, by simp, hb, setRow_heap w g cur _ e _ hg, ?_, by simpa using hroom, hcm, ?_, ?_⟩
      · rcases hfz with h | h
        · exact .inl h
        · right; simp; omega
      · simp; omega
      · have e1 : (l ++ [c]).length = (l.map bv ++ [bv c]).length := by simp
        rw [htk, e1, List.map_append]
        exact List.take_left
    · exact ⟨rfl, rfl, rfl, by simp, fun k _ hk => setRow_other w g k _ (fun e => hk (by simp [Value.ownBlock, e]))⟩
  · have holds : ∀ j u, (l.map bv)[j]? = some u → w.cell? ((⟨g, 0, none⟩ : Addr).add j) = some u := by
      intro j u hu
      have hj : j < l.length := by
        rcases Nat.lt_or_ge j l.length with h | h
        · exact h
        · simp [List.getElem?_eq_none h] at hu
      have hadd : (⟨g, 0, none⟩ : Addr).add j = ⟨g, j, none⟩ := by unfold Addr.add; split <;> simp_all
      rw [hadd, cell_of_row w g j cur e fz hg, ← Array.getElem?_toList]
      have := hu
      rw [← htk, List.getElem?_take_of_lt hj] at this
      exact this
    have hr := run_append_grow (P := P) w t ty e i z ht hi hz ⟨g, 0, none⟩ l.length cap (l.map bv) (by simp [hsize]) holds ad 1 k [bv c] (by simp [hsize]) hnews (by omega) (by omega) (by rw [hby]; exact growslice_fits (by omega) (by omega))
    refine ⟨_, _, hr, ?_, ⟨rfl, rfl, rfl, by simp, fun j hj _ => Below.heap_alloc w.drew _ j hj⟩⟩
    have hge := grownCap_ge w (l.length + 1) cap e
    refine ⟨w.heap.size, _, _, (0, 0), by rw [List.length_append]; rfl, hbase, heap_alloc_new w.drew _, .inl rfl, by simpa using hge, grownCap_le_maxLen w _ _ e (by unfold maxLen; omega), ?_, ?_⟩
    · simp [size_zeroCells, hzs]; omega
    · have e1 : (l ++ [c]).length = (l.map bv ++ [bv c]).length := by simp
      simp only [Array.toList_append]
      rw [e1, List.map_append]
      exact List.take_left
theorem wpList_appZ {ops : Array Oper} {rest : List Oper} {o : Oper} {a : Act} {Q : Exit → Act → World → Prop} (hgd : o.guard = none) (s x : Operand) (t : TypeId)
    (T : SlT P t e 1 1) (ho : o.op = .call { callee := .builtin .append, args := #[s, x], argTypes := #[t, t] })
    (w0 : World) (hB : Below base w0 w) (hbase : base ≤ w.heap.size) (v : Value) (l : List UInt8) (hs : a.eval s = v) (hown : OwnZ w base e v l)
    (ad : Addr) (c : UInt8) (hx : a.eval x = .slice (some ad) 1 1) (hc : w.cell? ad = some (bv c)) (hl : l.length + 1 ≤ 140737488355328)
    (h : ∀ v' w', OwnZ w' base e v' (l ++ [c]) → Below base w0 w' → base ≤ w'.heap.size → wpList P ops Q rest (a.put o.dst v') w') : wpList P ops Q (o :: rest) a w := by
  obtain ⟨ht, ⟨i, z, hi, hz, hsz, hby, hzs⟩, hs0, hb0⟩ := T
  refine wpList_plain hgd fun K hK => ?_
  obtain ⟨v', w', hr, h2, h3⟩ := run_append_Z o.type ht hi hz hsz hby hzs hown ad c 1 hc hl hbase
  have hlt : ∀ k, v.ownBlock = some k → base ≤ k := by
    obtain ⟨g, cap, hv, hb, _⟩ := hown.cell
    subst hv
    intro k hk
    simp [Value.ownBlock] at hk
    omega
  unfold Oper.wp execOp
  simp only [ho, resolve, invoke, builtin, Sem.run_bind, Sem.run_pure, Result.andThen_ok, List.map_toArray, List.map_cons, List.map_nil, hs, hx, hr]
  exact hK _ _ (h v' w' h2 (hB.grown h3 hbase hlt) (Nat.le_trans hbase h3.size))
/-- '[]byte(s)'. -/
theorem wpList_convZ {ops : Array Oper} {rest : List Oper} {o : Oper} {a : Act} {Q : Exit → Act → World → Prop} (hgd : o.guard = none) (src dst : TypeId) (x : Operand)
    (ho : o.op = .convert src dst x) (hs : P.underlying src = some .string) (hd : P.underlying dst = some (.slice e)) (he : P.underlying e = some (.int .u8))
    (w0 : World) (hB : Below base w0 w) (hbase : base ≤ w.heap.size) (l : List UInt8) (hx : a.eval x = .string ⟨l.toArray⟩) (hl : l.length ≤ maxLen)
    (h : ∀ g cap w', OwnZ w' base e (.slice (some ⟨g, 0, none⟩) l.length cap) l → Below base w0 w' → base ≤ w'.heap.size → wpList P ops Q rest (a.put o.dst (.slice (some ⟨g, 0, none⟩) l.length cap)) w') : wpList P ops Q (o :: rest) a w := by
  refine wpList_plain hgd fun K hK => ?_
  have hr := run_bytes_of_string (P := P) w src dst e ⟨l.toArray⟩ hs hd he
  have hO := OwnZ.made w base e ⟨l.toArray⟩ hbase (by rw [size_mk]; exact hl)
  rw [size_mk] at hr hO
  simp only at hO
  unfold Oper.wp execOp
  simp only [ho, Sem.run_bind, hx, hr]
  exact hK _ _ (h _ _ _ hO ((hB.drew).alloc hbase _) (by simp; omega))
end
end Go.Proofs.Ytgdnibdahldekaa
