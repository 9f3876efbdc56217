/- Appends of texts out of slices as they lie, within regions that draw their order. -/
import Derived.Test.YtjcpfmndkeiegaaGreatDoorFoJK
import Derived.Maps.AppendAt
import Derived.Deep.Upon
import Derived.DataElems
namespace Go.Proofs.YtjcpfmndkeiegaaGreatDoor
open Go.RowKit
set_option linter.unusedVariables false

/-- A value as a slice of texts. -/
def RdX (w : World) (xv : Value) (ys : List ByteArray) : Prop := (∃ ad c, xv = .slice (some ad) ys.length c ∧ RdS w (some ad) ys) ∨ (xv = .slice none 0 0 ∧ ys = [])
theorem RdX.below {w w' : World} {xv : Value} {ys : List ByteArray} (h : RdX w xv ys) (hB : Below w.heap.size w w') : RdX w' xv ys := by
  rcases h with ⟨ad, c, rfl, h⟩ | ⟨rfl, rfl⟩
  · exact .inl ⟨ad, c, rfl, h.below hB⟩
  · exact .inr ⟨rfl, rfl⟩
theorem RdX.blk {w : World} {g c : Nat} {l : List ByteArray} (h : BlkAt w g 9 (l.map sv).toArray) : RdX w (.slice (some ⟨g, 0, none⟩) l.length c) l := .inl ⟨_, _, rfl, RdS.blk h⟩
theorem sv_one (l : List ByteArray) : ∀ u ∈ l.map sv, u.oneCell' = true := fun u hu => by
  obtain ⟨s, _, rfl⟩ := List.mem_map.1 hu
  rfl
/-- An append of a slice of texts onto one's own. -/
theorem run_appS (w : World) (base : Nat) (v xv : Value) (l ys : List ByteArray) (hv : StrRow w base v l) (hx : RdX w xv ys) (hlen : l.length + ys.length ≤ 1000000) (hbase : base ≤ w.heap.size) :
    ∃ v' w', (Builtin.append_ #[22, 22] 22 #[v, xv]).run Tryz.prog w = .ok v' w' ∧ StrRow w' base v' (l ++ ys) ∧ w.grownBy w' v.ownBlock := by
  obtain ⟨i0, hi, hz0, hz1, hz2⟩ := info_parts (show (Tryz.prog.info? 9).map (fun i => (i.zero, i.size, i.bytes)) = some (some (.string ⟨#[]⟩), 1, 16) by kernel_rfl)
  rcases hx with ⟨ad, c, rfl, h⟩ | ⟨rfl, rfl⟩
  · obtain ⟨v', w', hr, h2, h3, _, _⟩ := run_append_own_at (P := Tryz.prog) w base 22 22 9 i0 _ 1 16 Tryz.underlying22 hi hz0 hz1 hz2 rfl (by decide) v l.length _ hv ad ys.length c (ys.map sv) (by simp)
      (fun j u hu => by
        rw [List.getElem?_map] at hu
        obtain ⟨s, hs, rfl⟩ := Option.map_eq_some_iff.1 hu
        obtain ⟨hj, rfl⟩ := List.getElem?_eq_some_iff.1 hs
        obtain ⟨x, hxe, -, hc⟩ := h j hj
        cases hxe
        exact hc) (sv_one ys) (by unfold maxLen; omega) (by omega) hbase
    refine ⟨v', w', hr, ?_, h3⟩
    unfold StrRow
    rw [List.length_append, List.map_append]
    exact h2
  · refine ⟨v, w, ?_, by rw [List.append_nil]; exact hv, World.grownBy.refl w _⟩
    obtain ⟨b, n, c, rfl, hnc⟩ : ∃ b n c, v = .slice b n c ∧ n ≤ c := by
      rcases hv.2 with ⟨rfl, h0⟩ | ⟨g, cap, cur, rfl, hb, hg, h1, -⟩
      · exact ⟨none, 0, 0, rfl, Nat.le_refl _⟩
      · exact ⟨_, _, _, rfl, h1⟩
    exact run_append_nothing (P := Tryz.prog) w _ _ _ _ i0 Tryz.underlying22 hi b n c hnc _ (by
      refine ⟨.inl ⟨_, Tryz.underlying22⟩, fun w' => ?_, ?_, ?_, by simp, fun u hu => by cases hu⟩
      · simp [Builtin.lenOf]
      · rw [hz1]; simp [Builtin.firstCells]
      · rw [hz1]; simp [Builtin.firstCells])
/-- At a step of a region that draws. -/
theorem step_appS {w : World} {ops : Array Oper} {o : Oper} {a : Act} {K : Act → World → Prop} {Q : Exit → Act → World → Prop} {E : Prop} (hgd : o.guard = none) (s x : Operand)
    (ho : o.op = .call { callee := .builtin .append, args := #[s, x], argTypes := #[22, 22] }) (hty : o.type = 22)
    (base : Nat) (v xv : Value) (l ys : List ByteArray) (hs : a.eval s = v) (hxe : a.eval x = xv) (hv : StrRow w base v l) (hx : RdX w xv ys) (hlen : l.length + ys.length ≤ 1000000) (hbase : base ≤ w.heap.size)
    (h : ∀ v' w', StrRow w' base v' (l ++ ys) → Below base w w' → K (a.put o.dst v') w') :
    if Region.wanted o (yielded ops a.tmps) = true then Oper.wp Tryz.prog o a w K Q else E := by
  have hw : Region.wanted o (yielded ops a.tmps) = true := by simp [Region.wanted, hgd]
  rw [if_pos hw]
  obtain ⟨v', w', hr, h2, h3⟩ := run_appS w base v xv l ys hv hx hlen hbase
  unfold Oper.wp execOp
  simp only [ho, hty, resolve, invoke, builtin, Sem.run_bind, Sem.run_pure, Result.andThen_ok, List.map_toArray, List.map_cons, List.map_nil, hs, hxe, hr]
  exact h v' w' h2 ((Below.refl base w).grown h3 hbase fun k e => (hv.lt k e).1)
theorem strRow_nil (w : World) (base : Nat) : StrRow w base (.slice none 0 0) [] := World.ownsRow_nil _ _ _ _
/-- A slice of the front, a slice of the rest. -/
theorem RdS.take {w : World} {x : Addr} {ns : List ByteArray} (h : RdS w (some x) ns) (k : Nat) : RdS w (some x) (ns.take k) := fun i hi => by
  rw [List.length_take] at hi
  obtain ⟨y, h1, h2, h3⟩ := h i (by omega)
  exact ⟨y, h1, h2, by rw [h3, List.getElem_take]⟩
theorem RdS.drop {w : World} {x : Addr} {ns : List ByteArray} (h : RdS w (some x) ns) (k : Nat) : RdS w (some (x.add k)) (ns.drop k) := fun i hi => by
  rw [List.length_drop] at hi
  obtain ⟨y, h1, h2, h3⟩ := h (k + i) (by omega)
  cases h1
  refine ⟨_, rfl, by rw [add_block]; exact h2, ?_⟩
  rw [Addr.add_add]
  rw [h3, List.getElem_drop]
end Go.Proofs.YtjcpfmndkeiegaaGreatDoor
