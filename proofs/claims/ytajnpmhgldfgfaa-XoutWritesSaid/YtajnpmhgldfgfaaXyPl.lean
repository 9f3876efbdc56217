/- Words for slices of numbers as they lie in memory; no program in sight. Rows of texts, as they lie; the walks of hornbeambook's SameTexts, LentTexts, StaysTexts. The walk of hornbeambook's Room. Room over four sizes. What calls of a writer come to, in plain words; what stays small. Elements in a row: a kid more, an element more; a writer beside the document's own elements. A writer's Open, whole. The law's first call: alive. The walk of the document's own elements as real ones. The walks of hornbeambook's Room (at one size, at two) and Short. Words for the law XoutWrites: the calls as they lie; what its loops keep. The steps of the document's own elements beside the writer's. A region that draws its order, of which the loads come first: the frame written out behind each step. No program in sight. -/
import Derived.Test.YtajnpmhgldfgfaaIt
import Derived.WalkKit
import Derived.ProofKit
import Derived.Test.YtajnpmhgldfgfaaMem
import Derived.Test.YtajnpmhgldfgfaaOw
import Derived.Maps.AppendAt
import Derived.Deep.Upon
import Derived.DataElems
import Derived.BigRegion
import Derived.BigQuiet
import Derived.IntWalk
import Derived.Lib.Hide
import Derived.Deep.AppendLies
import Derived.Test.YtajnpmhgldfgfaaXtG
import Derived.Test.YtajnpmhgldfgfaaXoM
import Derived.Test.YtajnpmhgldfgfaaXoS
import Derived.Test.YtajnpmhgldfgfaaXoP
import Derived.Test.YtajnpmhgldfgfaaXoN
import Derived.Deep.RegionLaw
import Derived.Deep.DeepCutAuto
import Derived.Deep.RegionHeld3
import Derived.Test.YtajnpmhgldfgfaaXoQ
namespace Go.Proofs.Ytajnpmhgldfgfaa
open Go.RowKit
set_option linter.unusedVariables false

/-- A slice's numbers as they lie. -/
def RdI (w : World) (a : Option Addr) (l : List Int) : Prop := ∀ i, i < l.length → ∃ g, a = some ⟨g, 0, none⟩ ∧ g < w.heap.size ∧ w.cell? ⟨g, i, none⟩ = some (.int .i64 (l.getD i 0))
theorem rdI_own {w : World} {base : Nat} {e : TypeId} {v : Value} {l : List Int} (h : w.ownsRow base e 1 v l.length (l.map (Value.int .i64))) : ∃ a c, v = .slice a l.length c ∧ RdI w a l := by
  rcases h.2 with ⟨rfl, h0⟩ | ⟨g, cap, cur, rfl, hb, hg, h1, h2, h3, h4⟩
  · exact ⟨none, 0, by rw [h0], fun i hi => by omega⟩
  · refine ⟨_, _, rfl, fun i hi => ⟨g, rfl, (Array.getElem?_eq_some_iff.1 hg).1, ?_⟩⟩
    rw [cell_of_row w g _ cur _ _ hg]
    have : (cur.toList.take (l.length * 1))[i]? = cur[i]? := by rw [List.getElem?_take_of_lt (by omega)]; simp
    rw [← this, h4]
    simp [List.getD, List.getElem?_eq_getElem hi]
theorem RdI.below {w w' : World} {a : Option Addr} {l : List Int} (h : RdI w a l) (hB : Below w.heap.size w w') : RdI w' a l := fun i hi => by
  obtain ⟨g, h1, h2, h3⟩ := h i hi
  exact ⟨g, h1, Nat.lt_of_lt_of_le h2 hB.size, (hB.cell h2).trans h3⟩

/-- 's[:n]' of a slice at its block's begin. -/
theorem run_front {P : Program} {t e : TypeId} {z : Nat} (ht : P.underlying t = some (.slice e)) (hz : ∀ w, (sizeOf (P.elem t)).run P w = .ok z w) {a : Option Addr} (ha : a = none ∨ ∃ g, a = some ⟨g, 0, none⟩) {n c m : Nat} (h : m ≤ c) (w : World) :
    (Instr.slice t (.slice a n c) none (some (.int .i64 m)) none).run P w = .ok (.slice a m c) w := by
  have hu : P.underlying t = some (.slice (P.elem t)) := by rw [ht]; simp [Program.elem, ht]
  rw [run_slice_h w t a n c hu .i64 m (by omega) (by omega), hz]
  show Result.ok _ w = _
  have : sliced a 0 ((m : Int).toNat) c z = .slice a m c := by
    unfold sliced
    rcases ha with rfl | ⟨g, rfl⟩
    · simp
    · simp [Addr.add]
  rw [this]
theorem rdI_front {w : World} {base : Nat} {e : TypeId} {v : Value} {l : List Int} (h : w.ownsRow base e 1 v l.length (l.map (Value.int .i64))) :
    ∃ a c, v = .slice a l.length c ∧ l.length ≤ c ∧ (a = none ∨ ∃ g, a = some ⟨g, 0, none⟩) ∧ RdI w a l := by
  have h0 := h
  rcases h.2 with ⟨rfl, h0'⟩ | ⟨g, cap, cur, rfl, hb, hg, h1, h2, h3, h4⟩
  · exact ⟨none, 0, by rw [h0'], by omega, .inl rfl, fun i hi => by omega⟩
  · obtain ⟨a, c, e, hr⟩ := rdI_own h0
    cases e
    exact ⟨_, _, rfl, by omega, .inr ⟨g, rfl⟩, hr⟩
theorem RdI.take {w : World} {a : Option Addr} {l : List Int} (h : RdI w a l) (m : Nat) : RdI w a (l.take m) := fun i hi => by
  have hi' : i < l.length := by simp at hi; omega
  obtain ⟨g, h1, h2, h3⟩ := h i hi'
  refine ⟨g, h1, h2, ?_⟩
  rw [h3]
  have : i < m := by simp at hi; omega
  simp [List.getD, List.getElem?_take_of_lt this]
theorem rowKept {W W' : World} {base : Nat} {e : TypeId} {size : Nat} {v : Value} {n : Nat} {xs : List Value} (h : W.ownsRow base e size v n xs) (hB : Below W.heap.size W W') : W'.ownsRow base e size v n xs := by
  refine ⟨h.1, ?_⟩
  rcases h.2 with h' | ⟨g, cap, cur, hv, hb, hg, hr⟩
  · exact .inl h'
  · exact .inr ⟨g, cap, cur, hv, hb, by rw [hB.block g (Array.getElem?_eq_some_iff.1 hg).1]; exact hg, hr⟩
theorem bcells {W w1 : World} (hb : Below W.heap.size W w1) : (∀ b o, b < W.heap.size → w1.cell? ⟨b, o, none⟩ = W.cell? ⟨b, o, none⟩) ∧ (∀ b o, b < W.heap.size → w1.frozen? ⟨b, o, none⟩ = W.frozen? ⟨b, o, none⟩) :=
  ⟨fun b o h => hb.cell (p := ⟨b, o, none⟩) h, fun b o h => hb.frozen (p := ⟨b, o, none⟩) h⟩
theorem block_lt {w : World} {a : Addr} {v : Value} (h : w.cell? a = some v) : a.block < w.heap.size := by
  apply Decidable.byContradiction
  intro hn
  rw [World.cell?, Array.getElem?_eq_none (by omega)] at h
  cases h
theorem add_block (a : Addr) (n : Nat) : (a.add n).block = a.block := by unfold Addr.add; split <;> rfl
theorem add_sum (a : Addr) (i j : Nat) : (a.add i).add j = a.add (i + j) := by
  unfold Addr.add
  by_cases hi : i = 0 <;> by_cases hj : j = 0 <;> simp [hi, hj, Nat.add_assoc]
end Go.Proofs.Ytajnpmhgldfgfaa
namespace Go.Proofs.Ytajnpmhgldfgfaa
open Go.RowKit
set_option linter.unusedVariables false

theorem addr_zero (x : Addr) : x.add 0 = x := by
  obtain ⟨b, o, p⟩ := x
  unfold Addr.add
  cases p <;> simp
theorem infoS : (Try.prog.info? 9).map (fun i => (i.zero, i.size, i.bytes)) = some (some (.string ⟨#[]⟩), 1, 16) := by kernel_rfl
theorem below_drewN' {B : Nat} {a w : World} (h : Below B a w) (n : Nat) : Below B a (w.drewN n) := ⟨h.os, h.tape, h.output, h.size, h.block⟩
/-- A slice's texts as they lie. -/
def RdS (w : World) (a : Option Addr) (l : List ByteArray) : Prop := ∀ i (h : i < l.length), ∃ x, a = some x ∧ x.block < w.heap.size ∧ w.cell? (x.add i) = some (.string l[i])
theorem RdS.below {w w' : World} {a : Option Addr} {l : List ByteArray} (h : RdS w a l) (hB : Below w.heap.size w w') : RdS w' a l := fun i hi => by
  obtain ⟨x, h1, h2, h3⟩ := h i hi
  refine ⟨x, h1, Nat.lt_of_lt_of_le h2 hB.size, (hB.cell (p := x.add i) (by rw [add_block]; exact h2)).trans h3⟩
def sv (s : ByteArray) : Value := .string s
/-- A row of texts of the call's own. -/
def StrRow (w : World) (base : Nat) (v : Value) (l : List ByteArray) : Prop := w.ownsRow base 9 1 v l.length (l.map sv)
theorem RdS.blk {w : World} {g : Nat} {l : List ByteArray} (h : BlkAt w g 9 (l.map sv).toArray) : RdS w (some ⟨g, 0, none⟩) l := fun i hi => by
  refine ⟨⟨g, 0, none⟩, rfl, h.lt, ?_⟩
  have := h.cell i
  rw [show (⟨g, 0, none⟩ : Addr).add i = ⟨g, i, none⟩ by simp [Addr.add]; exact fun h => h.symm]
  rw [this]
  simp [sv, List.getElem?_eq_getElem hi]
/-- A slice of the front, a slice of the rest. -/
theorem RdS.take {w : World} {x : Addr} {ns : List ByteArray} (h : RdS w (some x) ns) (k : Nat) : RdS w (some x) (ns.take k) := fun i hi => by
  rw [List.length_take] at hi
  obtain ⟨y, h1, h2, h3⟩ := h i (by omega)
  exact ⟨y, h1, h2, by rw [h3, List.getElem_take]⟩
theorem RdS.drop {w : World} {x : Addr} {ns : List ByteArray} (h : RdS w (some x) ns) (k : Nat) : RdS w (some (x.add k)) (ns.drop k) := fun i hi => by
  rw [List.length_drop] at hi
  obtain ⟨y, h1, h2, h3⟩ := h (k + i) (by omega)
  cases h1
  refine ⟨_, rfl, by rw [add_block]; exact h2, ?_⟩
  rw [Addr.add_add]
  rw [h3, List.getElem_drop]
/-- A value as a slice of texts. -/
def RdX (w : World) (xv : Value) (ys : List ByteArray) : Prop := (∃ ad c, xv = .slice (some ad) ys.length c ∧ RdS w (some ad) ys) ∨ (xv = .slice none 0 0 ∧ ys = [])
theorem RdX.below {w w' : World} {xv : Value} {ys : List ByteArray} (h : RdX w xv ys) (hB : Below w.heap.size w w') : RdX w' xv ys := by
  rcases h with ⟨ad, c, rfl, h⟩ | ⟨rfl, rfl⟩
  · exact .inl ⟨ad, c, rfl, h.below hB⟩
  · exact .inr ⟨rfl, rfl⟩
theorem RdX.blk {w : World} {g c : Nat} {l : List ByteArray} (h : BlkAt w g 9 (l.map sv).toArray) : RdX w (.slice (some ⟨g, 0, none⟩) l.length c) l := .inl ⟨_, _, rfl, RdS.blk h⟩
theorem sv_one (l : List ByteArray) : ∀ u ∈ l.map sv, u.oneCell' = true := fun u hu => by
  obtain ⟨s, _, rfl⟩ := List.mem_map.1 hu
  rfl
/-- An append of a slice of texts onto one's own. -/
theorem run_appS (w : World) (base : Nat) (v xv : Value) (l ys : List ByteArray) (hv : StrRow w base v l) (hx : RdX w xv ys) (hlen : l.length + ys.length ≤ 1000000) (hbase : base ≤ w.heap.size) :
    ∃ v' w', (Builtin.append_ #[25, 25] 25 #[v, xv]).run Try.prog w = .ok v' w' ∧ StrRow w' base v' (l ++ ys) ∧ w.grownBy w' v.ownBlock := by
  obtain ⟨i0, hi, hz0, hz1, hz2⟩ := info_parts (show (Try.prog.info? 9).map (fun i => (i.zero, i.size, i.bytes)) = some (some (.string ⟨#[]⟩), 1, 16) by kernel_rfl)
  rcases hx with ⟨ad, c, rfl, h⟩ | ⟨rfl, rfl⟩
  · obtain ⟨v', w', hr, h2, h3, _, _⟩ := run_append_own_at (P := Try.prog) w base 25 25 9 i0 _ 1 16 Try.underlying25 hi hz0 hz1 hz2 rfl (by decide) v l.length _ hv ad ys.length c (ys.map sv) (by simp)
      (fun j u hu => by
        rw [List.getElem?_map] at hu
        obtain ⟨s, hs, rfl⟩ := Option.map_eq_some_iff.1 hu
        obtain ⟨hj, rfl⟩ := List.getElem?_eq_some_iff.1 hs
        obtain ⟨x, hxe, -, hc⟩ := h j hj
        cases hxe
        exact hc) (sv_one ys) (by unfold maxLen; omega) (by omega) hbase
    refine ⟨v', w', hr, ?_, h3⟩
    unfold StrRow
    rw [List.length_append, List.map_append]
    exact h2
  · refine ⟨v, w, ?_, by rw [List.append_nil]; exact hv, World.grownBy.refl w _⟩
    obtain ⟨b, n, c, rfl, hnc⟩ : ∃ b n c, v = .slice b n c ∧ n ≤ c := by
      rcases hv.2 with ⟨rfl, h0⟩ | ⟨g, cap, cur, rfl, hb, hg, h1, -⟩
      · exact ⟨none, 0, 0, rfl, Nat.le_refl _⟩
      · exact ⟨_, _, _, rfl, h1⟩
    exact run_append_nothing (P := Try.prog) w _ _ _ _ i0 Try.underlying25 hi b n c hnc _ (by
      refine ⟨.inl ⟨_, Try.underlying25⟩, fun w' => ?_, ?_, ?_, by simp, fun u hu => by cases hu⟩
      · simp [Builtin.lenOf]
      · rw [hz1]; simp [Builtin.firstCells]
      · rw [hz1]; simp [Builtin.firstCells])
/-- At a step of a region that draws. -/
theorem step_appS {w : World} {ops : Array Oper} {o : Oper} {a : Act} {K : Act → World → Prop} {Q : Exit → Act → World → Prop} {E : Prop} (hgd : o.guard = none) (s x : Operand)
    (ho : o.op = .call { callee := .builtin .append, args := #[s, x], argTypes := #[25, 25] }) (hty : o.type = 25)
    (base : Nat) (v xv : Value) (l ys : List ByteArray) (hs : a.eval s = v) (hxe : a.eval x = xv) (hv : StrRow w base v l) (hx : RdX w xv ys) (hlen : l.length + ys.length ≤ 1000000) (hbase : base ≤ w.heap.size)
    (h : ∀ v' w', StrRow w' base v' (l ++ ys) → Below base w w' → K (a.put o.dst v') w') :
    if Region.wanted o (yielded ops a.tmps) = true then Oper.wp Try.prog o a w K Q else E := by
  have hw : Region.wanted o (yielded ops a.tmps) = true := by simp [Region.wanted, hgd]
  rw [if_pos hw]
  obtain ⟨v', w', hr, h2, h3⟩ := run_appS w base v xv l ys hv hx hlen hbase
  unfold Oper.wp execOp
  simp only [ho, hty, resolve, invoke, builtin, Sem.run_bind, Sem.run_pure, Result.andThen_ok, List.map_toArray, List.map_cons, List.map_nil, hs, hxe, hr]
  exact h v' w' h2 ((Below.refl base w).grown h3 hbase fun k e => (hv.lt k e).1)
theorem strRow_nil (w : World) (base : Nat) : StrRow w base (.slice none 0 0) [] := World.ownsRow_nil _ _ _ _
/-- A row's cells. -/
theorem cells_own {w : World} {base g n c : Nat} {l : List ByteArray} (h : w.ownsRow base 9 1 (.slice (some ⟨g, 0, none⟩) n c) n (l.map sv)) {i : Nat} (hi : i < l.length) : w.cell? ⟨g, i, none⟩ = some (.string l[i]) := by
  have := h.cells (g := g) rfl i _ (by rw [List.getElem?_map, List.getElem?_eq_getElem hi]; rfl)
  have hadd : (⟨g, 0, none⟩ : Addr).add i = ⟨g, i, none⟩ := by unfold Addr.add; split <;> simp_all
  rw [hadd] at this
  exact this
theorem rdS_own {w : World} {base n c : Nat} {vb : Option Addr} {l : List ByteArray} (h : StrRow w base (.slice vb n c) l) : RdS w vb l := fun i hi => by
  obtain ⟨g, cap, he, hb, hlt⟩ := World.ownsRow.form h (by omega)
  simp only [Value.slice.injEq] at he
  obtain ⟨rfl, rfl, rfl⟩ := he
  exact ⟨_, rfl, hlt, h.cells (g := g) rfl i _ (by rw [List.getElem?_map, List.getElem?_eq_getElem hi]; rfl)⟩
/-- 'append(s, xs...)' of texts, s of the call's own. -/
theorem wpList_appS {w : World} {ops : Array Oper} {rest : List Oper} {o : Oper} {a : Act} {Q : Exit → Act → World → Prop} (hgd : o.guard = none) (s x : Operand)
    (ho : o.op = .call { callee := .builtin .append, args := #[s, x], argTypes := #[25, 25] }) (hty : o.type = 25)
    (base : Nat) (v xv : Value) (l ys : List ByteArray) (hs : a.eval s = v) (hxe : a.eval x = xv) (hv : StrRow w base v l) (hx : RdX w xv ys) (hlen : l.length + ys.length ≤ 1000000) (hbase : base ≤ w.heap.size)
    (h : ∀ v' w', StrRow w' base v' (l ++ ys) → Below base w w' → wpList Try.prog ops Q rest (a.put o.dst v') w') : wpList Try.prog ops Q (o :: rest) a w :=
  wpList_plain hgd fun K hK => by
    obtain ⟨v', w', hr, h2, h3⟩ := run_appS w base v xv l ys hv hx hlen hbase
    unfold Oper.wp execOp
    simp only [ho, hty, resolve, invoke, builtin, Sem.run_bind, Sem.run_pure, Result.andThen_ok, List.map_toArray, List.map_cons, List.map_nil, hs, hxe, hr]
    exact hK _ _ (h v' w' h2 ((Below.refl base w).grown h3 hbase fun k e => (hv.lt k e).1))
set_option maxRecDepth 100000 in
set_option maxHeartbeats 4000000 in
theorem sameTexts_any {w : World} {x y : Option Addr} {n m c d : Nat} {l r : List ByteArray} (hl : RdS w x l) (hln : l.length = n) (hr : RdS w y r) (hrn : r.length = m) (hn : n ≤ 1000000) (hm : m ≤ 1000000) :
    Calls Try.prog 17 #[.slice x n c, .slice y m d] w fun e w' => e = .returned (.bool (decide (l = r))) ∧ Below w.heap.size w w' := by
  by_cases hnm : n = m
  · subst hnm
    have HL := Lib.hid hl
    have HR := Lib.hid hr
    have HLn := Lib.hid hln
    have HRn := Lib.hid hrn
    clear hl hr hln hrn
    go_enter Try.func17, Try.ntmps17
    go_wp2
    go_loopw [5] (fun p W => ∃ k : Nat, p = .int .i64 k ∧ k ≤ n ∧ Hid (l.take k = r.take k) ∧ Below w.heap.size w W) (fun p W => n - (intOf p).toNat)
    case atStart => exact ⟨0, rfl, Nat.zero_le _, Lib.hid rfl, Below.refl _ _⟩
    case round =>
      obtain ⟨k, rfl, hk, hT, hB⟩ := hrel
      have HB := Lib.hid hB
      clear hB
      by_cases hlt : k < n
      · obtain ⟨u, rfl, hub, huc⟩ := (HL.out.below HB.out) k (by rw [HLn.out]; exact hlt)
        obtain ⟨v, rfl, hvb, hvc⟩ := (HR.out.below HB.out) k (by rw [HRn.out]; exact hlt)
        obtain ⟨s, hs⟩ : ∃ s, l[k]'(by rw [HLn.out]; exact hlt) = s := ⟨_, rfl⟩
        obtain ⟨t, ht⟩ : ∃ t, r[k]'(by rw [HRn.out]; exact hlt) = t := ⟨_, rfl⟩
        rw [hs] at huc
        rw [ht] at hvc
        have HSk := Lib.hid (show l[k]? = some s by rw [List.getElem?_eq_getElem (by rw [HLn.out]; exact hlt), hs])
        have HTk := Lib.hid (show r[k]? = some t by rw [List.getElem?_eq_getElem (by rw [HRn.out]; exact hlt), ht])
        clear hs ht hub hvb
        have hls : l.take (k + 1) = l.take k ++ [s] := by rw [List.take_add_one, HSk.out]; rfl
        have hrs : r.take (k + 1) = r.take k ++ [t] := by rw [List.take_add_one, HTk.out]; rfl
        have HLs := Lib.hid hls
        have HRs := Lib.hid hrs
        clear hls hrs
        by_cases hst : s = t
        · subst hst
          go_wp2
          go_quiet (fail)
          go_wp2
          exact ⟨⟨k + 1, by go_num, by omega, Lib.hid (by rw [HLs.out, HRs.out, hT.out]), below_drewN' HB.out nq⟩, by simp only [intOf]; omega⟩
        · have hss : (s.toList == t.toList) = false := beq_eq_false_iff_ne.2 (fun h => hst (by
            rw [ByteArray.toList_eq, ByteArray.toList_eq] at h
            exact ByteArray.ext (Array.toList_inj.1 h)))
          have HN := Lib.hid (show decide (l = r) = false from decide_eq_false (fun e => hst (by
            have h1 := HSk.out
            rw [e, HTk.out] at h1
            exact (Option.some.inj h1).symm)))
          go_wp2
          go_quiet (fail)
          go_wp2
          go_ret
          exact ⟨ret_bool HN.out.symm, below_drewN' HB.out nq⟩
      · obtain rfl : k = n := by omega
        go_wp2
        go_ret
        refine ⟨ret_bool ?_, HB.out⟩
        have := hT.out
        rw [List.take_of_length_le (by rw [HLn.out]; exact Nat.le_refl _), List.take_of_length_le (by rw [HRn.out]; exact Nat.le_refl _)] at this
        simp [this]
  · have hne : ((n : Int) != (m : Int)) = true := bne_iff_ne.2 (by omega)
    have hd : decide (l = r) = false := decide_eq_false (fun e => hnm (by rw [← hln, ← hrn, e]))
    rw [hd]
    clear hl hr hln hrn hd
    go_enter Try.func17, Try.ntmps17
    go_wp2
    go_ret
    exact ⟨rfl, Below.refl _ _⟩
/-- The mark behind a lent list. -/
abbrev markS : ByteArray := ⟨#[109, 97, 114, 107]⟩
theorem strRow_form {w : World} {base n : Nat} {v : Value} {l : List ByteArray} (h : StrRow w base v l) (hl : l.length = n) (h0 : 0 < n) : ∃ g c, v = .slice (some ⟨g, 0, none⟩) n c ∧ base ≤ g ∧ g < w.heap.size ∧ n ≤ c := by
  unfold StrRow at h
  rw [hl] at h
  rcases h.2 with ⟨_, h1⟩ | ⟨g, cap, cur, rfl, hb, hg, h1, _⟩
  · omega
  · exact ⟨g, cap, rfl, hb, (Array.getElem?_eq_some_iff.1 hg).1, h1⟩
set_option maxRecDepth 100000 in
set_option maxHeartbeats 4000000 in
theorem lent_any {w : World} {x : Option Addr} {n c : Nat} {ns : List ByteArray} (hx : RdX w (.slice x n c) ns) (hn : ns.length = n) (hlim : n ≤ 100000) :
    Calls Try.prog 7 #[.slice x n c] w fun e w' => ∃ g cap, e = .returned (.slice (some ⟨g, 0, none⟩) n cap) ∧ n + 1 ≤ cap ∧ w.heap.size ≤ g ∧ g < w'.heap.size ∧ StrRow w' w.heap.size (.slice (some ⟨g, 0, none⟩) (n + 1) cap) (ns ++ [markS]) ∧ Below w.heap.size w w' := by
  have HX := Lib.hid hx
  have HN := Lib.hid hn
  have HL := Lib.hid (show ([] : List ByteArray).length + ns.length ≤ 1000000 by rw [hn]; simp; omega)
  have HL2 := Lib.hid (show ([] ++ ns : List ByteArray).length + [markS].length ≤ 1000000 by rw [List.nil_append, hn]; simp; omega)
  clear hx hn
  go_enter Try.func7, Try.ntmps7
  go_wp2_with (first
    | (at_builtin; refine wpList_appS rfl _ _ rfl rfl w.heap.size (.slice none 0 0) (.slice x n c) [] ns rfl rfl (strRow_nil _ _) HX.out HL.out (Nat.le_refl _) ?_; intro v3 w3 ho3 hB3; have HO3 := Lib.hid ho3; have HB3 := Lib.hid hB3; clear ho3 hB3)
    | (at_builtin; refine wpList_appS rfl _ _ rfl rfl w.heap.size v3 (.slice (some ⟨w3.heap.size, 0, none⟩) 1 1) ([] ++ ns) [markS] rfl rfl (HO3.out.alloc _) (RdX.blk (l := [markS]) (BlkAt.new w3 9 #[.string markS])) HL2.out (by have := HB3.out.size; rw [World.size_alloc]; omega) ?_; intro v5 w5 ho5 hB5; have HB5 := Lib.hid ((HB3.out.alloc HB3.out.size (Obj.cells #[.string markS] 9)).trans hB5); have ho5' : StrRow w5 w.heap.size v5 (ns ++ [markS]) := ho5; obtain ⟨g, cap, rfl, hg1, hg2, hg3⟩ := strRow_form ho5' (show (ns ++ [markS]).length = n + 1 by rw [List.length_append, HN.out]; rfl) (by omega); have HO5 := Lib.hid ho5'; have hnc : n ≤ cap := (by omega); clear ho5 ho5' hB5))
  go_ret
  exact ⟨_, _, rfl, hg3, hg1, hg2, HO5.out, HB5.out⟩
set_option maxRecDepth 100000 in
set_option maxHeartbeats 4000000 in
theorem stays_any {w : World} {g n cap : Nat} {y : Option Addr} {d : Nat} {ns : List ByteArray} (h : RdS w (some ⟨g, 0, none⟩) (ns ++ [markS])) (hn : ns.length = n) (hc : n + 1 ≤ cap) (hy : RdS w y ns) (hlim : n ≤ 100000) :
    Calls Try.prog 9 #[.slice (some ⟨g, 0, none⟩) n cap, .slice y n d] w fun e w' => e = .returned (.bool true) ∧ Below w.heap.size w w' := by
  have h1 : RdS w (some ⟨g, 0, none⟩) ns := fun i hi => by
    obtain ⟨x, hx, hb, hcl⟩ := h i (by rw [List.length_append]; omega)
    exact ⟨x, hx, hb, by rw [hcl, List.getElem_append_left hi]⟩
  have HS := Lib.hid (sameTexts_any (c := cap) (d := d) h1 hn hy hn (by omega) (by omega))
  have HC := Lib.hid (show (⟨g, 0, none⟩ : Addr).block < w.heap.size ∧ w.cell? ⟨g, n, none⟩ = some (.string markS) by
    obtain ⟨x, hx, hb, hcl⟩ := h n (by rw [List.length_append, hn]; simp)
    cases hx
    have hadd : (⟨g, 0, none⟩ : Addr).add n = ⟨g, n, none⟩ := by unfold Addr.add; split <;> simp_all
    rw [hadd] at hcl
    refine ⟨hb, ?_⟩
    rw [hcl, List.getElem_append_right (by omega)]
    simp [hn])
  have hnI : (n : Int) + 1 ≤ (cap : Int) := by omega
  have hnJ : (n : Int) ≤ 100000 := by omega
  clear h h1 hn hy
  go_enter Try.func9, Try.ntmps9
  go_wp2_with fail
  refine HS.out.mono ?_
  clear HS
  rintro e w3 ⟨rfl, hB3⟩
  have c1 : w3.cell? ⟨g, n, none⟩ = some (.string markS) := (hB3.cell (p := ⟨g, n, none⟩) HC.out.1).trans HC.out.2
  have HB3 := Lib.hid hB3
  rw [show decide True = true from rfl]
  clear hB3
  go_wp2
  go_ret
  exact ⟨rfl, HB3.out⟩
end Go.Proofs.Ytajnpmhgldfgfaa
namespace Go.Proofs.Ytajnpmhgldfgfaa
open Go.RowKit
set_option linter.unusedVariables false

/-- How much room is left. -/
def roomX : Int → List Int → Int
  | left, [] => left
  | left, x :: t => if left < 0 ∨ left < x then -1 else roomX (left - x) t
theorem roomX_drop {l : List Int} {i : Nat} {x : Int} (h : l[i]? = some x) (left : Int) : roomX left (l.drop i) = if left < 0 ∨ left < x then -1 else roomX (left - x) (l.drop (i + 1)) := by
  obtain ⟨h1, h2⟩ := List.getElem?_eq_some_iff.1 h
  rw [List.drop_eq_getElem_cons h1, h2, roomX]

set_option maxRecDepth 100000 in
set_option maxHeartbeats 4000000 in
theorem room_any {W : World} {v : Value} {l : List Int} (h : IntRd W v l) (hl : l.length ≤ 1000000) (hx : ∀ x ∈ l, 0 ≤ x ∧ x ≤ 9223372036854775807) (left : Int) (h0 : -1 ≤ left) (h1 : left ≤ 1000000) :
    Calls Try.prog 5 #[.int .i64 left, v] W fun e W' => e = .returned (.int .i64 (roomX left l)) ∧ Below W.heap.size W W' := by
  obtain ⟨a, c, rfl, h2⟩ := h
  obtain ⟨n, hnn⟩ : ∃ n, l.length = n := ⟨_, rfl⟩
  have H2 := Lib.hid h2
  have HN := Lib.hid hnn
  have HX := Lib.hid hx
  rw [hnn] at hl ⊢
  clear h2 hnn hx
  go_enter Try.func5, Try.ntmps5
  go_wp2
  go_loopw [0, 5] (fun p q wr => ∃ (i : Nat) (cur : Int), q = .int .i64 (i : Nat) ∧ p = .int .i64 cur ∧ i ≤ n ∧ -1 ≤ cur ∧ cur ≤ 1000000 ∧ roomX left l = roomX cur (l.drop i) ∧ Below W.heap.size W wr) (fun p q wr => n - (intOf q).toNat)
  case atStart => exact ⟨0, left, rfl, rfl, Nat.zero_le _, h0, h1, rfl, Below.refl _ _⟩
  case round =>
    obtain ⟨i, cur, rfl, rfl, hi, hc1, hc2, hr, hB⟩ := hrel
    have HR := Lib.hid hr
    have HB := Lib.hid hB
    clear hr hB
    by_cases hlt : i < n
    · obtain ⟨x, hx⟩ : ∃ x, l[i]? = some x := ⟨_, List.getElem?_eq_getElem (by rw [HN.out]; exact hlt)⟩
      obtain ⟨b, o, rfl, hb, g⟩ := H2.out (fun h0 => by have h1 := HN.out; rw [h0] at h1; have h3 : (0 : Nat) = n := h1; omega)
      have hc : wr.cell? ⟨b, o + i, none⟩ = some (.int .i64 x) := ((HB.out.cell (p := ⟨b, o + i, none⟩) hb).trans (g i (by rw [HN.out]; exact hlt))).trans (by rw [List.getD_eq_getElem?_getD, hx]; rfl)
      obtain ⟨hx1, hx2⟩ := HX.out x (List.mem_of_getElem? hx)
      have HD := Lib.hid (roomX_drop hx cur)
      clear g hx hb
      by_cases hneg : cur < 0
      · have HF := Lib.hid (show roomX left l = -1 by rw [HR.out, HD.out, if_pos (.inl hneg)])
        go_wp2
        go_ret
        exact ⟨by rw [HF.out]; rfl, HB.out⟩
      · by_cases hbig : cur < x
        · have HF := Lib.hid (show roomX left l = -1 by rw [HR.out, HD.out, if_pos (.inr hbig)])
          go_wp2
          go_ret
          exact ⟨by rw [HF.out]; rfl, HB.out⟩
        · have HF := Lib.hid (show roomX left l = roomX (cur - x) (l.drop (i + 1)) by rw [HR.out, HD.out, if_neg (by omega)])
          go_wp2
          go_roundw
          case rel => exact ⟨i + 1, cur - x, by go_num, by go_num, hlt, by omega, by omega, HF.out, HB.out⟩
          case measure => simp [intOf]; omega
    · obtain rfl : i = n := by omega
      have HF := Lib.hid (show roomX left l = cur by rw [HR.out, List.drop_of_length_le (by rw [HN.out]; exact Nat.le_refl _)]; rfl)
      go_wp2
      go_ret
      exact ⟨by rw [HF.out]; rfl, HB.out⟩
end Go.Proofs.Ytajnpmhgldfgfaa
namespace Go.Proofs.Ytajnpmhgldfgfaa
open Go.RowKit
set_option linter.unusedVariables false

/-- Room over four sizes in a block. -/
theorem room_four {W : World} {g : Nat} {a b c d : Int} (hb : BlkAt W g 3 #[.int .i64 a, .int .i64 b, .int .i64 c, .int .i64 d]) (ha : 0 ≤ a ∧ a ≤ 9223372036854775807) (hb2 : 0 ≤ b ∧ b ≤ 9223372036854775807) (hc : 0 ≤ c ∧ c ≤ 9223372036854775807) (hd : 0 ≤ d ∧ d ≤ 9223372036854775807) (left : Int) (h0 : -1 ≤ left) (h1 : left ≤ 1000000) :
    Calls Try.prog 5 #[.int .i64 left, .slice (some ⟨g, 0, none⟩) 4 4] W fun e W' => e = .returned (.int .i64 (roomX left [a, b, c, d])) ∧ Below W.heap.size W W' := by
  have hr : IntRd W (.slice (some ⟨g, 0, none⟩) 4 4) [a, b, c, d] := ⟨_, _, rfl, fun _ => ⟨g, 0, rfl, hb.lt, fun j hj => by
    rw [Nat.zero_add, hb.cell j]
    match j, hj with
    | 0, _ => rfl
    | 1, _ => rfl
    | 2, _ => rfl
    | 3, _ => rfl⟩⟩
  exact room_any hr (by simp) (fun x hx => by
    simp only [List.mem_cons, List.not_mem_nil, or_false] at hx
    rcases hx with rfl | rfl | rfl | rfl
    · exact ha
    · exact hb2
    · exact hc
    · exact hd) left h0 h1
/-- What Room leaves of four sizes. -/
theorem roomX_four {left a b c d : Int} (h : 0 ≤ roomX left [a, b, c, d]) (ha : 0 ≤ a) (hb : 0 ≤ b) (hc : 0 ≤ c) (hd : 0 ≤ d) : 0 ≤ left ∧ a ≤ left ∧ b ≤ left ∧ c ≤ left ∧ d ≤ left ∧ roomX left [a, b, c, d] ≤ left := by
  unfold roomX at h ⊢
  split at h
  · omega
  · unfold roomX at h ⊢
    split at h
    · omega
    · unfold roomX at h ⊢
      split at h
      · omega
      · unfold roomX at h ⊢
        split at h
        · omega
        · rename_i h1 h2 h3 h4
          unfold roomX at h ⊢
          rw [if_neg h1, if_neg h2, if_neg h3, if_neg h4]
          omega
theorem roomX_low {left : Int} (l : List Int) (h : -1 ≤ left) (hl : ∀ x ∈ l, 0 ≤ x) : -1 ≤ roomX left l ∧ roomX left l ≤ max left (-1) := by
  induction l generalizing left with
  | nil => unfold roomX; omega
  | cons a l ih =>
    unfold roomX
    split
    · omega
    · rename_i hc
      have := ih (left := left - a) (by omega) (fun x hx => hl x (List.mem_cons_of_mem _ hx))
      have := hl a List.mem_cons_self
      omega
end Go.Proofs.Ytajnpmhgldfgfaa
namespace Go.Proofs.Ytajnpmhgldfgfaa
open Go.RowKit
set_option linter.unusedVariables false

/-- A call of a writer. -/
structure OpW where
  kind : Int
  s : ByteArray
  ps : List ByteArray
instance : Inhabited OpW := ⟨⟨0, ⟨#[]⟩, []⟩⟩
def stepW (s : WS) (o : OpW) : WS := if o.kind = 1 then openW o.s o.ps s else if o.kind = 2 then textW o.s s else closeW s
def newW : WS := ⟨[], [], false, false⟩
def runW (l : List OpW) : WS := l.foldl stepW newW
theorem runW_snoc {l : List OpW} {k : Nat} {o : OpW} (h : l[k]? = some o) : runW (l.take (k + 1)) = stepW (runW (l.take k)) o := by
  unfold runW
  rw [List.take_add_one, h, List.foldl_append]
  rfl
/-- Is a call small? -/
structure OkO (o : OpW) : Prop where
  s : o.s.size ≤ 4000
  ps : o.ps.length ≤ 20
  each : ∀ x ∈ o.ps, x.size ≤ 1000
/-- Those that are open stand one in the other. -/
def ChainE (els : List XW) : List Nat → Prop
  | [] => True
  | k :: t => (∃ e, els[k]? = some e ∧ e.up = upK t) ∧ ChainE els t
/-- An element stays small. -/
structure GoodE (k : Nat) (e : XW) : Prop where
  name : e.name.size ≤ 4000
  text : e.text.size ≤ 4000 * k
  attrs : e.attrs.length ≤ 10
  each : ∀ x ∈ e.attrs, x.1.size ≤ 1000 ∧ x.2.size ≤ 1000
  kids : e.kids.length ≤ k
structure GoodW (k : Nat) (s : WS) : Prop where
  els : s.els.length ≤ k
  op : s.op.length ≤ k
  lt : ∀ j ∈ s.op, j < s.els.length
  each : ∀ e ∈ s.els, GoodE k e
  chain : ChainE s.els s.op
theorem GoodE.up {k : Nat} {e : XW} (h : GoodE k e) : GoodE (k + 1) e := ⟨h.name, by have := h.text; omega, h.attrs, h.each, by have := h.kids; omega⟩
theorem GoodW.bad {k : Nat} {s : WS} (h : GoodW k s) (b : Bool) : GoodW (k + 1) { s with bad := b } :=
  ⟨by have := h.els; exact Nat.le_succ_of_le this, by have := h.op; exact Nat.le_succ_of_le this, h.lt, fun e he => (h.each e he).up, h.chain⟩
theorem GoodW.new : GoodW 0 newW := ⟨Nat.le_refl _, Nat.le_refl _, (fun j hj => nomatch hj), (fun e he => nomatch he), trivial⟩
theorem chain_modify {els : List XW} {f : XW → XW} (hf : ∀ e, (f e).up = e.up) (u : Nat) : ∀ op, ChainE els op → ChainE (els.modify u f) op
  | [], _ => trivial
  | k :: t, ⟨⟨e, h1, h2⟩, h3⟩ => by
    refine ⟨?_, chain_modify hf u t h3⟩
    rw [List.getElem?_modify, h1]
    by_cases hu : u = k
    · exact ⟨f e, by simp [hu], by rw [hf, h2]⟩
    · exact ⟨e, by simp [hu], h2⟩
theorem chain_snoc {els : List XW} (x : XW) : ∀ op, ChainE els op → ChainE (els ++ [x]) op
  | [], _ => trivial
  | k :: t, ⟨⟨e, h1, h2⟩, h3⟩ => ⟨⟨e, by rw [List.getElem?_append_left (List.getElem?_eq_some_iff.1 h1).1]; exact h1, h2⟩, chain_snoc x t h3⟩
theorem mem_modify {els : List XW} {f : XW → XW} {u : Nat} {x : XW} (h : x ∈ els.modify u f) : x ∈ els ∨ ∃ e ∈ els, x = f e := by
  obtain ⟨i, hi⟩ := List.mem_iff_getElem?.1 h
  rw [List.getElem?_modify] at hi
  obtain ⟨e, he, hx⟩ := Option.map_eq_some_iff.1 hi
  have hm := List.mem_of_getElem? he
  by_cases hu : u = i
  · rw [if_pos hu] at hx
    exact .inr ⟨e, hm, hx.symm⟩
  · rw [if_neg hu] at hx
    exact .inl (by rw [← hx]; exact hm)
theorem GoodE.text_ {k : Nat} {e : XW} {x : ByteArray} (h : GoodE k e) (hx : x.size ≤ 4000) : GoodE (k + 1) (addT x e) :=
  ⟨h.name, by have := h.text; show (e.text ++ x).size ≤ _; rw [ByteArray.size_append]; omega, h.attrs, h.each, by have := h.kids; exact Nat.le_succ_of_le this⟩
theorem GoodE.kid_ {k n : Nat} {e : XW} (h : GoodE k e) : GoodE (k + 1) (addK n e) :=
  ⟨h.name, by have := h.text; show e.text.size ≤ _; omega, h.attrs, h.each, by have := h.kids; show (e.kids ++ [n]).length ≤ _; rw [List.length_append]; simp; omega⟩
theorem pairA_mem : ∀ (l : List ByteArray) (x : ByteArray × ByteArray), x ∈ pairA l → x.1 ∈ l ∧ x.2 ∈ l
  | [], x, h => nomatch h
  | [a], x, h => nomatch h
  | a :: b :: r, x, h => by
    rcases List.mem_cons.1 h with rfl | h
    · exact ⟨by simp, by simp⟩
    · have := pairA_mem r x h
      exact ⟨by simp [this.1], by simp [this.2]⟩
theorem elsK_len (els : List XW) (op : List Nat) : (elsK els op).length = els.length := by
  cases op with
  | nil => rfl
  | cons u t => exact List.length_modify ..
theorem upK_nn {op : List Nat} (h : op ≠ []) : 0 ≤ upK op := by
  cases op with
  | nil => exact absurd rfl h
  | cons u t => exact Int.natCast_nonneg u
theorem openW_bad (nm : ByteArray) (ps : List ByteArray) {s : WS} (h : s.bad = true) : openW nm ps s = s := by unfold openW; rw [if_pos h]
theorem openW_odd (nm : ByteArray) {ps : List ByteArray} {s : WS} (h : s.bad = false) (ho : ps.length % 2 = 1) : openW nm ps s = { s with bad := true } := by unfold openW; rw [if_neg (by simp [h]), if_pos ho]
theorem openW_ok (nm : ByteArray) {ps : List ByteArray} {s : WS} (h : s.bad = false) (ho : ps.length % 2 = 0) : openW nm ps s = { els := elsK s.els s.op ++ [⟨nm, upK s.op, pairA ps, [], ⟨#[]⟩⟩], op := s.els.length :: s.op, more := s.more || (decide (upK s.op < 0) && decide (0 < s.els.length)), bad := false } := by
  unfold openW; rw [if_neg (by simp [h]), if_neg (by omega)]
theorem textW_bad (x : ByteArray) {s : WS} (h : s.bad = true) : textW x s = s := by unfold textW; rw [if_pos h]
theorem textW_nil (x : ByteArray) (els : List XW) (more : Bool) : textW x ⟨els, [], more, false⟩ = ⟨els, [], more, true⟩ := rfl
theorem textW_cons (x : ByteArray) (els : List XW) (u : Nat) (t : List Nat) (more : Bool) : textW x ⟨els, u :: t, more, false⟩ = ⟨els.modify u (addT x), u :: t, more, false⟩ := rfl
theorem closeW_bad {s : WS} (h : s.bad = true) : closeW s = s := by unfold closeW; rw [if_pos h]
theorem closeW_nil (els : List XW) (more : Bool) : closeW ⟨els, [], more, false⟩ = ⟨els, [], more, true⟩ := rfl
theorem closeW_cons (els : List XW) (u : Nat) (t : List Nat) (more : Bool) : closeW ⟨els, u :: t, more, false⟩ = ⟨els, t, more, false⟩ := rfl
theorem GoodW.open_ {k : Nat} {els : List XW} {op : List Nat} {more bad : Bool} {o : OpW} (h : GoodW k ⟨els, op, more, bad⟩) (ho : OkO o) (m b : Bool) :
    GoodW (k + 1) ⟨elsK els op ++ [⟨o.s, upK op, pairA o.ps, [], ⟨#[]⟩⟩], els.length :: op, m, b⟩ := by
  obtain ⟨h1, h2, h3, h4, h5⟩ := h
  simp only at h1 h2 h3 h4 h5
  refine ⟨?_, ?_, fun j hj => ?_, fun e he => ?_, ⟨⟨⟨o.s, upK op, pairA o.ps, [], ⟨#[]⟩⟩, ?_, rfl⟩, ?_⟩⟩
  · show (elsK els op ++ [_]).length ≤ _
    rw [List.length_append, elsK_len]; simp; omega
  · show (els.length :: op).length ≤ _
    simp; omega
  · show j < (elsK els op ++ [_]).length
    rw [List.length_append, elsK_len]
    rcases List.mem_cons.1 hj with rfl | hj
    · simp
    · have := h3 j hj
      simp; omega
  · rcases List.mem_append.1 he with he | he
    · cases op with
      | nil => exact (h4 e he).up
      | cons u t =>
        rcases mem_modify he with he | ⟨e', he', rfl⟩
        · exact (h4 e he).up
        · exact (h4 e' he').kid_
    · obtain rfl := List.mem_singleton.1 he
      refine ⟨ho.s, Nat.zero_le _, ?_, fun x hx => ?_, Nat.zero_le _⟩
      · show (pairA o.ps).length ≤ 10
        rw [pairA_len]
        have := ho.ps
        omega
      · have := pairA_mem _ x hx
        exact ⟨ho.each _ this.1, ho.each _ this.2⟩
  · show (elsK els op ++ [_])[els.length]? = _
    rw [List.getElem?_append_right (by rw [elsK_len]; exact Nat.le_refl _), elsK_len]
    simp
  · refine chain_snoc _ _ ?_
    cases op with
    | nil => trivial
    | cons u t => exact chain_modify (f := addK els.length) (fun e => rfl) u _ h5
theorem GoodW.step {k : Nat} {s : WS} {o : OpW} (h : GoodW k s) (ho : OkO o) : GoodW (k + 1) (stepW s o) := by
  obtain ⟨els, op, more, bad⟩ := s
  have hb : ∀ b, GoodW (k + 1) ⟨els, op, more, b⟩ := fun b => h.bad b
  have hop := h.open_ ho
  obtain ⟨h1, h2, h3, h4, h5⟩ := h
  simp only at h1 h2 h3 h4 h5
  unfold stepW
  cases bad with
  | true =>
    rw [openW_bad _ _ rfl, textW_bad _ rfl, closeW_bad rfl]
    split
    · exact hb true
    · split <;> exact hb true
  | false =>
    split
    · by_cases hev : o.ps.length % 2 = 1
      · rw [openW_odd _ rfl hev]; exact hb true
      · rw [openW_ok _ rfl (by omega)]; exact hop _ _
    · split
      · cases op with
        | nil => rw [textW_nil]; exact hb true
        | cons u t =>
          rw [textW_cons]
          refine ⟨?_, Nat.le_succ_of_le h2, fun j hj => ?_, fun e he => ?_, chain_modify (f := addT o.s) (fun e => rfl) u _ h5⟩
          · show (els.modify u _).length ≤ _
            rw [List.length_modify]; omega
          · show j < (els.modify u _).length
            rw [List.length_modify]
            exact h3 j hj
          · rcases mem_modify he with he | ⟨e', he', rfl⟩
            · exact (h4 e he).up
            · exact (h4 e' he').text_ ho.s
      · cases op with
        | nil => rw [closeW_nil]; exact hb true
        | cons u t =>
          rw [closeW_cons]
          exact ⟨Nat.le_succ_of_le h1, by simp at h2 ⊢; omega, fun j hj => h3 j (List.mem_cons_of_mem _ hj), fun e he => (h4 e he).up, h5.2⟩
/-- How many roots there are: none of nothing; more than one. -/
def RootR (s : WS) (r : Nat) : Prop := (s.more = true ↔ 2 ≤ r) ∧ (r = 0 ↔ s.els = [])
theorem RootR.new : RootR newW 0 := ⟨by simp [newW], by simp [newW]⟩
theorem modify_nil {els : List XW} {u : Nat} {f : XW → XW} : els.modify u f = [] ↔ els = [] := by
  rw [← List.length_eq_zero_iff, List.length_modify, List.length_eq_zero_iff]
theorem RootR.text {s : WS} {r : Nat} (h : RootR s r) (x : ByteArray) : RootR (textW x s) r := by
  unfold textW
  split
  · exact h
  · split
    · exact h
    · exact ⟨h.1, h.2.trans modify_nil.symm⟩
theorem RootR.close {s : WS} {r : Nat} (h : RootR s r) : RootR (closeW s) r := by
  unfold closeW
  split
  · exact h
  · split <;> exact h
/-- A root more; no root more. -/
theorem RootR.root {nm : ByteArray} {ps : List ByteArray} {s : WS} {r : Nat} (h : RootR s r) (hb : s.bad = false) (ho : ps.length % 2 = 0) (hop : s.op = []) : RootR (openW nm ps s) (r + 1) := by
  rw [openW_ok _ hb ho, hop]
  refine ⟨?_, by simp⟩
  have h1 := h.1
  have h2 := h.2
  show (s.more || (decide (upK [] < 0) && decide (0 < s.els.length))) = true ↔ 2 ≤ r + 1
  have h3 : upK [] < 0 := by decide
  rw [decide_eq_true h3, Bool.true_and, Bool.or_eq_true, h1, decide_eq_true_iff]
  have h4 : 0 < s.els.length ↔ r ≠ 0 := by
    rw [List.length_pos_iff]
    exact not_congr h2.symm
  rw [h4]
  omega
theorem RootR.kid {nm : ByteArray} {ps : List ByteArray} {s : WS} {r : Nat} (h : RootR s r) (hb : s.bad = false) (ho : ps.length % 2 = 0) (hop : s.op ≠ []) (hlt : ∀ j ∈ s.op, j < s.els.length) : RootR (openW nm ps s) r := by
  rw [openW_ok _ hb ho]
  have hn := upK_nn hop
  have hne : s.els ≠ [] := by
    obtain ⟨u, t, hu⟩ := List.exists_cons_of_ne_nil hop
    have := hlt u (by rw [hu]; simp)
    intro e
    rw [e] at this
    simp at this
  refine ⟨?_, ?_⟩
  · show (s.more || (decide (upK s.op < 0) && decide (0 < s.els.length))) = true ↔ 2 ≤ r
    rw [decide_eq_false (by omega), Bool.false_and, Bool.or_false]
    exact h.1
  · constructor
    · intro e
      exact absurd (h.2.1 e) hne
    · intro e
      simp at e
theorem RootR.same {s : WS} {r : Nat} (h : RootR s r) (b : Bool) : RootR { s with bad := b } r := h
/-- What is refused at the end. -/
theorem done_bad {s : WS} {r : Nat} (h : RootR s r) (hc : s.bad = true ∨ s.op ≠ [] ∨ r ≠ 1) : doneW s = ([], 1) := by
  unfold doneW
  split
  · rfl
  · rename_i hb
    split
    · rfl
    · rename_i hn
      rw [not_or] at hn
      rcases hc with hc | hc | hc
      · exact absurd hc hb
      · exact absurd hc hn.1
      · have h0 : r = 0 := by
          have := mt h.1.2 hn.2
          omega
        have he := h.2.1 h0
        rw [he]
        unfold printE printX
        rw [if_neg (by simp)]
theorem done_good {s : WS} {r : Nat} (h : RootR s r) (hb : s.bad = false) (ho : s.op = []) (hr : r = 1) : doneW s = printE s.els := by
  unfold doneW
  rw [if_neg (by simp [hb]), if_neg]
  rintro (h1 | h1)
  · exact h1 ho
  · have := h.1.1 h1
    omega
theorem GoodW.sm {k : Nat} {s : WS} (h : GoodW k s) (hk : k ≤ 60) : SmX s.els :=
  ⟨by have := h.els; omega, fun e he => by
    have g := h.each e he
    refine ⟨by have := g.name; omega, by have := g.text; omega, by have := g.attrs; omega, fun x hx => ?_, by have := g.kids; omega⟩
    have := g.each x hx
    omega⟩
end Go.Proofs.Ytajnpmhgldfgfaa
namespace Go.Proofs.Ytajnpmhgldfgfaa
open Go.RowKit
set_option linter.unusedVariables false

/-- One more kid of an element. -/
theorem ElemsW.kid {tE tA : TypeId} {n0 g cap gg kc u n : Nat} {els : List XW} {es : List QW} {W W1 : World} {q : QW} (h : ElemsW tE tA n0 els es (.slice (some ⟨g, 0, none⟩) es.length cap) W) (hEA : tE ≠ tA) (hEI : tE ≠ 3) (hAI : tA ≠ 3) (hbs : n0 ≤ W.heap.size) (hq : es[u]? = some q)
    (hown : W1.ownsRow n0 3 1 (.slice (some ⟨gg, 0, none⟩) (q.1.kids.length + 1) kc) (q.1.kids.length + 1) (intCells q.1.kids ++ [.int .i64 n])) (hgrow : W.grownBy W1 q.2.2.ownBlock) (hat : q.2.2.ownBlock = some gg ∨ gg = W.heap.size) :
    ElemsW tE tA n0 (els.modify u (addK n)) (es.set u (addK n q.1, q.2.1, .slice (some ⟨gg, 0, none⟩) (q.1.kids.length + 1) kc)) (.slice (some ⟨g, 0, none⟩) es.length cap) (W1.setCell ⟨g, u * 6 + 4, none⟩ (.slice (some ⟨gg, 0, none⟩) (q.1.kids.length + 1) kc)) ∧
      KeepF n0 (FootE es (.slice (some ⟨g, 0, none⟩) es.length cap)) W (W1.setCell ⟨g, u * 6 + 4, none⟩ (.slice (some ⟨gg, 0, none⟩) (q.1.kids.length + 1) kc)) ∧
      ∀ k, FootE (es.set u (addK n q.1, q.2.1, .slice (some ⟨gg, 0, none⟩) (q.1.kids.length + 1) kc)) (.slice (some ⟨g, 0, none⟩) es.length cap) k → FootE es (.slice (some ⟨g, 0, none⟩) es.length cap) k ∨ W.heap.size ≤ k := by
  have hqm : q ∈ es := List.mem_of_getElem? hq
  have hkq := h.kids q hqm
  have hT : ∀ {e : TypeId} {size n : Nat} {v : Value} {xs : List Value}, W.ownsRow n0 e size v n xs → e ≠ 3 → W1.ownsRow n0 e size v n xs := fun ho hne => (KeepT.grown hkq hne hgrow).owns ho
  have hI : ∀ {n : Nat} {v : Value} {xs : List Value}, W.ownsRow n0 3 1 v n xs → (∀ g, v.ownBlock = some g → q.2.2.ownBlock ≠ some g) → W1.ownsRow n0 3 1 v n xs := fun ho hne =>
    own_keep ho fun g hg => hgrow.block g (own_lt ho hg) (fun e => hne g hg e.symm)
  have hE1 : W1.ownsRow n0 tE 6 (.slice (some ⟨g, 0, none⟩) es.length cap) es.length (es.flatMap wCells) := hT h.row hEI
  obtain ⟨h1, h2⟩ := hE1.stored (u * 6 + 4) (.slice (some ⟨gg, 0, none⟩) (q.1.kids.length + 1) kc)
  rw [flat_setW wCells 6 (fun x => rfl) es u 4 q (addK n q.1, q.2.1, .slice (some ⟨gg, 0, none⟩) (q.1.kids.length + 1) kc) _ hq (by omega) rfl] at h1
  have hS : ∀ {e : TypeId} {size n : Nat} {v : Value} {xs : List Value}, W1.ownsRow n0 e size v n xs → e ≠ tE → (W1.setCell ⟨g, u * 6 + 4, none⟩ (.slice (some ⟨gg, 0, none⟩) (q.1.kids.length + 1) kc)).ownsRow n0 e size v n xs := fun ho hne =>
    (KeepT.grown (v := .slice (some ⟨g, 0, none⟩) es.length cap) hE1 hne h2).owns ho
  have hnew : ∀ r ∈ es, ∀ k, r.2.2.ownBlock = some k → gg = k → q.2.2.ownBlock = some k := fun r hr k hk e => by
    subst e
    rcases hat with h7 | h7
    · exact h7
    · have := own_lt (h.kids r hr) hk
      omega
  have hgF : ∀ k, some g = some k → FootE es (.slice (some ⟨g, 0, none⟩) es.length cap) k := fun k e => .inl e
  refine ⟨⟨by rw [List.length_set]; exact h1, ?_, ?_, ?_, ?_⟩, ?_, ?_⟩
  · rw [List.map_set, h.told, ← modify_set (f := addK n) (els := els) (u := u) (q := q.1) (by rw [← h.told, List.getElem?_map, hq]; rfl)]
  · intro r hr
    rcases List.mem_or_eq_of_mem_set hr with hr | rfl
    · exact hS (hT (h.attrs r hr) hAI) (Ne.symm hEA)
    · exact hS (hT (h.attrs q hqm) hAI) (Ne.symm hEA)
  · intro r hr
    obtain ⟨i, hi, rfl⟩ := List.mem_iff_getElem.1 hr
    rw [List.getElem_set]
    by_cases hiu : u = i
    · rw [if_pos hiu]
      show (_ : World).ownsRow n0 3 1 _ (addK n q.1).kids.length (intCells (addK n q.1).kids)
      have : intCells (addK n q.1).kids = intCells q.1.kids ++ [.int .i64 n] := by simp [intCells, addK]
      rw [this, show (addK n q.1).kids.length = q.1.kids.length + 1 from by simp [addK]]
      exact hS hown (Ne.symm hEI)
    · rw [if_neg hiu]
      rw [List.length_set] at hi
      have hmem : es[i] ∈ es := List.getElem_mem hi
      exact hS (hI (h.kids _ hmem) (fun k hk => h.apart i u _ q k (List.getElem?_eq_getElem hi) hq (Ne.symm hiu) hk)) (Ne.symm hEI)
  · intro i j r r' k hi hj hij hk
    rw [List.getElem?_set] at hi hj
    split at hi
    · rename_i hui
      split at hi
      · cases hi
        rw [if_neg (by omega)] at hj
        have e : gg = k := by simpa [Value.ownBlock] using hk
        intro hk2
        exact h.apart u j q r' k hq hj (by omega) (hnew r' (List.mem_of_getElem? hj) k hk2 e) hk2
      · cases hi
    · rename_i hui
      split at hj
      · split at hj
        · cases hj
          intro hk2
          have e : gg = k := by simpa [Value.ownBlock] using hk2
          exact h.apart i u r q k hi hq (by omega) hk (hnew r (List.mem_of_getElem? hi) k hk e)
        · cases hj
      · exact h.apart i j r r' k hi hj hij hk
  · refine ((KeepF.refl n0 _ W).grown hgrow (fun k e => .inl (.inr ⟨q, hqm, .inl e⟩)) (fun k e => (hkq.lt k e).1) hbs).grown h2 (fun k e => .inl (hgF k e)) (fun k e => by
      have : g = k := Option.some.inj e
      subst this
      exact (h.row.lt _ rfl).1) (Nat.le_trans hbs hgrow.size)
  · intro k hk
    rcases hk with hk | ⟨r, hr, hk⟩
    · exact .inl (.inl hk)
    · rcases List.mem_or_eq_of_mem_set hr with hr | rfl
      · exact .inl (.inr ⟨r, hr, hk⟩)
      · rcases hk with hk | hk
        · have e : gg = k := by simpa [Has, Value.ownBlock] using hk
          subst e
          rcases hat with h5 | h5
          · exact .inl (.inr ⟨q, hqm, .inl h5⟩)
          · exact .inr (by omega)
        · exact .inl (.inr ⟨q, hqm, .inr hk⟩)
/-- One more element. -/
theorem ElemsW.push {tE tA : TypeId} {n0 gg kc : Nat} {els : List XW} {es : List QW} {ev : Value} {W W1 : World} (q : QW) (h : ElemsW tE tA n0 els es ev W) (hEA : tE ≠ tA) (hEI : tE ≠ 3) (hbs : n0 ≤ W.heap.size) (hq : AttrsW tA n0 W q.1.attrs q.2.1) (hk0 : q.1.kids = []) (hk1 : q.2.2 = .slice none 0 0)
    (hown : W1.ownsRow n0 tE 6 (.slice (some ⟨gg, 0, none⟩) (es.length + 1) kc) (es.length + 1) (es.flatMap wCells ++ wCells q)) (hgrow : W.grownBy W1 ev.ownBlock) (hat : ev.ownBlock = some gg ∨ gg = W.heap.size) :
    ElemsW tE tA n0 (els ++ [q.1]) (es ++ [q]) (.slice (some ⟨gg, 0, none⟩) (es.length + 1) kc) W1 ∧ KeepF n0 (FootE es ev) W W1 ∧
      ∀ k, FootE (es ++ [q]) (.slice (some ⟨gg, 0, none⟩) (es.length + 1) kc) k → FootE es ev k ∨ W.heap.size ≤ k ∨ Has q.2.1 k := by
  have hT : ∀ {e : TypeId} {size n : Nat} {v : Value} {xs : List Value}, W.ownsRow n0 e size v n xs → e ≠ tE → W1.ownsRow n0 e size v n xs := fun ho hne => (KeepT.grown h.row hne hgrow).owns ho
  refine ⟨⟨?_, by rw [List.map_append, h.told]; rfl, ?_, ?_, ?_⟩, (KeepF.refl n0 _ W).grown hgrow (fun k e => .inl (.inl e)) (fun k e => (h.row.lt k e).1) hbs, ?_⟩
  · rw [List.length_append, List.flatMap_append, List.flatMap_cons, List.flatMap_nil, List.append_nil]
    exact hown
  · intro r hr
    rcases List.mem_append.1 hr with hr | hr
    · exact hT (h.attrs r hr) (Ne.symm hEA)
    · obtain rfl := List.mem_singleton.1 hr
      exact hT hq (Ne.symm hEA)
  · intro r hr
    rcases List.mem_append.1 hr with hr | hr
    · exact hT (h.kids r hr) (Ne.symm hEI)
    · obtain rfl := List.mem_singleton.1 hr
      rw [hk0, hk1]
      exact World.ownsRow_nil _ _ _ _
  · intro i j r r' k hi hj hij hk
    have hno : ∀ (a : Nat) (s : QW), (es ++ [q])[a]? = some s → (∃ g, s.2.2.ownBlock = some g) → es[a]? = some s := fun a s ha ⟨g, hg⟩ => by
      by_cases hl : a < es.length
      · rwa [List.getElem?_append_left hl] at ha
      · rw [List.getElem?_append_right (by omega)] at ha
        have := List.mem_of_getElem? ha
        obtain rfl := List.mem_singleton.1 this
        rw [hk1] at hg
        cases hg
    intro hk2
    exact h.apart i j r r' k (hno i r hi ⟨k, hk⟩) (hno j r' hj ⟨k, hk2⟩) hij hk hk2
  · intro k hk
    rcases hk with hk | ⟨r, hr, hk⟩
    · have e : gg = k := by simpa [Has, Value.ownBlock] using hk
      subst e
      rcases hat with h5 | h5
      · exact .inl (.inl h5)
      · exact .inr (.inl (by omega))
    · rcases List.mem_append.1 hr with hr | hr
      · exact .inl (.inr ⟨r, hr, hk⟩)
      · obtain rfl := List.mem_singleton.1 hr
        rcases hk with hk | hk
        · rw [hk1] at hk
          cases hk
        · exact .inr (.inr hk)
abbrev rE : TypeId := 43
abbrev rA : TypeId := 45
/-- A writer, and elements of the document's own beside it. -/
structure LawS (n0 wb : Nat) (s : WS) (els : List XW) (es : List QW) (ev ov : Value) (rs : List QW) (rv : Value) (W : World) : Prop where
  wr : WrI n0 wb s.els s.op s.more (codeW s.bad) es ev ov W
  el : ElemsW rE rA n0 els rs rv W
  apart : ∀ g, FootE rs rv g → ¬ FootW wb es ev ov g
theorem LawS.below {n0 wb : Nat} {s : WS} {els : List XW} {es rs : List QW} {ev ov rv : Value} {W W' : World} (h : LawS n0 wb s els es ev ov rs rv W) (hB : Below W.heap.size W W') : LawS n0 wb s els es ev ov rs rv W' :=
  ⟨h.wr.below hB, h.el.below hB, h.apart⟩
/-- A call of the writer. -/
theorem LawS.call {n0 wb : Nat} {s s' : WS} {els : List XW} {es rs : List QW} {ev ov rv : Value} {W W' : World} (h : LawS n0 wb s els es ev ov rs rv W) (hc : WrTo n0 wb W es ev ov s' W') :
    ∃ es' ev' ov', LawS n0 wb s' els es' ev' ov' rs rv W' ∧ Below n0 W W' := by
  obtain ⟨es', ev', ov', h1, h2, h3⟩ := hc
  refine ⟨es', ev', ov', ⟨h1, h.el.foot h2 h.apart, fun g hg hw => ?_⟩, h2.below⟩
  rcases h3 g hw with h4 | h4
  · exact h.apart g hg h4
  · have := (h.el.lt hg).2
    omega
/-- A step of the document's own elements. -/
theorem LawS.ref {n0 wb : Nat} {s : WS} {els els' : List XW} {es rs rs' : List QW} {ev ov rv rv' : Value} {W W' : World} (h : LawS n0 wb s els es ev ov rs rv W) (he : ElemsW rE rA n0 els' rs' rv' W') (hk : KeepF n0 (FootE rs rv) W W')
    (hf : ∀ g, FootE rs' rv' g → FootE rs rv g ∨ ¬ FootW wb es ev ov g) : LawS n0 wb s els' es ev ov rs' rv' W' := by
  refine ⟨h.wr.foot hk (fun g hg hr => h.apart g hr hg), he, fun g hg hw => ?_⟩
  rcases hf g hg with h1 | h1
  · exact h.apart g h1 hw
  · exact h1 hw
theorem LawS.fresh {n0 wb : Nat} {s : WS} {els : List XW} {es rs : List QW} {ev ov rv : Value} {W : World} (h : LawS n0 wb s els es ev ov rs rv W) {g : Nat} (hg : W.heap.size ≤ g) : ¬ FootW wb es ev ov g := fun hw => by
  have := (h.wr.lt hw).2
  omega
/-- What the law's loop keeps. -/
def LawI (n0 wb : Nat) (w0 : World) (s : WS) (rv : Value) (W : World) : Prop := ∃ es ev ov rs, LawS n0 wb s s.els es ev ov rs rv W ∧ Below n0 w0 W
end Go.Proofs.Ytajnpmhgldfgfaa
namespace Go.Proofs.Ytajnpmhgldfgfaa
open Go.RowKit
set_option linter.unusedVariables false

set_option maxRecDepth 100000 in
set_option maxHeartbeats 8000000 in
theorem open_any {n0 wb : Nat} {s : WS} {es : List QW} {ev ov pv : Value} {W : World} {ps : List ByteArray} (nm : ByteArray) (h : WrI n0 wb s.els s.op s.more (codeW s.bad) es ev ov W) (hl : s.op.length ≤ 1000000) (hle : s.els.length ≤ 1000000) (hop : ∀ k ∈ s.op, k < s.els.length)
    (hp : StrRd W pv ps) (hpl : ps.length ≤ 1000000) (hps : ∀ x ∈ ps, x.size ≤ 1000000000) (hn : nm.size ≤ 1000000000) (hkb : ∀ q ∈ s.els, q.kids.length ≤ 1000000) :
    Calls Try.prog 8 #[.pointer (some ⟨wb, 0, none⟩), .string nm, pv] W (WrR n0 wb W es ev ov (openW nm ps s)) := by
  obtain ⟨els, op, more, bad⟩ := s
  simp only at h hl hle hop hkb
  obtain ⟨pa, pc, rfl, -⟩ := id hp
  obtain ⟨M, hM⟩ : ∃ M, ps.length = M := ⟨_, rfl⟩
  cases bad with
  | true =>
    have HF := Lib.hid (fun b => fail_old h b)
    have H := Lib.hid h
    rw [hM] at hpl ⊢
    have q1 : IntKind.i64.wrap ((M : Int) % 2) = (M : Int) % 2 := wrapo (by omega) (by omega)
    have q4 : (M : Int).tmod 2 = (M : Int) % 2 := Int.tmod_eq_emod_of_nonneg (by omega)
    clear h hl hle hop hp hps hn hkb hM
    go_enter Try.func8, Try.ntmps8
    go_wp2_with (go_at_call 15; refine (HF.out _).mono ?_; rintro _ w2 ⟨rfl, rfl⟩)
    go_ret
    exact ⟨rfl, WrTo.same H.out⟩
  | false =>
    by_cases hev : ps.length % 2 = 0
    · exact open_ok nm h hl hle hop hp hpl hps hn hev hkb
    · have HF := Lib.hid (fail_new h)
      have ho : openW nm ps ⟨els, op, more, false⟩ = ⟨els, op, more, true⟩ := by
        unfold openW
        rw [if_neg (by simp), if_pos (by omega)]
      rw [ho]
      rw [hM] at hpl hev ⊢
      have q1 : IntKind.i64.wrap ((M : Int) % 2) = (M : Int) % 2 := wrapo (by omega) (by omega)
      have q2 : (M : Int) % 2 = 1 := by omega
      have q4 : (M : Int).tmod 2 = 1 := by rw [Int.tmod_eq_emod_of_nonneg (by omega)]; omega
      clear h hl hle hop hp hps hn hkb hM ho hev
      go_enter Try.func8, Try.ntmps8
      go_wp2_with (go_at_call 15; refine HF.out.mono ?_; rintro _ w2 ⟨rfl, hW2, hK2⟩; have HW2 := Lib.hid hW2; have HK2 := Lib.hid hK2; clear hW2 hK2)
      go_ret
      exact ⟨rfl, _, _, _, HW2.out, HK2.out, fun k hk => .inl hk⟩
end Go.Proofs.Ytajnpmhgldfgfaa
namespace Go.Proofs.Ytajnpmhgldfgfaa
open Go.RowKit
set_option linter.unusedVariables false

/-- A new writer. -/
theorem WrI.new {n0 wb : Nat} {W : World} (h : BlkAt W wb 36 #[.slice none 0 0, .slice none 0 0, .bool false, .int .i64 0]) (hlo : n0 ≤ wb) : WrI n0 wb newW.els newW.op newW.more (codeW newW.bad) [] (.slice none 0 0) (.slice none 0 0) W :=
  ⟨hlo, h, ElemsW.nil _ _ _ _, World.ownsRow_nil _ _ _ _, fun g hg => by cases hg⟩
/-- The state behind alive's calls. -/
def alW : WS := closeW (textW ⟨#[120]⟩ (openW ⟨#[97]⟩ [⟨#[98]⟩, ⟨#[49]⟩] newW))
theorem alW_done : doneW alW = ([60, 97, 32, 98, 61, 34, 49, 34, 62, 120, 60, 47, 97, 62], 0) := by decide +kernel
theorem al_ok1 : OkO ⟨1, ⟨#[97]⟩, [⟨#[98]⟩, ⟨#[49]⟩]⟩ := ⟨by decide, by decide, fun x hx => by
  simp only [List.mem_cons, List.not_mem_nil, or_false] at hx
  rcases hx with rfl | rfl <;> decide⟩
theorem al_ok2 : OkO ⟨2, ⟨#[120]⟩, []⟩ := ⟨by decide, by decide, fun x hx => nomatch hx⟩
theorem al_ok3 : OkO ⟨3, ⟨#[]⟩, []⟩ := ⟨by decide, by decide, fun x hx => nomatch hx⟩
theorem strRd_blk {W : World} {g : Nat} {l : List ByteArray} (h : BlkAt W g 9 (l.map sv).toArray) (c : Nat) : StrRd W (.slice (some ⟨g, 0, none⟩) l.length c) l :=
  ⟨_, _, rfl, fun _ => ⟨g, 0, rfl, h.lt, fun j x hj => by
    rw [Nat.zero_add, h.cell j]
    simp [sv, hj]⟩⟩
def aW1 : WS := openW ⟨#[97]⟩ [⟨#[98]⟩, ⟨#[49]⟩] newW
def aW2 : WS := textW ⟨#[120]⟩ aW1
theorem aW_good1 : GoodW 1 aW1 := GoodW.new.step al_ok1
theorem aW_good2 : GoodW 2 aW2 := aW_good1.step al_ok2
theorem aW_good3 : GoodW 3 alW := aW_good2.step al_ok3

set_option maxRecDepth 100000 in
set_option maxHeartbeats 4000000 in
theorem alive9_any (W : World) : Calls Try.prog 4 #[] W fun e W' => e = .returned (.bool true) ∧ Below W.heap.size W W' := by
  obtain ⟨W1, hW1⟩ : ∃ W1, W.alloc (.cells #[.slice none 0 0, .slice none 0 0, .bool false, .int .i64 0] 36) = W1 := ⟨_, rfl⟩
  have HB1 := Lib.hid (show Below W.heap.size W W1 by rw [← hW1]; exact (Below.refl _ W).alloc (Nat.le_refl _) _)
  have hb1 : BlkAt W1 W.heap.size 36 #[.slice none 0 0, .slice none 0 0, .bool false, .int .i64 0] := by rw [← hW1]; exact BlkAt.new _ _ _
  obtain ⟨W2, hW2⟩ : ∃ W2, W1.alloc (.cells #[.string ⟨#[98]⟩, .string ⟨#[49]⟩] 9) = W2 := ⟨_, rfl⟩
  have hB2 : Below W1.heap.size W1 W2 := by rw [← hW2]; exact (Below.refl _ W1).alloc (Nat.le_refl _) _
  have HB2 := Lib.hid (show Below W.heap.size W W2 from HB1.out.trans (hB2.mono HB1.out.size))
  have hb2 : BlkAt W2 W1.heap.size 9 ([⟨#[98]⟩, ⟨#[49]⟩].map sv).toArray := by rw [← hW2]; exact BlkAt.new _ _ _
  have HWr := (WrI.new (n0 := W.heap.size) hb1 (Nat.le_refl _)).below hB2
  have HO := Lib.hid (open_any (s := newW) (ps := [⟨#[98]⟩, ⟨#[49]⟩]) ⟨#[97]⟩ HWr (by decide) (by decide) (fun k hk => nomatch hk) (strRd_blk hb2 2) (by decide) (fun x hx => by have := al_ok1.each x hx; omega) (by decide) (fun q hq => nomatch hq))
  have HT := Lib.hid (fun (es : List QW) (ev ov : Value) (X : World) (h : WrI W.heap.size W.heap.size aW1.els aW1.op aW1.more (codeW aW1.bad) es ev ov X) => text_any (s := aW1) ⟨#[120]⟩ h (by have := aW_good1.op; omega) (by have := aW_good1.els; omega) aW_good1.lt (fun e he => by have := (aW_good1.each e he).text; omega) (by decide))
  have HC := Lib.hid (fun (es : List QW) (ev ov : Value) (X : World) (h : WrI W.heap.size W.heap.size aW2.els aW2.op aW2.more (codeW aW2.bad) es ev ov X) => close_any (s := aW2) h (by have := aW_good2.op; omega))
  have HD := Lib.hid (fun (es : List QW) (ev ov : Value) (X : World) (h : WrI W.heap.size W.heap.size alW.els alW.op alW.more (codeW alW.bad) es ev ov X) => done_any (s := alW) h (by have := aW_good3.op; omega) (aW_good3.sm (by omega)))
  rw [alW_done] at HD
  clear hb1 hb2 hB2 HWr
  go_enter Try.func4, Try.ntmps4
  go_wp2_with (first
    | (go_at_call 8; refine HO.out.mono ?_; rintro _ w3 ⟨rfl, es1, ev1, ov1, h1, k1, -⟩; have H1 := Lib.hid h1; have HB3 := Lib.hid (HB2.out.trans k1.below); clear h1 k1)
    | (go_at_call 10; refine (HT.out _ _ _ _ H1.out).mono ?_; rintro _ w4 ⟨rfl, es2, ev2, ov2, h2, k2, -⟩; have H2 := Lib.hid h2; have HB4 := Lib.hid (HB3.out.trans k2.below); clear h2 k2)
    | (go_at_call 11; refine (HC.out _ _ _ _ H2.out).mono ?_; rintro _ w5 ⟨rfl, es3, ev3, ov3, h3, k3, -⟩; have H3 := Lib.hid h3; have HB5 := Lib.hid (HB4.out.trans k3.below); clear h3 k3)
    | (go_at_call 12; refine (HD.out _ _ _ _ H3.out).mono ?_; rintro _ w6 ⟨rfl, k4⟩; have HB6 := Lib.hid (HB5.out.trans (k4.mono HB5.out.size)); clear k4))
  go_ret
  exact ⟨rfl, HB6.out⟩
end Go.Proofs.Ytajnpmhgldfgfaa
namespace Go.Proofs.Ytajnpmhgldfgfaa
open Go.RowKit
set_option linter.unusedVariables false

abbrev xE : TypeId := 57
abbrev xA : TypeId := 58
abbrev xD : TypeId := 32
/-- So far: the elements that were made. -/
structure RealS (w0 : World) (rs es : List QW) (dv : Value) (V : World) : Prop where
  res : BlkAt V w0.heap.size xD #[.slice none 0 0]
  doc : BlkAt V (w0.heap.size + 1) xD #[dv]
  below : Below w0.heap.size w0 V
  told : es.map (fun q => (q.1, q.2.2)) = (rs.take es.length).map (fun q => (q.1, q.2.2))
  row : V.ownsRow w0.heap.size xE 6 dv es.length (es.flatMap wCells)
  attrs : ∀ q ∈ es, AttrsW xA w0.heap.size V q.1.attrs q.2.1
theorem RealS.keep {w0 : World} {rs es : List QW} {dv : Value} {V V' : World} (h : RealS w0 rs es dv V) (hB : Below V.heap.size V V') : RealS w0 rs es dv V' :=
  ⟨h.res.below hB h.res.lt, h.doc.below hB h.doc.lt, h.below.trans (hB.mono h.below.size), h.told, own_below h.row hB, fun q hq => own_below (h.attrs q hq) hB⟩
theorem RealS.push {w0 : World} {rs es : List QW} {dv v' av : Value} {V V1 : World} {q : QW} (h : RealS w0 rs es dv V) (hq : rs[es.length]? = some q) (hat : AttrsW xA w0.heap.size V q.1.attrs av)
    (hown : V1.ownsRow w0.heap.size xE 6 v' (es.length + 1) (es.flatMap wCells ++ wCells (q.1, av, q.2.2))) (hgrow : V.grownBy V1 dv.ownBlock) :
    RealS w0 rs (es ++ [(q.1, av, q.2.2)]) v' (V1.setCell ⟨w0.heap.size + 1, 0, none⟩ v') := by
  have hbs := h.below.size
  have hT : ∀ {e : TypeId} {size n : Nat} {v : Value} {xs : List Value}, V.ownsRow w0.heap.size e size v n xs → e ≠ xE → V1.ownsRow w0.heap.size e size v n xs := fun ho hne => (KeepT.grown h.row hne hgrow).owns ho
  have hd1 : BlkAt V1 (w0.heap.size + 1) xD #[dv] := h.doc.grown hgrow (fun e => blk_ne h.row h.doc (by decide) e.symm)
  have hr1 : BlkAt V1 w0.heap.size xD #[.slice none 0 0] := h.res.grown hgrow (fun e => blk_ne h.row h.res (by decide) e.symm)
  have hs := grown_set V1 (w0.heap.size + 1) 0 v'
  have hS : ∀ {e : TypeId} {size n : Nat} {v : Value} {xs : List Value}, V1.ownsRow w0.heap.size e size v n xs → e ≠ xD → (V1.setCell ⟨w0.heap.size + 1, 0, none⟩ v').ownsRow w0.heap.size e size v n xs := fun ho hne => ho.kept hs (.inr (blk_ne ho hd1 hne))
  refine ⟨hr1.far (p := ⟨w0.heap.size + 1, 0, none⟩) (by show w0.heap.size ≠ w0.heap.size + 1; omega) _, by have := hd1.set 0 v'; exact this, (h.below.grown hgrow hbs (fun k e => (h.row.lt k e).1)).setCell (p := ⟨w0.heap.size + 1, 0, none⟩) (by show w0.heap.size ≤ w0.heap.size + 1; omega) _, ?_, ?_, ?_⟩
  · rw [List.map_append, List.length_append, List.length_singleton, List.take_add_one, hq, List.map_append, h.told]
    rfl
  · rw [List.length_append, List.flatMap_append, List.flatMap_cons, List.flatMap_nil, List.append_nil]
    exact hS hown (by decide)
  · intro r hr
    rcases List.mem_append.1 hr with hr | hr
    · exact hS (hT (h.attrs r hr) (by decide)) (by decide)
    · obtain rfl := List.mem_singleton.1 hr
      exact hS (hT hat (by decide)) (by decide)
/-- At the end. -/
theorem RealS.elems {n0 : Nat} {w0 : World} {els : List XW} {rs es : List QW} {rv dv : Value} {V : World} (h : RealS w0 rs es dv V) (hl : es.length = rs.length) (hsrc : ElemsW rE rA n0 els rs rv w0) (hb : n0 ≤ w0.heap.size) : ElemsW xE xA n0 els es dv V := by
  have ht := h.told
  rw [hl, List.take_of_length_le (Nat.le_refl _)] at ht
  have hget : ∀ (i : Nat) (q : QW), es[i]? = some q → ∃ r, rs[i]? = some r ∧ r.1 = q.1 ∧ r.2.2 = q.2.2 := fun i q hq => by
    have h1 := congrArg (fun l : List (XW × Value) => l[i]?) ht
    simp only [List.getElem?_map, hq] at h1
    obtain ⟨r, hr, he⟩ := Option.map_eq_some_iff.1 h1.symm
    exact ⟨r, hr, congrArg (·.1) he, congrArg (·.2) he⟩
  refine ⟨ownsRow_mono h.row hb, ?_, fun q hq => ownsRow_mono (h.attrs q hq) hb, fun q hq => ?_, fun i j q r g hi hj hij hk => ?_⟩
  · rw [← hsrc.told]
    have := congrArg (List.map (fun x : XW × Value => x.1)) ht
    rw [List.map_map, List.map_map] at this
    exact this
  · obtain ⟨i, hi⟩ := List.mem_iff_getElem?.1 hq
    obtain ⟨r, hr, e1, e2⟩ := hget i q hi
    have := own_below (hsrc.kids r (List.mem_of_getElem? hr)) h.below
    rw [e1, e2] at this
    exact this
  · obtain ⟨q', hq', e1, e2⟩ := hget i q hi
    obtain ⟨r', hr', e3, e4⟩ := hget j r hj
    rw [← e4]
    exact hsrc.apart i j q' r' g hq' hr' hij (by rw [e2]; exact hk)
/-- What is answered. -/
def RealR (n0 : Nat) (els : List XW) (W : World) (e : Ending) (W' : World) : Prop := ∃ dv es, e = .returned (.agg #[dv]) ∧ ElemsW xE xA n0 els es dv W' ∧ Below W.heap.size W W'
theorem aggDoc : AggT Try.prog xD 1 := ⟨_, Try.underlying32, rfl, by kernel_rfl⟩
theorem results_c1 {P : Program} {fn : Func} {p : Tmp} {ty : TypeId} (hf : fn.results = #[.cell p ty]) {tmps : Array Value} {w : World} {g n : Nat} {t : TypeId} {cs : Array Value}
    (hp : tmps.getD p undef = .pointer (some ⟨g, 0, none⟩)) (T : AggT P ty n) (hn : cs.size = n) (h : BlkAt w g t cs) :
    (results fn tmps).run P w = .ok (.agg cs) w := by
  have hl := T.load hn h
  have hp' : tmps[p]?.getD undef = .pointer (some ⟨g, 0, none⟩) := by simpa using hp
  simp only [results, hf]
  simp [hp', asAddr, hl]

theorem attr3 {n0 m c k : Nat} {tA : TypeId} {a : Option Addr} {W : World} {l : List (ByteArray × ByteArray)} {x : ByteArray × ByteArray} (h : W.ownsRow n0 tA 3 (.slice a m c) m (l.flatMap aCells)) (hx : l[k]? = some x) (hl : k < m) :
    ∃ g, a = some ⟨g, 0, none⟩ ∧ g < W.heap.size ∧ W.cell? ⟨g, k * 3, none⟩ = some (.string x.1) ∧ W.cell? ⟨g, k * 3 + 1, none⟩ = some (.string x.2) ∧ W.cell? ⟨g, k * 3 + 2, none⟩ = some (.int .i64 0) := by
  obtain ⟨g, cap, hf, -, -⟩ := World.ownsRow.form h (by omega)
  simp only [Value.slice.injEq] at hf
  obtain ⟨rfl, -, rfl⟩ := hf
  have k1 := fun j hj => (h.cellAt (k * 3 + j) (by omega)).trans (flat_at aCells 3 (fun x => rfl) l k j x hx hj)
  exact ⟨g, rfl, own_lt h rfl, k1 0 (by omega), k1 1 (by omega), k1 2 (by omega)⟩

set_option maxRecDepth 100000 in
set_option maxHeartbeats 16000000 in
theorem real_any {n0 : Nat} {els : List XW} {rs : List QW} {rv : Value} {W : World} (h : ElemsW rE rA n0 els rs rv W) (hb : n0 ≤ W.heap.size) (hl : els.length ≤ 1000000) (ha : ∀ e ∈ els, e.attrs.length ≤ 1000000) :
    Calls Try.prog 14 #[rv] W (RealR n0 els W) := by
  obtain ⟨n, hn⟩ : ∃ n, rs.length = n := ⟨_, rfl⟩
  obtain ⟨ea, ec, hev⟩ := ownsRow_slice' h.row
  rw [hn] at hev
  subst hev
  have H := Lib.hid h
  have HN := Lib.hid hn
  have hn1 : n ≤ 1000000 := by rw [← hn, h.len]; exact hl
  have HA := Lib.hid (fun (q : QW) (hq : q ∈ rs) => show q.1.attrs.length ≤ 1000000 from ha _ (by rw [← h.told]; exact List.mem_map_of_mem hq))
  obtain ⟨W1, hW1⟩ : ∃ W1, (W.alloc (.cells #[.slice none 0 0] xD)).alloc (.cells #[.slice none 0 0] xD) = W1 := ⟨_, rfl⟩
  have HB1 := Lib.hid (show Below W.heap.size W W1 by rw [← hW1]; exact ((Below.refl _ W).alloc (Nat.le_refl _) _).alloc (by simp) _)
  have hr1 : BlkAt W1 W.heap.size xD #[.slice none 0 0] := by rw [← hW1]; exact (BlkAt.new _ _ _).alloc _
  have hd1 : BlkAt W1 (W.heap.size + 1) xD #[.slice none 0 0] := by rw [← hW1]; have := BlkAt.new (W.alloc (.cells #[.slice none 0 0] xD)) xD #[.slice none 0 0]; simpa using this
  have HS1 := Lib.hid (show RealS W rs [] (.slice none 0 0) W1 from ⟨hr1, hd1, HB1.out, rfl, World.ownsRow_nil _ _ _ _, fun q hq => nomatch hq⟩)
  have HEND := Lib.hid (fun (es : List QW) (dv : Value) (V : World) (hs : RealS W rs es dv V) (hl : es.length = n) => show BlkAt (V.setCell ⟨W.heap.size, 0, none⟩ dv) W.heap.size xD #[dv] ∧ RealR n0 els W (.returned (.agg #[dv])) (V.setCell ⟨W.heap.size, 0, none⟩ dv) from by
    have hg := grown_set V W.heap.size 0 dv
    have he := hs.elems (by rw [hl, hn]) h hb
    have hk : KeepF n0 (fun k => k = W.heap.size) V (V.setCell ⟨W.heap.size, 0, none⟩ dv) := ⟨(Below.refl _ _).setCell (p := ⟨W.heap.size, 0, none⟩) hb _, fun k hk hne => hg.block k hk (fun e => hne (Option.some.inj e))⟩
    refine ⟨hs.res.set 0 dv, dv, es, rfl, he.foot hk (fun g hF e => ?_), hs.below.setCell (p := ⟨W.heap.size, 0, none⟩) (Nat.le_refl _) _⟩
    subst e
    rcases hF with hF | ⟨q, hq, hF | hF⟩
    · exact blk_ne he.row hs.res (by decide) hF
    · exact blk_ne (he.kids q hq) hs.res (by decide) hF
    · exact blk_ne (he.attrs q hq) hs.res (by decide) hF)
  clear h hn hl ha hr1 hd1
  go_enter Try.func14, Try.ntmps14
  go_upto_region 2 with (fail)
  clear hW1
  go_wp2
  go_loopw [4] (fun x V => ∃ (es : List QW) (dv : Value), x = .int .i64 (es.length : Nat) ∧ es.length ≤ n ∧ RealS W rs es dv V) (fun x V => n - (intOf x).toNat)
  case atStart => exact ⟨[], _, rfl, Nat.zero_le _, HS1.out⟩
  case round =>
    rename World => wr
    obtain ⟨es, dv, rfl, hle, hS⟩ := hrel
    obtain ⟨da, dc, rfl⟩ := ownsRow_slice' hS.row
    have HS := Lib.hid hS
    clear hS
    obtain ⟨i, hi⟩ : ∃ i, es.length = i := ⟨_, rfl⟩
    have HI := Lib.hid hi
    rw [hi] at hle HS ⊢
    clear hi
    have zB := HS.out.below.size
    have zD := HS.out.doc.lt
    by_cases hlt : i < n
    · obtain ⟨q, hq⟩ : ∃ q, rs[i]? = some q := ⟨_, List.getElem?_eq_getElem (by rw [HN.out]; exact hlt)⟩
      have hqm : q ∈ rs := List.mem_of_getElem? hq
      obtain ⟨g, cap, hform, -⟩ := H.out.form hq
      rw [HN.out] at hform
      simp only [Value.slice.injEq] at hform
      obtain ⟨rfl, -, rfl⟩ := hform
      have hgW : g < W.heap.size := own_lt H.out.row rfl
      have HSRC := Lib.hid (fun (X : World) (hX : Below W.heap.size W X) => show ∀ j, j < 6 → X.cell? ⟨g, i * 6 + j, none⟩ = (wCells q)[j]? from fun j hj => by
        have h1 := H.out.below hX
        rw [← HN.out] at h1
        exact (h1.cell hq hj).1)
      obtain ⟨⟨nm, up, at_, kids, tx⟩, qa, qk⟩ := q
      obtain ⟨m, hm⟩ : ∃ m, at_.length = m := ⟨_, rfl⟩
      have hm1 : m ≤ 1000000 := by rw [← hm]; exact HA.out _ hqm
      have hqat := H.out.attrs _ hqm
      obtain ⟨aa, ac, hqa⟩ : ∃ a c, qa = .slice a at_.length c := ownsRow_slice' hqat
      obtain ⟨ka, kn, kc, hqk⟩ : ∃ a n c, qk = .slice a n c := own_sl (H.out.kids _ hqm)
      subst hqa hqk
      have hqat : W.ownsRow n0 rA 3 (.slice aa at_.length ac) at_.length (at_.flatMap aCells) := hqat
      rw [hm] at hqat HSRC
      have HM := Lib.hid hm
      have HQAT := Lib.hid hqat
      have HQ := Lib.hid hq
      have HC6 := Lib.hid (fun (X : World) (hX : Below wr.heap.size wr X) => show X.cell? ⟨g, i * 6, none⟩ = some (.string nm) ∧ X.cell? ⟨g, i * 6 + 1, none⟩ = some (.int .i64 0) ∧ X.cell? ⟨g, i * 6 + 2, none⟩ = some (.int .i64 up) ∧ X.cell? ⟨g, i * 6 + 3, none⟩ = some (.slice aa m ac) ∧ X.cell? ⟨g, i * 6 + 4, none⟩ = some (.slice ka kn kc) ∧ X.cell? ⟨g, i * 6 + 5, none⟩ = some (.string tx) from by
        have hX2 := HS.out.below.trans (hX.mono HS.out.below.size)
        exact ⟨HSRC.out X hX2 0 (by omega), HSRC.out X hX2 1 (by omega), HSRC.out X hX2 2 (by omega), HSRC.out X hX2 3 (by omega), HSRC.out X hX2 4 (by omega), HSRC.out X hX2 5 (by omega)⟩)
      obtain ⟨s0, s1, s2, s3, s4, s5⟩ := HC6.out wr (Below.refl _ _)
      have q1 : (0 : Int) ≤ (i : Int) := by omega
      have q2 : (i : Int) < (n : Int) := by omega
      have n1 : ¬ g = wr.heap.size := by omega
      have n2 : ¬ wr.heap.size = g := by omega
      clear hq hqm hqat hm
      go_upto_region 5 with (fail)
      go_region_held3 (fun X => X.cell? ⟨g, i * 6, none⟩ = some (.string nm) ∧ X.cell? ⟨g, i * 6 + 1, none⟩ = some (.int .i64 0) ∧ X.cell? ⟨g, i * 6 + 2, none⟩ = some (.int .i64 up) ∧ X.cell? ⟨g, i * 6 + 4, none⟩ = some (.slice ka kn kc) ∧ X.cell? ⟨g, i * 6 + 5, none⟩ = some (.string tx)) (go_keep) (fail)
      obtain ⟨V5, hV5⟩ : ∃ V5, (wr.alloc (.cells #[.string nm, .int .i64 0, .int .i64 up, .slice none 0 0, .slice ka kn kc, .string tx] 57)).drew = V5 := ⟨_, rfl⟩
      have HB5 := Lib.hid (show Below wr.heap.size wr V5 by rw [← hV5]; exact ((Below.refl _ wr).alloc (Nat.le_refl _) _).drew)
      have HBK5 := Lib.hid (show BlkAt V5 wr.heap.size 57 #[.string nm, .int .i64 0, .int .i64 up, .slice none 0 0, .slice ka kn kc, .string tx] by rw [← hV5]; exact (BlkAt.new _ _ _).drew)
      rw [hV5]
      obtain ⟨E, hE⟩ : ∃ E, wr.heap.size = E := ⟨_, rfl⟩
      rw [hE] at HBK5 HB5 HC6 n1 n2 zB zD ⊢
      have HE := Lib.hid hE
      clear hV5 s0 s1 s2 s3 s4 s5 hE
      go_wp2
      go_loopw [6] (fun x V => ∃ (k : Nat) (av : Value), x = .int .i64 (k : Nat) ∧ k ≤ m ∧ BlkAt V E 57 #[.string nm, .int .i64 0, .int .i64 up, av, .slice ka kn kc, .string tx] ∧ AttrsW xA E V (at_.take k) av ∧ Below E wr V) (fun x V => m - (intOf x).toNat)
      case atStart => exact ⟨0, .slice none 0 0, rfl, Nat.zero_le _, HBK5.out, by rw [List.take_zero]; exact World.ownsRow_nil _ _ _ _, HB5.out⟩
      case round =>
        rename World => V
        obtain ⟨k, av, rfl, hk, hbk, hat, hbw⟩ := hrel
        have HBK := Lib.hid hbk
        have HAT := Lib.hid hat
        have HBW := Lib.hid hbw
        have hbw2 : Below wr.heap.size wr V := by rw [HE.out]; exact hbw
        have HWV := Lib.hid (HS.out.below.trans (hbw2.mono HS.out.below.size))
        have HSV := Lib.hid (HS.out.keep hbw2)
        obtain ⟨s0, s1, s2, s3, s4, s5⟩ := HC6.out V hbw
        have zV := hbk.lt
        clear hbw2
        by_cases hlt2 : k < m
        · obtain ⟨⟨x0, x1⟩, hx⟩ : ∃ x, at_[k]? = some x := ⟨_, List.getElem?_eq_getElem (by rw [HM.out]; exact hlt2)⟩
          obtain ⟨ag, rfl, hag, hx0, hx1, hx2⟩ := attr3 HQAT.out hx (by omega)
          have HX3 := Lib.hid (fun (X : World) (hX : Below W.heap.size W X) => show X.cell? ⟨ag, k * 3, none⟩ = some (.string x0) ∧ X.cell? ⟨ag, k * 3 + 1, none⟩ = some (.string x1) ∧ X.cell? ⟨ag, k * 3 + 2, none⟩ = some (.int .i64 0) from
            ⟨(hX.cell (p := ⟨ag, k * 3, none⟩) hag).trans hx0, (hX.cell (p := ⟨ag, k * 3 + 1, none⟩) hag).trans hx1, (hX.cell (p := ⟨ag, k * 3 + 2, none⟩) hag).trans hx2⟩)
          obtain ⟨v0, v1, v2⟩ := HX3.out V HWV.out
          have HTK := Lib.hid (show at_.take (k + 1) = at_.take k ++ [(x0, x1)] by rw [List.take_add_one, hx]; rfl)
          obtain ⟨ba, bc, hav⟩ : ∃ a c, av = .slice a k c := by
            obtain ⟨a, c, hv⟩ := ownsRow_slice' hat
            exact ⟨a, c, by rw [hv, List.length_take, HM.out, Nat.min_eq_left hk]⟩
          subst hav
          have HROW := Lib.hid (show V.ownsRow E 58 3 (.slice ba k bc) k ((at_.take k).flatMap aCells) by have := hat; unfold AttrsW at this; rw [List.length_take, HM.out, Nat.min_eq_left hk] at this; exact this)
          obtain ⟨V9, hV9⟩ : ∃ V9, V.alloc (.cells #[.string x0, .string x1, .int .i64 0] 45) = V9 := ⟨_, rfl⟩
          have HV9 := Lib.hid hV9
          have hb9 : Below V.heap.size V V9 := by rw [← hV9]; exact (Below.refl _ V).alloc (Nat.le_refl _) _
          have hk9 : BlkAt V9 V.heap.size 45 #[.string x0, .string x1, .int .i64 0] := by rw [← hV9]; exact BlkAt.new _ _ _
          have r0 := hk9.cell 0
          have r1 := hk9.cell 1
          have r2 := hk9.cell 2
          have HB9 := Lib.hid (show Below E wr V9 from hbw.trans (hb9.mono (Nat.le_of_lt zV)))
          have HBK9 := Lib.hid (hbk.below hb9 zV)
          have e9 := HBK9.out.cell 3
          have HROW9 := Lib.hid (own_below HROW.out hb9)
          have z9 : V.heap.size < V9.heap.size := hk9.lt
          have q3 : (0 : Int) ≤ (k : Int) := by omega
          have q4 : (k : Int) < (m : Int) := by omega
          obtain ⟨i0, hi0, hz0, hz1, hz2⟩ := info_parts infoAt
          clear hx hx0 hx1 hx2 hat hbk hb9 hk9 hV9
          go_upto_region 10 with (fail)
          rw [HV9.out]
          go_wp2_with (at_builtin; refine wpList_append_lies _ rfl _ _ _ rfl E 58 i0 _ 3 40 Try.underlying55 hi0 hz0 hz1 hz2 rfl (by omega) (.slice ba k bc) k ((at_.take k).flatMap aCells) (by rfl) (HROW9.out.alloc _) ⟨V9.heap.size, 0, none⟩ 1 1 [.string x0, .string x1, .int .i64 0] (by rfl) (by rfl) (World.news_of_block (cs := #[.string x0, .string x1, .int .i64 0]) (t := 58) (fr := (0, 0)) (heap_alloc_new V9 _)) (by simp [Value.oneCell']) (by omega) (by unfold maxLen; omega) (by omega) (by simp; omega) (V9.heap.size + 1) (by simp) ?_; intro gg kc3 w6 hown hgrow hat6 hlt6; have hE6 := (HBK9.out.alloc (.cells #[.string x0, .string x1, .int .i64 0] 58)).grown hgrow (fun e => blk_ne (HROW9.out.alloc (.cells #[.string x0, .string x1, .int .i64 0] 58)) (HBK9.out.alloc _) (by decide) e.symm); have e6 := hE6.cell 3; have f6 := hE6.frozen 3; have HE6 := Lib.hid hE6; have HO6 := Lib.hid hown; have HG6 := Lib.hid hgrow; clear hown hgrow hat6 hE6)
          go_roundw
          case rel =>
            have hs := HE6.out.set 3 (.slice (some ⟨gg, 0, none⟩) (k + 1) kc3)
            have hB6 : Below E wr w6 := (HB9.out.alloc (by omega) (.cells #[.string x0, .string x1, .int .i64 0] 58)).grown HG6.out (by simp; omega) (fun kk e => (HROW9.out.lt kk e).1)
            refine ⟨k + 1, .slice (some ⟨gg, 0, none⟩) (k + 1) kc3, by go_num, by omega, hs, ?_, hB6.setCell (p := ⟨E, 3, none⟩) (Nat.le_refl _) _⟩
            unfold AttrsW
            rw [HTK.out, List.length_append, List.length_take, HM.out, Nat.min_eq_left hk, List.flatMap_append]
            exact (show w6.ownsRow E 58 3 (.slice (some ⟨gg, 0, none⟩) (k + 1) kc3) (k + 1) ((at_.take k).flatMap aCells ++ [.string x0, .string x1, .int .i64 0]) from HO6.out).kept (grown_set w6 E 3 _) (.inr (blk_ne HO6.out HE6.out (by decide)))
          case measure => simp [intOf]; omega
        · obtain rfl : k = m := by omega
          have q5 : ¬ (k : Int) < (k : Int) := by omega
          have hak : at_.take k = at_ := List.take_of_length_le (by rw [HM.out]; exact Nat.le_refl _)
          rw [hak] at HAT hat
          obtain ⟨va, vn, vc, hav⟩ := own_sl hat
          subst hav
          have HA2 := Lib.hid (show AttrsW 58 W.heap.size V at_ (.slice va vn vc) from ownsRow_mono HAT.out (by omega))
          have c0 := HBK.out.cell 0
          have c1 := HBK.out.cell 1
          have c2 := HBK.out.cell 2
          have c3 := HBK.out.cell 3
          have c4 := HBK.out.cell 4
          have c5 := HBK.out.cell 5
          have d0 := HSV.out.doc.cell 0
          have HROWE := Lib.hid (show V.ownsRow W.heap.size 57 6 (.slice da i dc) i (es.flatMap wCells) by have := HSV.out.row; rw [HI.out] at this; exact this)
          obtain ⟨i1, hi1, hz0, hz1, hz2⟩ := info_parts infoEl
          have zW := HWV.out.size
          clear hak hat hbk hbw s0 s1 s2 s4 s5
          go_wp2_with (at_builtin; refine wpList_append_lies _ rfl _ _ _ rfl W.heap.size 57 i1 _ 6 96 Try.underlying30 hi1 hz0 hz1 hz2 rfl (by omega) (.slice da i dc) i (es.flatMap wCells) (by rfl) (HROWE.out.alloc _) ⟨V.heap.size, 0, none⟩ 1 1 [.string nm, .int .i64 0, .int .i64 up, .slice va vn vc, .slice ka kn kc, .string tx] (by rfl) (by rfl) (World.news_of_block (cs := #[.string nm, .int .i64 0, .int .i64 up, .slice va vn vc, .slice ka kn kc, .string tx]) (t := 57) (fr := (0, 0)) (heap_alloc_new V _)) (by simp [Value.oneCell']) (by omega) (by unfold maxLen; omega) (by omega) (by simp; omega) (V.heap.size + 1) (by simp) ?_; intro gg kc3 w6 hown hgrow hat6 hlt6; have hD6 := (HSV.out.doc.alloc (.cells #[.string nm, .int .i64 0, .int .i64 up, .slice va vn vc, .slice ka kn kc, .string tx] 57)).grown hgrow (fun e => blk_ne (HROWE.out.alloc (.cells #[.string nm, .int .i64 0, .int .i64 up, .slice va vn vc, .slice ka kn kc, .string tx] 57)) (HSV.out.doc.alloc _) (by decide) e.symm); have d6 := hD6.cell 0; have f6 := hD6.frozen 0; have HO6 := Lib.hid hown; have HG6 := Lib.hid hgrow; clear hown hgrow hat6 hD6)
          go_roundw
          case rel =>
            have hS6 := HSV.out.keep ((Below.refl _ V).alloc (Nat.le_refl _) (.cells #[.string nm, .int .i64 0, .int .i64 up, .slice va vn vc, .slice ka kn kc, .string tx] 57))
            have hp := hS6.push (av := .slice va vn vc) (q := (⟨nm, up, at_, kids, tx⟩, .slice aa at_.length ac, .slice ka kn kc)) (by rw [HI.out]; exact HQ.out) (HA2.out.alloc _) (by rw [HI.out]; exact HO6.out) HG6.out
            refine ⟨es ++ [(⟨nm, up, at_, kids, tx⟩, .slice va vn vc, .slice ka kn kc)], .slice (some ⟨gg, 0, none⟩) (i + 1) kc3, ?_, ?_, hp⟩
            · rw [List.length_append, HI.out]; go_num
            · rw [List.length_append, HI.out]; exact hlt
          case measure => simp [intOf]; omega
    · obtain rfl : i = n := by omega
      have q2 : ¬ (i : Int) < (i : Int) := by omega
      have d0 := HS.out.doc.cell 0
      have r0 := HS.out.res.cell 0
      have f0 := HS.out.res.frozen 0
      have HE := Lib.hid (HEND.out es _ wr HS.out HI.out)
      go_wp2
      refine bodyPost_ret (results_c1 rfl rfl aggDoc rfl HE.out.1) rfl ?_
      exact HE.out.2
end Go.Proofs.Ytajnpmhgldfgfaa
namespace Go.Proofs.Ytajnpmhgldfgfaa
open Go.RowKit
set_option linter.unusedVariables false

theorem room_one {W : World} {g : Nat} {a : Int} (hb : BlkAt W g 3 #[.int .i64 a]) (ha : 0 ≤ a ∧ a ≤ 9223372036854775807) (left : Int) (h0 : -1 ≤ left) (h1 : left ≤ 1000000) :
    Calls Try.prog 5 #[.int .i64 left, .slice (some ⟨g, 0, none⟩) 1 1] W fun e W' => e = .returned (.int .i64 (roomX left [a])) ∧ Below W.heap.size W W' := by
  have hr : IntRd W (.slice (some ⟨g, 0, none⟩) 1 1) [a] := ⟨_, _, rfl, fun _ => ⟨g, 0, rfl, hb.lt, fun j hj => by
    rw [Nat.zero_add, hb.cell j]
    match j, hj with
    | 0, _ => rfl⟩⟩
  exact room_any hr (by simp) (fun x hx => by
    obtain rfl := List.mem_singleton.1 hx
    exact ha) left h0 h1
theorem room_two {W : World} {g : Nat} {a b : Int} (hb : BlkAt W g 3 #[.int .i64 a, .int .i64 b]) (ha : 0 ≤ a ∧ a ≤ 9223372036854775807) (hb2 : 0 ≤ b ∧ b ≤ 9223372036854775807) (left : Int) (h0 : -1 ≤ left) (h1 : left ≤ 1000000) :
    Calls Try.prog 5 #[.int .i64 left, .slice (some ⟨g, 0, none⟩) 2 2] W fun e W' => e = .returned (.int .i64 (roomX left [a, b])) ∧ Below W.heap.size W W' := by
  have hr : IntRd W (.slice (some ⟨g, 0, none⟩) 2 2) [a, b] := ⟨_, _, rfl, fun _ => ⟨g, 0, rfl, hb.lt, fun j hj => by
    rw [Nat.zero_add, hb.cell j]
    match j, hj with
    | 0, _ => rfl
    | 1, _ => rfl⟩⟩
  exact room_any hr (by simp) (fun x hx => by
    simp only [List.mem_cons, List.not_mem_nil, or_false] at hx
    rcases hx with rfl | rfl
    · exact ha
    · exact hb2) left h0 h1
theorem roomX_one {left a : Int} (h : -1 ≤ left) (ha : 0 ≤ a) : -1 ≤ roomX left [a] ∧ roomX left [a] ≤ max left (-1) ∧ (0 ≤ roomX left [a] → 0 ≤ left ∧ a ≤ left) := by
  unfold roomX
  split
  · omega
  · unfold roomX
    omega
theorem roomX_two {left a b : Int} (h : -1 ≤ left) (ha : 0 ≤ a) (hb : 0 ≤ b) : -1 ≤ roomX left [a, b] ∧ roomX left [a, b] ≤ max left (-1) ∧ (0 ≤ roomX left [a, b] → 0 ≤ left ∧ a ≤ left ∧ b ≤ left) := by
  unfold roomX
  split
  · omega
  · have := roomX_one (left := left - a) (a := b) (by omega) hb
    omega
/-- A slice of texts that can be read, in two forms. -/
structure TxtRd (W : World) (v : Value) (l : List ByteArray) : Prop where
  str : StrRd W v l
  rdx : ∃ a c, v = .slice a l.length c ∧ RdS W a l ∧ RdX W v l
theorem TxtRd.below {W W' : World} {v : Value} {l : List ByteArray} (h : TxtRd W v l) (hB : Below W.heap.size W W') : TxtRd W' v l := by
  obtain ⟨h1, a, c, h2, h3, h4⟩ := h
  exact ⟨h1.below hB, a, c, h2, h3.below hB, h4.below hB⟩

/-- What Short tells. -/
def ShortP (ps : List ByteArray) (W : World) (e : Ending) (W' : World) : Prop := ∃ q, e = .returned (.bool q) ∧ (q = true → ps.length ≤ 20 ∧ ∀ x ∈ ps, x.size ≤ 1000) ∧ Below W.heap.size W W'
set_option maxRecDepth 100000 in
set_option maxHeartbeats 4000000 in
theorem short_any {W : World} {pv : Value} {ps : List ByteArray} (h : StrRd W pv ps) (hl : ps.length ≤ 9223372036854775807) (hx : ∀ x ∈ ps, x.size ≤ 9223372036854775807) :
    Calls Try.prog 6 #[.int .i64 20, .int .i64 1000, pv] W (ShortP ps W) := by
  obtain ⟨a, c, rfl, h2⟩ := h
  obtain ⟨n, hnn⟩ : ∃ n, ps.length = n := ⟨_, rfl⟩
  have H2 := Lib.hid h2
  have HN := Lib.hid hnn
  have HX := Lib.hid hx
  rw [hnn] at hl ⊢
  clear h2 hnn hx
  by_cases hfew : n ≤ 20
  · have hfi : ¬ ((20 : Int) < (n : Int)) := by omega
    go_enter Try.func6, Try.ntmps6
    go_wp2
    go_loopw [7, 1] (fun v p V => ∃ (k : Nat) (r : Int), v = .int .i64 (k : Nat) ∧ p = .int .i64 r ∧ k ≤ n ∧ -1 ≤ r ∧ r ≤ 1000 ∧ Hid (0 ≤ r → ∀ x ∈ ps.take k, x.size ≤ 1000) ∧ Below W.heap.size W V) (fun v p V => n - (intOf v).toNat)
    case atStart => exact ⟨0, 1000, rfl, rfl, Nat.zero_le _, by omega, by omega, Lib.hid (fun _ x hx => by simp at hx), Below.refl _ _⟩
    case round =>
      rename World => wr
      obtain ⟨k, r, rfl, rfl, hk, hr1, hr2, hok, hB⟩ := hrel
      have HB := Lib.hid hB
      clear hB
      by_cases hlt : k < n
      · by_cases hr0 : 0 ≤ r
        · obtain ⟨x, hx⟩ : ∃ x, ps[k]? = some x := ⟨_, List.getElem?_eq_getElem (by rw [HN.out]; exact hlt)⟩
          obtain ⟨b, o, rfl, hb, g⟩ := H2.out (fun h0 => by have h1 := HN.out; rw [h0] at h1; have h3 : (0 : Nat) = n := h1; omega)
          have hc : wr.cell? ⟨b, o + k, none⟩ = some (.string x) := (HB.out.cell (p := ⟨b, o + k, none⟩) hb).trans (g k x hx)
          have hx2 := HX.out x (List.mem_of_getElem? hx)
          have hq := roomX_one (left := r) (a := (x.size : Int)) hr1 (by omega)
          have HT := Lib.hid (show ps.take (k + 1) = ps.take k ++ [x] by rw [List.take_add_one, hx]; rfl)
          have q1 : (k : Int) < (n : Int) := by omega
          have q2 : (0 : Int) ≤ (k : Int) := by omega
          clear hx g hb
          go_wp2_with (go_at_call 5; refine (room_one (BlkAt.new wr _ _) ⟨by omega, by omega⟩ r hr1 (by omega)).mono ?_; rintro _ w5 ⟨rfl, hB5⟩; have HB5 := Lib.hid (show Below wr.heap.size wr w5 from ((Below.refl _ wr).alloc (Nat.le_refl _) _).trans (hB5.mono (by simp))); clear hB5)
          go_roundw
          case rel =>
            refine ⟨k + 1, _, by go_num, rfl, by omega, hq.1, by omega, Lib.hid (fun h0 y hy => ?_), HB.out.trans (HB5.out.mono HB.out.size)⟩
            rw [HT.out] at hy
            rcases List.mem_append.1 hy with hy | hy
            · exact hok.out hr0 y hy
            · obtain rfl := List.mem_singleton.1 hy
              have := hq.2.2 h0
              omega
          case measure => simp [intOf]; omega
        · have q1 : (k : Int) < (n : Int) := by omega
          have q3 : ¬ (0 : Int) ≤ r := hr0
          go_wp2
          go_ret
          exact ⟨false, rfl, (fun h => Bool.noConfusion h), HB.out⟩
      · obtain rfl : k = n := by omega
        have q1 : ¬ (k : Int) < (k : Int) := by omega
        have HF := Lib.hid (show decide (0 ≤ r) = true → ps.length ≤ 20 ∧ ∀ x ∈ ps, x.size ≤ 1000 from fun h => ⟨by rw [HN.out]; exact hfew, fun x hx => hok.out (of_decide_eq_true h) x (by rw [List.take_of_length_le (by rw [HN.out]; exact Nat.le_refl _)]; exact hx)⟩)
        go_wp2
        go_ret
        exact ⟨_, rfl, HF.out, HB.out⟩
  · have hfi : (20 : Int) < (n : Int) := by omega
    go_enter Try.func6, Try.ntmps6
    go_wp2
    go_ret
    exact ⟨false, rfl, (fun h => Bool.noConfusion h), Below.refl _ _⟩
end Go.Proofs.Ytajnpmhgldfgfaa
namespace Go.Proofs.Ytajnpmhgldfgfaa
open Go.RowKit
set_option linter.unusedVariables false

/-- A call as it came in: no size beyond what an int holds. -/
structure OpBig (o : OpW) : Prop where
  s : o.s.size ≤ 9223372036854775807
  ps : o.ps.length ≤ 9223372036854775807
  each : ∀ x ∈ o.ps, x.size ≤ 9223372036854775807
/-- The calls as they lie. -/
def OpsRd (W : World) (a : Option Addr) (os : List OpW) : Prop := ∀ (i : Nat) (o : OpW), os[i]? = some o → ∃ b p pv, a = some ⟨b, p, none⟩ ∧ b < W.heap.size ∧ W.cell? ⟨b, p + i * 3, none⟩ = some (.int .i64 o.kind) ∧ W.cell? ⟨b, p + i * 3 + 1, none⟩ = some (.string o.s) ∧ W.cell? ⟨b, p + i * 3 + 2, none⟩ = some pv ∧ TxtRd W pv o.ps
theorem OpsRd.below {W W' : World} {a : Option Addr} {os : List OpW} (h : OpsRd W a os) (hB : Below W.heap.size W W') : OpsRd W' a os := fun i o hi => by
  obtain ⟨b, p, pv, h1, h2, h3, h4, h5, h6⟩ := h i o hi
  exact ⟨b, p, pv, h1, Nat.lt_of_lt_of_le h2 hB.size, (hB.cell (p := ⟨b, p + i * 3, none⟩) h2).trans h3, (hB.cell (p := ⟨b, p + i * 3 + 1, none⟩) h2).trans h4, (hB.cell (p := ⟨b, p + i * 3 + 2, none⟩) h2).trans h5, h6.below hB⟩
/-- How much room is left behind the first i calls. -/
def SizesO (os : List OpW) (i : Nat) (r : Int) : Prop := -1 ≤ r ∧ r ≤ 4000 ∧ (∀ (j : Nat) (o : OpW), j < i → os[j]? = some o → o.ps.length ≤ 20 ∧ ∀ x ∈ o.ps, x.size ≤ 1000) ∧ (0 ≤ r → ∀ (j : Nat) (o : OpW), j < i → os[j]? = some o → o.s.size ≤ 4000)
theorem SizesO.step {os : List OpW} {i : Nat} {r : Int} {o : OpW} (h : SizesO os i r) (ho : os[i]? = some o) (hr : 0 ≤ r) (hs : o.ps.length ≤ 20 ∧ ∀ x ∈ o.ps, x.size ≤ 1000) : SizesO os (i + 1) (roomX r [(o.s.size : Int), (o.ps.length : Int)]) := by
  obtain ⟨h1, h2, h3, h4⟩ := h
  have h5 := roomX_two (left := r) (a := (o.s.size : Int)) (b := (o.ps.length : Int)) h1 (by omega) (by omega)
  refine ⟨h5.1, by omega, fun j z hj hz => ?_, fun h0 j z hj hz => ?_⟩
  · by_cases hji : j = i
    · subst hji
      rw [ho] at hz
      cases hz
      exact hs
    · exact h3 j z (by omega) hz
  · by_cases hji : j = i
    · subst hji
      rw [ho] at hz
      cases hz
      have := h5.2.2 h0
      omega
    · exact h4 hr j z (by omega) hz
/-- What the room's loop leaves. -/
def RoomO (os : List OpW) (p : Value) : Prop := ∃ r : Int, p = .int .i64 r ∧ (r < 0 ∨ (0 ≤ r ∧ ∀ o ∈ os, OkO o))
theorem SizesO.room {os : List OpW} {i : Nat} {r : Int} (h : SizesO os i r) (hi : os.length ≤ i ∨ r < 0) : RoomO os (.int .i64 r) := ⟨r, rfl, by
  rcases Int.lt_or_le r 0 with h0 | h0
  · exact .inl h0
  · refine .inr ⟨h0, fun o ho => ?_⟩
    obtain ⟨j, hj⟩ := List.mem_iff_getElem?.1 ho
    have hlt := (List.getElem?_eq_some_iff.1 hj).1
    have h3 := h.2.2.1 j o (by omega) hj
    exact ⟨h.2.2.2 h0 j o (by omega) hj, h3.1, h3.2⟩⟩
theorem good_run {os : List OpW} (h : ∀ o ∈ os, OkO o) : ∀ k, k ≤ os.length → GoodW k (runW (os.take k))
  | 0, _ => by rw [List.take_zero]; exact GoodW.new
  | k + 1, hk => by
    have ho : os[k]? = some os[k] := List.getElem?_eq_getElem (by omega)
    rw [runW_snoc ho]
    exact (good_run h k (by omega)).step (h _ (List.getElem_mem _))
/-- What the law's loop keeps behind the calls that led to s. -/
structure LawR (n0 wb : Nat) (w0 : World) (s : WS) (m : Nat) (rv ov rt bd : Value) (V : World) : Prop where
  root : ∃ r : Nat, rt = .int .i64 (r : Nat) ∧ r ≤ m ∧ RootR s r
  op : ov = .int .i64 (upK s.op)
  bad : bd = .bool s.bad
  inv : LawI n0 wb w0 s rv V
def LawL (n0 wb : Nat) (w0 : World) (os : List OpW) (x rv ov rt bd : Value) (V : World) : Prop := ∃ k : Nat, x = .int .i64 (k : Nat) ∧ k ≤ os.length ∧ LawR n0 wb w0 (runW (os.take k)) k rv ov rt bd V
/-- A lent list, without its mark. -/
theorem strRd_own {w : World} {base g n cap : Nat} {ns : List ByteArray} (h : StrRow w base (.slice (some ⟨g, 0, none⟩) (n + 1) cap) (ns ++ [markS])) (hn : ns.length = n) : StrRd w (.slice (some ⟨g, 0, none⟩) n cap) ns := by
  have hl : (ns ++ [markS]).length = n + 1 := by rw [List.length_append, hn]; rfl
  unfold StrRow at h
  rw [hl] at h
  refine ⟨_, _, by rw [hn], fun _ => ⟨g, 0, rfl, own_lt h rfl, fun j x hj => ?_⟩⟩
  obtain ⟨hlt, rfl⟩ := List.getElem?_eq_some_iff.1 hj
  rw [Nat.zero_add, cells_own h (by rw [hl]; omega), List.getElem_append_left hlt]
theorem rdS_own2 {w : World} {base g n cap : Nat} {ns : List ByteArray} (h : StrRow w base (.slice (some ⟨g, 0, none⟩) (n + 1) cap) (ns ++ [markS])) (hn : ns.length = n) : RdS w (some ⟨g, 0, none⟩) (ns ++ [markS]) := by
  have hl : (ns ++ [markS]).length = n + 1 := by rw [List.length_append, hn]; rfl
  rw [← hl] at h
  exact rdS_own h
theorem cell_blk {w w' : World} {g o : Nat} (hg : w'.heap[g]? = w.heap[g]?) : w'.cell? ⟨g, o, none⟩ = w.cell? ⟨g, o, none⟩ := by
  unfold World.cell?
  rw [hg]
theorem rdS_blk {w w' : World} {g : Nat} {l : List ByteArray} (h : RdS w (some ⟨g, 0, none⟩) l) (hg : w'.heap[g]? = w.heap[g]?) (hs : w.heap.size ≤ w'.heap.size) : RdS w' (some ⟨g, 0, none⟩) l := fun i hi => by
  obtain ⟨x, h1, h2, h3⟩ := h i hi
  cases h1
  have hadd : (⟨g, 0, none⟩ : Addr).add i = ⟨g, i, none⟩ := by unfold Addr.add; split <;> simp_all
  rw [hadd] at h3
  refine ⟨⟨g, 0, none⟩, rfl, Nat.lt_of_lt_of_le h2 hs, ?_⟩
  rw [hadd]
  exact (cell_blk hg).trans h3
/-- A call of the writer: the step, and what it leaves alone. -/
theorem LawS.call2 {n0 wb : Nat} {s s' : WS} {els : List XW} {es rs : List QW} {ev ov rv : Value} {W W' : World} (h : LawS n0 wb s els es ev ov rs rv W) (hc : WrTo n0 wb W es ev ov s' W') :
    ∃ es' ev' ov', LawS n0 wb s' els es' ev' ov' rs rv W' ∧ Below n0 W W' ∧ ∀ k, k < W.heap.size → ¬ FootW wb es ev ov k → W'.heap[k]? = W.heap[k]? := by
  obtain ⟨es', ev', ov', h1, h2, h3⟩ := hc
  refine ⟨es', ev', ov', ⟨h1, h.el.foot h2 h.apart, fun g hg hw => ?_⟩, h2.below, h2.rest⟩
  rcases h3 g hw with h4 | h4
  · exact h.apart g hg h4
  · have := (h.el.lt hg).2
    omega
end Go.Proofs.Ytajnpmhgldfgfaa
namespace Go.Proofs.Ytajnpmhgldfgfaa
open Go.RowKit
set_option linter.unusedVariables false

/-- A load of a struct, by its run. -/
theorem wpList_loadS {P : Program} {ops : Array Oper} {rest : List Oper} {o : Oper} {a : Act} {Q : Exit → Act → World → Prop} {w : World} {ty : TypeId} {x : Operand} {B : Nat} {v : Value} (hgd : o.guard = none) (ho : o.op = .load ty x) (hx : a.eval x = .pointer (some ⟨B, 0, none⟩)) (hl : (loadVar ty ⟨B, 0, none⟩).run P w = .ok v w)
    (h : wpList P ops Q rest (a.put o.dst v) w) : wpList P ops Q (o :: rest) a w :=
  wpList_plain hgd fun K hK => by
    unfold Oper.wp
    simp only [execOp, ho, hx, Instr.loadAt, Instr.sureAddr, Sem.run_bind, Sem.run_pure, Result.andThen_ok, hl]
    exact hK _ _ h
/-- An operation that yields a value, by its run. -/
theorem wpList_valueS {P : Program} {ops : Array Oper} {rest : List Oper} {o : Oper} {a : Act} {Q : Exit → Act → World → Prop} {w w' : World} {v : Value} (hgd : o.guard = none) (hr : (execOp a.eval o).run P w = .ok (.value v) w')
    (h : wpList P ops Q rest (a.put o.dst v) w') : wpList P ops Q (o :: rest) a w :=
  wpList_plain hgd fun K hK => by
    unfold Oper.wp
    rw [hr]
    exact hK _ _ h
set_option maxRecDepth 100000 in
theorem run_buildRE (ρ : Operand → Value) (o : Oper) (x : Operand) (c0 c1 c2 c3 c4 c5 : Value) (ho : o.op = .buildSlice 37 1 #[(0, x)]) (hx : ρ x = .agg #[c0, c1, c2, c3, c4, c5]) (w : World) :
    (execOp ρ o).run Try.prog w = .ok (.value (.slice (some ⟨w.heap.size, 0, none⟩) 1 1)) (w.alloc (.cells #[c0, c1, c2, c3, c4, c5] 43)) := by
  simp only [execOp, ho]
  go_simp
theorem infoRA : (Try.prog.info? 45).map (fun i => (i.zero, i.size, i.bytes)) = some (some (.agg #[.string ⟨#[]⟩, .string ⟨#[]⟩, .int .i64 0]), 3, 40) := by kernel_rfl
theorem infoRE : (Try.prog.info? 43).map (fun i => (i.zero, i.size, i.bytes)) = some (some (.agg #[.string ⟨#[]⟩, .int .i64 0, .int .i64 0, .slice none 0 0, .slice none 0 0, .string ⟨#[]⟩]), 6, 96) := by kernel_rfl
theorem LawS.base {n0 wb : Nat} {s : WS} {els : List XW} {es rs : List QW} {ev ov rv : Value} {W : World} (h : LawS n0 wb s els es ev ov rs rv W) : n0 ≤ W.heap.size := h.wr.base
theorem LawS.at_ {n0 wb u : Nat} {s : WS} {els : List XW} {es rs : List QW} {ev ov rv : Value} {W : World} (h : LawS n0 wb s els es ev ov rs rv W) (hu : u < els.length) : ∃ q g cap, rs[u]? = some q ∧ els[u]? = some q.1 ∧ rv = .slice (some ⟨g, 0, none⟩) rs.length cap ∧ n0 ≤ g ∧ g < W.heap.size ∧ u < rs.length := by
  have hl : u < rs.length := by rw [h.el.len]; exact hu
  obtain ⟨q, hq⟩ : ∃ q, rs[u]? = some q := ⟨_, List.getElem?_eq_getElem hl⟩
  obtain ⟨g, cap, hf, hg⟩ := h.el.form hq
  refine ⟨q, g, cap, hq, by rw [← h.el.told, List.getElem?_map, hq]; rfl, hf, hg, ?_, hl⟩
  have := h.el.row
  rw [hf] at this
  exact own_lt this rfl
/-- More text. -/
theorem LawS.rtext {n0 wb u g cap : Nat} {s : WS} {els : List XW} {es rs : List QW} {ev ov : Value} {W : World} {q : QW} (x : ByteArray) (h : LawS n0 wb s els es ev ov rs (.slice (some ⟨g, 0, none⟩) rs.length cap) W) (hq : rs[u]? = some q) :
    LawS n0 wb s (els.modify u (addT x)) es ev ov (rs.set u (addT x q.1, q.2.1, q.2.2)) (.slice (some ⟨g, 0, none⟩) rs.length cap) (W.setCell ⟨g, u * 6 + 5, none⟩ (.string (q.1.text ++ x))) ∧ Below n0 W (W.setCell ⟨g, u * 6 + 5, none⟩ (.string (q.1.text ++ x))) := by
  have hqm : q ∈ rs := List.mem_of_getElem? hq
  have g2 := grown_set W g (u * 6 + 5) (.string (q.1.text ++ x))
  have hS : ∀ {e : TypeId} {size n : Nat} {v : Value} {xs : List Value}, W.ownsRow n0 e size v n xs → e ≠ rE → (W.setCell ⟨g, u * 6 + 5, none⟩ (.string (q.1.text ++ x))).ownsRow n0 e size v n xs := fun ho hne =>
    (KeepT.grown (v := .slice (some ⟨g, 0, none⟩) rs.length cap) h.el.row hne g2).owns ho
  obtain ⟨h1, _⟩ := h.el.set (by decide) (by decide) (i := 5) (y := (addT x q.1, q.2.1, q.2.2)) (x := .string (q.1.text ++ x)) hq (by omega) rfl (hS (h.el.attrs q hqm) (by decide)) (hS (h.el.kids q hqm) (by decide)) rfl
  rw [modify_set (f := addT x) (els := els) (u := u) (q := q.1) (by rw [← h.el.told, List.getElem?_map, hq]; rfl)] at h1
  have hgn : n0 ≤ g := (h.el.row.lt g rfl).1
  have hk : KeepF n0 (FootE rs (.slice (some ⟨g, 0, none⟩) rs.length cap)) W (W.setCell ⟨g, u * 6 + 5, none⟩ (.string (q.1.text ++ x))) :=
    ⟨(Below.refl _ _).setCell (p := ⟨g, u * 6 + 5, none⟩) hgn _, fun k hk hf => g2.block k hk (fun e => hf (.inl e.symm))⟩
  refine ⟨h.ref h1 hk (fun k hk => .inl ?_), hk.below⟩
  rcases hk with hk | ⟨r, hr, hk⟩
  · exact .inl hk
  · rcases List.mem_or_eq_of_mem_set hr with hr | rfl
    · exact .inr ⟨r, hr, hk⟩
    · exact .inr ⟨q, hqm, hk⟩
/-- One more kid. -/
theorem LawS.rkid {n0 wb u g cap gg kc n : Nat} {s : WS} {els : List XW} {es rs : List QW} {ev ov : Value} {W W1 : World} {q : QW} (h : LawS n0 wb s els es ev ov rs (.slice (some ⟨g, 0, none⟩) rs.length cap) W) (hq : rs[u]? = some q)
    (hown : W1.ownsRow n0 3 1 (.slice (some ⟨gg, 0, none⟩) (q.1.kids.length + 1) kc) (q.1.kids.length + 1) (intCells q.1.kids ++ [.int .i64 n])) (hgrow : W.grownBy W1 q.2.2.ownBlock) (hat : q.2.2.ownBlock = some gg ∨ gg = W.heap.size) :
    LawS n0 wb s (els.modify u (addK n)) es ev ov (rs.set u (addK n q.1, q.2.1, .slice (some ⟨gg, 0, none⟩) (q.1.kids.length + 1) kc)) (.slice (some ⟨g, 0, none⟩) rs.length cap) (W1.setCell ⟨g, u * 6 + 4, none⟩ (.slice (some ⟨gg, 0, none⟩) (q.1.kids.length + 1) kc)) ∧
      Below n0 W (W1.setCell ⟨g, u * 6 + 4, none⟩ (.slice (some ⟨gg, 0, none⟩) (q.1.kids.length + 1) kc)) := by
  obtain ⟨h1, h2, h3⟩ := h.el.kid (by decide) (by decide) (by decide) h.base hq hown hgrow hat
  exact ⟨h.ref h1 h2 (fun k hk => by
    rcases h3 k hk with h4 | h4
    · exact .inl h4
    · exact .inr (h.fresh h4)), h2.below⟩
/-- One more element. -/
theorem LawS.rpush {n0 wb gg kc : Nat} {s : WS} {els : List XW} {es rs : List QW} {ev ov rv : Value} {W W1 : World} (q : QW) (h : LawS n0 wb s els es ev ov rs rv W) (hq : AttrsW rA n0 W q.1.attrs q.2.1) (hqf : ∀ k, Has q.2.1 k → ¬ FootW wb es ev ov k) (hk0 : q.1.kids = []) (hk1 : q.2.2 = .slice none 0 0)
    (hown : W1.ownsRow n0 rE 6 (.slice (some ⟨gg, 0, none⟩) (rs.length + 1) kc) (rs.length + 1) (rs.flatMap wCells ++ wCells q)) (hgrow : W.grownBy W1 rv.ownBlock) (hat : rv.ownBlock = some gg ∨ gg = W.heap.size) :
    LawS n0 wb s (els ++ [q.1]) es ev ov (rs ++ [q]) (.slice (some ⟨gg, 0, none⟩) (rs.length + 1) kc) W1 ∧ Below n0 W W1 := by
  obtain ⟨h1, h2, h3⟩ := h.el.push q (by decide) (by decide) h.base hq hk0 hk1 hown hgrow hat
  exact ⟨h.ref h1 h2 (fun k hk => by
    rcases h3 k hk with h4 | h4 | h4
    · exact .inl h4
    · exact .inr (h.fresh h4)
    · exact .inr (hqf k h4)), h2.below⟩
theorem TxtRd.parts {W : World} {a : Option Addr} {n c : Nat} {l : List ByteArray} (h : TxtRd W (.slice a n c) l) : RdS W a l ∧ RdX W (.slice a n c) l ∧ l.length = n := by
  obtain ⟨a', c', he, h1, h2⟩ := h.rdx
  simp only [Value.slice.injEq] at he
  obtain ⟨rfl, rfl, rfl⟩ := he
  exact ⟨h1, h2, rfl⟩
theorem StrRd.at_ {W : World} {a : Option Addr} {n c : Nat} {l : List ByteArray} (h : StrRd W (.slice a n c) l) (hn : 0 < l.length) : ∃ b o, a = some ⟨b, o, none⟩ ∧ b < W.heap.size ∧ ∀ j x, l[j]? = some x → W.cell? ⟨b, o + j, none⟩ = some (.string x) := by
  obtain ⟨a', c', he, h2⟩ := h
  simp only [Value.slice.injEq] at he
  obtain ⟨rfl, -, rfl⟩ := he
  exact h2 (fun e => by rw [e] at hn; exact absurd hn (by decide))
theorem elsK_of (els : List XW) (u : Nat) (t : List Nat) : elsK els (u :: t) = els.modify u (addK els.length) := rfl
end Go.Proofs.Ytajnpmhgldfgfaa
namespace Go

section
variable {P : Program} {ops : Array Oper} {Q : Exit → Act → World → Prop} {md : Region.Mode} {S : World → Prop} {k : Nat}

theorem put_list {d : Nat} {dst : Option Nat} (h : dst = some d) (ts : List Value) (df : List Deferred) (v : Value) : Act.put ⟨ts.toArray, df⟩ dst v = ⟨(ts.set d v).toArray, df⟩ := by
  subst h
  simp [Act.put]
theorem wpAnyK_load2 (i d : Nat) {oi : Oper} {v : Value} {fuel : Nat} {listed : Array Bool} {ts : List Value} {df : List Deferred} {w : World} (hi : ops[i]? = some oi) (hd : oi.dst = some d)
    (hs : Region.noSelect ops = true) (hf : (Region.free md ops listed i && (Region.ready md ops listed).contains i && Region.waitsFor md ops k i && !listed.getD k true && i != k) = true)
    (hQ : ∀ c a w, Q (.panic c) (a.put oi.dst v) w → Q (.panic c) a w) (hy : YieldsIf P ops S oi v ⟨ts.toArray, df⟩) (hS : S w)
    (h : S w → wpAnyK k P md ops Q S fuel (listed.setIfInBounds i true) ⟨(ts.set d v).toArray, df⟩ w) : wpAnyK k P md ops Q S (fuel + 1) listed ⟨ts.toArray, df⟩ w :=
  wpAnyK_load i hi hs hf hQ hy hS (fun hs => by rw [put_list hd]; exact h hs)
theorem wpAnyK_take2 (i d : Nat) {oi : Oper} {v : Value} {fuel : Nat} {listed : Array Bool} {ts : List Value} {df : List Deferred} {w : World} (hi : ops[i]? = some oi) (hd : oi.dst = some d)
    (hs : Region.noSelect ops = true) (hf : (Region.free md ops listed i && (Region.ready md ops listed).contains i && i != k) = true)
    (hQ : ∀ c a w, Q (.panic c) (a.put oi.dst v) w → Q (.panic c) a w) (hy : Region.wanted oi (yielded ops (Act.mk ts.toArray df).tmps) = true ∧ ∀ w, (execOp (Act.mk ts.toArray df).eval oi).run P w = .ok (.value v) w) (hS : listed.getD k true = false → S w)
    (h : wpAnyK k P md ops Q S fuel (listed.setIfInBounds i true) ⟨(ts.set d v).toArray, df⟩ w) : wpAnyK k P md ops Q S (fuel + 1) listed ⟨ts.toArray, df⟩ w :=
  wpAnyK_take i hi hs hf hQ hy hS (by rw [put_list hd]; exact h)
theorem wpAnyK_one2 (i d : Nat) {o : Oper} {fuel : Nat} {listed : Array Bool} {ts : List Value} {df : List Deferred} {w : World} (hi : ops[i]? = some o) (hd : o.dst = some d) (hr : Region.ready md ops listed = [i])
    (h : ∀ K' : Act → World → Prop, RowKit.Hid (∀ v w, ((listed.setIfInBounds i true).getD k true = false → S w) → wpAnyK k P md ops Q S fuel (listed.setIfInBounds i true) ⟨(ts.set d v).toArray, df⟩ w → K' (Act.put ⟨ts.toArray, df⟩ o.dst v) w) → if Region.wanted o (yielded ops (Act.mk ts.toArray df).tmps) = true then Oper.wp P o ⟨ts.toArray, df⟩ w K' Q else K' (Act.put ⟨ts.toArray, df⟩ o.dst undef) w) : wpAnyK k P md ops Q S (fuel + 1) listed ⟨ts.toArray, df⟩ w :=
  wpAnyK_one i hi hr fun K' hK => h K' (Lib.hid fun v w hs hv => hK.out _ _ hs (by rw [put_list hd]; exact hv))
end
end Go
