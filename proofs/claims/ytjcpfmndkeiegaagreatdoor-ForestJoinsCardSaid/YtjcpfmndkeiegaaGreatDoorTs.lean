/- Rows of texts, as they lie; the walks of hornbeambook's SameTexts, LentTexts, StaysTexts. -/
import Derived.Test.YtjcpfmndkeiegaaGreatDoorMem
import Derived.Test.YtjcpfmndkeiegaaGreatDoorIt
import Derived.Test.YtjcpfmndkeiegaaGreatDoorRd
import Derived.Test.YtjcpfmndkeiegaaGreatDoorOw
import Derived.Maps.AppendAt
import Derived.Deep.Upon
import Derived.DataElems
import Derived.BigRegion
import Derived.BigQuiet
import Derived.IntWalk
import Derived.Lib.Hide
import Derived.Deep.AppendLies
namespace Go.Proofs.YtjcpfmndkeiegaaGreatDoor
open Go.RowKit
set_option linter.unusedVariables false

theorem addr_zero (x : Addr) : x.add 0 = x := by
  obtain ⟨b, o, p⟩ := x
  unfold Addr.add
  cases p <;> simp
theorem infoS : (Tryz.prog.info? 9).map (fun i => (i.zero, i.size, i.bytes)) = some (some (.string ⟨#[]⟩), 1, 16) := by kernel_rfl
theorem below_drewN' {B : Nat} {a w : World} (h : Below B a w) (n : Nat) : Below B a (w.drewN n) := ⟨h.os, h.tape, h.output, h.size, h.block⟩
/-- A slice's texts as they lie. -/
def RdS (w : World) (a : Option Addr) (l : List ByteArray) : Prop := ∀ i (h : i < l.length), ∃ x, a = some x ∧ x.block < w.heap.size ∧ w.cell? (x.add i) = some (.string l[i])
theorem RdS.below {w w' : World} {a : Option Addr} {l : List ByteArray} (h : RdS w a l) (hB : Below w.heap.size w w') : RdS w' a l := fun i hi => by
  obtain ⟨x, h1, h2, h3⟩ := h i hi
  refine ⟨x, h1, Nat.lt_of_lt_of_le h2 hB.size, (hB.cell (p := x.add i) (by rw [add_block]; exact h2)).trans h3⟩
def sv (s : ByteArray) : Value := .string s
/-- A row of texts of the call's own. -/
def StrRow (w : World) (base : Nat) (v : Value) (l : List ByteArray) : Prop := w.ownsRow base 9 1 v l.length (l.map sv)
theorem RdS.blk {w : World} {g : Nat} {l : List ByteArray} (h : BlkAt w g 9 (l.map sv).toArray) : RdS w (some ⟨g, 0, none⟩) l := fun i hi => by
  refine ⟨⟨g, 0, none⟩, rfl, h.lt, ?_⟩
  have := h.cell i
  rw [show (⟨g, 0, none⟩ : Addr).add i = ⟨g, i, none⟩ by simp [Addr.add]; exact fun h => h.symm]
  rw [this]
  simp [sv, List.getElem?_eq_getElem hi]
/-- A slice of the front, a slice of the rest. -/
theorem RdS.take {w : World} {x : Addr} {ns : List ByteArray} (h : RdS w (some x) ns) (k : Nat) : RdS w (some x) (ns.take k) := fun i hi => by
  rw [List.length_take] at hi
  obtain ⟨y, h1, h2, h3⟩ := h i (by omega)
  exact ⟨y, h1, h2, by rw [h3, List.getElem_take]⟩
theorem RdS.drop {w : World} {x : Addr} {ns : List ByteArray} (h : RdS w (some x) ns) (k : Nat) : RdS w (some (x.add k)) (ns.drop k) := fun i hi => by
  rw [List.length_drop] at hi
  obtain ⟨y, h1, h2, h3⟩ := h (k + i) (by omega)
  cases h1
  refine ⟨_, rfl, by rw [add_block]; exact h2, ?_⟩
  rw [Addr.add_add]
  rw [h3, List.getElem_drop]
/-- A value as a slice of texts. -/
def RdX (w : World) (xv : Value) (ys : List ByteArray) : Prop := (∃ ad c, xv = .slice (some ad) ys.length c ∧ RdS w (some ad) ys) ∨ (xv = .slice none 0 0 ∧ ys = [])
theorem RdX.below {w w' : World} {xv : Value} {ys : List ByteArray} (h : RdX w xv ys) (hB : Below w.heap.size w w') : RdX w' xv ys := by
  rcases h with ⟨ad, c, rfl, h⟩ | ⟨rfl, rfl⟩
  · exact .inl ⟨ad, c, rfl, h.below hB⟩
  · exact .inr ⟨rfl, rfl⟩
theorem RdX.blk {w : World} {g c : Nat} {l : List ByteArray} (h : BlkAt w g 9 (l.map sv).toArray) : RdX w (.slice (some ⟨g, 0, none⟩) l.length c) l := .inl ⟨_, _, rfl, RdS.blk h⟩
theorem sv_one (l : List ByteArray) : ∀ u ∈ l.map sv, u.oneCell' = true := fun u hu => by
  obtain ⟨s, _, rfl⟩ := List.mem_map.1 hu
  rfl
/-- An append of a slice of texts onto one's own. -/
theorem run_appS (w : World) (base : Nat) (v xv : Value) (l ys : List ByteArray) (hv : StrRow w base v l) (hx : RdX w xv ys) (hlen : l.length + ys.length ≤ 1000000) (hbase : base ≤ w.heap.size) :
    ∃ v' w', (Builtin.append_ #[22, 22] 22 #[v, xv]).run Tryz.prog w = .ok v' w' ∧ StrRow w' base v' (l ++ ys) ∧ w.grownBy w' v.ownBlock := by
  obtain ⟨i0, hi, hz0, hz1, hz2⟩ := info_parts (show (Tryz.prog.info? 9).map (fun i => (i.zero, i.size, i.bytes)) = some (some (.string ⟨#[]⟩), 1, 16) by kernel_rfl)
  rcases hx with ⟨ad, c, rfl, h⟩ | ⟨rfl, rfl⟩
  · obtain ⟨v', w', hr, h2, h3, _, _⟩ := run_append_own_at (P := Tryz.prog) w base 22 22 9 i0 _ 1 16 Tryz.underlying22 hi hz0 hz1 hz2 rfl (by decide) v l.length _ hv ad ys.length c (ys.map sv) (by simp)
      (fun j u hu => by
        rw [List.getElem?_map] at hu
        obtain ⟨s, hs, rfl⟩ := Option.map_eq_some_iff.1 hu
        obtain ⟨hj, rfl⟩ := List.getElem?_eq_some_iff.1 hs
        obtain ⟨x, hxe, -, hc⟩ := h j hj
        cases hxe
        exact hc) (sv_one ys) (by unfold maxLen; omega) (by omega) hbase
    refine ⟨v', w', hr, ?_, h3⟩
    unfold StrRow
    rw [List.length_append, List.map_append]
    exact h2
  · refine ⟨v, w, ?_, by rw [List.append_nil]; exact hv, World.grownBy.refl w _⟩
    obtain ⟨b, n, c, rfl, hnc⟩ : ∃ b n c, v = .slice b n c ∧ n ≤ c := by
      rcases hv.2 with ⟨rfl, h0⟩ | ⟨g, cap, cur, rfl, hb, hg, h1, -⟩
      · exact ⟨none, 0, 0, rfl, Nat.le_refl _⟩
      · exact ⟨_, _, _, rfl, h1⟩
    exact run_append_nothing (P := Tryz.prog) w _ _ _ _ i0 Tryz.underlying22 hi b n c hnc _ (by
      refine ⟨.inl ⟨_, Tryz.underlying22⟩, fun w' => ?_, ?_, ?_, by simp, fun u hu => by cases hu⟩
      · simp [Builtin.lenOf]
      · rw [hz1]; simp [Builtin.firstCells]
      · rw [hz1]; simp [Builtin.firstCells])
/-- At a step of a region that draws. -/
theorem step_appS {w : World} {ops : Array Oper} {o : Oper} {a : Act} {K : Act → World → Prop} {Q : Exit → Act → World → Prop} {E : Prop} (hgd : o.guard = none) (s x : Operand)
    (ho : o.op = .call { callee := .builtin .append, args := #[s, x], argTypes := #[22, 22] }) (hty : o.type = 22)
    (base : Nat) (v xv : Value) (l ys : List ByteArray) (hs : a.eval s = v) (hxe : a.eval x = xv) (hv : StrRow w base v l) (hx : RdX w xv ys) (hlen : l.length + ys.length ≤ 1000000) (hbase : base ≤ w.heap.size)
    (h : ∀ v' w', StrRow w' base v' (l ++ ys) → Below base w w' → K (a.put o.dst v') w') :
    if Region.wanted o (yielded ops a.tmps) = true then Oper.wp Tryz.prog o a w K Q else E := by
  have hw : Region.wanted o (yielded ops a.tmps) = true := by simp [Region.wanted, hgd]
  rw [if_pos hw]
  obtain ⟨v', w', hr, h2, h3⟩ := run_appS w base v xv l ys hv hx hlen hbase
  unfold Oper.wp execOp
  simp only [ho, hty, resolve, invoke, builtin, Sem.run_bind, Sem.run_pure, Result.andThen_ok, List.map_toArray, List.map_cons, List.map_nil, hs, hxe, hr]
  exact h v' w' h2 ((Below.refl base w).grown h3 hbase fun k e => (hv.lt k e).1)
theorem strRow_nil (w : World) (base : Nat) : StrRow w base (.slice none 0 0) [] := World.ownsRow_nil _ _ _ _
/-- A row's cells. -/
theorem cells_own {w : World} {base g n c : Nat} {l : List ByteArray} (h : w.ownsRow base 9 1 (.slice (some ⟨g, 0, none⟩) n c) n (l.map sv)) {i : Nat} (hi : i < l.length) : w.cell? ⟨g, i, none⟩ = some (.string l[i]) := by
  have := h.cells (g := g) rfl i _ (by rw [List.getElem?_map, List.getElem?_eq_getElem hi]; rfl)
  have hadd : (⟨g, 0, none⟩ : Addr).add i = ⟨g, i, none⟩ := by unfold Addr.add; split <;> simp_all
  rw [hadd] at this
  exact this
theorem rdS_own {w : World} {base n c : Nat} {vb : Option Addr} {l : List ByteArray} (h : StrRow w base (.slice vb n c) l) : RdS w vb l := fun i hi => by
  obtain ⟨g, cap, he, hb, hlt⟩ := World.ownsRow.form h (by omega)
  simp only [Value.slice.injEq] at he
  obtain ⟨rfl, rfl, rfl⟩ := he
  exact ⟨_, rfl, hlt, h.cells (g := g) rfl i _ (by rw [List.getElem?_map, List.getElem?_eq_getElem hi]; rfl)⟩
/-- 'append(s, xs...)' of texts, s of the call's own. -/
theorem wpList_appS {w : World} {ops : Array Oper} {rest : List Oper} {o : Oper} {a : Act} {Q : Exit → Act → World → Prop} (hgd : o.guard = none) (s x : Operand)
    (ho : o.op = .call { callee := .builtin .append, args := #[s, x], argTypes := #[22, 22] }) (hty : o.type = 22)
    (base : Nat) (v xv : Value) (l ys : List ByteArray) (hs : a.eval s = v) (hxe : a.eval x = xv) (hv : StrRow w base v l) (hx : RdX w xv ys) (hlen : l.length + ys.length ≤ 1000000) (hbase : base ≤ w.heap.size)
    (h : ∀ v' w', StrRow w' base v' (l ++ ys) → Below base w w' → wpList Tryz.prog ops Q rest (a.put o.dst v') w') : wpList Tryz.prog ops Q (o :: rest) a w :=
  wpList_plain hgd fun K hK => by
    obtain ⟨v', w', hr, h2, h3⟩ := run_appS w base v xv l ys hv hx hlen hbase
    unfold Oper.wp execOp
    simp only [ho, hty, resolve, invoke, builtin, Sem.run_bind, Sem.run_pure, Result.andThen_ok, List.map_toArray, List.map_cons, List.map_nil, hs, hxe, hr]
    exact hK _ _ (h v' w' h2 ((Below.refl base w).grown h3 hbase fun k e => (hv.lt k e).1))
set_option maxRecDepth 100000 in
set_option maxHeartbeats 4000000 in
theorem sameTexts_any {w : World} {x y : Option Addr} {n m c d : Nat} {l r : List ByteArray} (hl : RdS w x l) (hln : l.length = n) (hr : RdS w y r) (hrn : r.length = m) (hn : n ≤ 1000000) (hm : m ≤ 1000000) :
    Calls Tryz.prog 9 #[.slice x n c, .slice y m d] w fun e w' => e = .returned (.bool (decide (l = r))) ∧ Below w.heap.size w w' := by
  by_cases hnm : n = m
  · subst hnm
    have HL := Lib.hid hl
    have HR := Lib.hid hr
    have HLn := Lib.hid hln
    have HRn := Lib.hid hrn
    clear hl hr hln hrn
    go_enter Tryz.func9, Tryz.ntmps9
    go_wp2
    go_loopw [5] (fun p W => ∃ k : Nat, p = .int .i64 k ∧ k ≤ n ∧ Hid (l.take k = r.take k) ∧ Below w.heap.size w W) (fun p W => n - (intOf p).toNat)
    case atStart => exact ⟨0, rfl, Nat.zero_le _, Lib.hid rfl, Below.refl _ _⟩
    case round =>
      obtain ⟨k, rfl, hk, hT, hB⟩ := hrel
      have HB := Lib.hid hB
      clear hB
      by_cases hlt : k < n
      · obtain ⟨u, rfl, hub, huc⟩ := (HL.out.below HB.out) k (by rw [HLn.out]; exact hlt)
        obtain ⟨v, rfl, hvb, hvc⟩ := (HR.out.below HB.out) k (by rw [HRn.out]; exact hlt)
        obtain ⟨s, hs⟩ : ∃ s, l[k]'(by rw [HLn.out]; exact hlt) = s := ⟨_, rfl⟩
        obtain ⟨t, ht⟩ : ∃ t, r[k]'(by rw [HRn.out]; exact hlt) = t := ⟨_, rfl⟩
        rw [hs] at huc
        rw [ht] at hvc
        have HSk := Lib.hid (show l[k]? = some s by rw [List.getElem?_eq_getElem (by rw [HLn.out]; exact hlt), hs])
        have HTk := Lib.hid (show r[k]? = some t by rw [List.getElem?_eq_getElem (by rw [HRn.out]; exact hlt), ht])
        clear hs ht hub hvb
        have hls : l.take (k + 1) = l.take k ++ [s] := by rw [List.take_add_one, HSk.out]; rfl
        have hrs : r.take (k + 1) = r.take k ++ [t] := by rw [List.take_add_one, HTk.out]; rfl
        have HLs := Lib.hid hls
        have HRs := Lib.hid hrs
        clear hls hrs
        by_cases hst : s = t
        · subst hst
          go_wp2
          go_quiet (fail)
          go_wp2
          exact ⟨⟨k + 1, by go_num, by omega, Lib.hid (by rw [HLs.out, HRs.out, hT.out]), below_drewN' HB.out nq⟩, by simp only [intOf]; omega⟩
        · have hss : (s.toList == t.toList) = false := beq_eq_false_iff_ne.2 (fun h => hst (by
            rw [ByteArray.toList_eq, ByteArray.toList_eq] at h
            exact ByteArray.ext (Array.toList_inj.1 h)))
          have HN := Lib.hid (show decide (l = r) = false from decide_eq_false (fun e => hst (by
            have h1 := HSk.out
            rw [e, HTk.out] at h1
            exact (Option.some.inj h1).symm)))
          go_wp2
          go_quiet (fail)
          go_wp2
          go_ret
          exact ⟨ret_bool HN.out.symm, below_drewN' HB.out nq⟩
      · obtain rfl : k = n := by omega
        go_wp2
        go_ret
        refine ⟨ret_bool ?_, HB.out⟩
        have := hT.out
        rw [List.take_of_length_le (by rw [HLn.out]; exact Nat.le_refl _), List.take_of_length_le (by rw [HRn.out]; exact Nat.le_refl _)] at this
        simp [this]
  · have hne : ((n : Int) != (m : Int)) = true := bne_iff_ne.2 (by omega)
    have hd : decide (l = r) = false := decide_eq_false (fun e => hnm (by rw [← hln, ← hrn, e]))
    rw [hd]
    clear hl hr hln hrn hd
    go_enter Tryz.func9, Tryz.ntmps9
    go_wp2
    go_ret
    exact ⟨rfl, Below.refl _ _⟩
/-- The mark behind a lent list. -/
abbrev markS : ByteArray := ⟨#[109, 97, 114, 107]⟩
theorem strRow_form {w : World} {base n : Nat} {v : Value} {l : List ByteArray} (h : StrRow w base v l) (hl : l.length = n) (h0 : 0 < n) : ∃ g c, v = .slice (some ⟨g, 0, none⟩) n c ∧ base ≤ g ∧ g < w.heap.size ∧ n ≤ c := by
  unfold StrRow at h
  rw [hl] at h
  rcases h.2 with ⟨_, h1⟩ | ⟨g, cap, cur, rfl, hb, hg, h1, _⟩
  · omega
  · exact ⟨g, cap, rfl, hb, (Array.getElem?_eq_some_iff.1 hg).1, h1⟩
set_option maxRecDepth 100000 in
set_option maxHeartbeats 4000000 in
theorem lent_any {w : World} {x : Option Addr} {n c : Nat} {ns : List ByteArray} (hx : RdX w (.slice x n c) ns) (hn : ns.length = n) (hlim : n ≤ 100000) :
    Calls Tryz.prog 12 #[.slice x n c] w fun e w' => ∃ g cap, e = .returned (.slice (some ⟨g, 0, none⟩) n cap) ∧ n + 1 ≤ cap ∧ w.heap.size ≤ g ∧ g < w'.heap.size ∧ StrRow w' w.heap.size (.slice (some ⟨g, 0, none⟩) (n + 1) cap) (ns ++ [markS]) ∧ Below w.heap.size w w' := by
  have HX := Lib.hid hx
  have HN := Lib.hid hn
  have HL := Lib.hid (show ([] : List ByteArray).length + ns.length ≤ 1000000 by rw [hn]; simp; omega)
  have HL2 := Lib.hid (show ([] ++ ns : List ByteArray).length + [markS].length ≤ 1000000 by rw [List.nil_append, hn]; simp; omega)
  clear hx hn
  go_enter Tryz.func12, Tryz.ntmps12
  go_wp2_with (first
    | (at_builtin; refine wpList_appS rfl _ _ rfl rfl w.heap.size (.slice none 0 0) (.slice x n c) [] ns rfl rfl (strRow_nil _ _) HX.out HL.out (Nat.le_refl _) ?_; intro v3 w3 ho3 hB3; have HO3 := Lib.hid ho3; have HB3 := Lib.hid hB3; clear ho3 hB3)
    | (at_builtin; refine wpList_appS rfl _ _ rfl rfl w.heap.size v3 (.slice (some ⟨w3.heap.size, 0, none⟩) 1 1) ([] ++ ns) [markS] rfl rfl (HO3.out.alloc _) (RdX.blk (l := [markS]) (BlkAt.new w3 9 #[.string markS])) HL2.out (by have := HB3.out.size; rw [World.size_alloc]; omega) ?_; intro v5 w5 ho5 hB5; have HB5 := Lib.hid ((HB3.out.alloc HB3.out.size (Obj.cells #[.string markS] 9)).trans hB5); have ho5' : StrRow w5 w.heap.size v5 (ns ++ [markS]) := ho5; obtain ⟨g, cap, rfl, hg1, hg2, hg3⟩ := strRow_form ho5' (show (ns ++ [markS]).length = n + 1 by rw [List.length_append, HN.out]; rfl) (by omega); have HO5 := Lib.hid ho5'; have hnc : n ≤ cap := (by omega); clear ho5 ho5' hB5))
  go_ret
  exact ⟨_, _, rfl, hg3, hg1, hg2, HO5.out, HB5.out⟩
set_option maxRecDepth 100000 in
set_option maxHeartbeats 4000000 in
theorem stays_any {w : World} {g n cap : Nat} {y : Option Addr} {d : Nat} {ns : List ByteArray} (h : RdS w (some ⟨g, 0, none⟩) (ns ++ [markS])) (hn : ns.length = n) (hc : n + 1 ≤ cap) (hy : RdS w y ns) (hlim : n ≤ 100000) :
    Calls Tryz.prog 14 #[.slice (some ⟨g, 0, none⟩) n cap, .slice y n d] w fun e w' => e = .returned (.bool true) ∧ Below w.heap.size w w' := by
  have h1 : RdS w (some ⟨g, 0, none⟩) ns := fun i hi => by
    obtain ⟨x, hx, hb, hcl⟩ := h i (by rw [List.length_append]; omega)
    exact ⟨x, hx, hb, by rw [hcl, List.getElem_append_left hi]⟩
  have HS := Lib.hid (sameTexts_any (c := cap) (d := d) h1 hn hy hn (by omega) (by omega))
  have HC := Lib.hid (show (⟨g, 0, none⟩ : Addr).block < w.heap.size ∧ w.cell? ⟨g, n, none⟩ = some (.string markS) by
    obtain ⟨x, hx, hb, hcl⟩ := h n (by rw [List.length_append, hn]; simp)
    cases hx
    have hadd : (⟨g, 0, none⟩ : Addr).add n = ⟨g, n, none⟩ := by unfold Addr.add; split <;> simp_all
    rw [hadd] at hcl
    refine ⟨hb, ?_⟩
    rw [hcl, List.getElem_append_right (by omega)]
    simp [hn])
  have hnI : (n : Int) + 1 ≤ (cap : Int) := by omega
  have hnJ : (n : Int) ≤ 100000 := by omega
  clear h h1 hn hy
  go_enter Tryz.func14, Tryz.ntmps14
  go_wp2_with fail
  refine HS.out.mono ?_
  clear HS
  rintro e w3 ⟨rfl, hB3⟩
  have c1 : w3.cell? ⟨g, n, none⟩ = some (.string markS) := (hB3.cell (p := ⟨g, n, none⟩) HC.out.1).trans HC.out.2
  have HB3 := Lib.hid hB3
  rw [show decide True = true from rfl]
  clear hB3
  go_wp2
  go_ret
  exact ⟨rfl, HB3.out⟩
end Go.Proofs.YtjcpfmndkeiegaaGreatDoor
