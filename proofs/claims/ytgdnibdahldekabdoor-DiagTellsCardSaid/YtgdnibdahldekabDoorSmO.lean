/- The program's Order: a copy that is sorted, stably. -/
import Derived.Test.YtgdnibdahldekabDoorSmS
import Derived.Test.YtgdnibdahldekabDoorDgC
namespace Go.Proofs.YtgdnibdahldekabDoor
open Go.RowKit Go.Sort
set_option linter.unusedVariables false

set_option maxRecDepth 100000 in
theorem clone_row (g n cap : Nat) (ds : List Di) (hl : ds.length = n) (hm : n ≤ 1000) (w : World) (hg : g < w.heap.size)
    (hc : ∀ j u, (ds.flatMap diCells)[j]? = some u → w.cell? ((⟨g, 0, none⟩ : Addr).add j) = some u) :
    Calls Tryd.prog 24 #[.slice (some ⟨g, 0, none⟩) n cap] w fun e W' => ∃ v, e = .returned v ∧ W'.ownsRow w.heap.size 31 3 v n (ds.flatMap diCells) ∧ Below w.heap.size w W' := by
  have HL := Lib.hid hl
  have HC := Lib.hid hc
  obtain ⟨i0, hi0, hz0, hz1, hz2⟩ := info_parts infoD
  have hown : (w.alloc (.cells #[] 31)).ownsRow w.heap.size 31 3 (.slice (some ⟨w.heap.size, 0, none⟩) 0 0) 0 [] :=
    ⟨rfl, .inr ⟨w.heap.size, 0, #[], rfl, Nat.le_refl _, heap_alloc_new w _, Nat.le_refl _, by unfold maxLen; omega, rfl, rfl⟩⟩
  have h1 : ∀ u ∈ ds.flatMap diCells, u.oneCell' = true := by
    intro u hu
    rw [List.mem_flatMap] at hu
    obtain ⟨d, _, hu⟩ := hu
    simp at hu
    rcases hu with rfl | rfl | rfl <;> rfl
  have H1 := Lib.hid h1
  have hlen : (ds.flatMap diCells).length = n * 3 := by rw [diCells_len, hl]
  have HLEN := Lib.hid hlen
  have hnews : ∀ j u, (ds.flatMap diCells)[j]? = some u → (w.alloc (.cells #[] 31)).cell? ((⟨g, 0, none⟩ : Addr).add j) = some u := fun j u hu => by
    have := hc j u hu
    rw [← this]
    exact ((Below.refl _ w).alloc (Nat.le_refl _) _).cell (by rw [add_block]; exact hg)
  have HNEWS := Lib.hid hnews
  clear hl hc h1 hlen hnews
  generalize ds.flatMap diCells = xs at *
  have hs : ∀ W : World, (binOp .eql 22 (.slice (some ⟨g, 0, none⟩) n cap) (.slice none 0 0)).run Tryd.prog W = .ok (.bool false) W := fun W => Lib.run_eql_slice_nil W _ _ (some _) n cap 0 0 Tryd.underlying22
  go_enter Tryd.func24, Tryd.ntmps24
  go_wp2_with (at_builtin; refine wpList_append_own _ rfl _ _ _ rfl w.heap.size _ i0 _ 3 32 Tryd.underlying22 hi0 hz0 hz1 hz2 rfl (by omega) _ 0 [] rfl hown ⟨g, 0, none⟩ n cap xs rfl HLEN.out HNEWS.out H1.out (by unfold maxLen; omega) (by omega) (by simp) ?_; intro v' w' r1 r2 r3; have r1' := r1; obtain ⟨qb, qc, rfl⟩ := ownsRow_slice' r1)
  go_wp2
  go_ret
  refine ⟨_, rfl, by simpa using r1', ((Below.refl _ w).alloc (Nat.le_refl _) _).grown r2 (by simp) (fun j ej => by cases ej; exact Nat.le_refl _)⟩

/-- A row that is owned, as the sort looks at it. -/
theorem dr_of_owns {W : World} {base n : Nat} {v : Value} {ds : List Di} (h : W.ownsRow base 31 3 v n (ds.flatMap diCells)) (hn : n = ds.length) :
    (v = .slice none 0 0 ∧ n = 0) ∨ ∃ g cap, v = .slice (some ⟨g, 0, none⟩) n cap ∧ base ≤ g ∧ n ≤ cap ∧ cap ≤ maxLen ∧ DR W g cap n (fun i => ds.getD i zeroDi) id := by
  rcases h.2 with h0 | ⟨g, cap, cur, hv, hb, hg, h1, h2, h3, h4⟩
  · exact .inl h0
  · refine .inr ⟨g, cap, hv, hb, h1, h2, cur, hg, h3, fun i hi j hj => ?_⟩
    have e1 : (cur.toList.take (n * 3))[i * 3 + j]? = cur[i * 3 + j]? := by rw [List.getElem?_take_of_lt (by omega)]; simp
    have hi' : i < ds.length := by omega
    rw [← e1, h4, flatD ds i j hj, List.getElem?_eq_getElem hi']
    simp [List.getD, List.getElem?_eq_getElem hi']
theorem owns_of_dr {W : World} {base n g cap : Nat} {o : Nat → Di} {f : Nat → Nat} (h : DR W g cap n o f) (hb : base ≤ g) (hn : n ≤ cap) (hc : cap ≤ maxLen) :
    W.ownsRow base 31 3 (.slice (some ⟨g, 0, none⟩) n cap) n (((List.range n).map fun i => o (f i)).flatMap diCells) := by
  obtain ⟨cur, hg, hs, hcl⟩ := h
  refine ⟨by rw [diCells_len]; simp, .inr ⟨g, cap, cur, rfl, hb, hg, hn, hc, hs, ?_⟩⟩
  apply List.ext_getElem?
  intro k
  by_cases hk : k < n * 3
  · obtain ⟨i, j, hj, rfl⟩ : ∃ i j, j < 3 ∧ k = i * 3 + j := ⟨k / 3, k % 3, by omega, by omega⟩
    have hi : i < n := by omega
    rw [List.getElem?_take_of_lt hk, flatD _ i j hj, List.getElem?_map, List.getElem?_range hi, Array.getElem?_toList, hcl i hi j hj]
    rfl
  · rw [List.getElem?_eq_none (by simp; omega), List.getElem?_eq_none (by rw [diCells_len]; simp; omega)]
theorem gb_below {B : Nat} {w w1 W : World} {g : Nat} (h1 : Below B w w1) (h2 : w1.grownBy W (some g)) (hB : B ≤ w1.heap.size) (hg : B ≤ g) : Below B w W :=
  h1.grown h2 hB (fun j ej => by cases ej; exact hg)

set_option maxRecDepth 100000 in
theorem ins_zero (x : Option Addr) (c : Nat) (w : World) :
    Calls Tryd.prog 75 #[.slice x 0 c, .int .i64 0, .int .i64 0, cmpV] w fun e W' => (∃ v, e = .returned v) ∧ W' = w := by
  go_enter Tryd.func75, Tryd.ntmps75
  go_wp2
  refine wp_loop_rounds 1 ?_
  rw [rounds_succ]
  go_wp2
  go_returns
  exact ⟨⟨_, rfl⟩, rfl⟩
set_option maxRecDepth 100000 in
theorem stable_zero (x : Option Addr) (c : Nat) (w : World) :
    Calls Tryd.prog 58 #[.slice x 0 c, .int .i64 0, cmpV] w fun e W' => (∃ v, e = .returned v) ∧ W' = w := by
  have HK := Lib.hid (ins_zero x c w)
  go_enter Tryd.func58, Tryd.ntmps58
  go_wp2
  refine wp_loop_rounds 1 ?_
  rw [rounds_succ]
  go_wp2_with fail
  refine HK.out.mono ?_
  rintro e w1 ⟨⟨v1, rfl⟩, rfl⟩
  go_wp2_with fail
  refine wp_loop_rounds 1 ?_
  rw [rounds_succ]
  go_wp2
  go_returns
  exact ⟨⟨_, rfl⟩, rfl⟩

/-- What the sort leaves behind. -/
def SortR (w : World) (v : Value) (base n : Nat) (o : Nat → Di) (e : Ending) (W' : World) : Prop :=
  (∃ u, e = .returned u) ∧ ∃ f', Srt (keyO o) f' 0 n ∧ (∀ i, i < n → f' i < n) ∧ W'.ownsRow base 31 3 v n (((List.range n).map fun i => o (f' i)).flatMap diCells) ∧ Below base w W'
set_option maxRecDepth 100000 in
theorem sortStable_any (base : Nat) (v : Value) (ds : List Di) (w : World) (h : w.ownsRow base 31 3 v ds.length (ds.flatMap diCells)) (hm : ds.length ≤ 1000) (hB : base ≤ w.heap.size) :
    Calls Tryd.prog 28 #[v, cmpV] w fun e W' => SortR w v base ds.length (fun i => ds.getD i zeroDi) e W' := by
  rcases dr_of_owns h rfl with ⟨rfl, h0⟩ | ⟨g, cap, rfl, hb, hn, hc, hD⟩
  · have HO := Lib.hid h
    have H0 := Lib.hid h0
    have HK := Lib.hid (stable_zero none 0 w)
    clear h h0
    go_enter Tryd.func28, Tryd.ntmps28
    go_wp2_with fail
    refine HK.out.mono ?_
    rintro e w1 ⟨⟨v1, rfl⟩, rfl⟩
    go_wp2
    go_returns
    have h0 := H0.out
    refine ⟨⟨_, rfl⟩, id, fun i j h1 h2 h3 => by omega, fun i hi => hi, ?_, Below.refl _ _⟩
    rw [h0]
    exact World.ownsRow_nil _ _ _ _
  · have HK := Lib.hid (stable_any g cap ds.length (fun i => ds.getD i zeroDi) id hn hm (fun i j h1 _ => h1) w hD)
    clear h
    generalize ds.length = n at *
    go_enter Tryd.func28, Tryd.ntmps28
    go_wp2_with fail
    refine HK.out.mono ?_
    rintro e w1 ⟨⟨v1, rfl⟩, f', s2, m2, hD1, hG1⟩
    have S2 := Lib.hid s2
    have M2 := Lib.hid m2
    clear s2 m2
    go_wp2
    go_returns
    exact ⟨⟨_, rfl⟩, f', S2.out, fun i hi => (by obtain ⟨k', a1, a2, a3⟩ := M2.out.inn i (Nat.zero_le _) hi; rw [a3]; exact a2), owns_of_dr hD1 hb hn hc, gb_below (Below.refl _ _) hG1 hB hb⟩

/-- What Order answers: the reasons by their places. -/
def OrdR (w : World) (ds : List Di) (e : Ending) (W' : World) : Prop :=
  ∃ v f', e = .returned v ∧ Srt (keyO fun i => ds.getD i zeroDi) f' 0 ds.length ∧ (∀ i, i < ds.length → f' i < ds.length) ∧ W'.ownsRow w.heap.size 31 3 v ds.length (((List.range ds.length).map fun i => ds.getD (f' i) zeroDi).flatMap diCells) ∧ Below w.heap.size w W'
set_option maxRecDepth 100000 in
theorem order_any (g n cap : Nat) (ds : List Di) (hl : ds.length = n) (hm : n ≤ 1000) (w : World) (hg : g < w.heap.size)
    (hc : ∀ j u, (ds.flatMap diCells)[j]? = some u → w.cell? ((⟨g, 0, none⟩ : Addr).add j) = some u) :
    Calls Tryd.prog 19 #[.slice (some ⟨g, 0, none⟩) n cap] w fun e W' => OrdR w ds e W' := by
  have HC := Lib.hid (clone_row g n cap ds hl hm w hg hc)
  have HL := Lib.hid hl
  clear hl hc
  go_enter Tryd.func19, Tryd.ntmps19
  go_wp2_with (go_at_call 24; refine HC.out.mono ?_; rintro e w1 ⟨v, rfl, ho, hB⟩; have HO := Lib.hid ho; clear ho)
  have hS := sortStable_any w.heap.size v ds w1 (by have := HO.out; rw [HL.out]; exact this) (by rw [HL.out]; exact hm) hB.size
  have HS := Lib.hid hS
  clear hS
  go_wp2_with (go_at_call 28; refine HS.out.mono ?_; rintro e w2 ⟨⟨u, rfl⟩, f', s2, hf, ho2, hB2⟩; have S2 := Lib.hid s2; have HF := Lib.hid hf; have HO2 := Lib.hid ho2; clear s2 hf ho2)
  go_wp2
  go_ret
  exact ⟨_, f', rfl, S2.out, HF.out, HO2.out, hB.trans hB2⟩
end Go.Proofs.YtgdnibdahldekabDoor
