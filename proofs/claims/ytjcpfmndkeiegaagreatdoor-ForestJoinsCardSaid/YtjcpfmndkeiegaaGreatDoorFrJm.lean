/- The law ForestJoins of the given program answers true for every input, and its arguments read behind the call as before: every input of the parameters' types, no further condition; the listed tables of the library are tied to the program's text. (Before it: arguments opened; forest's Join at every method; the law's walk.) -/
import Derived.Deep.Slices
import Derived.Deep.Fields
import Derived.ChangeSame
import Derived.Lib.SmallJoins
import Derived.OpenShut
import Derived.ShutString
import Derived.WalkKit
import Derived.ProofKit
import Derived.Carry
import Derived.Test.YtjcpfmndkeiegaaGreatDoorRnFm
import Derived.Test.YtjcpfmndkeiegaaGreatDoorTbAE
import Derived.Test.YtjcpfmndkeiegaaGreatDoorFoVW
import Derived.Test.YtjcpfmndkeiegaaGreatDoorRows
import Derived.Test.YtjcpfmndkeiegaaGreatDoorCards
import Derived.Test.YtjcpfmndkeiegaaGreatDoorTie
import Derived.Test.YtjcpfmndkeiegaaGreatDoorMem
import Derived.SevenTiedAt
import Derived.LaidMore
import Derived.Stop.Joined
import Derived.Shelf.Vars
import Derived.HandedShaped
import Derived.Lay
import Derived.MakeChecks
import Derived.SliceStrings
namespace Go.Proofs.YtjcpfmndkeiegaaGreatDoor
open Go.ChangeShapes Go.WideShapes Go.RowKit Go.Deep Go.Joins
set_option linter.unusedVariables false

/-- A list of what each index has. -/
theorem list_of {α : Type} {Q : Nat → α → Prop} : ∀ (n : Nat), (∀ i, i < n → ∃ x, Q i x) → ∃ xs : List α, xs.length = n ∧ ∀ i (h : i < xs.length), Q i xs[i]
  | 0, _ => ⟨[], rfl, fun i h => absurd h (by simp)⟩
  | n + 1, h => by
    obtain ⟨xs, hl, hx⟩ := list_of n fun i hi => h i (by omega)
    obtain ⟨x, hq⟩ := h n (by omega)
    refine ⟨xs ++ [x], by simp [hl], fun i hi => ?_⟩
    by_cases hlt : i < xs.length
    · rw [List.getElem_append_left hlt]; exact hx i hlt
    · have e : i = n := by simp at hi; omega
      subst e
      rw [List.getElem_append_right (by omega)]
      simpa using hq

section
variable {H : Type} {enc : TypeId × Value → H} {P : Program} {w : World} {base : Nat} {spare : Nat → Bool} {held : Bool}
/-- A struct's cells, each with what its field's reading takes. -/
theorem parts_of {t : TypeId} {fs : Array Field} {n : Nat} {cs : List Value} {x : DataW H × List MemPlace} (he : P.underlying t = some (.struct fs)) (ho : oneCellFields P fs = true) (hC : P.cellsOf t = fs.size)
    (h : DataW.trod enc P w base spare held n t cs = some x) :
    cs.length = fs.size ∧ ∀ (j : Nat) (f : Field), fs[j]? = some f → ∃ u y m, cs[j]? = some u ∧ DataW.trod enc P w base spare held m f.type [u] = some y := by
  obtain ⟨ys, m, _, _, hlen, hyl, hf⟩ := DataW.trod_struct he h
  rw [hC] at hlen
  refine ⟨hlen, fun j f hj => ?_⟩
  obtain ⟨h1, h2⟩ := hone_of ho j f hj
  have hlt : j < fs.size := (Array.getElem?_eq_some_iff.1 hj).1
  have hcj : j < cs.length := by omega
  have h3 := hf j f hj
  rw [h1, h2, List.drop_eq_getElem_cons hcj, List.take_succ_cons, List.take_zero, List.getElem?_eq_getElem (by omega)] at h3
  exact ⟨cs[j], _, m, List.getElem?_eq_getElem hcj, h3⟩
/-- A slice of structs, element by element, cell by cell. -/
theorem slice_parts {t e : TypeId} {fs : Array Field} {fuel : Nat} {cs : List Value} {x : DataW H × List MemPlace} (ht : P.underlying t = some (.slice e)) (he : P.underlying e = some (.struct fs)) (ho : oneCellFields P fs = true) (hC : P.cellsOf e = fs.size)
    (h : DataW.trod enc P w base spare held fuel t cs = some x) :
    cs = [.slice none 0 0] ∨ ∃ a len cap, cs = [.slice (some a) len cap] ∧ len ≤ cap ∧ cap ≤ maxLen ∧
      ∀ i, i < len → ∀ (j : Nat) (f : Field), fs[j]? = some f → ∃ u y m, w.cell? (a.add (i * fs.size + j)) = some u ∧ DataW.trod enc P w base spare held m f.type [u] = some y := by
  rcases open_slice ht h with ⟨h0, _⟩ | ⟨a, len, cap, m, n, D, Pl, hcs, _, hl, hm, hmm, _, hi⟩
  · exact .inl h0
  · refine .inr ⟨a, len, cap, hcs, hl, hm, fun i hil j f hj => ?_⟩
    have him : i < m := by rw [hmm]; split <;> omega
    obtain ⟨vs, hv, ht'⟩ := hi i him
    obtain ⟨_, hvl, hat⟩ := World.cells?_some hv
    obtain ⟨hlen, hp⟩ := parts_of he ho hC ht'
    obtain ⟨u, y, k, hu, hy⟩ := hp j f hj
    have hlt : j < fs.size := (Array.getElem?_eq_some_iff.1 hj).1
    refine ⟨u, y, k, ?_, hy⟩
    have h4 := hat j (by omega)
    rw [hC, Go.Deep.add_add] at h4
    rw [h4, hu]
/-- A struct by value. -/
theorem struct_parts {r : Reach} {b0 : Nat} {t : TypeId} {fs : Array Field} {v : Value} {d : DataW H} {p : List MemPlace} (he : P.underlying t = some (.struct fs)) (ho : oneCellFields P fs = true) (hC : P.cellsOf t = fs.size)
    (hv : Value.okWide P w r b0 t v) (h : DataW.Trod enc P w base spare held t v d p) :
    ∃ cs : Array Value, v = .agg cs ∧ cs.size = fs.size ∧ ∀ (j : Nat) (f : Field), fs[j]? = some f → ∃ u y m, cs[j]? = some u ∧ DataW.trod enc P w base spare held m f.type [u] = some y := by
  obtain ⟨cs, rfl, hsz⟩ := okWide_struct he hv
  obtain ⟨fuel, hf⟩ := h
  obtain ⟨_, hp⟩ := parts_of he ho hC hf
  refine ⟨cs, rfl, by rw [hsz, hC], fun j f hj => ?_⟩
  obtain ⟨u, y, m, h1, h2⟩ := hp j f hj
  exact ⟨u, y, m, by simpa [Value.cells] using h1, h2⟩
theorem int_cell {t : TypeId} {k : IntKind} {n : Nat} {u : Value} {y : DataW H × List MemPlace} (ht : P.underlying t = some (.int k)) (h : DataW.trod enc P w base spare held n t [u] = some y) : ∃ z, u = .int k z ∧ (Lit.int k z).wf = true := by
  obtain ⟨z, h1, _, h2⟩ := DataW.trod_int ht h
  simp only [List.cons.injEq, and_true] at h1
  exact ⟨z, h1, h2⟩
theorem string_cell {t : TypeId} {n : Nat} {u : Value} {y : DataW H × List MemPlace} (ht : P.underlying t = some .string) (h : DataW.trod enc P w base spare held n t [u] = some y) : ∃ s : ByteArray, u = .string s ∧ s.size ≤ maxLen := by
  obtain ⟨s, h1, _, h2⟩ := DataW.trod_string ht h
  simp only [List.cons.injEq, and_true] at h1
  exact ⟨s, h1, h2⟩
theorem i64_wf {z : Int} (h : (Lit.int .i64 z).wf = true) : -9223372036854775808 ≤ z ∧ z ≤ 9223372036854775807 := by simpa [Lit.wf, IntKind.min, IntKind.max, IntKind.signed, IntKind.bits] using h
theorem u64_wf {z : Int} (h : (Lit.int .u64 z).wf = true) : ∃ n : Nat, z = n ∧ n < 18446744073709551616 := by
  have : 0 ≤ z ∧ z ≤ 18446744073709551615 := by simpa [Lit.wf, IntKind.min, IntKind.max, IntKind.signed, IntKind.bits] using h
  exact ⟨z.toNat, by omega, by omega⟩
/-- All that came in reads behind a call as before, if nothing that lay below has turned. -/
theorem all_kept (hl : laidOutB P = true) {W W' : World} (hb : Below W.heap.size W W') :
    ∀ {ts : List TypeId} {vs : List Value} {ds : List (DataW H)} {ps : List MemPlace}, (∀ t ∈ ts, P.readableRec t = true ∧ t < P.types.size) →
      DataW.TrodAll enc P W 0 (fun _ => true) true ts vs ds ps → DataW.TrodAll enc P W' 0 (fun b => decide (b < W.heap.size)) true ts vs ds ps
  | [], vs, ds, ps, _, h => by
    obtain ⟨rfl, rfl, rfl⟩ := trodAll_nil h
    exact trodAll_mk0
  | t :: ts, vs, ds, ps, ht, h => by
    obtain ⟨v, vs', d, ds', p, q, rfl, rfl, rfl, h1, h2⟩ := trodAll_cons h
    have h3 := ht t (by simp)
    have hlt : ∀ x ∈ p, x.block < W.heap.size := by obtain ⟨m, hm⟩ := h1; exact DataW.trod_lt m _ _ _ hm
    exact trodAll_cons_mk (Below.trod hl h3.1 h3.2 h1 hb hlt) (all_kept hl hb (fun t' h' => ht t' (by simp [h'])) h2)
end
end Go.Proofs.YtjcpfmndkeiegaaGreatDoor
namespace Go.Proofs.YtjcpfmndkeiegaaGreatDoor
open Go.RowKit
set_option linter.unusedVariables false

set_option maxRecDepth 100000 in
set_option maxHeartbeats 8000000 in
theorem joinNone_any {w : World} {a : Option Addr} {c : Nat} (m : Int) (hm : m = 7 ∨ m = 9) (wt : Value) :
    Calls Tryz.prog 8 #[.int .i64 m, .slice a 0 c, wt] w fun e w' => OneAt w w' e ⟨#[]⟩ := by
  obtain ⟨W1, hW1⟩ : ∃ W1, w.alloc (.cells #[.slice none 0 0] 27) = W1 := ⟨_, rfl⟩
  have hB1 : Below w.heap.size w W1 := by rw [← hW1]; exact (Below.refl _ w).alloc (Nat.le_refl _) _
  have HK1 := Lib.hid (show BlkAt W1 w.heap.size 27 #[.slice none 0 0] by rw [← hW1]; exact BlkAt.new w _ _)
  have HB1 := Lib.hid hB1
  clear hB1
  rcases hm with rfl | rfl
  all_goals
    go_enter Tryz.func8, Tryz.ntmps8
    go_wp2
    go_step3
    go_wp2_with (go_at_call 18; refine (one_any _ _).mono ?_; rintro e w5 ⟨g5, rfl, hb5, hg5, hB5⟩; have HB5 := Lib.hid hB5; have HG5 := Lib.hid hb5; have HL5 := Lib.hid hg5; have kR := HK1.out.below hB5 HK1.out.lt; have e0 := kR.cell 0; have f0 := kR.frozen 0; have HKR := Lib.hid kR; clear hb5 hg5 hB5 kR)
    rw [Exit.noGoto_ret]
    exact bodyPost_ret (r_c rfl rfl (aggRes.load rfl (HKR.out.set 0 _))) rfl (one_end HB1.out HB5.out HG5.out HL5.out HK1.out.lt)
set_option maxRecDepth 100000 in
set_option maxHeartbeats 8000000 in
theorem tog0_any {w : World} (m : Int) (hm : m < 1 ∨ 6 < m) (v wt : Value) :
    Calls Tryz.prog 20 #[.int .i64 m, v, wt] w fun e w' => ∃ v', e = .returned (.tuple #[v', .bool false]) ∧ RatAt w' v' 0 ∧ Below w.heap.size w w' := by
  have h1 : (m == 1) = false := beq_eq_false_iff_ne.2 (by omega)
  have h2 : (m == 2) = false := beq_eq_false_iff_ne.2 (by omega)
  have h3 : (m == 3) = false := beq_eq_false_iff_ne.2 (by omega)
  have h4 : (m == 4) = false := beq_eq_false_iff_ne.2 (by omega)
  have h5 : (m == 5) = false := beq_eq_false_iff_ne.2 (by omega)
  have h6 : (m == 6) = false := beq_eq_false_iff_ne.2 (by omega)
  clear hm
  go_enter Tryz.func20, Tryz.ntmps20
  go_wp2
  exact bodyPost_ret (r_ct rfl rfl (aggRat.load rfl (BlkAt.new w _ _))) rfl ⟨_, rfl, RatAt.zero _ _ _, (Below.refl _ w).alloc (Nat.le_refl _) _⟩
/-- What forest's Join tells at every method. -/
theorem joinF_any {w : World} {a : Option Addr} {n c : Nat} {ns : List ByteArray} {x : Option Addr} {p d : Nat} {ws : List ByteArray} (m : Int) (hr : RdS w a ns) (hn : ns.length = n) (hlim : n ≤ 30) (hs : ∀ s ∈ ns, s.size ≤ 100000) (hw : RdS w x ws) (hwl : ws.length = p) (hws : ∀ s ∈ ws, s.size ≤ 100000) (hpl : p ≤ 1000000) :
    Calls Tryz.prog 8 #[.int .i64 m, .slice a n c, .slice x p d] w fun e w' => ∃ v, e = .returned (.agg #[v]) ∧ StrRow w' w.heap.size v (want12 m ns ws) ∧ Below w.heap.size w w' := by
  have one : ∀ {e : Ending} {w' : World} {s : ByteArray}, OneAt w w' e s → want12 m ns ws = [s] → ∃ v, e = .returned (.agg #[v]) ∧ StrRow w' w.heap.size v (want12 m ns ws) ∧ Below w.heap.size w w' := fun {e w' s} h hw => by
    obtain ⟨g, rfl, hb, hg, hB⟩ := h
    refine ⟨_, rfl, ?_, hB⟩
    rw [hw]
    exact ⟨rfl, .inr ⟨g, 1, #[.string s], rfl, hg, hb, Nat.le_refl _, by decide, rfl, rfl⟩⟩
  have hl : (ns.map fun s => parseRQ s.data.toList).length = n := by rw [List.length_map, hn]
  by_cases h8 : m = 8
  · subst h8
    refine (joinAll_any (.slice x p d) hr hn (by omega) hs).mono ?_
    rintro e w' ⟨v, rfl, ho, hB⟩
    exact ⟨v, rfl, ho, hB⟩
  by_cases h7 : m = 7
  · subst h7
    by_cases h0 : 0 < n
    · refine (joinFirst_any (.slice x p d) hr hn h0 (by omega) hs).mono ?_
      intro e w' ho
      refine one ho ?_
      unfold want12
      rw [if_neg (by decide), if_pos ⟨rfl, by omega⟩]
      match ns, hn with
      | s :: t, _ => rfl
      | [], hn => exact absurd hn (by simp; omega)
    · obtain rfl : n = 0 := by omega
      refine (joinNone_any 7 (.inl rfl) (.slice x p d)).mono ?_
      intro e w' ho
      refine one ho ?_
      unfold want12
      rw [if_neg (by decide), if_neg (by rw [hn]; omega), if_neg (fun h => absurd h.1 (by decide)), if_pos (by omega)]
  by_cases h9 : m = 9
  · subst h9
    by_cases h0 : 0 < n
    · refine (joinLast_any (.slice x p d) hr hn h0 (by omega) hs).mono ?_
      intro e w' ho
      refine one ho ?_
      unfold want12
      rw [if_neg (by decide), if_neg (fun h => absurd h.1 (by decide)), if_pos ⟨rfl, by omega⟩, hn, List.drop_eq_getElem_cons (by rw [List.length_map]; omega), List.drop_eq_nil_of_le (by rw [List.length_map]; omega), List.getElem_map, List.getD, List.getElem?_eq_getElem (by omega)]
      rfl
    · obtain rfl : n = 0 := by omega
      refine (joinNone_any 9 (.inr rfl) (.slice x p d)).mono ?_
      intro e w' ho
      refine one ho ?_
      unfold want12
      rw [if_neg (by decide), if_neg (fun h => absurd h.1 (by decide)), if_neg (by rw [hn]; omega), if_pos (by omega)]
  have e1 : want12 m ns ws = if m < 1 ∨ 6 < m ∨ wholeB ns = false then [⟨#[]⟩] else if m = 3 ∧ wAll ws ns.length = 0 then [⟨#[]⟩] else [⟨(textQ (num12 m (ns.map fun s => parseRQ s.data.toList) ws)).toArray⟩] := by
    unfold want12
    rw [if_neg h8, if_neg (by omega), if_neg (by omega)]
  by_cases hall : wholeB ns = true
  · obtain ⟨h0, hg⟩ := wholeB_iff.1 hall
    rw [hn] at h0
    by_cases hm : m < 1 ∨ 6 < m
    · refine (joinNums_any m (.slice x p d) (fun q b => b = false) h7 ⟨h8, h9⟩ hr hn (by omega) hs hg h0 ?_).mono ?_
      · intro W base v hW hrow
        refine (tog0_any m hm v (.slice x p d)).mono ?_
        rintro e w' ⟨v', rfl, hv, hB⟩
        exact ⟨v', 0, false, rfl, rfl, hv, ⟨by rw [num_zero, szN_zero]; omega, Nat.le_trans szN_one (by decide)⟩, hB⟩
      · rintro e w' ⟨q, b, rfl, ho⟩
        exact one ho (by rw [e1, if_pos (by omega)]; rfl)
    by_cases h3 : m = 3
    · subst h3
      refine (joinNums_any 3 (.slice x p d) (fun q b => b = decide (wAll ws n ≠ 0) ∧ q = divP (wSum (ns.map fun s => parseRQ s.data.toList) ws n) (wAll ws n)) h7 ⟨h8, h9⟩ hr hn (by omega) hs hg h0 ?_).mono ?_
      · intro W base v hW hrow
        have := tog3_any (c := d) hrow (parse_wee ns) (by omega) (by omega) (hw.below hW) hwl hws hpl
        rw [hl] at this
        refine this.mono ?_
        rintro e w' ⟨v', rfl, hv, hB⟩
        exact ⟨v', _, _, rfl, ⟨rfl, rfl⟩, hv, divW_sz (parse_wee ns) ws n (by omega), hB⟩
      · rintro e w' ⟨q, b, ⟨rfl, rfl⟩, ho⟩
        by_cases hz : wAll ws n = 0
        · rw [decide_eq_false (by simpa using hz)] at ho
          exact one ho (by rw [e1, if_neg (by rw [hall]; simp), hn, if_pos ⟨rfl, hz⟩]; rfl)
        · rw [decide_eq_true hz] at ho
          refine one ho ?_
          rw [e1, if_neg (by rw [hall]; simp), hn, if_neg (by simpa using hz)]
          have e2 : num12 3 (ns.map fun s => parseRQ s.data.toList) ws = divP (wSum (ns.map fun s => parseRQ s.data.toList) ws (ns.map fun s => parseRQ s.data.toList).length) (wAll ws (ns.map fun s => parseRQ s.data.toList).length) := by
            unfold num12 mW
            rw [if_pos (.inr rfl), if_pos rfl]
          rw [e2, hl]
          rfl
    · have hM : m = 1 ∨ m = 2 ∨ m = 4 ∨ m = 5 ∨ m = 6 := by omega
      refine (join_any m (.slice x p d) hM hr hn (by omega) hs).mono ?_
      rintro e w' ⟨t, ht, ho⟩
      refine one ho ?_
      rw [e1, if_neg (by rw [hall]; simp; omega), if_neg (by omega)]
      rcases ht with ⟨hb, rfl⟩ | ⟨-, q, hq, rfl⟩
      · exfalso
        rcases hb with rfl | ⟨s, hs', hb⟩
        · simp at hn; omega
        · exact hb (hg s hs')
      · rw [togR_same hq (num12_tog ws hM (by omega)) (.refl _)]
  · have hbad : ns = [] ∨ ∃ s ∈ ns, parseRC s.data.toList ≠ 0 := by
      by_cases h : ns = []
      · exact .inl h
      · refine .inr (Classical.byContradiction fun hx => hall (wholeB_iff.2 ⟨List.length_pos_iff.2 h, fun s hs' => Classical.byContradiction fun hb => hx ⟨s, hs', hb⟩⟩))
    refine (joinNum_any m (.slice x p d) h7 ⟨h8, h9⟩ hr hn (by omega) hs hbad).mono ?_
    intro e w' ho
    exact one ho (by rw [e1, if_pos (.inr (.inr (by simpa using hall)))])
end Go.Proofs.YtjcpfmndkeiegaaGreatDoor
namespace Go.Proofs.YtjcpfmndkeiegaaGreatDoor
open Go.RowKit Go.Proofs.YtjcpfmndkeiegaaGreatDoor.Rf Go.Proofs.YtjcpfmndkeiegaaGreatDoor.Tb
set_option linter.unusedVariables false

theorem rdT_keep {w w' : World} {a : Option Addr} {l : List ByteArray} (h : RdT w a l) (hk : KeepsT w w') : RdT w' a l := fun i hi => by
  obtain ⟨x, cur, h1, h2, h3⟩ := h i hi
  have h4 := hk x.block cur _ h2 (by decide) (by decide)
  refine ⟨x, cur, h1, h4, ?_⟩
  rw [← h3]
  unfold World.cell?
  rw [show (x.add i).block = x.block from Go.Proofs.YtjcpfmndkeiegaaGreatDoor.add_block x i, h2, h4]
theorem keepsT_below {B : Nat} {a b : World} (h : Below B a b) (hB : a.heap.size ≤ B) : KeepsT a b := KeepsT.of_below (h.mono hB)
theorem rdS_pre {w : World} {a : Option Addr} {l r : List ByteArray} (h : RdS w a (l ++ r)) : RdS w a l := fun i hi => by
  obtain ⟨x, h1, h2, h3⟩ := h i (by rw [List.length_append]; omega)
  exact ⟨x, h1, h2, by rw [h3, List.getElem_append_left hi]⟩
theorem keeps_row {w w' : World} {base : Nat} {v : Value} {l : List ByteArray} (h : KeepsT w w') (ho : StrRow w base v l) : StrRow w' base v l := h.owns ho
/-- The law's loop. -/
def FjL (w2 w4 : World) (B : Nat) (p : Value) (W : World) : Prop :=
  ∃ k : Nat, p = .int .i64 k ∧ k ≤ 2 ∧ ∃ (vs us : Nat → Value) (ls : Nat → List ByteArray) (V U : Value), BookIs W w2.heap.size B k vs us ls V U ∧ KeepsT w4 W ∧ Below w2.heap.size w2 W ∧ w4.heap.size ≤ W.heap.size
theorem book_nil {w2 : World} : BookIs (w2.alloc (.cells (bookCells nilV nilV) 46)) w2.heap.size w2.heap.size 0 (fun _ => nilV) (fun _ => nilV) (fun _ => []) nilV nilV :=
  ⟨Nat.le_refl _, BlkAt.new _ _ _, World.ownsRow_nil _ _ _ _, World.ownsRow_nil _ _ _ _, fun i hi => absurd hi (Nat.not_lt_zero i), fun i hi => absurd hi (Nat.not_lt_zero i), fun i hi => absurd hi (Nat.not_lt_zero i), fun g h => (by cases h), fun i j hi => absurd hi (Nat.not_lt_zero i)⟩
theorem want12_len (m : Int) (ns ws : List ByteArray) (h : ns.length ≤ 30) : (want12 m ns ws).length ≤ 30 := by
  unfold want12
  split
  · rw [List.length_map]; exact h
  split
  · rw [List.length_take]; omega
  split
  · rw [List.length_drop, List.length_map]; omega
  split
  · simp
  split <;> simp
set_option maxRecDepth 100000 in
set_option maxHeartbeats 8000000 in
theorem joins_any (w : World) (me : Int) (x y : Option Addr) (n c p d : Nat) (ns ws : List ByteArray) (hr : RdS w x ns) (hn : ns.length = n) (hx : RdX w (.slice x n c) ns) (hw : RdS w y ws) (hp : ws.length = p) (hy : RdX w (.slice y p d) ws) :
    Calls Tryz.prog 5 #[.int .i64 me, .slice x n c, .slice y p d] w fun e w' => e = .returned (.bool true) ∧ Below w.heap.size w w' := by
  have HS := Lib.hid (short_any (c := c) 30 1500 (by decide) (by decide) hr hn)
  have HS2 := Lib.hid (fun (W : World) (hW : Below w.heap.size w W) => short_any (c := d) 30 1500 (by decide) (by decide) (hw.below hW) hp)
  have HR := Lib.hid hr
  have HX := Lib.hid hx
  have HN := Lib.hid hn
  have HW := Lib.hid hw
  have HY := Lib.hid hy
  have HP := Lib.hid hp
  clear hr hn hx hw hp hy
  go_enter Tryz.func5, Tryz.ntmps5
  go_wp2_with fail
  refine HS.out.mono ?_
  rintro e w1 ⟨q, rfl, hq, hB1⟩
  have HB1 := Lib.hid hB1
  clear HS hB1
  cases q with
  | false =>
    clear hq
    go_wp2_with fail
    refine (alive_any _).mono ?_
    rintro e w2 ⟨rfl, hB2⟩
    go_wp2
    go_ret
    exact ⟨rfl, HB1.out.trans (hB2.mono HB1.out.size)⟩
  | true =>
  obtain ⟨hn30, hsz⟩ := hq rfl
  have HSz := Lib.hid hsz
  clear hq hsz
  go_wp2_with fail
  refine (HS2.out _ HB1.out).mono ?_
  rintro e w2 ⟨q, rfl, hq, hB2⟩
  have HB2 := Lib.hid (HB1.out.trans (hB2.mono HB1.out.size))
  clear HS2 hB2
  cases q with
  | false =>
    clear hq
    go_wp2_with fail
    refine (alive_any _).mono ?_
    rintro e w3 ⟨rfl, hB3⟩
    go_wp2
    go_ret
    exact ⟨rfl, HB2.out.trans (hB3.mono HB2.out.size)⟩
  | true =>
  obtain ⟨hp30, hwz⟩ := hq rfl
  have HWz := Lib.hid hwz
  clear hq hwz
  go_wp2_with fail
  refine (alive_any _).mono ?_
  rintro e w3 ⟨rfl, hB3⟩
  have HB3 := Lib.hid (HB2.out.trans (hB3.mono HB2.out.size))
  clear hB3 HB1 HB2
  obtain ⟨W4, hW4⟩ : ∃ W4, w3.alloc (.cells (bookCells nilV nilV) 46) = W4 := ⟨_, rfl⟩
  have hB34 : Below w3.heap.size w3 W4 := by rw [← hW4]; exact (Below.refl _ w3).alloc (Nat.le_refl _) _
  have HBk0 := Lib.hid (show BookIs W4 w3.heap.size w3.heap.size 0 (fun _ => nilV) (fun _ => nilV) (fun _ => []) nilV nilV by rw [← hW4]; exact book_nil)
  have HB4 := Lib.hid (HB3.out.trans (hB34.mono HB3.out.size))
  have HB34 := Lib.hid hB34
  have HS1 := Lib.hid (show ∀ s ∈ ns, s.size ≤ 100000 from fun s hs => Nat.le_trans (HSz.out s hs) (by decide))
  have HS2 := Lib.hid (show ∀ s ∈ ws, s.size ≤ 100000 from fun s hs => Nat.le_trans (HWz.out s hs) (by decide))
  have HJ := Lib.hid (join12_any (c := c) (d := d) me (HR.out.below HB4.out) HN.out hn30 HS1.out (HW.out.below HB4.out) HP.out HS2.out)
  have HLen := Lib.hid (want12_len me ns ws (by rw [HN.out]; exact hn30))
  obtain ⟨want, hwant⟩ : ∃ want, want12 me ns ws = want := ⟨_, rfl⟩
  rw [hwant] at HJ HLen
  have HWt := Lib.hid hwant
  clear hB34 HSz HWz hwant
  go_wp2_with fail
  refine HJ.out.mono ?_
  rintro e w5 ⟨va, vc, rfl, hrt, hB5⟩
  have HRt := Lib.hid hrt
  have HB5 := Lib.hid (HB34.out.trans (hB5.mono HB34.out.size))
  have HBk := Lib.hid (bookIs_below HBk0.out hB5)
  clear hrt hB5 hW4 HJ
  go_wp2
  go_loopw [9] (fun p W => FjL w3 w5 w3.heap.size p W) (fun p W => 2 - (intOf p).toNat)
  case atStart => exact ⟨0, rfl, Nat.zero_le _, _, _, _, _, _, HBk.out, KeepsT.refl _, HB5.out, Nat.le_refl _⟩
  case round =>
    rename World => wr
    obtain ⟨k, rfl, hk, vs, us, ls, V, U, hbk, hkt, hB, hz⟩ := hrel
    have HBk2 := Lib.hid hbk
    have HKt := Lib.hid hkt
    have HBr := Lib.hid hB
    have HBw := Lib.hid (HB3.out.trans (hB.mono HB3.out.size))
    have HZ := Lib.hid hz
    clear hbk hkt hB hz
    by_cases hk2 : k < 2
    · have hk2I : (k : Int) < 2 := by omega
      have HL1 := Lib.hid (lent_any (HX.out.below HBw.out) HN.out (by omega))
      have HL2 := Lib.hid (fun (W : World) (hW : Below w.heap.size w W) => lent_any (HY.out.below hW) HP.out (by omega))
      go_wp2_with fail
      refine HL1.out.mono ?_
      rintro e w6 ⟨g1, cap1, rfl, hc1, hg1, hgl1, ho1, hB6⟩
      have HO1 := Lib.hid ho1
      have HC1 := Lib.hid (And.intro hc1 (And.intro hg1 hgl1))
      have HB6 := Lib.hid hB6
      have HW6 := Lib.hid (HBw.out.trans (hB6.mono HBw.out.size))
      clear ho1 hc1 hg1 hgl1 hB6 HL1
      go_wp2_with fail
      refine (HL2.out _ HW6.out).mono ?_
      rintro e w7 ⟨g2, cap2, rfl, hc2, hg2, hgl2, ho2, hB7⟩
      have HO1' := Lib.hid (rowKept HO1.out hB7)
      have HO2 := Lib.hid ho2
      have HC2 := Lib.hid (And.intro hc2 (And.intro hg2 hgl2))
      have HB7 := Lib.hid (HB6.out.trans (hB7.mono HB6.out.size))
      have HW7 := Lib.hid (HW6.out.trans (hB7.mono HW6.out.size))
      clear ho2 hc2 hg2 hgl2 hB7 HL2
      have HJ := Lib.hid (joinF_any (c := cap1) (d := cap2) me (rdS_pre (rdS_own HO1'.out)) HN.out hn30 HS1.out (rdS_pre (rdS_own HO2.out)) HP.out HS2.out (by omega))
      rw [HWt.out] at HJ
      go_wp2_with fail
      refine HJ.out.mono ?_
      rintro e w8 ⟨v8, rfl, ho8, hB8⟩
      obtain ⟨vb, vd, rfl⟩ := ownsRow_slice' ho8
      have HO8 := Lib.hid ho8
      have HB8 := Lib.hid (HB7.out.trans (hB8.mono HB7.out.size))
      have HB78 := Lib.hid hB8
      obtain ⟨W9, hW9⟩ : ∃ W9, w8.alloc (.cells #[.slice vb want.length vd] 27) = W9 := ⟨_, rfl⟩
      have hB89 : Below w8.heap.size w8 W9 := by rw [← hW9]; exact (Below.refl _ w8).alloc (Nat.le_refl _) _
      have hk9 : BlkAt W9 w8.heap.size 27 #[.slice vb want.length vd] := by rw [← hW9]; exact BlkAt.new w8 _ _
      have HK9 := Lib.hid hk9
      have HB9 := Lib.hid (HB8.out.trans (hB89.mono HB8.out.size))
      have HB79 := Lib.hid (HB78.out.trans (hB89.mono HB78.out.size))
      have ho9 : StrRow W9 w7.heap.size (.slice vb want.length vd) want := rowKept HO8.out hB89
      have HO9 := Lib.hid ho9
      have hz7 : w3.heap.size ≤ w7.heap.size := Nat.le_trans HBr.out.size HB7.out.size
      have HT := Lib.hid (texts_any w3.heap.size w3.heap.size k want.length vs us ls V U (.slice vb want.length vd) want rfl (Nat.le_trans HLen.out (by decide)) (by omega) W9 (bookIs_below HBk2.out HB9.out) (Nat.le_trans hz7 HB79.out.size) (ownsRow_mono ho9 hz7)
        (fun i hi g h1 h2 => by
          have h3 := own_lt (HBk2.out.rows i hi) h1
          have h4 := (own_at ho9 h2).choose_spec.2
          have h5 := HB7.out.size
          omega))
      have c9 := hk9.cell 0
      clear ho8 hB8 hB89 hk9 ho9 hz7 HJ
      go_wp2_with fail
      refine HT.out.mono ?_
      rintro e w10 ⟨⟨xr, rfl⟩, u10, V10, U10, hb10, hk10, hB10⟩
      have HK10 := Lib.hid hk10
      have HB10 := Lib.hid hB10
      have HBk10 := Lib.hid hb10
      have c10 := (hk10.blk HK9.out (by decide) (by decide)).cell 0
      have HKw := Lib.hid ((HKt.out.trans (KeepsT.of_below HB9.out)).trans hk10)
      have HB3x := Lib.hid ((HBr.out.trans (HB9.out.mono HBr.out.size)).trans hB10)
      have HBwx := Lib.hid (HB3.out.trans (HB3x.out.mono HB3.out.size))
      have HSm := Lib.hid (sameT_yes vb va vd vc want want.length rfl (Nat.le_trans HLen.out (by decide)) w10 (rdS_own (keeps_row hk10 HO9.out)) (rdT_keep HRt.out HKw.out).rd)
      have HM1 := Lib.hid (keeps_row hk10 (rowKept HO1'.out HB79.out))
      have HM2 := Lib.hid (keeps_row hk10 (rowKept HO2.out HB79.out))
      clear hk10 hB10 hb10 HT
      go_wp2_with fail
      refine HSm.out.mono ?_
      rintro e w11 ⟨rfl, hB11⟩
      have HB11 := Lib.hid hB11
      have HS11 := Lib.hid (stays_any (cap := cap1) (d := c) (rdS_own (rowKept HM1.out hB11)) HN.out HC1.out.1 (HR.out.below (HBwx.out.trans (hB11.mono HBwx.out.size))) (by omega))
      clear hB11 HSm c9
      go_wp2_with fail
      refine HS11.out.mono ?_
      rintro e w12 ⟨rfl, hB12⟩
      have HB12 := Lib.hid (HB11.out.trans (hB12.mono HB11.out.size))
      have HS12 := Lib.hid (stays_any (cap := cap2) (d := d) (rdS_own (rowKept HM2.out HB12.out)) HP.out HC2.out.1 (HW.out.below (HBwx.out.trans (HB12.out.mono HBwx.out.size))) (by omega))
      clear hB12 HS11
      go_wp2_with fail
      refine HS12.out.mono ?_
      rintro e w13 ⟨rfl, hB13⟩
      have HB13 := Lib.hid (HB12.out.trans (hB13.mono HB12.out.size))
      clear hB13 HS12
      go_wp2
      exact ⟨⟨k + 1, by go_num, by omega, _, _, _, _, _, bookIs_below HBk10.out HB13.out, HKw.out.trans (KeepsT.of_below HB13.out), HB3x.out.trans (HB13.out.mono HB3x.out.size), Nat.le_trans HZ.out (Nat.le_trans HB9.out.size (Nat.le_trans HB10.out.size HB13.out.size))⟩, by simp only [intOf]; omega⟩
    · obtain rfl : k = 2 := by omega
      have hk2I : ¬ ((2 : Nat) : Int) < 2 := by omega
      have HA := Lib.hid (apart_any w3.heap.size w3.heap.size 2 vs us ls V U (by decide) wr HBk2.out HBr.out.size)
      go_wp2_with fail
      refine HA.out.mono ?_
      rintro e w6 ⟨rfl, hB6⟩
      have HB6 := Lib.hid (HBw.out.trans (hB6.mono HB3.out.size))
      clear hB6
      go_wp2
      go_ret
      exact ⟨rfl, HB6.out⟩
end Go.Proofs.YtjcpfmndkeiegaaGreatDoor
namespace Go.Proofs.YtjcpfmndkeiegaaGreatDoor.forestJoinsCard
open Go.ChangeShapes Go.WideShapes Go.ChangeAt Go.RowKit
open Go.ChangeMaps (open_string)
set_option linter.unusedVariables false

theorem own : ownKnob Tryz.prog.godebug = none := by kernel_rfl
theorem laidOut : laidOutB Tryz.prog = true := by kernel_rfl
theorem rowed : ∀ t ∈ Tryz.f5.params.toList, Tryz.prog.readableRec t = true ∧ t < Tryz.prog.types.size := by
  intro t ht
  rw [Tryz.params5] at ht
  simp only [List.mem_cons, List.not_mem_nil, or_false] at ht
  rcases ht with rfl | rfl | rfl <;> exact ⟨by kernel_rfl, of_decide_eq_true (by kernel_rfl)⟩

/-- The wrap of a row that lists variables, the world's shape kept. -/
theorem wrap_shaped {H : Type} {enc : TypeId × Value → H} {a : Assume} {C : Checked} {os : Os} {f : FuncId} {fn : Func} {s : ChangeSpec} {conds : List PathCond} {apart fresh handsOn again : Bool} {X : World → Array Value → Prop}
    (hX : ∀ (w w' : World) (args : Array Value), w.heap = w'.heap → X w args → X w' args)
    (own : ownKnob C.prog.godebug = none) (started : os.Started) (noInit : C.prog.inits.idxOf? f = none) (hfn : C.prog.funcs[f]? = some fn)
    (witness : ∃ (w : World) (tape : Tape) (i : Input), w.os = os ∧ (w.forCall tape i).Shaped C.prog ∧ i.vars = [] ∧ Input.okWide C.prog (w.forCall tape i) .any w.heap.size f i ∧
      ((s.pre enc C.prog fn conds apart (w.forCall tape i).memory i.args ∧ X (w.forCall tape i).memory i.args) ∧ sizedMet enc C.prog fn (OpenSpec.ofChange s) apart (w.forCall tape i).memory i.args) ∧ a.holds C.prog (lone (Frame.enter C.prog f i.args .normal) [] (w.forCall tape i)))
    (contract : ∀ (W : World) (base : Nat) (args : Array Value) (ds gs : List (DataW H)) (before : List MemPlace),
      (∀ (j : Nat) t v, fn.params[j]? = some t → args[j]? = some v → Value.okWide C.prog W .any base t v) →
      DataW.Whole enc C.prog fn.params.toList s.vars apart W args.toList ds gs before → W.ShapedOpen C.prog →
      Calls C.prog f args W fun e W' => ∃ v, e = .returned v ∧ s.post enc C.prog fn apart fresh handsOn again W args v W') :
    ReturnsInHanded a C os f .any (fun w args => (s.pre enc C.prog fn conds apart w args ∧ X w args) ∧ sizedMet enc C.prog fn (OpenSpec.ofChange s) apart w args) (s.post enc C.prog fn apart fresh handsOn again) := by
  refine returnsInHanded_of_calls own started noInit witness ?_
  intro w tape i _ hsh _ hok hpre hholds
  obtain ⟨_, _, _, fn', hfn', _, _, _, _, hval⟩ := hok
  have e : fn' = fn := Option.some.inj (hfn'.symm.trans hfn)
  subst e
  obtain ⟨⟨⟨ds, gs, before, hw, hc⟩, hx⟩, hz⟩ := hpre
  have hw' := DataW.Whole.of_heap (w' := w.forCall tape i) (by rfl) hw
  refine (contract (w.forCall tape i) w.heap.size i.args ds gs before hval hw' hsh).mono fun e W' ⟨v, he, hp⟩ => ?_
  subst he
  exact ChangeSpec.post_blind hp
theorem walk (w : World) (m : Int) (x y : Option Addr) (n c k d : Nat) (ns ws : List ByteArray) (hr : RdS w x ns) (hn : ns.length = n) (hx : RdX w (.slice x n c) ns) (hw : RdS w y ws) (hk : ws.length = k) (hy : RdX w (.slice y k d) ws) :
    Calls Tryz.prog 5 #[.int .i64 m, .slice x n c, .slice y k d] w fun e w' => e = .returned (.bool true) ∧ Below w.heap.size w w' :=
  joins_any w m x y n c k d ns ws hr hn hx hw hk hy

/-- The door's own heap meets the condition. -/
theorem door_met (os : Os) (args : Array Value) : laidMetH Tryz.prog Rows.forestJoinsRow.laid ((World.laidAll Tryz.prog os Rows.forestJoinsRow.laid).forCall (fun _ _ => 0) ⟨#[], args, []⟩).memory :=
  by rw [MakeChecks.laidMetH_plain _ _ _ (by kernel_rfl)]; exact laidMet_laidAll _ (by kernel_rfl) (by kernel_rfl)

set_option maxRecDepth 100000 in
theorem lifted (os : Os) (started : os.Started) (H : Type) (enc : TypeId × Value → H) :
    ReturnsInHanded {} Tryz.checked os 5 .any (fun w args => (Rows.forestJoinsSpec.pre enc Tryz.prog Tryz.f5 [] false w args ∧ laidMetH Tryz.prog Rows.forestJoinsRow.laid w) ∧ sizedMet enc Tryz.prog Tryz.f5 (OpenSpec.ofChange Rows.forestJoinsSpec) false w args)
      (Rows.forestJoinsSpec.post enc Tryz.prog Tryz.f5 false true false false) := by
  refine wrap_shaped (C := Tryz.checked) (X := fun w _ => laidMetH Tryz.prog Rows.forestJoinsRow.laid w) (fun _ _ _ hh h => h.of_heap hh) own started (by kernel_rfl) Tryz.func5
    (ChangeSpec.witness_shaped (enc := enc) (C := Tryz.checked) (os := os) (X := fun w _ => laidMetH Tryz.prog Rows.forestJoinsRow.laid w) false (World.laidAll Tryz.prog os Rows.forestJoinsRow.laid) #[.int .i64 0, .slice none 0 0, .slice none 0 0] 8 (World.laidAll_os _ _ _) (World.shaped_of_ZipB (by kernel_rfl) (by kernel_rfl)) (by kernel_rfl) (by kernel_rfl) (by kernel_rfl) (door_met os _)) ?_
  intro W base args ds gs before hval0 hW hSh
  have hval : ∀ (j : Nat) t v, Tryz.f5.params[j]? = some t → args[j]? = some v → Value.okWide Tryz.prog W .any base t v := hval0
  have hW' := hW
  obtain ⟨p, q, hA0, hV, rfl, hfz, hnd⟩ := hW
  have hA : DataW.TrodAll enc Tryz.prog W 0 (fun _ => true) true Tryz.f5.params.toList args.toList ds p := hA0
  have hAll := hA
  rw [Tryz.params5] at hA hval
  obtain ⟨v0, vs0, d0, ds0, p0, q0, hargs, rfl, rfl, h0, r0⟩ := trodAll_cons hA
  obtain ⟨v1, vs1, d1, ds1, p1, q1, rfl, rfl, rfl, h1, r1⟩ := trodAll_cons r0
  obtain ⟨v2, vs2, d2, ds2, p2, q2, rfl, rfl, rfl, h2, r2⟩ := trodAll_cons r1
  obtain ⟨rfl, rfl, rfl⟩ := trodAll_nil r2
  obtain rfl : args = #[v0, v1, v2] := by cases args; simp_all
  obtain ⟨rfl, rfl⟩ := trodVars_none hV
  obtain ⟨k, rfl, rfl, rfl, wk⟩ := open_int Tryz.underlying3 (hval 0 3 v0 rfl rfl) h0
  obtain ⟨a0, len0, cap0, rfl⟩ := okWide_slice Tryz.underlying22 (hval 1 22 v1 rfl rfl)
  obtain ⟨a1, len1, cap1, rfl⟩ := okWide_slice Tryz.underlying22 (hval 2 22 v2 rfl rfl)
  obtain ⟨ns, hl, hx, hr⟩ : ∃ ns : List ByteArray, ns.length = len0 ∧ RdX W (.slice a0 len0 cap0) ns ∧ RdS W a0 ns := by
    obtain ⟨fuel, hf⟩ := h1
    rcases open_strings Tryz.underlying22 Tryz.underlying9 (by kernel_rfl) hf with ⟨hcs, _⟩ | ⟨a, l', c', ss, hcs, _, hlc, _, hz, _, hcell, _⟩
    · simp only [Value.cells, List.cons.injEq, Value.slice.injEq, and_true] at hcs
      obtain ⟨rfl, rfl, rfl⟩ := hcs
      exact ⟨[], rfl, .inr ⟨rfl, rfl⟩, fun i h => absurd h (by simp)⟩
    · simp only [Value.cells, List.cons.injEq, Value.slice.injEq, and_true] at hcs
      obtain ⟨rfl, rfl, rfl⟩ := hcs
      have hll : len0 ≤ ss.length := by rw [hz]; split <;> omega
      have hlt : (ss.take len0).length = len0 := by rw [List.length_take]; omega
      have hrd : RdS W (some a) (ss.take len0) := fun i hi => by
        rw [List.length_take] at hi
        have h2 := hcell i (by omega)
        rw [List.getD, List.getElem?_eq_getElem (by omega)] at h2
        refine ⟨a, rfl, ?_, by rw [h2, List.getElem_take]; rfl⟩
        have := block_lt' h2
        rwa [add_block] at this
      exact ⟨ss.take len0, hlt, .inl ⟨a, cap0, by rw [hlt], hrd⟩, hrd⟩
  obtain ⟨ws, hwl, hwx, hwr⟩ : ∃ ws : List ByteArray, ws.length = len1 ∧ RdX W (.slice a1 len1 cap1) ws ∧ RdS W a1 ws := by
    obtain ⟨fuel, hf⟩ := h2
    rcases open_strings Tryz.underlying22 Tryz.underlying9 (by kernel_rfl) hf with ⟨hcs, _⟩ | ⟨a, l', c', ss, hcs, _, hlc, _, hz, _, hcell, _⟩
    · simp only [Value.cells, List.cons.injEq, Value.slice.injEq, and_true] at hcs
      obtain ⟨rfl, rfl, rfl⟩ := hcs
      exact ⟨[], rfl, .inr ⟨rfl, rfl⟩, fun i h => absurd h (by simp)⟩
    · simp only [Value.cells, List.cons.injEq, Value.slice.injEq, and_true] at hcs
      obtain ⟨rfl, rfl, rfl⟩ := hcs
      have hll : len1 ≤ ss.length := by rw [hz]; split <;> omega
      have hlt : (ss.take len1).length = len1 := by rw [List.length_take]; omega
      have hrd : RdS W (some a) (ss.take len1) := fun i hi => by
        rw [List.length_take] at hi
        have h3 := hcell i (by omega)
        rw [List.getD, List.getElem?_eq_getElem (by omega)] at h3
        refine ⟨a, rfl, ?_, by rw [h3, List.getElem_take]; rfl⟩
        have := block_lt' h3
        rwa [add_block] at this
      exact ⟨ss.take len1, hlt, .inl ⟨a, cap1, by rw [hlt], hrd⟩, hrd⟩
  clear hA0 hval0
  refine (walk W k a0 a1 len0 cap0 len1 cap1 ns ws hr hl hx hwr hwl hwx).mono fun e W' ⟨he, bel⟩ => ?_
  subst he
  exact ⟨_, rfl, _, _, _, [], _, [], hW', trodAll_mk1 (shut_bool Tryz.underlying4 _), all_kept laidOut bel rowed hAll, rfl, bel.frame _, fun h => by cases h⟩

theorem over : Rows.forestJoinsRow.holds Tryz.pinned (OpenSpec.ofChange Rows.forestJoinsSpec) :=
  OpenClaim.holds_of_wide 5 Tryz.f5 rfl rfl rfl rfl rfl rfl rfl ⟨rfl, rfl, rfl, rfl, rfl⟩ rfl rfl rfl rfl rfl (by kernel_rfl) Tryz.func5 (by kernel_rfl)
    (of_decide_eq_true (by kernel_rfl)) (by unfold Func.isWrapper; first | (rw [if_pos (by decide +kernel)]; kernel_rfl) | (rw [if_neg (by decide +kernel)]; exact ⟨rfl, rfl⟩))
    (fun os started H enc _ => lifted os started H enc)

theorem proved : Rows.ForestJoinsCardSaid :=
  Claim7.holds_tied_plain_at .later [] [.data, .pinned] true (true, "fa3b548408266e1ac395fd3e1740c3d752b3496816eea9b035d1ba5baaa68faf") false
    over (fun _ h => by cases h) (by kernel_rfl) (fun _ h => by cases h) forestJoins_row_tie rfl ⟨rfl, rfl⟩ (by kernel_rfl) rfl
    (fun f fn hf hfn => by
      obtain rfl : f = 5 := Option.some.inj ((show Tryz.prog.funcNamed "hornbeam/hornbeamlaw16.ForestJoins" = some 5 by kernel_rfl).symm.trans hf) |>.symm
      obtain rfl : fn = Tryz.f5 := (Option.some.inj (Tryz.func5.symm.trans hfn)).symm
      exact ⟨by kernel_rfl, fun j t ht => by
        rw [Tryz.params5] at ht
        have hm : t ∈ [3, 22, 22] := by simpa using Array.mem_of_getElem? ht
        have hall : ([3, 22, 22].all fun u => !Tryz.prog.wantsStandIn u) = true := by kernel_rfl
        exact (show Tryz.prog.wantsStandIn t = false by simpa using List.all_eq_true.1 hall t hm)⟩)
    (by kernel_rfl)
#print axioms proved
end Go.Proofs.YtjcpfmndkeiegaaGreatDoor.forestJoinsCard
