/- The law XtreeWalks of the given program answers true for every input, and its arguments read behind the call as before: every input of the parameters' types, no further condition; the listed tables of the library are tied to the program's text. Arguments opened: slices of structs and structs of one-cell fields; no program in sight. A document that came in, opened: its elements, their attributes and kids, as they lie. -/
import Derived.Deep.Slices
import Derived.Deep.Fields
import Derived.ChangeSame
import Derived.Lib.SmallJoins
import Derived.OpenShut
import Derived.ShutString
import Derived.WalkKit
import Derived.ProofKit
import Derived.Carry
import Derived.Test.YtlldpmjnledhgaaGreatDoorXtG
import Derived.Test.YtlldpmjnledhgaaGreatDoorXwPl
import Derived.Test.YtlldpmjnledhgaaGreatDoorRows
import Derived.Test.YtlldpmjnledhgaaGreatDoorCards
import Derived.Test.YtlldpmjnledhgaaGreatDoorTie
import Derived.Test.YtlldpmjnledhgaaGreatDoorXwL
import Derived.Test.YtlldpmjnledhgaaGreatDoorMem
import Derived.SevenTiedAt
import Derived.LaidMore
import Derived.Stop.Joined
import Derived.Shelf.Vars
import Derived.HandedShaped
import Derived.Lay
import Derived.MakeChecks
namespace Go.Proofs.YtlldpmjnledhgaaGreatDoor
open Go.ChangeShapes Go.WideShapes Go.RowKit Go.Deep Go.Joins
set_option linter.unusedVariables false

/-- A list of what each index has. -/
theorem list_of {α : Type} {Q : Nat → α → Prop} : ∀ (n : Nat), (∀ i, i < n → ∃ x, Q i x) → ∃ xs : List α, xs.length = n ∧ ∀ i (h : i < xs.length), Q i xs[i]
  | 0, _ => ⟨[], rfl, fun i h => absurd h (by simp)⟩
  | n + 1, h => by
    obtain ⟨xs, hl, hx⟩ := list_of n fun i hi => h i (by omega)
    obtain ⟨x, hq⟩ := h n (by omega)
    refine ⟨xs ++ [x], by simp [hl], fun i hi => ?_⟩
    by_cases hlt : i < xs.length
    · rw [List.getElem_append_left hlt]; exact hx i hlt
    · have e : i = n := by simp at hi; omega
      subst e
      rw [List.getElem_append_right (by omega)]
      simpa using hq

section
variable {H : Type} {enc : TypeId × Value → H} {P : Program} {w : World} {base : Nat} {spare : Nat → Bool} {held : Bool}
/-- A struct's cells, each with what its field's reading takes. -/
theorem parts_of {t : TypeId} {fs : Array Field} {n : Nat} {cs : List Value} {x : DataW H × List MemPlace} (he : P.underlying t = some (.struct fs)) (ho : oneCellFields P fs = true) (hC : P.cellsOf t = fs.size)
    (h : DataW.trod enc P w base spare held n t cs = some x) :
    cs.length = fs.size ∧ ∀ (j : Nat) (f : Field), fs[j]? = some f → ∃ u y m, cs[j]? = some u ∧ DataW.trod enc P w base spare held m f.type [u] = some y := by
  obtain ⟨ys, m, _, _, hlen, hyl, hf⟩ := DataW.trod_struct he h
  rw [hC] at hlen
  refine ⟨hlen, fun j f hj => ?_⟩
  obtain ⟨h1, h2⟩ := hone_of ho j f hj
  have hlt : j < fs.size := (Array.getElem?_eq_some_iff.1 hj).1
  have hcj : j < cs.length := by omega
  have h3 := hf j f hj
  rw [h1, h2, List.drop_eq_getElem_cons hcj, List.take_succ_cons, List.take_zero, List.getElem?_eq_getElem (by omega)] at h3
  exact ⟨cs[j], _, m, List.getElem?_eq_getElem hcj, h3⟩
/-- A slice of structs, element by element, cell by cell. -/
theorem slice_parts {t e : TypeId} {fs : Array Field} {fuel : Nat} {cs : List Value} {x : DataW H × List MemPlace} (ht : P.underlying t = some (.slice e)) (he : P.underlying e = some (.struct fs)) (ho : oneCellFields P fs = true) (hC : P.cellsOf e = fs.size)
    (h : DataW.trod enc P w base spare held fuel t cs = some x) :
    cs = [.slice none 0 0] ∨ ∃ a len cap, cs = [.slice (some a) len cap] ∧ len ≤ cap ∧ cap ≤ maxLen ∧
      ∀ i, i < len → ∀ (j : Nat) (f : Field), fs[j]? = some f → ∃ u y m, w.cell? (a.add (i * fs.size + j)) = some u ∧ DataW.trod enc P w base spare held m f.type [u] = some y := by
  rcases open_slice ht h with ⟨h0, _⟩ | ⟨a, len, cap, m, n, D, Pl, hcs, _, hl, hm, hmm, _, hi⟩
  · exact .inl h0
  · refine .inr ⟨a, len, cap, hcs, hl, hm, fun i hil j f hj => ?_⟩
    have him : i < m := by rw [hmm]; split <;> omega
    obtain ⟨vs, hv, ht'⟩ := hi i him
    obtain ⟨_, hvl, hat⟩ := World.cells?_some hv
    obtain ⟨hlen, hp⟩ := parts_of he ho hC ht'
    obtain ⟨u, y, k, hu, hy⟩ := hp j f hj
    have hlt : j < fs.size := (Array.getElem?_eq_some_iff.1 hj).1
    refine ⟨u, y, k, ?_, hy⟩
    have h4 := hat j (by omega)
    rw [hC, Go.Deep.add_add] at h4
    rw [h4, hu]
/-- A struct by value. -/
theorem struct_parts {r : Reach} {b0 : Nat} {t : TypeId} {fs : Array Field} {v : Value} {d : DataW H} {p : List MemPlace} (he : P.underlying t = some (.struct fs)) (ho : oneCellFields P fs = true) (hC : P.cellsOf t = fs.size)
    (hv : Value.okWide P w r b0 t v) (h : DataW.Trod enc P w base spare held t v d p) :
    ∃ cs : Array Value, v = .agg cs ∧ cs.size = fs.size ∧ ∀ (j : Nat) (f : Field), fs[j]? = some f → ∃ u y m, cs[j]? = some u ∧ DataW.trod enc P w base spare held m f.type [u] = some y := by
  obtain ⟨cs, rfl, hsz⟩ := okWide_struct he hv
  obtain ⟨fuel, hf⟩ := h
  obtain ⟨_, hp⟩ := parts_of he ho hC hf
  refine ⟨cs, rfl, by rw [hsz, hC], fun j f hj => ?_⟩
  obtain ⟨u, y, m, h1, h2⟩ := hp j f hj
  exact ⟨u, y, m, by simpa [Value.cells] using h1, h2⟩
theorem int_cell {t : TypeId} {k : IntKind} {n : Nat} {u : Value} {y : DataW H × List MemPlace} (ht : P.underlying t = some (.int k)) (h : DataW.trod enc P w base spare held n t [u] = some y) : ∃ z, u = .int k z ∧ (Lit.int k z).wf = true := by
  obtain ⟨z, h1, _, h2⟩ := DataW.trod_int ht h
  simp only [List.cons.injEq, and_true] at h1
  exact ⟨z, h1, h2⟩
theorem string_cell {t : TypeId} {n : Nat} {u : Value} {y : DataW H × List MemPlace} (ht : P.underlying t = some .string) (h : DataW.trod enc P w base spare held n t [u] = some y) : ∃ s : ByteArray, u = .string s ∧ s.size ≤ maxLen := by
  obtain ⟨s, h1, _, h2⟩ := DataW.trod_string ht h
  simp only [List.cons.injEq, and_true] at h1
  exact ⟨s, h1, h2⟩
theorem i64_wf {z : Int} (h : (Lit.int .i64 z).wf = true) : -9223372036854775808 ≤ z ∧ z ≤ 9223372036854775807 := by simpa [Lit.wf, IntKind.min, IntKind.max, IntKind.signed, IntKind.bits] using h
theorem u64_wf {z : Int} (h : (Lit.int .u64 z).wf = true) : ∃ n : Nat, z = n ∧ n < 18446744073709551616 := by
  have : 0 ≤ z ∧ z ≤ 18446744073709551615 := by simpa [Lit.wf, IntKind.min, IntKind.max, IntKind.signed, IntKind.bits] using h
  exact ⟨z.toNat, by omega, by omega⟩
/-- All that came in reads behind a call as before, if nothing that lay below has turned. -/
theorem all_kept (hl : laidOutB P = true) {W W' : World} (hb : Below W.heap.size W W') :
    ∀ {ts : List TypeId} {vs : List Value} {ds : List (DataW H)} {ps : List MemPlace}, (∀ t ∈ ts, P.readableRec t = true ∧ t < P.types.size) →
      DataW.TrodAll enc P W 0 (fun _ => true) true ts vs ds ps → DataW.TrodAll enc P W' 0 (fun b => decide (b < W.heap.size)) true ts vs ds ps
  | [], vs, ds, ps, _, h => by
    obtain ⟨rfl, rfl, rfl⟩ := trodAll_nil h
    exact trodAll_mk0
  | t :: ts, vs, ds, ps, ht, h => by
    obtain ⟨v, vs', d, ds', p, q, rfl, rfl, rfl, h1, h2⟩ := trodAll_cons h
    have h3 := ht t (by simp)
    have hlt : ∀ x ∈ p, x.block < W.heap.size := by obtain ⟨m, hm⟩ := h1; exact DataW.trod_lt m _ _ _ hm
    exact trodAll_cons_mk (Below.trod hl h3.1 h3.2 h1 hb hlt) (all_kept hl hb (fun t' h' => ht t' (by simp [h'])) h2)
end
end Go.Proofs.YtlldpmjnledhgaaGreatDoor
namespace Go.Proofs.YtlldpmjnledhgaaGreatDoor
open Go.ChangeShapes Go.WideShapes Go.RowKit Go.Deep Go.Joins
set_option linter.unusedVariables false

theorem addr_plain {w : World} {a : Addr} {u : Value} (h : w.cell? a = some u) : ∃ b o, a = ⟨b, o, none⟩ ∧ b < w.heap.size := by
  obtain ⟨b, o, s⟩ := a
  unfold World.cell? at h
  split at h
  · rename_i hb
    have hlt := (Array.getElem?_eq_some_iff.1 hb).1
    cases s with
    | none => exact ⟨b, o, rfl, hlt⟩
    | some y => simp at h
  · cases h
theorem add_plain (b o k : Nat) : (⟨b, o, none⟩ : Addr).add k = ⟨b, o + k, none⟩ := by
  unfold Addr.add
  split
  · rename_i h; subst h; rfl
  · rfl
section
variable {H : Type} {enc : TypeId × Value → H} {P : Program} {w : World} {base : Nat} {spare : Nat → Bool} {held : Bool}
/-- A slice of one-cell elements. -/
theorem slice_ones {t e : TypeId} {fuel : Nat} {u : Value} {x : DataW H × List MemPlace} (ht : P.underlying t = some (.slice e)) (hC : P.cellsOf e = 1)
    (h : DataW.trod enc P w base spare held fuel t [u] = some x) :
    u = .slice none 0 0 ∨ ∃ a len cap, u = .slice (some a) len cap ∧ len ≤ cap ∧ cap ≤ maxLen ∧ ∀ i, i < len → ∃ u y m, w.cell? (a.add i) = some u ∧ DataW.trod enc P w base spare held m e [u] = some y := by
  rcases open_slice ht h with ⟨h0, _⟩ | ⟨a, len, cap, m, n, D, Pl, hcs, _, hl, hm, hmm, _, hi⟩
  · exact .inl (List.cons.inj h0).1
  · refine .inr ⟨a, len, cap, (List.cons.inj hcs).1, hl, hm, fun i hil => ?_⟩
    have him : i < m := by rw [hmm]; split <;> omega
    obtain ⟨vs, hv, ht'⟩ := hi i him
    obtain ⟨_, hvl, hat⟩ := World.cells?_some hv
    rw [hC, Nat.mul_one] at hat
    rw [hC] at hvl
    have h4 := hat 0 (by omega)
    rw [Go.Deep.add_add, Nat.add_zero] at h4
    obtain ⟨z, rfl⟩ : ∃ z, vs = [z] := by
      match vs, hvl with
      | [z], _ => exact ⟨z, rfl⟩
    exact ⟨z, _, n, h4, ht'⟩
end
section
variable {H : Type} {enc : TypeId × Value → H} {w : World} {base : Nat} {spare : Nat → Bool} {held : Bool}
theorem ints_open {fuel : Nat} {u : Value} {x : DataW H × List MemPlace} (h : DataW.trod enc Tryz.prog w base spare held fuel 32 [u] = some x) : ∃ a n c l, u = .slice a n c ∧ List.length l = n ∧ n ≤ maxLen ∧ IntRd w (.slice a n c) l := by
  rcases slice_ones Tryz.underlying32 (by kernel_rfl) h with rfl | ⟨a, n, c, rfl, hl, hm, hi⟩
  · exact ⟨none, 0, 0, [], rfl, rfl, by decide, none, 0, rfl, fun h => absurd rfl h⟩
  · obtain ⟨l, hl1, hl2⟩ := list_of (Q := fun i (z : Int) => w.cell? (a.add i) = some (.int .i64 z)) n (by
      intro i hil
      obtain ⟨u, y, m, hu, ht⟩ := hi i hil
      obtain ⟨z, rfl, _⟩ := int_cell Tryz.underlying3 ht
      exact ⟨z, hu⟩)
    refine ⟨some a, n, c, l, rfl, hl1, by omega, some a, c, by rw [hl1], fun hne => ?_⟩
    have hpos : 0 < l.length := List.length_pos_iff.2 hne
    obtain ⟨b, o, rfl, hb⟩ := addr_plain (w := w) (a := a) (by have := hl2 0 hpos; unfold Addr.add at this; rw [if_pos rfl] at this; exact this)
    refine ⟨b, o, rfl, hb, fun j hj => ?_⟩
    have := hl2 j hj
    rw [add_plain] at this
    rw [this, List.getD_eq_getElem?_getD, List.getElem?_eq_getElem hj]
    rfl
theorem attrs_open {fuel : Nat} {u : Value} {x : DataW H × List MemPlace} (h : DataW.trod enc Tryz.prog w base spare held fuel 34 [u] = some x) :
    ∃ a n c l, u = .slice a n c ∧ List.length l = n ∧ n ≤ maxLen ∧ AttrRd w (.slice a n c) l ∧ ∀ z ∈ l, z.1.size ≤ maxLen ∧ z.2.1.size ≤ maxLen := by
  rcases slice_parts Tryz.underlying34 Tryz.underlying43 (by kernel_rfl) (by kernel_rfl) h with hu | ⟨a, n, c, hu, hl, hm, hi⟩
  · obtain rfl := (List.cons.inj hu).1
    exact ⟨none, 0, 0, [], rfl, rfl, by decide, ⟨none, 0, rfl, fun h => absurd rfl h⟩, fun z hz => nomatch hz⟩
  · obtain rfl := (List.cons.inj hu).1
    obtain ⟨l, hl1, hl2⟩ := list_of (Q := fun i (z : ByteArray × ByteArray × Int) => (w.cell? (a.add (i * 3)) = some (.string z.1) ∧ w.cell? (a.add (i * 3 + 1)) = some (.string z.2.1) ∧ w.cell? (a.add (i * 3 + 2)) = some (.int .i64 z.2.2)) ∧ z.1.size ≤ maxLen ∧ z.2.1.size ≤ maxLen) n (by
      intro i hil
      obtain ⟨u0, y0, m0, c0, t0⟩ := hi i hil 0 _ rfl
      obtain ⟨u1, y1, m1, c1, t1⟩ := hi i hil 1 _ rfl
      obtain ⟨u2, y2, m2, c2, t2⟩ := hi i hil 2 _ rfl
      obtain ⟨z0, rfl, w0⟩ := string_cell Tryz.underlying9 t0
      obtain ⟨z1, rfl, w1⟩ := string_cell Tryz.underlying9 t1
      obtain ⟨z2, rfl, w2⟩ := int_cell Tryz.underlying3 t2
      exact ⟨(z0, z1, z2), ⟨c0, c1, c2⟩, w0, w1⟩)
    refine ⟨some a, n, c, l, rfl, hl1, by omega, ⟨some a, c, by rw [hl1], fun hne => ?_⟩, fun z hz => ?_⟩
    · have hpos : 0 < l.length := List.length_pos_iff.2 hne
      obtain ⟨b, o, rfl, hb⟩ := addr_plain (w := w) (a := a) (by have := (hl2 0 hpos).1.1; unfold Addr.add at this; rw [if_pos (Nat.zero_mul 3)] at this; exact this)
      refine ⟨b, o, rfl, hb, fun i x hx => ?_⟩
      obtain ⟨hlt, rfl⟩ := List.getElem?_eq_some_iff.1 hx
      obtain ⟨⟨g0, g1, g2⟩, -⟩ := hl2 i hlt
      rw [add_plain] at g0 g1 g2
      exact ⟨g0, g1, g2⟩
    · obtain ⟨i, hi⟩ := List.mem_iff_getElem?.1 hz
      obtain ⟨hlt, rfl⟩ := List.getElem?_eq_some_iff.1 hi
      exact (hl2 i hlt).2
/-- What stands of an element that came in. -/
structure ElRd (w : World) (y : YE) (k : List Int) (l : List (ByteArray × ByteArray × Int)) : Prop where
  name : y.nm.size ≤ maxLen
  text : y.tx.size ≤ maxLen
  kn : k.length = y.kn
  kb : y.kn ≤ maxLen
  kids : IntRd w (.slice y.kb y.kn y.kc) k
  an : l.length = y.an
  ab : y.an ≤ maxLen
  attrs : AttrRd w (.slice y.ab y.an y.ac) l
  small : ∀ z ∈ l, z.1.size ≤ maxLen ∧ z.2.1.size ≤ maxLen
theorem doc_open {fuel : Nat} {u : Value} {x : DataW H × List MemPlace} (h : DataW.trod enc Tryz.prog w base spare held fuel 23 [u] = some x) :
    ∃ ys : List YE, DocAt w u ys ∧ (∃ a n c, u = .slice a n c) ∧ ys.length ≤ maxLen ∧ ∃ (ks : List (List Int)) (ats : List (List (ByteArray × ByteArray × Int))), ks.length = ys.length ∧ ats.length = ys.length ∧ ∀ (i : Nat) (y : YE), ys[i]? = some y → ∃ k l, ks[i]? = some k ∧ ats[i]? = some l ∧ ElRd w y k l := by
  rcases slice_parts Tryz.underlying23 Tryz.underlying36 (by kernel_rfl) (by kernel_rfl) h with hu | ⟨a, n, c, hu, hl, hm, hi⟩
  · obtain rfl := (List.cons.inj hu).1
    exact ⟨[], ⟨none, 0, rfl, fun h => absurd rfl h⟩, ⟨_, _, _, rfl⟩, by decide, [], [], rfl, rfl, fun i y hy => by simp at hy⟩
  · obtain rfl := (List.cons.inj hu).1
    obtain ⟨l, hl1, hl2⟩ := list_of (Q := fun i (z : YE × List Int × List (ByteArray × ByteArray × Int)) => (∀ j u, (yeCells z.1)[j]? = some u → w.cell? (a.add (i * 6 + j)) = some u) ∧ ElRd w z.1 z.2.1 z.2.2) n (by
      intro i hil
      obtain ⟨u0, y0, m0, c0, t0⟩ := hi i hil 0 _ rfl
      obtain ⟨u1, y1, m1, c1, t1⟩ := hi i hil 1 _ rfl
      obtain ⟨u2, y2, m2, c2, t2⟩ := hi i hil 2 _ rfl
      obtain ⟨u3, y3, m3, c3, t3⟩ := hi i hil 3 _ rfl
      obtain ⟨u4, y4, m4, c4, t4⟩ := hi i hil 4 _ rfl
      obtain ⟨u5, y5, m5, c5, t5⟩ := hi i hil 5 _ rfl
      obtain ⟨z0, rfl, w0⟩ := string_cell Tryz.underlying9 t0
      obtain ⟨z1, rfl, w1⟩ := int_cell Tryz.underlying3 t1
      obtain ⟨z2, rfl, w2⟩ := int_cell Tryz.underlying3 t2
      obtain ⟨ab, an, ac, al, rfl, hal, ham, har, has⟩ := attrs_open t3
      obtain ⟨kb, kn, kc, kl, rfl, hkl, hkm, hkr⟩ := ints_open t4
      obtain ⟨z5, rfl, w5⟩ := string_cell Tryz.underlying9 t5
      refine ⟨(⟨z0, z1, z2, ab, an, ac, kb, kn, kc, z5⟩, kl, al), fun j u hj => ?_, ⟨w0, w5, hkl, hkm, hkr, hal, ham, har, has⟩⟩
      match j, hj with
      | 0, hj => cases hj; exact c0
      | 1, hj => cases hj; exact c1
      | 2, hj => cases hj; exact c2
      | 3, hj => cases hj; exact c3
      | 4, hj => cases hj; exact c4
      | 5, hj => cases hj; exact c5)
    have hat : ∀ (i : Nat) (y : YE), (l.map (·.1))[i]? = some y → ∃ (h : i < l.length), l[i].1 = y := fun i y hy => by
      rw [List.getElem?_map] at hy
      obtain ⟨z, hz, rfl⟩ := Option.map_eq_some_iff.1 hy
      obtain ⟨h1, h2⟩ := List.getElem?_eq_some_iff.1 hz
      exact ⟨h1, by rw [h2]⟩
    refine ⟨l.map (·.1), ⟨some a, c, by rw [List.length_map, hl1], fun hne => ?_⟩, ⟨_, _, _, rfl⟩, by rw [List.length_map, hl1]; omega, l.map (·.2.1), l.map (·.2.2), by rw [List.length_map, List.length_map], by rw [List.length_map, List.length_map], fun i y hy => ?_⟩
    · have hpos : 0 < l.length := List.length_pos_iff.2 (fun e => hne (by rw [e]; rfl))
      obtain ⟨b, o, rfl, hb⟩ := addr_plain (w := w) (a := a) (by have := (hl2 0 hpos).1 0 _ rfl; unfold Addr.add at this; rw [if_pos (by omega)] at this; exact this)
      refine ⟨b, o, rfl, hb, fun i y hy j u hj => ?_⟩
      obtain ⟨h1, rfl⟩ := hat i y hy
      have := (hl2 i h1).1 j u hj
      rw [add_plain] at this
      rw [Nat.add_assoc]
      exact this
    · obtain ⟨h1, rfl⟩ := hat i y hy
      exact ⟨_, _, by rw [List.getElem?_map, List.getElem?_eq_getElem h1]; rfl, by rw [List.getElem?_map, List.getElem?_eq_getElem h1]; rfl, (hl2 i h1).2⟩
end
end Go.Proofs.YtlldpmjnledhgaaGreatDoor
namespace Go.Proofs.YtlldpmjnledhgaaGreatDoor.xtreeWalksCard
open Go.ChangeShapes Go.WideShapes Go.ChangeAt Go.RowKit
open Go.ChangeMaps (open_string)
set_option linter.unusedVariables false

theorem own : ownKnob Tryz.prog.godebug = none := by kernel_rfl
theorem laidOut : laidOutB Tryz.prog = true := by kernel_rfl
theorem rowed : ∀ t ∈ Tryz.f5.params.toList, Tryz.prog.readableRec t = true ∧ t < Tryz.prog.types.size := by
  intro t ht
  rw [Tryz.params5] at ht
  simp only [List.mem_cons, List.not_mem_nil, or_false] at ht
  rcases ht with rfl | rfl | rfl
  · exact ⟨by kernel_rfl, of_decide_eq_true (by kernel_rfl)⟩
  · exact ⟨by kernel_rfl, of_decide_eq_true (by kernel_rfl)⟩
  · exact ⟨by kernel_rfl, of_decide_eq_true (by kernel_rfl)⟩

/-- The wrap of a row that lists variables, the world's shape kept. -/
theorem wrap_shaped {H : Type} {enc : TypeId × Value → H} {a : Assume} {C : Checked} {os : Os} {f : FuncId} {fn : Func} {s : ChangeSpec} {conds : List PathCond} {apart fresh handsOn again : Bool} {X : World → Array Value → Prop}
    (hX : ∀ (w w' : World) (args : Array Value), w.heap = w'.heap → X w args → X w' args)
    (own : ownKnob C.prog.godebug = none) (started : os.Started) (noInit : C.prog.inits.idxOf? f = none) (hfn : C.prog.funcs[f]? = some fn)
    (witness : ∃ (w : World) (tape : Tape) (i : Input), w.os = os ∧ (w.forCall tape i).Shaped C.prog ∧ i.vars = [] ∧ Input.okWide C.prog (w.forCall tape i) .any w.heap.size f i ∧
      ((s.pre enc C.prog fn conds apart (w.forCall tape i).memory i.args ∧ X (w.forCall tape i).memory i.args) ∧ sizedMet enc C.prog fn (OpenSpec.ofChange s) apart (w.forCall tape i).memory i.args) ∧ a.holds C.prog (lone (Frame.enter C.prog f i.args .normal) [] (w.forCall tape i)))
    (contract : ∀ (W : World) (base : Nat) (args : Array Value) (ds gs : List (DataW H)) (before : List MemPlace),
      (∀ (j : Nat) t v, fn.params[j]? = some t → args[j]? = some v → Value.okWide C.prog W .any base t v) →
      DataW.Whole enc C.prog fn.params.toList s.vars apart W args.toList ds gs before → W.ShapedOpen C.prog → X W args →
      Calls C.prog f args W fun e W' => ∃ v, e = .returned v ∧ s.post enc C.prog fn apart fresh handsOn again W args v W') :
    ReturnsInHanded a C os f .any (fun w args => (s.pre enc C.prog fn conds apart w args ∧ X w args) ∧ sizedMet enc C.prog fn (OpenSpec.ofChange s) apart w args) (s.post enc C.prog fn apart fresh handsOn again) := by
  refine returnsInHanded_of_calls own started noInit witness ?_
  intro w tape i _ hsh _ hok hpre hholds
  obtain ⟨_, _, _, fn', hfn', _, _, _, _, hval⟩ := hok
  have e : fn' = fn := Option.some.inj (hfn'.symm.trans hfn)
  subst e
  obtain ⟨⟨⟨ds, gs, before, hw, hc⟩, hx⟩, hz⟩ := hpre
  have hw' := DataW.Whole.of_heap (w' := w.forCall tape i) (by rfl) hw
  refine (contract (w.forCall tape i) w.heap.size i.args ds gs before hval hw' hsh (hX (w.forCall tape i).memory (w.forCall tape i) _ rfl hx)).mono fun e W' ⟨v, he, hp⟩ => ?_
  subst he
  exact ChangeSpec.post_blind hp
/-- The table of small and capital letters, as it is listed. -/
def foldList : List Int := [0, 1, 2, 3, 4, 5, 6, 7, 8, 9, 10, 11, 12, 13, 14, 15, 16, 17, 18, 19, 20, 21, 22, 23, 24, 25, 26, 27, 28, 29, 30, 31, 32, 33, 34, 35, 36, 37, 38, 39, 40, 41, 42, 43, 44, 45, 46, 47, 48, 49, 50, 51, 52, 53, 54, 55, 56, 57, 58, 59, 60, 61, 62, 63, 64, 97, 98, 99, 100, 101, 102, 103, 104, 105, 106, 107, 108, 109, 110, 111, 112, 113, 114, 115, 116, 117, 118, 119, 120, 121, 122, 91, 92, 93, 94, 95, 96, 65, 66, 67, 68, 69, 70, 71, 72, 73, 74, 8490, 76, 77, 78, 79, 80, 81, 82, 383, 84, 85, 86, 87, 88, 89, 90, 123, 124, 125, 126, 127]
theorem foldTab_laid {W : World} (hL : laidMetH Tryz.prog Rows.xtreeWalksRow.laid W) : FoldTab W := by
  have h1 := hL.filter (fun x => x.1 == "unicode.asciiFold")
  have h2 : laidMetH Tryz.prog [("unicode.asciiFold", Rows.laid_unicode_asciiFold)] W := h1
  rw [MakeChecks.laidMetH_plain _ _ _ (by kernel_rfl)] at h2
  have ht : Lib.TabIs Tryz.prog W "unicode.asciiFold" .u16 foldList :=
    Lib.tabIs_of_head (g := 1) (t := 141) (e := 140) (n := 128) (by kernel_rfl) (by kernel_rfl) Tryz.underlying141 Tryz.underlying140 (by kernel_rfl) (by kernel_rfl) h2
  intro k h3 h4 h5 h6
  have hl : foldList.length = 128 := rfl
  have c1 := ht.cell (g := 1) (by kernel_rfl) k (by rw [hl]; omega)
  have c2 := ht.cell (g := 1) (by kernel_rfl) (k - 32) (by rw [hl]; omega)
  rw [c1, c2]
  have hall : ∀ k : Fin 123, 97 ≤ k.val → k.val ≠ 107 → k.val ≠ 115 → foldList.getD k.val 0 = ((k.val - 32 : Nat) : Int) ∧ foldList.getD (k.val - 32) 0 = (k.val : Int) := by decide
  obtain ⟨e1, e2⟩ := hall ⟨k, by omega⟩ h3 h5 h6
  rw [e1, e2]
  exact ⟨rfl, rfl⟩

theorem walk {u : Value} {ys : List YE} (nm : ByteArray) (stop : Int) (w : World) (h : DocAt w u ys) (hu : ∃ a n c, u = .slice a n c) {ks : List (List Int)} {ats : List (List (ByteArray × ByteArray × Int))} (hk : ks.length = ys.length) (hel : ∀ (i : Nat) (y : YE), ys[i]? = some y → ∃ k l, ks[i]? = some k ∧ ats[i]? = some l ∧ ElRd w y k l)
    (hm : ∃ m, w.cell? ⟨0, 0, none⟩ = some (.int .i64 m)) (hT : FoldTab w) :
    Calls Tryz.prog 5 #[.agg #[u], .string nm, .int .i64 stop] w fun e w' => e = .returned (.bool true) ∧ Below w.heap.size w w' := by
  obtain ⟨m, hm⟩ := hm
  by_cases hs : ys.length ≤ 60 ∧ nm.size ≤ 60
  · refine walks_on h hs.1 nm hs.2 stop (fun y hy => ?_) hk (fun i y hy => ?_) (fun i y hy => ?_) hm hT
    · obtain ⟨i, hi⟩ := List.mem_iff_getElem?.1 hy
      obtain ⟨k, l, h1, h2, g⟩ := hel i y hi
      have g1 := g.name
      have g2 := g.text
      have g3 := g.ab
      have g4 := g.kb
      unfold maxLen at g1 g2 g3 g4
      exact ⟨g1, g2, g3, g4⟩
    · obtain ⟨k, l, h1, h2, g⟩ := hel i y hy
      exact ⟨k, h1, g.kn, g.kids⟩
    · obtain ⟨k, l, h1, h2, g⟩ := hel i y hy
      exact ⟨l, g.an, g.attrs⟩
  · obtain ⟨a, n, c, rfl⟩ := hu
    obtain ⟨a', c', he, -⟩ := h
    have hn : n = ys.length := by cases he; rfl
    exact walks_off a n c nm stop w hm hT (by omega)

/-- The door's own heap meets the condition. -/
theorem door_met (os : Os) (args : Array Value) : laidMetH Tryz.prog Rows.xtreeWalksRow.laid ((World.laidAll Tryz.prog os Rows.xtreeWalksRow.laid).forCall (fun _ _ => 0) ⟨#[], args, []⟩).memory :=
  by rw [MakeChecks.laidMetH_plain _ _ _ (by kernel_rfl)]; exact laidMet_laidAll _ (by kernel_rfl) (by kernel_rfl)

set_option maxRecDepth 100000 in
theorem lifted (os : Os) (started : os.Started) (H : Type) (enc : TypeId × Value → H) :
    ReturnsInHanded {} Tryz.checked os 5 .any (fun w args => (Rows.xtreeWalksSpec.pre enc Tryz.prog Tryz.f5 [] false w args ∧ laidMetH Tryz.prog Rows.xtreeWalksRow.laid w) ∧ sizedMet enc Tryz.prog Tryz.f5 (OpenSpec.ofChange Rows.xtreeWalksSpec) false w args)
      (Rows.xtreeWalksSpec.post enc Tryz.prog Tryz.f5 false true false false) := by
  refine wrap_shaped (C := Tryz.checked) (X := fun w _ => laidMetH Tryz.prog Rows.xtreeWalksRow.laid w) (fun _ _ _ hh h => h.of_heap hh) own started (by kernel_rfl) Tryz.func5
    (ChangeSpec.witness_shaped (enc := enc) (C := Tryz.checked) (os := os) (X := fun w _ => laidMetH Tryz.prog Rows.xtreeWalksRow.laid w) false (World.laidAll Tryz.prog os Rows.xtreeWalksRow.laid) #[.agg #[.slice none 0 0], .string ByteArray.empty, .int .i64 0] 8 (World.laidAll_os _ _ _) (World.shaped_of_ZipB (by kernel_rfl) (by kernel_rfl)) (by kernel_rfl) (by kernel_rfl) (by kernel_rfl) (door_met os _)) ?_
  intro W base args ds gs before hval0 hW hSh hL0
  have hL : laidMetH Tryz.prog Rows.xtreeWalksRow.laid W := hL0
  have hval : ∀ (j : Nat) t v, Tryz.f5.params[j]? = some t → args[j]? = some v → Value.okWide Tryz.prog W .any base t v := hval0
  have hW' := hW
  obtain ⟨p, q, hA0, hV, rfl, hfz, hnd⟩ := hW
  have hA : DataW.TrodAll enc Tryz.prog W 0 (fun _ => true) true Tryz.f5.params.toList args.toList ds p := hA0
  have hAll := hA
  rw [Tryz.params5] at hA hval
  obtain ⟨v0, vs0, d0, ds0, p0, q0, hargs, rfl, rfl, h0, r0⟩ := trodAll_cons hA
  obtain ⟨v1, vs1, d1, ds1, p1, q1, rfl, rfl, rfl, h1, r1⟩ := trodAll_cons r0
  obtain ⟨v2, vs2, d2, ds2, p2, q2, rfl, rfl, rfl, h2, r2⟩ := trodAll_cons r1
  obtain ⟨rfl, rfl, rfl⟩ := trodAll_nil r2
  obtain rfl : args = #[v0, v1, v2] := by cases args; simp_all
  obtain ⟨rfl, rfl⟩ := trodVars_none hV
  obtain ⟨cs, rfl, hcs, hpt⟩ := struct_parts Tryz.underlying25 (by kernel_rfl) (by kernel_rfl) (hval 0 25 v0 rfl rfl) h0
  obtain ⟨u, y0, m0, hu0, hu1⟩ := hpt 0 _ rfl
  obtain rfl : cs = #[u] := by
    have h5 : cs.size = 1 := hcs
    refine Array.ext (by rw [h5]; rfl) fun i hi hi2 => ?_
    have h6 : i = 0 := by omega
    subst h6
    exact (Array.getElem?_eq_some_iff.1 hu0).2
  obtain ⟨ys, hys, huf, hyl, ks, ats, hk, has, hel⟩ := doc_open hu1
  obtain ⟨a1, rfl, rfl, rfl, w1⟩ := open_string Tryz.underlying9 (hval 1 9 v1 rfl rfl) h1
  obtain ⟨a2, rfl, rfl, rfl, w2⟩ := open_int Tryz.underlying3 (hval 2 3 v2 rfl rfl) h2
  have hm : ∃ m, W.cell? ⟨0, 0, none⟩ = some (.int .i64 m) :=
    Go.Proofs.cell_of_shapedOpen_int (zero := #[.int .i64 0]) (t := 3) hSh (of_decide_eq_true (by kernel_rfl)) (by kernel_rfl) rfl (by kernel_rfl) (by kernel_rfl) Tryz.underlying3
  clear hA0 hval0
  refine (walk a1 a2 W hys huf hk hel hm (foldTab_laid hL)).mono fun e W' ⟨he, bel⟩ => ?_
  subst he
  exact ⟨_, rfl, _, _, _, [], _, [], hW', trodAll_mk1 (shut_bool Tryz.underlying4 _), all_kept laidOut bel rowed hAll, rfl, bel.frame _, fun h => by cases h⟩

theorem over : Rows.xtreeWalksRow.holds Tryz.pinned (OpenSpec.ofChange Rows.xtreeWalksSpec) :=
  OpenClaim.holds_of_wide 5 Tryz.f5 rfl rfl rfl rfl rfl rfl rfl ⟨rfl, rfl, rfl, rfl, rfl⟩ rfl rfl rfl rfl rfl (by kernel_rfl) Tryz.func5 (by kernel_rfl)
    (of_decide_eq_true (by kernel_rfl)) (by unfold Func.isWrapper; first | (rw [if_pos (by decide +kernel)]; kernel_rfl) | (rw [if_neg (by decide +kernel)]; exact ⟨rfl, rfl⟩))
    (fun os started H enc _ => lifted os started H enc)

theorem proved : Rows.XtreeWalksCardSaid :=
  Claim7.holds_tied_plain_at .later [] [.data, .data, .data, .pinned, .pinned] true (true, "6728cac493f232c75ce5ed1272fa352a58101efb9ae072625136b4426920b270") false
    over (fun _ h => by cases h) (by kernel_rfl) (fun _ h => by cases h) xtreeWalks_row_tie rfl ⟨rfl, rfl⟩ (by kernel_rfl) rfl
    (fun f fn hf hfn => by
      obtain rfl : f = 5 := Option.some.inj ((show Tryz.prog.funcNamed "hornbeam/hornbeamlaw8.XtreeWalks" = some 5 by kernel_rfl).symm.trans hf) |>.symm
      obtain rfl : fn = Tryz.f5 := (Option.some.inj (Tryz.func5.symm.trans hfn)).symm
      exact ⟨by kernel_rfl, fun j t ht => by
        rw [Tryz.params5] at ht
        have hm : t ∈ [25, 9, 3] := by simpa using Array.mem_of_getElem? ht
        have hall : ([25, 9, 3].all fun u => !Tryz.prog.wantsStandIn u) = true := by kernel_rfl
        exact (show Tryz.prog.wantsStandIn t = false by simpa using List.all_eq_true.1 hall t hm)⟩)
    (by kernel_rfl)
#print axioms proved
end Go.Proofs.YtlldpmjnledhgaaGreatDoor.xtreeWalksCard
