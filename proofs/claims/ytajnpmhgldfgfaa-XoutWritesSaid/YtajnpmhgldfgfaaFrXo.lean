/- The law XoutWrites of the given program answers true for every input, and its arguments read behind the call as before: every input of the parameters' types, no further condition. -/
import Derived.Deep.Slices
import Derived.Deep.Fields
import Derived.ChangeSame
import Derived.Lib.SmallJoins
import Derived.OpenShut
import Derived.ShutString
import Derived.WalkKit
import Derived.ProofKit
import Derived.Carry
import Derived.Test.YtajnpmhgldfgfaaRows
import Derived.Test.YtajnpmhgldfgfaaXyB
import Derived.Test.YtajnpmhgldfgfaaMem
namespace Go.Proofs.Ytajnpmhgldfgfaa
open Go.ChangeShapes Go.WideShapes Go.RowKit Go.Deep Go.Joins
set_option linter.unusedVariables false

/-- A list of what each index has. -/
theorem list_of {α : Type} {Q : Nat → α → Prop} : ∀ (n : Nat), (∀ i, i < n → ∃ x, Q i x) → ∃ xs : List α, xs.length = n ∧ ∀ i (h : i < xs.length), Q i xs[i]
  | 0, _ => ⟨[], rfl, fun i h => absurd h (by simp)⟩
  | n + 1, h => by
    obtain ⟨xs, hl, hx⟩ := list_of n fun i hi => h i (by omega)
    obtain ⟨x, hq⟩ := h n (by omega)
    refine ⟨xs ++ [x], by simp [hl], fun i hi => ?_⟩
    by_cases hlt : i < xs.length
    · rw [List.getElem_append_left hlt]; exact hx i hlt
    · have e : i = n := by simp at hi; omega
      subst e
      rw [List.getElem_append_right (by omega)]
      simpa using hq

section
variable {H : Type} {enc : TypeId × Value → H} {P : Program} {w : World} {base : Nat} {spare : Nat → Bool} {held : Bool}
/-- A struct's cells, each with what its field's reading takes. -/
theorem parts_of {t : TypeId} {fs : Array Field} {n : Nat} {cs : List Value} {x : DataW H × List MemPlace} (he : P.underlying t = some (.struct fs)) (ho : oneCellFields P fs = true) (hC : P.cellsOf t = fs.size)
    (h : DataW.trod enc P w base spare held n t cs = some x) :
    cs.length = fs.size ∧ ∀ (j : Nat) (f : Field), fs[j]? = some f → ∃ u y m, cs[j]? = some u ∧ DataW.trod enc P w base spare held m f.type [u] = some y := by
  obtain ⟨ys, m, _, _, hlen, hyl, hf⟩ := DataW.trod_struct he h
  rw [hC] at hlen
  refine ⟨hlen, fun j f hj => ?_⟩
  obtain ⟨h1, h2⟩ := hone_of ho j f hj
  have hlt : j < fs.size := (Array.getElem?_eq_some_iff.1 hj).1
  have hcj : j < cs.length := by omega
  have h3 := hf j f hj
  rw [h1, h2, List.drop_eq_getElem_cons hcj, List.take_succ_cons, List.take_zero, List.getElem?_eq_getElem (by omega)] at h3
  exact ⟨cs[j], _, m, List.getElem?_eq_getElem hcj, h3⟩
/-- A slice of structs, element by element, cell by cell. -/
theorem slice_parts {t e : TypeId} {fs : Array Field} {fuel : Nat} {cs : List Value} {x : DataW H × List MemPlace} (ht : P.underlying t = some (.slice e)) (he : P.underlying e = some (.struct fs)) (ho : oneCellFields P fs = true) (hC : P.cellsOf e = fs.size)
    (h : DataW.trod enc P w base spare held fuel t cs = some x) :
    cs = [.slice none 0 0] ∨ ∃ a len cap, cs = [.slice (some a) len cap] ∧ len ≤ cap ∧ cap ≤ maxLen ∧
      ∀ i, i < len → ∀ (j : Nat) (f : Field), fs[j]? = some f → ∃ u y m, w.cell? (a.add (i * fs.size + j)) = some u ∧ DataW.trod enc P w base spare held m f.type [u] = some y := by
  rcases open_slice ht h with ⟨h0, _⟩ | ⟨a, len, cap, m, n, D, Pl, hcs, _, hl, hm, hmm, _, hi⟩
  · exact .inl h0
  · refine .inr ⟨a, len, cap, hcs, hl, hm, fun i hil j f hj => ?_⟩
    have him : i < m := by rw [hmm]; split <;> omega
    obtain ⟨vs, hv, ht'⟩ := hi i him
    obtain ⟨_, hvl, hat⟩ := World.cells?_some hv
    obtain ⟨hlen, hp⟩ := parts_of he ho hC ht'
    obtain ⟨u, y, k, hu, hy⟩ := hp j f hj
    have hlt : j < fs.size := (Array.getElem?_eq_some_iff.1 hj).1
    refine ⟨u, y, k, ?_, hy⟩
    have h4 := hat j (by omega)
    rw [hC, Go.Deep.add_add] at h4
    rw [h4, hu]
/-- A struct by value. -/
theorem struct_parts {r : Reach} {b0 : Nat} {t : TypeId} {fs : Array Field} {v : Value} {d : DataW H} {p : List MemPlace} (he : P.underlying t = some (.struct fs)) (ho : oneCellFields P fs = true) (hC : P.cellsOf t = fs.size)
    (hv : Value.okWide P w r b0 t v) (h : DataW.Trod enc P w base spare held t v d p) :
    ∃ cs : Array Value, v = .agg cs ∧ cs.size = fs.size ∧ ∀ (j : Nat) (f : Field), fs[j]? = some f → ∃ u y m, cs[j]? = some u ∧ DataW.trod enc P w base spare held m f.type [u] = some y := by
  obtain ⟨cs, rfl, hsz⟩ := okWide_struct he hv
  obtain ⟨fuel, hf⟩ := h
  obtain ⟨_, hp⟩ := parts_of he ho hC hf
  refine ⟨cs, rfl, by rw [hsz, hC], fun j f hj => ?_⟩
  obtain ⟨u, y, m, h1, h2⟩ := hp j f hj
  exact ⟨u, y, m, by simpa [Value.cells] using h1, h2⟩
theorem int_cell {t : TypeId} {k : IntKind} {n : Nat} {u : Value} {y : DataW H × List MemPlace} (ht : P.underlying t = some (.int k)) (h : DataW.trod enc P w base spare held n t [u] = some y) : ∃ z, u = .int k z ∧ (Lit.int k z).wf = true := by
  obtain ⟨z, h1, _, h2⟩ := DataW.trod_int ht h
  simp only [List.cons.injEq, and_true] at h1
  exact ⟨z, h1, h2⟩
theorem string_cell {t : TypeId} {n : Nat} {u : Value} {y : DataW H × List MemPlace} (ht : P.underlying t = some .string) (h : DataW.trod enc P w base spare held n t [u] = some y) : ∃ s : ByteArray, u = .string s ∧ s.size ≤ maxLen := by
  obtain ⟨s, h1, _, h2⟩ := DataW.trod_string ht h
  simp only [List.cons.injEq, and_true] at h1
  exact ⟨s, h1, h2⟩
theorem i64_wf {z : Int} (h : (Lit.int .i64 z).wf = true) : -9223372036854775808 ≤ z ∧ z ≤ 9223372036854775807 := by simpa [Lit.wf, IntKind.min, IntKind.max, IntKind.signed, IntKind.bits] using h
theorem u64_wf {z : Int} (h : (Lit.int .u64 z).wf = true) : ∃ n : Nat, z = n ∧ n < 18446744073709551616 := by
  have : 0 ≤ z ∧ z ≤ 18446744073709551615 := by simpa [Lit.wf, IntKind.min, IntKind.max, IntKind.signed, IntKind.bits] using h
  exact ⟨z.toNat, by omega, by omega⟩
/-- All that came in reads behind a call as before, if nothing that lay below has turned. -/
theorem all_kept (hl : laidOutB P = true) {W W' : World} (hb : Below W.heap.size W W') :
    ∀ {ts : List TypeId} {vs : List Value} {ds : List (DataW H)} {ps : List MemPlace}, (∀ t ∈ ts, P.readableRec t = true ∧ t < P.types.size) →
      DataW.TrodAll enc P W 0 (fun _ => true) true ts vs ds ps → DataW.TrodAll enc P W' 0 (fun b => decide (b < W.heap.size)) true ts vs ds ps
  | [], vs, ds, ps, _, h => by
    obtain ⟨rfl, rfl, rfl⟩ := trodAll_nil h
    exact trodAll_mk0
  | t :: ts, vs, ds, ps, ht, h => by
    obtain ⟨v, vs', d, ds', p, q, rfl, rfl, rfl, h1, h2⟩ := trodAll_cons h
    have h3 := ht t (by simp)
    have hlt : ∀ x ∈ p, x.block < W.heap.size := by obtain ⟨m, hm⟩ := h1; exact DataW.trod_lt m _ _ _ hm
    exact trodAll_cons_mk (Below.trod hl h3.1 h3.2 h1 hb hlt) (all_kept hl hb (fun t' h' => ht t' (by simp [h'])) h2)
end
end Go.Proofs.Ytajnpmhgldfgfaa
namespace Go.Proofs.Ytajnpmhgldfgfaa.xoutWrites
open Go.ChangeShapes Go.WideShapes Go.ChangeAt Go.RowKit Go.Deep Go.Joins
set_option linter.unusedVariables false

theorem addr_plain {w : World} {a : Addr} {u : Value} (h : w.cell? a = some u) : ∃ b o, a = ⟨b, o, none⟩ ∧ b < w.heap.size := by
  obtain ⟨b, o, s⟩ := a
  unfold World.cell? at h
  split at h
  · rename_i hb
    have hlt := (Array.getElem?_eq_some_iff.1 hb).1
    cases s with
    | none => exact ⟨b, o, rfl, hlt⟩
    | some y => simp at h
  · cases h
theorem add_plain (b o k : Nat) : (⟨b, o, none⟩ : Addr).add k = ⟨b, o + k, none⟩ := by
  unfold Addr.add
  split
  · rename_i h; subst h; rfl
  · rfl
section
variable {H : Type} {enc : TypeId × Value → H} {P : Program} {w : World} {base : Nat} {spare : Nat → Bool} {held : Bool}
/-- A slice of one-cell elements. -/
theorem slice_ones {t e : TypeId} {fuel : Nat} {u : Value} {x : DataW H × List MemPlace} (ht : P.underlying t = some (.slice e)) (hC : P.cellsOf e = 1)
    (h : DataW.trod enc P w base spare held fuel t [u] = some x) :
    u = .slice none 0 0 ∨ ∃ a len cap, u = .slice (some a) len cap ∧ len ≤ cap ∧ cap ≤ maxLen ∧ ∀ i, i < len → ∃ u y m, w.cell? (a.add i) = some u ∧ DataW.trod enc P w base spare held m e [u] = some y := by
  rcases open_slice ht h with ⟨h0, _⟩ | ⟨a, len, cap, m, n, D, Pl, hcs, _, hl, hm, hmm, _, hi⟩
  · exact .inl (List.cons.inj h0).1
  · refine .inr ⟨a, len, cap, (List.cons.inj hcs).1, hl, hm, fun i hil => ?_⟩
    have him : i < m := by rw [hmm]; split <;> omega
    obtain ⟨vs, hv, ht'⟩ := hi i him
    obtain ⟨_, hvl, hat⟩ := World.cells?_some hv
    rw [hC, Nat.mul_one] at hat
    rw [hC] at hvl
    have h4 := hat 0 (by omega)
    rw [Go.Deep.add_add, Nat.add_zero] at h4
    obtain ⟨z, rfl⟩ : ∃ z, vs = [z] := by
      match vs, hvl with
      | [z], _ => exact ⟨z, rfl⟩
    exact ⟨z, _, n, h4, ht'⟩
end
section
variable {H : Type} {enc : TypeId × Value → H} {w : World} {base : Nat} {spare : Nat → Bool} {held : Bool}
theorem texts_open {fuel : Nat} {u : Value} {x : DataW H × List MemPlace} (h : DataW.trod enc Try.prog w base spare held fuel 25 [u] = some x) : ∃ l : List ByteArray, TxtRd w u l ∧ l.length ≤ 9223372036854775807 ∧ ∀ z ∈ l, z.size ≤ 9223372036854775807 := by
  rcases slice_ones Try.underlying25 (by kernel_rfl) h with rfl | ⟨a, n, c, rfl, hl, hm, hi⟩
  · exact ⟨[], ⟨⟨none, 0, rfl, fun h => absurd rfl h⟩, none, 0, rfl, (fun i hi => absurd hi (by simp)), .inr ⟨rfl, rfl⟩⟩, by simp, fun z hz => nomatch hz⟩
  · obtain ⟨l, hl1, hl2⟩ := list_of (Q := fun i (z : ByteArray) => w.cell? (a.add i) = some (.string z) ∧ z.size ≤ maxLen) n (by
      intro i hil
      obtain ⟨u, y, m, hu, ht⟩ := hi i hil
      obtain ⟨z, rfl, hz⟩ := string_cell Try.underlying9 ht
      exact ⟨z, hu, hz⟩)
    have hrd : RdS w (some a) l := fun i hi => ⟨a, rfl, by
      have := block_lt' (hl2 i hi).1
      rwa [add_block] at this, (hl2 i hi).1⟩
    subst hl1
    refine ⟨l, ⟨⟨some a, c, rfl, fun hne => ?_⟩, some a, c, rfl, hrd, .inl ⟨a, c, rfl, hrd⟩⟩, by unfold maxLen at hm; omega, fun z hz => ?_⟩
    · have hpos : 0 < l.length := List.length_pos_iff.2 hne
      obtain ⟨b, o, rfl, hb⟩ := addr_plain (w := w) (a := a) (by have := (hl2 0 hpos).1; unfold Addr.add at this; rw [if_pos rfl] at this; exact this)
      refine ⟨b, o, rfl, hb, fun j x hj => ?_⟩
      obtain ⟨hlt, rfl⟩ := List.getElem?_eq_some_iff.1 hj
      have := (hl2 j hlt).1
      rwa [add_plain] at this
    · obtain ⟨i, hi, rfl⟩ := List.mem_iff_getElem.1 hz
      have := (hl2 i hi).2
      unfold maxLen at this
      omega
theorem ops_open {fuel : Nat} {u : Value} {x : DataW H × List MemPlace} (h : DataW.trod enc Try.prog w base spare held fuel 22 [u] = some x) : ∃ a c os, u = .slice a (List.length os) c ∧ OpsRd w a os ∧ ∀ o ∈ os, OpBig o := by
  rcases slice_parts Try.underlying22 Try.underlying27 (by kernel_rfl) (by kernel_rfl) h with hu | ⟨a, n, c, hu, hl, hm, hi⟩
  · obtain rfl := (List.cons.inj hu).1
    exact ⟨none, 0, [], rfl, (fun i o hi => by simp at hi), fun o ho => nomatch ho⟩
  · obtain rfl := (List.cons.inj hu).1
    obtain ⟨l, hl1, hl2⟩ := list_of (Q := fun i (o : OpW) => (w.cell? (a.add (i * 3)) = some (.int .i64 o.kind) ∧ w.cell? (a.add (i * 3 + 1)) = some (.string o.s) ∧ ∃ pv, w.cell? (a.add (i * 3 + 2)) = some pv ∧ TxtRd w pv o.ps) ∧ OpBig o) n (by
      intro i hil
      obtain ⟨u0, y0, m0, c0, t0⟩ := hi i hil 0 _ rfl
      obtain ⟨u1, y1, m1, c1, t1⟩ := hi i hil 1 _ rfl
      obtain ⟨u2, y2, m2, c2, t2⟩ := hi i hil 2 _ rfl
      obtain ⟨z0, rfl, w0⟩ := int_cell Try.underlying3 t0
      obtain ⟨z1, rfl, w1⟩ := string_cell Try.underlying9 t1
      obtain ⟨ps, hps, h5, h6⟩ := texts_open t2
      exact ⟨⟨z0, z1, ps⟩, ⟨c0, c1, u2, c2, hps⟩, ⟨by unfold maxLen at w1; show z1.size ≤ _; omega, h5, h6⟩⟩)
    subst hl1
    refine ⟨some a, c, l, rfl, fun i o ho => ?_, fun o ho => ?_⟩
    · obtain ⟨hlt, rfl⟩ := List.getElem?_eq_some_iff.1 ho
      obtain ⟨⟨g0, g1, pv, g2, g3⟩, -⟩ := hl2 i hlt
      obtain ⟨b, p, rfl, hb⟩ := addr_plain (w := w) (a := a) (by have := (hl2 0 (by omega)).1.1; unfold Addr.add at this; rw [if_pos (Nat.zero_mul 3)] at this; exact this)
      rw [add_plain] at g0 g1 g2
      exact ⟨b, p, pv, rfl, hb, g0, g1, g2, g3⟩
    · obtain ⟨i, hi, rfl⟩ := List.mem_iff_getElem.1 ho
      exact (hl2 i hi).2
end
theorem walk {w : World} {a : Option Addr} {c : Nat} {os : List OpW} (h : OpsRd w a os) (hbig : ∀ o ∈ os, OpBig o) :
    Calls Try.prog 3 #[.slice a os.length c] w fun e w' => e = .returned (.bool true) ∧ Below w.heap.size w w' := by
  by_cases hn : os.length ≤ 60
  · exact writes_on h hn hbig
  · exact writes_off a os.length c w (by omega)

theorem own : ownKnob Try.prog.godebug = none := by kernel_rfl
theorem laidOut : laidOutB Try.prog = true := by kernel_rfl
theorem rowed : ∀ t ∈ Try.f3.params.toList, Try.prog.readableRec t = true ∧ t < Try.prog.types.size := by
  intro t ht
  rw [Try.params3] at ht
  simp only [List.mem_cons, List.not_mem_nil, or_false] at ht
  rcases ht with rfl
  exact ⟨by kernel_rfl, of_decide_eq_true (by kernel_rfl)⟩

set_option maxRecDepth 100000 in
theorem lifted (os : Os) (started : os.Started) (H : Type) (enc : TypeId × Value → H) :
    ReturnsInHanded {} Try.checked os 3 .any (Rows.xoutWritesSpec.pre6 enc Try.prog Try.f3 Rows.xoutWritesRow.domain false) (Rows.xoutWritesSpec.post enc Try.prog Try.f3 false true false false) := by
  refine returnsInHanded_of_change (C := Try.checked) own started (by kernel_rfl) Try.func3
    (ChangeSpec.witness6 (enc := enc) (C := Try.checked) false ⟨#[], #[.slice none 0 0], []⟩ 8 (by kernel_rfl) (by kernel_rfl) (by kernel_rfl) (by kernel_rfl)) ?_
  intro W base args ds gs before hval0 hW hcnd _
  have hval : ∀ (j : Nat) t v, Try.f3.params[j]? = some t → args[j]? = some v → Value.okWide Try.prog W .any base t v := hval0
  have hW' := hW
  obtain ⟨p, q, hA0, hV, rfl, hfz, hnd⟩ := hW
  have hA : DataW.TrodAll enc Try.prog W 0 (fun _ => true) true Try.f3.params.toList args.toList ds p := hA0
  have hAll := hA
  rw [Try.params3] at hA hval
  obtain ⟨v0, vs0, d0, ds0, p0, q0, hargs, rfl, rfl, h0, r0⟩ := trodAll_cons hA
  obtain ⟨rfl, rfl, rfl⟩ := trodAll_nil r0
  obtain rfl : args = #[v0] := by cases args; simp_all
  obtain ⟨rfl, rfl⟩ := trodVars_none hV
  obtain ⟨a0, len0, cap0, rfl⟩ := okWide_slice Try.underlying22 (hval 0 22 v0 rfl rfl)
  obtain ⟨fuel, hf⟩ := h0
  obtain ⟨a, c, zs, hu, hz, hbig⟩ := ops_open (u := .slice a0 len0 cap0) hf
  rw [hu] at hW' hAll ⊢
  clear hA0 hval0
  refine (walk hz hbig).mono fun e W' ⟨he, bel⟩ => ?_
  subst he
  exact ⟨_, rfl, _, _, _, [], _, [], hW', trodAll_mk1 (shut_bool Try.underlying4 _), all_kept laidOut bel rowed hAll, rfl, bel.frame _, fun h => by cases h⟩

theorem over : Rows.xoutWritesRow.holds Try.pinned (OpenSpec.ofChange Rows.xoutWritesSpec) :=
  OpenClaim.holds_of_wide 3 Try.f3 rfl rfl rfl rfl rfl rfl rfl ⟨rfl, rfl, rfl, rfl, rfl⟩ rfl rfl rfl rfl rfl (by kernel_rfl) Try.func3 (by kernel_rfl)
    (of_decide_eq_true (by kernel_rfl)) (by unfold Func.isWrapper; first | (rw [if_pos (by decide +kernel)]; kernel_rfl) | (rw [if_neg (by decide +kernel)]; exact ⟨rfl, rfl⟩))
    (fun os started H enc _ => lifted os started H enc)

theorem proved : Rows.XoutWritesSaid :=
  over
#print axioms proved
end Go.Proofs.Ytajnpmhgldfgfaa.xoutWrites
