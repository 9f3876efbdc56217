/- The law PbufBack of the given program answers true for every input, and its arguments read behind the call as before: every input of the parameters' types, no further condition. -/
import Derived.Test.YtgdnibdahldekabRows
import Derived.Test.YtgdnibdahldekabPbL5
import Derived.Test.YtgdnibdahldekabOp
import Derived.Test.YtgdnibdahldekabMem
import Derived.WalkKit
import Derived.ProofKit
import Derived.OpenShut
import Derived.ShutString
namespace Go.Proofs.Ytgdnibdahldekab.pbufBack
open Go.ChangeShapes Go.WideShapes Go.ChangeAt Go.RowKit
set_option linter.unusedVariables false

theorem own : ownKnob Try.prog.godebug = none := by kernel_rfl
theorem laidOut : laidOutB Try.prog = true := by kernel_rfl
theorem rowed : ∀ t ∈ Try.f5.params.toList, Try.prog.readableRec t = true ∧ t < Try.prog.types.size := by
  intro t ht
  rw [Try.params5] at ht
  simp only [List.mem_cons, List.not_mem_nil, or_false] at ht
  rcases ht with rfl | rfl
  · exact ⟨by kernel_rfl, of_decide_eq_true (by kernel_rfl)⟩
  · exact ⟨by kernel_rfl, of_decide_eq_true (by kernel_rfl)⟩

set_option maxRecDepth 100000 in
theorem lifted (os : Os) (started : os.Started) (H : Type) (enc : TypeId × Value → H) :
    ReturnsInHanded {} Try.checked os 5 .any (Rows.pbufBackSpec.pre6 enc Try.prog Try.f5 Rows.pbufBackRow.domain false) (Rows.pbufBackSpec.post enc Try.prog Try.f5 false true false false) := by
  refine returnsInHanded_of_change (C := Try.checked) own started (by kernel_rfl) Try.func5
    (ChangeSpec.witness6 (enc := enc) (C := Try.checked) false ⟨#[], #[.slice none 0 0, .int .i64 0], []⟩ 8 (by kernel_rfl) (by kernel_rfl) (by kernel_rfl) (by kernel_rfl)) ?_
  intro W base args ds gs before hval0 hW hcnd _
  have hval : ∀ (j : Nat) t v, Try.f5.params[j]? = some t → args[j]? = some v → Value.okWide Try.prog W .any base t v := hval0
  have hW' := hW
  obtain ⟨p, q, hA0, hV, rfl, hfz, hnd⟩ := hW
  have hA : DataW.TrodAll enc Try.prog W 0 (fun _ => true) true Try.f5.params.toList args.toList ds p := hA0
  have hAll := hA
  rw [Try.params5] at hA hval
  obtain ⟨v0, vs0, d0, ds0, p0, q0, hargs, rfl, rfl, h0, r0⟩ := trodAll_cons hA
  obtain ⟨v1, vs1, d1, ds1, p1, q1, rfl, rfl, rfl, h1, r1⟩ := trodAll_cons r0
  obtain ⟨rfl, rfl, rfl⟩ := trodAll_nil r1
  obtain rfl : args = #[v0, v1] := by cases args; simp_all
  obtain ⟨rfl, rfl⟩ := trodVars_none hV
  obtain ⟨a0, len0, cap0, rfl⟩ := okWide_slice Try.underlying45 (hval 0 45 v0 rfl rfl)
  obtain ⟨zs, hl, hm, hz⟩ : ∃ zs : List FI, zs.length = len0 ∧ len0 ≤ 9223372036854775807 ∧ IsFIs W a0 zs := by
    obtain ⟨fuel, hf⟩ := h0
    rcases slice_parts Try.underlying45 Try.underlying39 (by kernel_rfl) (by kernel_rfl) hf with hcs | ⟨x, l, c, hcs, hlc, hcm, hi⟩
    · simp only [Value.cells, List.cons.injEq, Value.slice.injEq, and_true] at hcs
      obtain ⟨rfl, rfl, rfl⟩ := hcs
      exact ⟨[], rfl, by omega, fun i h => absurd h (by simp)⟩
    · simp only [Value.cells, List.cons.injEq, Value.slice.injEq, and_true] at hcs
      obtain ⟨rfl, rfl, rfl⟩ := hcs
      obtain ⟨zs, hl, hz⟩ := list_of (Q := fun i (f : FI) => fiOk f ∧ ∀ j, j < 5 → W.cell? (x.add (i * 5 + j)) = (fiCells f)[j]?) len0 (by
        intro i hil
        obtain ⟨u0, y0, m0, c0, t0⟩ := hi i hil 0 _ rfl
        obtain ⟨u1, y1, m1, c1, t1⟩ := hi i hil 1 _ rfl
        obtain ⟨u2, y2, m2, c2, t2⟩ := hi i hil 2 _ rfl
        obtain ⟨u3, y3, m3, c3, t3⟩ := hi i hil 3 _ rfl
        obtain ⟨u4, y4, m4, c4, t4⟩ := hi i hil 4 _ rfl
        obtain ⟨z0, rfl, w0⟩ := int_cell Try.underlying3 t0
        obtain ⟨z1, rfl, w1⟩ := int_cell Try.underlying3 t1
        obtain ⟨z2, rfl, w2⟩ := int_cell Try.underlying3 t2
        obtain ⟨z3, rfl, w3⟩ := int_cell Try.underlying37 t3
        obtain ⟨z4, rfl, w4⟩ := string_cell Try.underlying9 t4
        obtain ⟨n3, rfl, h3⟩ := u64_wf w3
        refine ⟨⟨z0, z1, z2, n3, z4⟩, ⟨i64_wf w0, i64_wf w1, i64_wf w2, h3, by unfold maxLen at w4; exact w4⟩, fun j hj => ?_⟩
        match j, hj with
        | 0, _ => exact c0
        | 1, _ => exact c1
        | 2, _ => exact c2
        | 3, _ => exact c3
        | 4, _ => exact c4)
      exact ⟨zs, hl, by unfold maxLen at hcm; omega, fun i h => ⟨(hz i h).1, x, rfl, (hz i h).2⟩⟩
  obtain ⟨a1, rfl, rfl, rfl, w1⟩ := open_int Try.underlying3 (hval 1 3 v1 rfl rfl) h1
  have hb := i64_wf w1
  clear hA0 hval0
  refine (pbufBack_walk a0 len0 cap0 zs a1 W hl hm hz hb.1 hb.2).mono fun e W' ⟨he, bel⟩ => ?_
  subst he
  exact ⟨_, rfl, _, _, _, [], _, [], hW', trodAll_mk1 (shut_bool Try.underlying4 _), all_kept laidOut bel rowed hAll, rfl, bel.frame _, fun h => by cases h⟩

theorem over : Rows.pbufBackRow.holds Try.pinned (OpenSpec.ofChange Rows.pbufBackSpec) :=
  OpenClaim.holds_of_wide 5 Try.f5 rfl rfl rfl rfl rfl rfl rfl ⟨rfl, rfl, rfl, rfl, rfl⟩ rfl rfl rfl rfl rfl (by kernel_rfl) Try.func5 (by kernel_rfl)
    (of_decide_eq_true (by kernel_rfl)) (by unfold Func.isWrapper; first | (rw [if_pos (by decide +kernel)]; kernel_rfl) | (rw [if_neg (by decide +kernel)]; exact ⟨rfl, rfl⟩))
    (fun os started H enc _ => lifted os started H enc)

theorem proved : Rows.PbufBackSaid :=
  over
#print axioms proved
end Go.Proofs.Ytgdnibdahldekab.pbufBack
