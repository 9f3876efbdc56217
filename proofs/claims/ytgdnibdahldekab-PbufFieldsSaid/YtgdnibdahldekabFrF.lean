/- The law PbufFields of the given program answers true for every input, and its arguments read behind the call as before: every input of the parameters' types, no further condition. -/
import Derived.Test.YtgdnibdahldekabRows
import Derived.Test.YtgdnibdahldekabPbL4
import Derived.Test.YtgdnibdahldekabOp
import Derived.Test.YtgdnibdahldekabMem
import Derived.WalkKit
import Derived.ProofKit
import Derived.OpenShut
import Derived.ShutString
namespace Go.Proofs.Ytgdnibdahldekab.pbufFields
open Go.ChangeShapes Go.WideShapes Go.ChangeAt Go.RowKit
open Go.ChangeMaps (open_string)
set_option linter.unusedVariables false

theorem own : ownKnob Try.prog.godebug = none := by kernel_rfl
theorem laidOut : laidOutB Try.prog = true := by kernel_rfl
theorem rowed : ∀ t ∈ Try.f4.params.toList, Try.prog.readableRec t = true ∧ t < Try.prog.types.size := by
  intro t ht
  rw [Try.params4] at ht
  simp only [List.mem_cons, List.not_mem_nil, or_false] at ht
  rcases ht with rfl | rfl | rfl
  · exact ⟨by kernel_rfl, of_decide_eq_true (by kernel_rfl)⟩
  · exact ⟨by kernel_rfl, of_decide_eq_true (by kernel_rfl)⟩
  · exact ⟨by kernel_rfl, of_decide_eq_true (by kernel_rfl)⟩

set_option maxRecDepth 100000 in
theorem lifted (os : Os) (started : os.Started) (H : Type) (enc : TypeId × Value → H) :
    ReturnsInHanded {} Try.checked os 4 .any (Rows.pbufFieldsSpec.pre6 enc Try.prog Try.f4 Rows.pbufFieldsRow.domain false) (Rows.pbufFieldsSpec.post enc Try.prog Try.f4 false true false false) := by
  refine returnsInHanded_of_change (C := Try.checked) own started (by kernel_rfl) Try.func4
    (ChangeSpec.witness6 (enc := enc) (C := Try.checked) false ⟨#[], #[.agg #[.int .i64 0, .int .i64 0, .int .i64 0, .int .u64 0, .string ByteArray.empty], .string ByteArray.empty, .int .i64 0], []⟩ 8 (by kernel_rfl) (by kernel_rfl) (by kernel_rfl) (by kernel_rfl)) ?_
  intro W base args ds gs before hval0 hW hcnd _
  have hval : ∀ (j : Nat) t v, Try.f4.params[j]? = some t → args[j]? = some v → Value.okWide Try.prog W .any base t v := hval0
  have hW' := hW
  obtain ⟨p, q, hA0, hV, rfl, hfz, hnd⟩ := hW
  have hA : DataW.TrodAll enc Try.prog W 0 (fun _ => true) true Try.f4.params.toList args.toList ds p := hA0
  have hAll := hA
  rw [Try.params4] at hA hval
  obtain ⟨v0, vs0, d0, ds0, p0, q0, hargs, rfl, rfl, h0, r0⟩ := trodAll_cons hA
  obtain ⟨v1, vs1, d1, ds1, p1, q1, rfl, rfl, rfl, h1, r1⟩ := trodAll_cons r0
  obtain ⟨v2, vs2, d2, ds2, p2, q2, rfl, rfl, rfl, h2, r2⟩ := trodAll_cons r1
  obtain ⟨rfl, rfl, rfl⟩ := trodAll_nil r2
  obtain rfl : args = #[v0, v1, v2] := by cases args; simp_all
  obtain ⟨rfl, rfl⟩ := trodVars_none hV
  obtain ⟨cs, rfl, hsz, hi⟩ := struct_parts Try.underlying39 (by kernel_rfl) (by kernel_rfl) (hval 0 39 v0 rfl rfl) h0
  obtain ⟨u0, y0, m0, c0, t0⟩ := hi 0 _ rfl
  obtain ⟨u1, y1, m1, c1, t1⟩ := hi 1 _ rfl
  obtain ⟨u2, y2, m2, c2, t2⟩ := hi 2 _ rfl
  obtain ⟨u3, y3, m3, c3, t3⟩ := hi 3 _ rfl
  obtain ⟨u4, y4, m4, c4, t4⟩ := hi 4 _ rfl
  obtain ⟨z0, rfl, w0⟩ := int_cell Try.underlying3 t0
  obtain ⟨z1, rfl, w1⟩ := int_cell Try.underlying3 t1
  obtain ⟨z2, rfl, w2⟩ := int_cell Try.underlying3 t2
  obtain ⟨z3, rfl, w3⟩ := int_cell Try.underlying37 t3
  obtain ⟨z4, rfl, w4⟩ := string_cell Try.underlying9 t4
  obtain ⟨n3, rfl, k3⟩ := u64_wf w3
  obtain rfl : cs = #[.int .i64 z0, .int .i64 z1, .int .i64 z2, .int .u64 n3, .string z4] := by
    apply Array.ext_getElem?
    intro j
    match j with
    | 0 => exact c0
    | 1 => exact c1
    | 2 => exact c2
    | 3 => exact c3
    | 4 => exact c4
    | j + 5 =>
      have h5 : cs.size = 5 := hsz
      rw [Array.getElem?_eq_none (by omega), Array.getElem?_eq_none (by simp)]
  obtain ⟨s1, rfl, rfl, rfl, g1⟩ := open_string Try.underlying9 (hval 1 9 v1 rfl rfl) h1
  obtain ⟨a2, rfl, rfl, rfl, g2⟩ := open_int Try.underlying3 (hval 2 3 v2 rfl rfl) h2
  have hb := i64_wf g2
  unfold maxLen at w4 g1
  clear hA0 hval0
  refine (pbufFields_walk z0 z1 z2 n3 z4 s1 a2 k3 w4 g1 hb.1 hb.2 W).mono fun e W' ⟨he, bel⟩ => ?_
  subst he
  exact ⟨_, rfl, _, _, _, [], _, [], hW', trodAll_mk1 (shut_bool Try.underlying4 _), all_kept laidOut bel rowed hAll, rfl, bel.frame _, fun h => by cases h⟩

theorem over : Rows.pbufFieldsRow.holds Try.pinned (OpenSpec.ofChange Rows.pbufFieldsSpec) :=
  OpenClaim.holds_of_wide 4 Try.f4 rfl rfl rfl rfl rfl rfl rfl ⟨rfl, rfl, rfl, rfl, rfl⟩ rfl rfl rfl rfl rfl (by kernel_rfl) Try.func4 (by kernel_rfl)
    (of_decide_eq_true (by kernel_rfl)) (by unfold Func.isWrapper; first | (rw [if_pos (by decide +kernel)]; kernel_rfl) | (rw [if_neg (by decide +kernel)]; exact ⟨rfl, rfl⟩))
    (fun os started H enc _ => lifted os started H enc)

theorem proved : Rows.PbufFieldsSaid :=
  over
#print axioms proved
end Go.Proofs.Ytgdnibdahldekab.pbufFields
