/- Plain facts about what pbuf.Each and pbuf.Fields tell; no program in sight. -/
import Derived.Test.YtgdnibdahldekabPfA
namespace Go.Proofs.Ytgdnibdahldekab
open Go.RowKit
set_option linter.unusedVariables false

/-- A reason. -/
structure Dg where
  code : Nat
  at_ : Nat
  what : List UInt8
abbrev dgV (d : Dg) : Value := .agg #[.int .i64 d.code, .int .i64 d.at_, .string ⟨d.what.toArray⟩]
def zeroF : Fld := ⟨0, 0, 0, 0, []⟩
def zeroD : Dg := ⟨0, 0, []⟩
def limD : Dg := ⟨2, 0, [98, 121, 116, 101, 115]⟩
def wireD (k : Nat) : Dg := ⟨10, k, [102, 105, 101, 108, 100]⟩
def endF : Option Nat → List (Fld × Dg)
  | none => []
  | some k => [(zeroF, wireD k)]
/-- What pbuf.Each tells. -/
def eachGo (k : Nat) (l : List UInt8) : List (Fld × Dg) := (fieldsGo k l).1.map (fun f => (f, zeroD)) ++ endF (fieldsGo k l).2
def eachL (l : List UInt8) : List (Fld × Dg) := if 60000 < l.length then [(zeroF, limD)] else eachGo 0 l
theorem eachGo_nil (k : Nat) : eachGo k [] = [] := by unfold eachGo; rw [fieldsGo_nil]; rfl
theorem eachGo_none {k : Nat} {l : List UInt8} (hl : l ≠ []) (h : oneL l = none) : eachGo k l = [(zeroF, wireD k)] := by unfold eachGo; rw [fieldsGo_none hl h]; rfl
theorem eachGo_some {k n : Nat} {l : List UInt8} {f : Fld} (h : oneL l = some (f, n)) : eachGo k l = ({ f with at_ := k }, zeroD) :: eachGo (k + n) (l.drop n) := by
  unfold eachGo; rw [fieldsGo_some h]; rfl

abbrev fldCells (f : Fld) : List Value := [.int .i64 f.num, .int .i64 f.kind, .int .i64 f.at_, .int .u64 f.val, .string ⟨f.data.toArray⟩]
/-- What pbuf.Fields answers. -/
def fieldsF (l : List UInt8) : List Fld := if 60000 < l.length then [] else match (fieldsGo 0 l).2 with
  | none => (fieldsGo 0 l).1
  | some _ => []
def fieldsD (l : List UInt8) : Dg := if 60000 < l.length then limD else match (fieldsGo 0 l).2 with
  | none => zeroD
  | some k => wireD k
theorem eachL_len (l : List UInt8) : (eachL l).length ≤ 60001 := by
  unfold eachL
  split
  · simp
  · have h := fieldsGo_len _ 0 l (Nat.le_refl _)
    unfold eachGo
    have : (endF (fieldsGo 0 l).2).length ≤ 1 := by cases (fieldsGo 0 l).2 <;> simp [endF]
    simp; omega
/-- All of it was told, and no reason among it. -/
theorem eachL_done {l : List UInt8} (h : ∀ p ∈ eachL l, p.2.code = 0) : fieldsF l = (eachL l).map (·.1) ∧ fieldsD l = zeroD := by
  unfold eachL at h ⊢
  unfold fieldsF fieldsD
  by_cases hl : 60000 < l.length
  · rw [if_pos hl] at h
    have := h (zeroF, limD) (by simp)
    simp [limD] at this
  · rw [if_neg hl] at h ⊢
    rw [if_neg hl, if_neg hl]
    unfold eachGo at h ⊢
    cases ho : (fieldsGo 0 l).2 with
    | none =>
      simp only [endF, List.append_nil, List.map_map]
      exact ⟨(List.map_id _).symm, trivial⟩
    | some k =>
      rw [ho] at h
      have := h (zeroF, wireD k) (by simp [endF])
      simp [wireD] at this
/-- A reason was told: the first one. -/
theorem eachL_stop {l : List UInt8} {p : List (Fld × Dg)} {x : Fld × Dg} (h : p ++ [x] <+: eachL l) (hp : ∀ q ∈ p, q.2.code = 0) (hx : x.2.code ≠ 0) : fieldsF l = [] ∧ fieldsD l = x.2 := by
  unfold eachL at h
  unfold fieldsF fieldsD
  by_cases hl : 60000 < l.length
  · rw [if_pos hl] at h
    rw [if_pos hl, if_pos hl]
    obtain ⟨r, hr⟩ := h
    have hlen := congrArg List.length hr
    simp at hlen
    have hp0 : p = [] := List.eq_nil_of_length_eq_zero (by omega)
    subst hp0
    simp at hr
    exact ⟨rfl, by rw [hr.1]⟩
  · rw [if_neg hl] at h
    rw [if_neg hl, if_neg hl]
    unfold eachGo at h
    obtain ⟨r, hr⟩ := h
    have hmem : x ∈ (fieldsGo 0 l).1.map (fun f => (f, zeroD)) ++ endF (fieldsGo 0 l).2 := by rw [← hr]; simp
    rw [List.mem_append] at hmem
    rcases hmem with hm | hm
    · simp at hm
      obtain ⟨f, _, rfl⟩ := hm
      exact absurd rfl hx
    · cases ho : (fieldsGo 0 l).2 with
      | none => rw [ho] at hm; simp [endF] at hm
      | some k =>
        rw [ho] at hm
        simp [endF] at hm
        subst hm
        exact ⟨rfl, rfl⟩
end Go.Proofs.Ytgdnibdahldekab
