/- Plain facts about pbuf.Put: a field's bytes, and that they are told as it was; no program in sight. -/
import Derived.Test.YtgdnibdahldekabPfB
namespace Go.Proofs.Ytgdnibdahldekab
open Go.RowKit
set_option linter.unusedVariables false

/-- A number in so many bytes, the lowest first. -/
def leB : Nat → Nat → List UInt8
  | _, 0 => []
  | v, n + 1 => UInt8.ofNat (v % 256) :: leB (v / 256) n
theorem leB_len : ∀ (n v : Nat), (leB v n).length = n
  | 0, _ => rfl
  | n + 1, v => by rw [leB, List.length_cons, leB_len n]
theorem leN_leB : ∀ (n v : Nat), v < 256 ^ n → leN (leB v n) = v
  | 0, v, h => by simp at h; subst h; rfl
  | n + 1, v, h => by
    rw [Nat.pow_succ] at h
    rw [leB, leN, leN_leB n (v / 256) (by omega)]
    have : (UInt8.ofNat (v % 256)).toNat = v % 256 := by simp
    rw [this]; omega
theorem leB_get : ∀ (n v i : Nat), i < n → (leB v n)[i]? = some (UInt8.ofNat (v / 256 ^ i % 256))
  | 0, v, i, h => by omega
  | n + 1, v, 0, h => by simp [leB]
  | n + 1, v, i + 1, h => by
    rw [leB, List.getElem?_cons_succ, leB_get n (v / 256) i (by omega), Nat.div_div_eq_div_mul, Nat.pow_succ, Nat.mul_comm 256]
theorem leB_snoc : ∀ (n v : Nat), leB v (n + 1) = leB v n ++ [UInt8.ofNat (v / 256 ^ n % 256)]
  | 0, v => by simp [leB]
  | n + 1, v => by
    rw [leB, leB_snoc n (v / 256), leB, List.cons_append, Nat.div_div_eq_div_mul, Nat.pow_succ, Nat.mul_comm 256]
/-- What stands behind a field's tag. -/
def putBody (kind val : Nat) (data : List UInt8) : List UInt8 := if kind = 0 then putV val else if kind = 1 then leB val 8 else if kind = 5 then leB val 4 else putV data.length ++ data
/-- A field's bytes. -/
def putF (num kind val : Nat) (data : List UInt8) : List UInt8 := putV (num * 8 + kind) ++ putBody kind val data
/-- May a field be put? -/
def okF (num kind : Int) (val len : Nat) : Prop := 1 ≤ num ∧ num ≤ 536870911 ∧ (((kind = 0 ∨ kind = 1) ∧ len = 0) ∨ (kind = 5 ∧ len = 0 ∧ val < 4294967296) ∨ (kind = 2 ∧ val = 0 ∧ len ≤ 60000))
instance (num kind : Int) (val len : Nat) : Decidable (okF num kind val len) := by unfold okF; infer_instance
theorem okF_kind {num kind : Int} {val len : Nat} (h : okF num kind val len) : kind = 0 ∨ kind = 1 ∨ kind = 2 ∨ kind = 5 := by unfold okF at h; omega

theorem oneL_putF {num kind val : Nat} {data : List UInt8} (h : okF num kind val data.length) (hv : val < 18446744073709551616) (t : List UInt8) :
    oneL (putF num kind val data ++ t) = some (⟨num, kind, 0, val, data⟩, (putF num kind val data).length) := by
  have hk := okF_kind h
  obtain ⟨h1, h2, h3⟩ := h
  have hg := gvar_putV (num * 8 + kind) (putBody kind val data ++ t) (by omega)
  rw [← List.append_assoc] at hg
  have e1 : (num * 8 + kind) / 8 = num := by omega
  have e2 : (num * 8 + kind) % 8 = kind := by omega
  have hr : ¬ ((num * 8 + kind) / 8 < 1 ∨ 536870911 < (num * 8 + kind) / 8) := by omega
  have hd : (putV (num * 8 + kind) ++ putBody kind val data ++ t).drop (putV (num * 8 + kind)).length = putBody kind val data ++ t := by
    rw [List.append_assoc, List.drop_left]
  have hlen : (putF num kind val data).length = (putV (num * 8 + kind)).length + (putBody kind val data).length := by rw [putF, List.length_append]
  rw [hlen]
  show oneL (putV (num * 8 + kind) ++ putBody kind val data ++ t) = _
  rcases hk with hk | hk | hk | hk
  · obtain rfl : kind = 0 := by omega
    have hb : putBody 0 val data = putV val := rfl
    obtain rfl : data = [] := List.eq_nil_of_length_eq_zero (by omega)
    rw [oneL_v1 hg hr e2 (v := val) (m := (putV val).length) (by rw [hd, hb]; exact gvar_putV val t hv), e1, hb]
  · obtain rfl : kind = 1 := by omega
    have hb : putBody 1 val data = leB val 8 := rfl
    obtain rfl : data = [] := List.eq_nil_of_length_eq_zero (by omega)
    have hl8 := leB_len 8 val
    rw [oneL_f8 hg hr e2 (by rw [hb]; simp [hl8]), e1, hd, hb, List.take_left' hl8, leN_leB 8 val (by omega), hl8]
  · obtain rfl : kind = 2 := by omega
    have hb : putBody 2 val data = putV data.length ++ data := rfl
    obtain rfl : val = 0 := by omega
    have hg2 := gvar_putV data.length (data ++ t) (by omega)
    rw [hb] at hd hg ⊢
    rw [oneL_b2 hg hr e2 (v := data.length) (m := (putV data.length).length) (by rw [hd, List.append_assoc]; exact hg2) (by simp; omega), e1, ← List.drop_drop, hd, List.append_assoc, List.drop_left, List.take_left, List.length_append, Nat.add_assoc]
  · obtain rfl : kind = 5 := by omega
    have hb : putBody 5 val data = leB val 4 := rfl
    obtain rfl : data = [] := List.eq_nil_of_length_eq_zero (by omega)
    have hl4 := leB_len 4 val
    rw [oneL_f4 hg hr e2 (by rw [hb]; simp [hl4]), e1, hd, hb, List.take_left' hl4, leN_leB 4 val (by omega), hl4]
theorem putF_len {num kind val : Nat} {data : List UInt8} (h : okF num kind val data.length) (hv : val < 18446744073709551616) : 1 ≤ (putF num kind val data).length ∧ (putF num kind val data).length ≤ 20 + data.length := by
  have hk := okF_kind h
  have h1 := putV_le (num * 8 + kind) (by have := h.1; have := h.2.1; omega)
  have h2 := putV_le val hv
  have h3 := putV_le data.length (by have := h.2.2; omega)
  have h4 := putV_pos (num * 8 + kind)
  unfold putF putBody
  rw [List.length_append]
  refine ⟨by omega, ?_⟩
  split
  · omega
  · split
    · rw [leB_len]; omega
    · split
      · rw [leB_len]; omega
      · rw [List.length_append]; omega
/-- Bytes that are cut within a field are none. -/
theorem oneL_cut {num kind val : Nat} {data : List UInt8} (h : okF num kind val data.length) (hv : val < 18446744073709551616) {j : Nat} (hj : j < (putF num kind val data).length) : oneL ((putF num kind val data).take j) = none := by
  cases ho : oneL ((putF num kind val data).take j) with
  | none => rfl
  | some p =>
    obtain ⟨f, n⟩ := p
    have hb := oneL_bd ho
    have h1 := oneL_append ((putF num kind val data).drop j) ho
    rw [List.take_append_drop] at h1
    have h2 := oneL_putF h hv []
    rw [List.append_nil, h1] at h2
    simp only [Option.some.injEq, Prod.mk.injEq] at h2
    have := h2.2
    rw [List.length_take] at hb
    omega

/-- A field's bytes, of a field. -/
def encF (f : Fld) : List UInt8 := putF f.num f.kind f.val f.data
def goodF (f : Fld) : Prop := okF f.num f.kind f.val f.data.length ∧ f.val < 18446744073709551616
/-- Fields, each at its place. -/
def atFs : Nat → List Fld → List Fld
  | _, [] => []
  | k, f :: fs => { f with at_ := k } :: atFs (k + (encF f).length) fs
theorem oneL_enc {f : Fld} (h : goodF f) (t : List UInt8) : oneL (encF f ++ t) = some ({ f with at_ := 0 }, (encF f).length) := oneL_putF h.1 h.2 t
theorem fieldsGo_encs : ∀ (fs : List Fld) (k : Nat) (t : List UInt8), (∀ f ∈ fs, goodF f) →
    fieldsGo k (fs.flatMap encF ++ t) = (atFs k fs ++ (fieldsGo (k + (fs.flatMap encF).length) t).1, (fieldsGo (k + (fs.flatMap encF).length) t).2)
  | [], k, t, _ => by simp [atFs]
  | f :: fs, k, t, h => by
    have hf := h f (by simp)
    rw [List.flatMap_cons, List.append_assoc, fieldsGo_some (oneL_enc hf _), List.drop_left, fieldsGo_encs fs _ t (fun g hg => h g (by simp [hg])), List.length_append, Nat.add_assoc]
    rfl
theorem atFs_snoc : ∀ (fs : List Fld) (k : Nat) (f : Fld), atFs k (fs ++ [f]) = atFs k fs ++ [{ f with at_ := k + (fs.flatMap encF).length }]
  | [], k, f => by simp [atFs]
  | g :: fs, k, f => by
    rw [List.cons_append, atFs, atFs_snoc fs, atFs, List.flatMap_cons, List.length_append, Nat.add_assoc]; rfl
theorem atFs_len : ∀ (fs : List Fld) (k : Nat), (atFs k fs).length = fs.length
  | [], _ => rfl
  | f :: fs, k => by rw [atFs, List.length_cons, atFs_len fs, List.length_cons]
theorem encs_len : ∀ (fs : List Fld), (∀ f ∈ fs, goodF f) → (fs.flatMap encF).length ≤ 20 * fs.length + (fs.map fun f => f.data.length).sum
  | [], _ => by simp
  | f :: fs, h => by
    have h1 := (putF_len (h f (by simp)).1 (h f (by simp)).2).2
    have h2 := encs_len fs fun g hg => h g (by simp [hg])
    rw [List.flatMap_cons, List.length_append, List.length_cons, List.map_cons, List.sum_cons]
    unfold encF at *
    omega
/-- Fields told of fields that were put. -/
theorem fields_encs (fs : List Fld) (h : ∀ f ∈ fs, goodF f) (hl : (fs.flatMap encF).length ≤ 60000) : fieldsF (fs.flatMap encF) = atFs 0 fs ∧ fieldsD (fs.flatMap encF) = zeroD := by
  have hg := fieldsGo_encs fs 0 [] h
  rw [List.append_nil, fieldsGo_nil] at hg
  unfold fieldsF fieldsD
  rw [if_neg (by omega), if_neg (by omega), hg]
  exact ⟨by simp, rfl⟩
/-- How long the first n fields are. -/
def lenF (fs : List Fld) (n : Nat) : Nat := ((fs.take n).flatMap encF).length
theorem lenF_zero (fs : List Fld) : lenF fs 0 = 0 := rfl
theorem lenF_succ {fs : List Fld} {n : Nat} (h : n < fs.length) : lenF fs (n + 1) = lenF fs n + (encF fs[n]).length := by
  unfold lenF
  rw [List.take_add_one, List.getElem?_eq_getElem h, List.flatMap_append, List.length_append]
  simp
theorem lenF_all (fs : List Fld) : lenF fs fs.length = (fs.flatMap encF).length := by unfold lenF; rw [List.take_length]
theorem lenF_le (fs : List Fld) : ∀ (m n : Nat), n + m ≤ fs.length → lenF fs n ≤ lenF fs (n + m)
  | 0, n, _ => Nat.le_refl _
  | m + 1, n, h => by
    have h1 := lenF_le fs m n (by omega)
    have h2 := lenF_succ (fs := fs) (n := n + m) (by omega)
    rw [Nat.add_assoc] at h2
    omega
theorem atFs_get : ∀ (fs : List Fld) (k i : Nat), (atFs k fs)[i]? = (fs[i]?).map fun f => { f with at_ := k + lenF fs i }
  | [], k, i => by simp [atFs]
  | f :: fs, k, 0 => by simp [atFs, lenF]
  | f :: fs, k, i + 1 => by
    rw [atFs, List.getElem?_cons_succ, atFs_get fs, List.getElem?_cons_succ]
    congr 1
    funext g
    have : lenF (f :: fs) (i + 1) = (encF f).length + lenF fs i := by unfold lenF; rw [List.take_succ_cons, List.flatMap_cons, List.length_append]
    rw [this, Nat.add_assoc]
/-- Fields that are cut behind the n-th, or within the next one. -/
theorem fields_cut {fs : List Fld} (hg : ∀ f ∈ fs, goodF f) {n k : Nat} (hn : n ≤ fs.length) (h1 : lenF fs n ≤ k) (h2 : n < fs.length → k < lenF fs (n + 1)) (hk : k ≤ (fs.flatMap encF).length) (hs : (fs.flatMap encF).length ≤ 60000) :
    (lenF fs n = k → fieldsD ((fs.flatMap encF).take k) = zeroD) ∧ (lenF fs n ≠ k → n < fs.length ∧ fieldsD ((fs.flatMap encF).take k) = wireD (lenF fs n)) := by
  have hsplit : fs.flatMap encF = (fs.take n).flatMap encF ++ (fs.drop n).flatMap encF := by rw [← List.flatMap_append, List.take_append_drop]
  have htk : (fs.flatMap encF).take k = (fs.take n).flatMap encF ++ ((fs.drop n).flatMap encF).take (k - lenF fs n) := by
    rw [hsplit, List.take_append, List.take_of_length_le (by unfold lenF at h1; omega)]
    rfl
  have hgo := fieldsGo_encs (fs.take n) 0 (((fs.drop n).flatMap encF).take (k - lenF fs n)) (fun f hf => hg f (List.mem_of_mem_take hf))
  rw [← htk] at hgo
  have hl : ¬ 60000 < ((fs.flatMap encF).take k).length := by rw [List.length_take]; omega
  have hD : fieldsD ((fs.flatMap encF).take k) = match (fieldsGo 0 ((fs.flatMap encF).take k)).2 with
    | none => zeroD
    | some k => wireD k := by
    unfold fieldsD
    rw [if_neg hl]
    cases (fieldsGo 0 ((fs.flatMap encF).take k)).2 <;> rfl
  rw [hgo] at hD
  refine ⟨fun e => ?_, fun e => ?_⟩
  · rw [hD, show k - lenF fs n = 0 by omega, List.take_zero, fieldsGo_nil]
  · have hlt : n < fs.length := by
      apply Decidable.byContradiction
      intro hge
      obtain rfl : n = fs.length := by omega
      rw [lenF_all] at h1 e
      omega
    refine ⟨hlt, ?_⟩
    have hf := hg fs[n] (List.getElem_mem hlt)
    have h3 := h2 hlt
    rw [lenF_succ hlt] at h3
    have hd : fs.drop n = fs[n] :: fs.drop (n + 1) := List.drop_eq_getElem_cons hlt
    have hc : oneL ((encF fs[n]).take (k - lenF fs n)) = none := oneL_cut hf.1 hf.2 (by unfold encF at h3; omega)
    rw [hD, hd, List.flatMap_cons, List.take_append_of_le_length (by omega), fieldsGo_none _ hc]
    · simp only [Nat.zero_add]; rfl
    · intro e'
      have := congrArg List.length e'
      rw [List.length_take, List.length_nil] at this
      omega
end Go.Proofs.Ytgdnibdahldekab
