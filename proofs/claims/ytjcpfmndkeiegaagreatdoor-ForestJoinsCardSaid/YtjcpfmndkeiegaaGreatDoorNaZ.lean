/- Plain words on natural numbers in limbs of 32 bits; no program in sight. Plain laws of the limbs' loops: adding, taking away, multiplying, dividing by a small number; no program in sight. Plain words on decimal digits and on fractions; no program in sight. Plain laws of a long division's step; no program in sight. Plain laws of a long division; no program in sight. Plain laws of a long division's start and segments. Plain words on decimal digits by nines; no program in sight. Plain words on fractions, over Lean's own; no program in sight. -/
import Derived.WalkKit
import Derived.Lib.SlTrimSet
import Derived.Lib.BitFns
namespace Go.Proofs.YtjcpfmndkeiegaaGreatDoor
open Go.RowKit
set_option linter.unusedVariables false

/-- What limbs come to, the lowest first. -/
def valL : List Nat → Nat
  | [] => 0
  | x :: t => x + 4294967296 * valL t
def Lim (l : List Nat) : Prop := ∀ x ∈ l, x < 4294967296
theorem Lim.nil : Lim [] := fun _ h => by cases h
theorem Lim.cons {x : Nat} {t : List Nat} (h : x < 4294967296) (k : Lim t) : Lim (x :: t) := fun y hy => by
  rcases List.mem_cons.1 hy with rfl | hy
  · exact h
  · exact k y hy
theorem Lim.append {a b : List Nat} (h : Lim a) (k : Lim b) : Lim (a ++ b) := fun y hy => by
  rcases List.mem_append.1 hy with hy | hy
  · exact h y hy
  · exact k y hy
theorem Lim.take {a : List Nat} (h : Lim a) (n : Nat) : Lim (a.take n) := fun y hy => h y (List.mem_of_mem_take hy)
theorem Lim.drop {a : List Nat} (h : Lim a) (n : Nat) : Lim (a.drop n) := fun y hy => h y (List.mem_of_mem_drop hy)
theorem Lim.get {a : List Nat} (h : Lim a) {i : Nat} (hi : i < a.length) : a[i] < 4294967296 := h _ (List.getElem_mem hi)
theorem Lim.getD {a : List Nat} (h : Lim a) (i : Nat) : a.getD i 0 < 4294967296 := by
  by_cases hi : i < a.length
  · rw [List.getD, List.getElem?_eq_getElem hi]; exact h.get hi
  · rw [List.getD, List.getElem?_eq_none (by omega)]; decide
theorem Lim.set {a : List Nat} (h : Lim a) (i : Nat) {x : Nat} (hx : x < 4294967296) : Lim (a.set i x) := fun y hy => by
  rcases List.mem_or_eq_of_mem_set hy with hy | rfl
  · exact h y hy
  · exact hx
theorem Lim.replicate (n : Nat) : Lim (List.replicate n 0) := fun y hy => by
  have := (List.mem_replicate.1 hy).2
  omega
theorem valL_append (a b : List Nat) : valL (a ++ b) = valL a + 4294967296 ^ a.length * valL b := by
  induction a with
  | nil => simp [valL]
  | cons x t ih =>
    rw [List.cons_append, valL, valL, ih, List.length_cons, Nat.pow_succ]
    grind
theorem valL_lt : ∀ {l : List Nat}, Lim l → valL l < 4294967296 ^ l.length
  | [], _ => by simp [valL]
  | x :: t, h => by
    have hx := h x (by simp)
    have ih := valL_lt (l := t) (fun y hy => h y (by simp [hy]))
    rw [valL, List.length_cons, Nat.pow_succ]
    omega
theorem valL_zero (n : Nat) : valL (List.replicate n 0) = 0 := by
  induction n with
  | zero => rfl
  | succ n ih => rw [List.replicate_succ, valL, ih]
theorem valL_drop (l : List Nat) (i : Nat) : valL l = valL (l.take i) + 4294967296 ^ (min i l.length) * valL (l.drop i) := by
  have := valL_append (l.take i) (l.drop i)
  rw [List.take_append_drop, List.length_take] at this
  exact this
theorem valL_step (l : List Nat) (i : Nat) : valL (l.drop i) = l.getD i 0 + 4294967296 * valL (l.drop (i + 1)) := by
  by_cases hi : i < l.length
  · rw [List.drop_eq_getElem_cons hi, valL, List.getD, List.getElem?_eq_getElem hi]; rfl
  · rw [List.drop_of_length_le (by omega), List.drop_of_length_le (by omega), List.getD, List.getElem?_eq_none (by omega)]; rfl
/-- A number's limbs. -/
def limbs (n : Nat) : List Nat := if h : n = 0 then [] else n % 4294967296 :: limbs (n / 4294967296)
termination_by n
theorem limbs_zero : limbs 0 = [] := by rw [limbs]; rfl
theorem limbs_pos {n : Nat} (h : n ≠ 0) : limbs n = n % 4294967296 :: limbs (n / 4294967296) := by rw [limbs, dif_neg h]
theorem limbs_nil {n : Nat} : limbs n = [] ↔ n = 0 := by
  by_cases h : n = 0
  · subst h; simp [limbs_zero]
  · rw [limbs_pos h]; simp [h]
theorem limbs_val (n : Nat) : valL (limbs n) = n := by
  induction n using Nat.strongRecOn with
  | _ n ih =>
    by_cases h : n = 0
    · subst h; rw [limbs_zero]; rfl
    · rw [limbs_pos h, valL, ih _ (by omega)]; omega
theorem limbs_lim (n : Nat) : Lim (limbs n) := by
  induction n using Nat.strongRecOn with
  | _ n ih =>
    by_cases h : n = 0
    · subst h; rw [limbs_zero]; exact Lim.nil
    · rw [limbs_pos h]; exact Lim.cons (Nat.mod_lt _ (by omega)) (ih _ (by omega))
/-- Limbs whose highest is not 0 are the limbs of what they come to. -/
theorem limbs_of {l : List Nat} (h : Lim l) (ht : l.getLast? ≠ some 0) : limbs (valL l) = l := by
  induction l with
  | nil => exact limbs_zero
  | cons x t ih =>
    have hx := h x (by simp)
    have htl : Lim t := fun y hy => h y (by simp [hy])
    have hv : valL (x :: t) = x + 4294967296 * valL t := rfl
    by_cases h0 : t = []
    · subst h0
      have hx0 : x ≠ 0 := fun e => ht (by simp [e])
      rw [hv, limbs_pos (by simp [valL]; omega)]
      have e1 : (x + 4294967296 * valL []) % 4294967296 = x := by simp [valL]; omega
      have e2 : (x + 4294967296 * valL []) / 4294967296 = 0 := by simp [valL]; omega
      rw [e1, e2, limbs_zero]
    · have ih := ih htl (by rw [List.getLast?_cons] at ht; intro e; exact ht (by rw [e]; rfl))
      have hvt : valL t ≠ 0 := fun e => by rw [e, limbs_zero] at ih; exact h0 ih.symm
      rw [hv, limbs_pos (by omega)]
      have e1 : (x + 4294967296 * valL t) % 4294967296 = x := by omega
      have e2 : (x + 4294967296 * valL t) / 4294967296 = valL t := by omega
      rw [e1, e2, ih]
theorem limbs_top (n : Nat) : (limbs n).getLast? ≠ some 0 := by
  induction n using Nat.strongRecOn with
  | _ n ih =>
    by_cases h : n = 0
    · subst h; rw [limbs_zero]; simp
    · rw [limbs_pos h, List.getLast?_cons]
      have ih := ih (n / 4294967296) (by omega)
      cases hl : limbs (n / 4294967296) with
      | nil =>
        have := limbs_nil.1 hl
        simp
        omega
      | cons y t =>
        rw [hl] at ih
        obtain ⟨z, hz⟩ : ∃ z, (y :: t).getLast? = some z := ⟨_, List.getLast?_cons⟩
        rw [hz] at ih ⊢
        simpa using ih
/-- Noughts above, and what is not 0 below them. -/
theorem limbs_take {l : List Nat} (h : Lim l) (n : Nat) (hn : n ≤ l.length) (h0 : ∀ x ∈ l.drop n, x = 0) (h1 : n = 0 ∨ l.getD (n - 1) 0 ≠ 0) : limbs (valL l) = l.take n := by
  have hz : ∀ t : List Nat, (∀ x ∈ t, x = 0) → valL t = 0 := by
    intro t
    induction t with
    | nil => intro _; rfl
    | cons x t ih => intro h; rw [valL, ih (fun y hy => h y (by simp [hy])), h x (by simp)]
  have hv : valL l = valL (l.take n) := by rw [valL_drop l n, hz _ h0]; omega
  rw [hv]
  refine limbs_of (h.take n) ?_
  rcases h1 with rfl | h1
  · simp
  · rw [List.getLast?_eq_getElem?]
    intro e
    apply h1
    by_cases h2 : n = 0
    · subst h2; simp at e
    · rw [List.length_take, Nat.min_eq_left hn, List.getElem?_take_of_lt (by omega)] at e
      rw [List.getD, e]; rfl
/-- How many limbs a number has. -/
def szN (n : Nat) : Nat := (limbs n).length
theorem szN_lt (n : Nat) : n < 4294967296 ^ szN n := by
  have := valL_lt (limbs_lim n)
  rwa [limbs_val] at this
theorem szN_le : ∀ {k n : Nat}, n < 4294967296 ^ k → szN n ≤ k
  | 0, n, h => by
    have : n = 0 := by simpa using h
    subst this; rw [szN, limbs_zero]; exact Nat.le_refl _
  | k + 1, n, h => by
    by_cases h0 : n = 0
    · subst h0; rw [szN, limbs_zero]; exact Nat.zero_le _
    · have := szN_le (k := k) (n := n / 4294967296) (by rw [Nat.pow_succ] at h; omega)
      rw [szN, limbs_pos h0, List.length_cons]
      exact Nat.succ_le_succ this
theorem szN_ge {n : Nat} (h : n ≠ 0) : 4294967296 ^ (szN n - 1) ≤ n := by
  induction n using Nat.strongRecOn with
  | _ n ih =>
    rw [szN, limbs_pos h, List.length_cons, Nat.add_sub_cancel]
    by_cases h1 : n / 4294967296 = 0
    · rw [h1, limbs_zero]; simp; omega
    · have := ih _ (by omega) h1
      have hs : 0 < szN (n / 4294967296) := by
        unfold szN
        have := mt limbs_nil.1 h1
        exact List.length_pos_iff.2 this
      have e : szN (n / 4294967296) = (szN (n / 4294967296) - 1) + 1 := by omega
      show 4294967296 ^ szN (n / 4294967296) ≤ n
      rw [e, Nat.pow_succ]
      omega
theorem szN_mono {a b : Nat} (h : a ≤ b) : szN a ≤ szN b := szN_le (Nat.lt_of_le_of_lt h (szN_lt b))
theorem szN_zero : szN 0 = 0 := by rw [szN, limbs_zero]; rfl
theorem szN_pos {n : Nat} (h : n ≠ 0) : 0 < szN n := List.length_pos_iff.2 (mt limbs_nil.1 h)
theorem szN_mul (a b : Nat) : szN (a * b) ≤ szN a + szN b := by
  refine szN_le ?_
  rw [Nat.pow_add]
  by_cases h : b = 0
  · subst h; rw [Nat.mul_zero]; exact Nat.mul_pos (Nat.pow_pos (by omega)) (Nat.pow_pos (by omega))
  · exact Nat.mul_lt_mul_of_lt_of_le (szN_lt a) (Nat.le_of_lt (szN_lt b)) (Nat.pow_pos (by omega))
theorem szN_add (a b : Nat) : szN (a + b) ≤ max (szN a) (szN b) + 1 := by
  refine szN_le ?_
  rw [Nat.pow_succ]
  have h1 := Nat.lt_of_lt_of_le (szN_lt a) (Nat.pow_le_pow_right (n := 4294967296) (by omega) (Nat.le_max_left (szN a) (szN b)))
  have h2 := Nat.lt_of_lt_of_le (szN_lt b) (Nat.pow_le_pow_right (n := 4294967296) (by omega) (Nat.le_max_right (szN a) (szN b)))
  omega
theorem szN_small {n : Nat} (h : n < 4294967296) : szN n ≤ 1 := szN_le (by simpa using h)
theorem limbs_len (n : Nat) : (limbs n).length = szN n := rfl
theorem limbs_getD_lt (n i : Nat) : (limbs n).getD i 0 < 4294967296 := (limbs_lim n).getD i
/-- A number's highest limb is not 0. -/
theorem limbs_last {n : Nat} (h : n ≠ 0) : (limbs n).getD (szN n - 1) 0 ≠ 0 := by
  have ht := limbs_top n
  rw [List.getLast?_eq_getElem?] at ht
  intro e
  apply ht
  have hs := szN_pos h
  rw [List.getD] at e
  rw [limbs_len]
  cases hg : (limbs n)[szN n - 1]? with
  | none => rw [List.getElem?_eq_none_iff, limbs_len] at hg; omega
  | some x => rw [hg] at e; simp at e; rw [e]
end Go.Proofs.YtjcpfmndkeiegaaGreatDoor
namespace Go.Proofs.YtjcpfmndkeiegaaGreatDoor
open Go.RowKit
set_option linter.unusedVariables false

theorem valL_snoc (D : List Nat) (x : Nat) : valL (D ++ [x]) = valL D + 4294967296 ^ D.length * x := by
  rw [valL_append]; simp [valL]
theorem dm (s b : Nat) : b * (s / b) + s % b = s := Nat.div_add_mod s b
/-- One step of a sum. -/
theorem add_step {D : List Nat} {c x y X Y T k : Nat} (hk : D.length = k) (h : valL D + 4294967296 ^ k * (c + (x + 4294967296 * X) + (y + 4294967296 * Y)) = T) :
    valL (D ++ [(c + x + y) % 4294967296]) + 4294967296 ^ (k + 1) * ((c + x + y) / 4294967296 + X + Y) = T := by
  have e := dm (c + x + y) 4294967296
  rw [valL_snoc, hk, Nat.pow_succ]
  generalize 4294967296 ^ k = P at *
  generalize (c + x + y) / 4294967296 = q at *
  generalize (c + x + y) % 4294967296 = r at *
  grind
/-- One step of a product by a small number. -/
theorem more_step {D : List Nat} {c x by_ X T k : Nat} (hk : D.length = k) (h : valL D + 4294967296 ^ k * (c + by_ * (x + 4294967296 * X)) = T) :
    valL (D ++ [(c + x * by_) % 4294967296]) + 4294967296 ^ (k + 1) * ((c + x * by_) / 4294967296 + by_ * X) = T := by
  have e := dm (c + x * by_) 4294967296
  rw [valL_snoc, hk, Nat.pow_succ]
  generalize 4294967296 ^ k = P at *
  generalize (c + x * by_) / 4294967296 = q at *
  generalize (c + x * by_) % 4294967296 = r at *
  grind
/-- One step of a difference. -/
theorem sub_step {D : List Nat} {w x y d w' X Y T k : Nat} (hk : D.length = k) (h : valL D + 4294967296 ^ k * (x + 4294967296 * X) = T + 4294967296 ^ k * (w + (y + 4294967296 * Y))) (hd : x + 4294967296 * w' = d + (w + y)) :
    valL (D ++ [d]) + 4294967296 ^ (k + 1) * X = T + 4294967296 ^ (k + 1) * (w' + Y) := by
  rw [valL_snoc, hk, Nat.pow_succ]
  generalize 4294967296 ^ k = P at *
  grind
/-- One step of a division by a small number, from above. -/
theorem less_step {D : List Nat} {x r by_ V L : Nat} {P : Nat} (h : L = V + P * (x + 4294967296 * (by_ * valL D + r))) :
    L = V + P * (by_ * valL ((r * 4294967296 + x) / by_ :: D) + (r * 4294967296 + x) % by_) := by
  have e := dm (r * 4294967296 + x) by_
  rw [valL]
  generalize (r * 4294967296 + x) / by_ = q at *
  generalize (r * 4294967296 + x) % by_ = s at *
  grind
theorem valL_take_succ (L : List Nat) (i : Nat) (h : i < L.length) : valL (L.take (i + 1)) = valL (L.take i) + 4294967296 ^ i * L[i] := by
  rw [List.take_succ_eq_append_getElem h, valL_snoc, List.length_take, Nat.min_eq_left (Nat.le_of_lt h)]
theorem valL_set (L : List Nat) (k x : Nat) (h : k < L.length) : valL (L.set k x) + 4294967296 ^ k * L[k] = valL L + 4294967296 ^ k * x := by
  induction L generalizing k with
  | nil => simp at h
  | cons y t ih =>
    cases k with
    | zero => simp only [List.set_cons_zero, valL, List.getElem_cons_zero, Nat.pow_zero]; omega
    | succ k =>
      have := ih k (by simpa using h)
      simp only [List.set_cons_succ, valL, List.getElem_cons_succ, Nat.pow_succ]
      generalize 4294967296 ^ k = P at *
      grind
/-- One step of a product. -/
theorem mul_step {O : List Nat} {k c p T : Nat} (h : k < O.length) (hT : valL O + 4294967296 ^ k * c = T) :
    valL (O.set k ((c + (p + O[k])) % 4294967296)) + 4294967296 ^ (k + 1) * ((c + (p + O[k])) / 4294967296) = T + 4294967296 ^ k * p := by
  have hs := valL_set O k ((c + (p + O[k])) % 4294967296) h
  have e := dm (c + (p + O[k])) 4294967296
  rw [Nat.pow_succ]
  generalize 4294967296 ^ k = P at *
  generalize (c + (p + O[k])) / 4294967296 = q at *
  generalize (c + (p + O[k])) % 4294967296 = r at *
  generalize O[k] = o at *
  grind
/-- One step of the taking away of a multiple. -/
theorem step_step {D : List Nat} {c w u x d w' q U V k : Nat} (hk : D.length = k) (h : U + 4294967296 ^ k * (c + w) = valL D + q * V) (hd : u + 4294967296 * w' = d + (c + q * x) % 4294967296 + w) :
    (U + 4294967296 ^ k * u) + 4294967296 ^ (k + 1) * ((c + q * x) / 4294967296 + w') = valL (D ++ [d]) + q * (V + 4294967296 ^ k * x) := by
  have e := dm (c + q * x) 4294967296
  rw [valL_snoc, hk, Nat.pow_succ]
  generalize 4294967296 ^ k = P at *
  generalize (c + q * x) / 4294967296 = z at *
  generalize (c + q * x) % 4294967296 = r at *
  grind
/-- Which of two is greater is told by the first limb, from above, at which they differ. -/
theorem cmp_lt {x y X Y : Nat} (hx : x < 4294967296) (h : X = Y) (hl : x < y) : x + 4294967296 * X < y + 4294967296 * Y := by omega
theorem valL_drop_lt {a b : List Nat} {i : Nat} (ha : Lim a) (hb : Lim b) (h : valL (a.drop i) < valL (b.drop i)) : valL a < valL b := by
  have h1 := valL_drop a i
  have h2 := valL_drop b i
  by_cases hai : i ≤ b.length
  · rw [Nat.min_eq_left hai] at h2
    have h3 := valL_lt (ha.take i)
    rw [List.length_take] at h3
    have h4 : 4294967296 ^ (min i a.length) ≤ 4294967296 ^ i := Nat.pow_le_pow_right (by omega) (Nat.min_le_left _ _)
    have h5 : 4294967296 ^ (min i a.length) * valL (a.drop i) + 4294967296 ^ i ≤ 4294967296 ^ i * valL (b.drop i) := by
      have h6 := Nat.mul_le_mul_right (valL (a.drop i)) h4
      have h7 : 4294967296 ^ i * (valL (a.drop i) + 1) ≤ 4294967296 ^ i * valL (b.drop i) := Nat.mul_le_mul_left _ h
      rw [Nat.mul_add, Nat.mul_one] at h7
      omega
    omega
  · rw [List.drop_of_length_le (by omega : b.length ≤ i)] at h
    simp [valL] at h
theorem no_carry {d P c T : Nat} (h : d + P * c = T) (hT : T < P) : c = 0 := by
  cases c with
  | zero => rfl
  | succ c => rw [Nat.mul_succ] at h; omega
theorem sum_lt {x y n m : Nat} (hx : x < 4294967296 ^ n) (hy : y < 4294967296 ^ m) (h : m ≤ n) : x + y < 4294967296 ^ (n + 1) := by
  have h3 : 4294967296 ^ m ≤ 4294967296 ^ n := Nat.pow_le_pow_right (by omega) h
  rw [Nat.pow_succ]
  generalize 4294967296 ^ n = P at *
  omega
/-- One digit of a long division. -/
theorem guess_hi {U V U3 V2 P r q Q n : Nat} (hU : U3 * P ≤ U) (hV : V = V2 * P + r) (hr : r < P) (hq : q * V2 ≤ U3) (hQ : U < (Q + 1) * V) (hq2 : q ≤ 4294967296) (hVb : 4294967296 * P ≤ V) (hP : 0 < P) : q ≤ Q + 1 := by
  apply Decidable.byContradiction
  intro hn
  have h1 : q = Q + 1 + (q - Q - 1) := by omega
  generalize hd : q - Q - 1 = d at *
  have hd1 : 1 ≤ d := by omega
  have h2 : q * V2 * P ≤ U3 * P := Nat.mul_le_mul_right P hq
  have h3 : q * V = q * V2 * P + q * r := by rw [hV]; grind
  have h4 : q * V = (Q + 1) * V + d * V := by
    have : q * V = (Q + 1 + d) * V := by rw [← h1]
    rw [this]; grind
  have h5 : q * r < 4294967296 * P := by
    by_cases h0 : q = 0
    · omega
    · have : q * r < q * P := Nat.mul_lt_mul_of_pos_left hr (by omega)
      have : q * P ≤ 4294967296 * P := Nat.mul_le_mul_right P hq2
      omega
  have h6 : V ≤ d * V := Nat.le_mul_of_pos_left V hd1
  omega
end Go.Proofs.YtjcpfmndkeiegaaGreatDoor
namespace Go.Proofs.YtjcpfmndkeiegaaGreatDoor
open Go.RowKit
set_option linter.unusedVariables false

/-- The digits of a number, the highest first; none of 0. -/
def decS (n : Nat) : List UInt8 := if h : n = 0 then [] else decS (n / 10) ++ [UInt8.ofNat (48 + n % 10)]
termination_by n
theorem decS_zero : decS 0 = [] := by rw [decS]; rfl
theorem decS_pos {n : Nat} (h : n ≠ 0) : decS n = decS (n / 10) ++ [UInt8.ofNat (48 + n % 10)] := by rw [decS, dif_neg h]
/-- A number's text. -/
def textN (n : Nat) : List UInt8 := if n = 0 then [48] else decS n
/-- So many low digits, the lowest first. -/
def lowD : Nat → Nat → List UInt8
  | 0, _ => []
  | k + 1, n => UInt8.ofNat (48 + n % 10) :: lowD k (n / 10)
theorem lowD_len : ∀ k n, (lowD k n).length = k
  | 0, _ => rfl
  | k + 1, n => by rw [lowD, List.length_cons, lowD_len k]
theorem lowD_add : ∀ (j k n : Nat), lowD (j + k) n = lowD j n ++ lowD k (n / 10 ^ j)
  | 0, k, n => by simp [lowD]
  | j + 1, k, n => by
    rw [show j + 1 + k = (j + k) + 1 by omega, lowD, lowD, lowD_add j k, Nat.div_div_eq_div_mul, Nat.pow_succ, Nat.mul_comm 10]
    rfl
theorem lowD_zero (k : Nat) : lowD k 0 = List.replicate k 48 := by
  induction k with
  | zero => rfl
  | succ k ih => rw [lowD, Nat.zero_div, ih, List.replicate_succ]; rfl
theorem dig_ne {n : Nat} (h : n ≠ 0) (h2 : n < 10) : UInt8.ofNat (48 + n % 10) ≠ 48 := by
  intro e
  have := congrArg UInt8.toNat e
  simp at this
  omega
theorem decS_head : ∀ (n : Nat), n ≠ 0 → ∃ c t, decS n = c :: t ∧ c ≠ 48 := by
  intro n
  induction n using Nat.strongRecOn with
  | _ n ih =>
    intro h
    rw [decS_pos h]
    by_cases h1 : n / 10 = 0
    · rw [h1, decS_zero]
      exact ⟨_, [], rfl, dig_ne h (by omega)⟩
    · obtain ⟨c, t, e, hc⟩ := ih _ (by omega) h1
      exact ⟨c, t ++ [UInt8.ofNat (48 + n % 10)], by rw [e]; rfl, hc⟩
/-- Enough low digits, turned around: noughts, and then the digits. -/
theorem lowD_dec : ∀ (k n : Nat), n < 10 ^ k → (lowD k n).reverse = List.replicate (k - (decS n).length) 48 ++ decS n ∧ (decS n).length ≤ k
  | 0, n, h => by
    obtain rfl : n = 0 := by simpa using h
    rw [decS_zero]; exact ⟨rfl, Nat.le_refl _⟩
  | k + 1, n, h => by
    by_cases h0 : n = 0
    · subst h0
      rw [lowD_zero, decS_zero]
      exact ⟨by simp, Nat.zero_le _⟩
    · have ih := lowD_dec k (n / 10) (by rw [Nat.pow_succ] at h; omega)
      rw [lowD, List.reverse_cons, ih.1, decS_pos h0]
      refine ⟨?_, by simp; omega⟩
      rw [List.append_assoc]
      congr 2
      simp
theorem trim_noughts (k : Nat) (l : List UInt8) (h : ∀ c t, l = c :: t → c ≠ 48) : Lib.trimLeftS (List.replicate k 48 ++ l) [48] = l := by
  unfold Lib.trimLeftS
  induction k with
  | zero =>
    cases l with
    | nil => rfl
    | cons c t =>
      have hc := h c t rfl
      simp [hc]
  | succ k ih => simpa [List.replicate_succ] using ih
theorem trim_lowD {k n : Nat} (h : n < 10 ^ k) (h0 : n ≠ 0) : Lib.trimLeftS (lowD k n).reverse [48] = decS n := by
  rw [(lowD_dec k n h).1]
  obtain ⟨c, t, e, hc⟩ := decS_head n h0
  exact trim_noughts _ _ (fun c' t' e' => by rw [e] at e'; cases e'; exact hc)
theorem decS_len_le (n : Nat) : ∀ k, n < 10 ^ k → (decS n).length ≤ k := fun k h => (lowD_dec k n h).2
/-- What digits come to. -/
def numV (l : List UInt8) : Nat := l.foldl (fun r c => r * 10 + (c.toNat - 48)) 0
theorem numV_snoc (l : List UInt8) (c : UInt8) : numV (l ++ [c]) = numV l * 10 + (c.toNat - 48) := by simp [numV]
def isDig (c : UInt8) : Bool := decide (48 ≤ c.toNat ∧ c.toNat ≤ 57)
/-- Is a text that of a number? -/
def numT (l : List UInt8) : Bool := l.all isDig && (decide (l = [48]) || (decide (l ≠ []) && decide (l.head? ≠ some 48)))
theorem snoc_ind {α : Type} {P : List α → Prop} (h0 : P []) (h1 : ∀ l a, P l → P (l ++ [a])) (l : List α) : P l := by
  rw [← List.reverse_reverse l]
  induction l.reverse with
  | nil => exact h0
  | cons a t ih => rw [List.reverse_cons]; exact h1 _ _ ih
theorem numV_lt (l : List UInt8) (h : l.all isDig = true) : numV l < 10 ^ l.length := by
  induction l using snoc_ind with
  | h0 => simp [numV]
  | h1 l c ih =>
    have h1 : l.all isDig = true ∧ isDig c = true := by simpa using h
    have := ih h1.1
    have hc := h1.2
    simp only [isDig, decide_eq_true_eq] at hc
    rw [numV_snoc, List.length_append, List.length_singleton, Nat.pow_succ]
    omega
theorem numV_dec : ∀ (n : Nat), numV (decS n) = n := by
  intro n
  induction n using Nat.strongRecOn with
  | _ n ih =>
    by_cases h : n = 0
    · subst h; rw [decS_zero]; rfl
    · rw [decS_pos h, numV_snoc, ih _ (by omega)]
      have : (UInt8.ofNat (48 + n % 10)).toNat = 48 + n % 10 := by simp; omega
      rw [this]; omega
theorem dec_dig : ∀ (n : Nat), (decS n).all isDig = true := by
  intro n
  induction n using Nat.strongRecOn with
  | _ n ih =>
    by_cases h : n = 0
    · subst h; rw [decS_zero]; rfl
    · rw [decS_pos h, List.all_append, ih _ (by omega)]
      have : (UInt8.ofNat (48 + n % 10)).toNat = 48 + n % 10 := by simp; omega
      simp only [List.all_cons, List.all_nil, Bool.and_true, Bool.true_and, isDig, this, decide_eq_true_eq]
      omega
theorem text_num (n : Nat) : numT (textN n) = true ∧ numV (textN n) = n := by
  unfold textN
  by_cases h : n = 0
  · subst h; exact ⟨by decide, by decide⟩
  · rw [if_neg h]
    refine ⟨?_, numV_dec n⟩
    obtain ⟨c, t, e, hc⟩ := decS_head n h
    unfold numT
    rw [dec_dig, e]
    simp [hc]
/-- The text of a number is the only one that it is read from. -/
theorem text_of (l : List UInt8) (h : numT l = true) : textN (numV l) = l := by
  have hd : l.all isDig = true := by unfold numT at h; rw [Bool.and_eq_true] at h; exact h.1
  have hk : ∀ l : List UInt8, l.all isDig = true → (∀ c t, l = c :: t → c ≠ 48) → decS (numV l) = l := by
    intro l
    induction l using snoc_ind with
    | h0 => intro _ _; exact decS_zero
    | h1 l c ih =>
      intro h1 h2
      have h3 : l.all isDig = true ∧ isDig c = true := by simpa using h1
      have hc := h3.2
      simp only [isDig, decide_eq_true_eq] at hc
      have ih := ih h3.1 (fun c' t' e => h2 c' (t' ++ [c]) (by rw [e]; rfl))
      have hn : numV (l ++ [c]) ≠ 0 := by
        rw [numV_snoc]
        by_cases hl : l = []
        · subst hl
          have := h2 c [] rfl
          have : c.toNat ≠ 48 := fun e => this (UInt8.toNat_inj.1 e)
          omega
        · have : numV l ≠ 0 := fun e => by rw [e, decS_zero] at ih; exact hl ih.symm
          omega
      rw [decS_pos hn, numV_snoc]
      have e1 : (numV l * 10 + (c.toNat - 48)) / 10 = numV l := by omega
      have e2 : 48 + (numV l * 10 + (c.toNat - 48)) % 10 = c.toNat := by omega
      rw [e1, e2, ih]
      simp
  unfold numT at h
  rw [Bool.and_eq_true] at h
  have h2 := h.2
  rw [Bool.or_eq_true] at h2
  rcases h2 with h2 | h2
  · have : l = [48] := by simpa using h2
    subst this; decide
  · have h3 : l ≠ [] ∧ l.head? ≠ some 48 := by simpa using h2
    have h4 := hk l hd (fun c t e ec => h3.2 (by rw [e, ec]; rfl))
    unfold textN
    rw [if_neg, h4]
    intro e
    rw [e, decS_zero] at h4
    exact h3.1 h4.symm
end Go.Proofs.YtjcpfmndkeiegaaGreatDoor
namespace Go.Proofs.YtjcpfmndkeiegaaGreatDoor
open Go.RowKit
set_option linter.unusedVariables false

theorem take_getD (L : List Nat) (k : Nat) : valL (L.take (k + 1)) = valL (L.take k) + 4294967296 ^ k * L.getD k 0 := by
  by_cases h : k < L.length
  · rw [valL_take_succ L k h, List.getD, List.getElem?_eq_getElem h]; rfl
  · rw [List.take_of_length_le (by omega), List.take_of_length_le (by omega), List.getD, List.getElem?_eq_none (by omega)]; simp
theorem set_deep {A D S R : List Nat} {off k : Nat} (hA : A.length = off) (hD : D.length = k) (hk : k < S.length) (y : Nat) :
    (A ++ (D ++ (S.drop k ++ R))).set (off + k) y = A ++ ((D ++ [y]) ++ (S.drop (k + 1) ++ R)) := by
  rw [List.drop_eq_getElem_cons hk, List.cons_append, List.set_append_right _ _ (by omega), show off + k - A.length = D.length by omega, List.set_append_right _ _ (Nat.le_refl _)]
  simp
theorem get_deep {A D S R : List Nat} {off k : Nat} (hA : A.length = off) (hD : D.length = k) (hk : k < S.length) (h : off + k < (A ++ (D ++ (S.drop k ++ R))).length) : (A ++ (D ++ (S.drop k ++ R)))[off + k] = S[k] := by
  rw [List.getElem_append_right (by omega), List.getElem_append_right (by omega), List.getElem_append_left (by simp; omega), List.getElem_drop]
  congr 1
  omega
/-- A number by its highest limbs. -/
theorem top_two (L : List Nat) (n : Nat) (h : L.length = n + 2) : valL L = valL (L.take n) + 4294967296 ^ n * (L.getD (n + 1) 0 * 4294967296 + L.getD n 0) := by
  have h1 := valL_drop L n
  rw [Nat.min_eq_left (by omega), valL_step L n, valL_step L (n + 1), List.drop_of_length_le (by omega)] at h1
  rw [h1]
  simp only [valL]
  congr 2
  omega
theorem top_three (L : List Nat) (n : Nat) (h : L.length = n + 3) : valL L = valL (L.take n) + 4294967296 ^ n * ((L.getD (n + 2) 0 * 4294967296 + L.getD (n + 1) 0) * 4294967296 + L.getD n 0) := by
  have h1 := valL_drop L n
  rw [Nat.min_eq_left (by omega), valL_step L n, valL_step L (n + 1), valL_step L (n + 1 + 1), List.drop_of_length_le (by omega)] at h1
  rw [h1, show n + 1 + 1 = n + 2 from rfl]
  simp only [valL]
  congr 2
  omega
theorem top_le {S B : List Nat} {n : Nat} (hB : Lim B) (hSl : S.length = n + 3) (hBl : B.length = n + 2) (hlt : valL S < 4294967296 * valL B) : S.getD (n + 2) 0 ≤ B.getD (n + 1) 0 := by
  have h1 := valL_drop S (n + 2)
  rw [Nat.min_eq_left (by omega), valL_step S (n + 2), List.drop_of_length_le (by omega)] at h1
  have h2 := valL_drop B (n + 1)
  rw [Nat.min_eq_left (by omega), valL_step B (n + 1), List.drop_of_length_le (by omega)] at h2
  have h3 := valL_lt (hB.take (n + 1))
  rw [List.length_take, Nat.min_eq_left (by omega)] at h3
  simp only [valL, Nat.mul_zero, Nat.add_zero] at h1 h2
  generalize S.getD (n + 2) 0 = s at *
  generalize B.getD (n + 1) 0 = b at *
  have h4 : 4294967296 ^ (n + 2) * s < 4294967296 ^ (n + 2) * (b + 1) := by
    rw [show n + 2 = (n + 1) + 1 from rfl, Nat.pow_succ] at h1 ⊢
    generalize 4294967296 ^ (n + 1) = P at *
    have e : P * 4294967296 * (b + 1) = 4294967296 * (P * b + P) := by grind
    rw [e]
    omega
  have := Nat.lt_of_mul_lt_mul_left h4
  omega
theorem digit_core {U V l r P U3 V2 q : Nat} (e1 : U = l + P * U3) (e2 : V = r + P * V2) (l1 : l < P) (l2 : r < P) (hlt : U < 4294967296 * V) (hv2 : 9223372036854775808 ≤ V2) (hq : q ≤ 4294967296)
    (h1 : q * V2 ≤ U3) (h2 : ∀ Q, Q ≤ 4294967295 → Q * V2 ≤ U3 → Q ≤ q) : q = U / V ∨ q = U / V + 1 := by
  have hP : 0 < P := by omega
  have hVP : P * 9223372036854775808 ≤ P * V2 := Nat.mul_le_mul_left P hv2
  have hV0 : 0 < V := by omega
  have hQ1 : U / V * V ≤ U := Nat.div_mul_le_self U V
  have hQ2 : U < (U / V + 1) * V := by
    have := Nat.lt_mul_div_succ U hV0
    rw [Nat.mul_comm] at this
    exact this
  have hQ3 : U / V < 4294967296 := Nat.div_lt_of_lt_mul (by rw [Nat.mul_comm]; exact hlt)
  obtain ⟨Q, hQ⟩ : ∃ Q, U / V = Q := ⟨_, rfl⟩
  rw [hQ] at hQ1 hQ2 hQ3 ⊢
  have hlo : Q ≤ q := by
    refine h2 Q (by omega) ?_
    have h3 : Q * V2 * P ≤ Q * V := by
      rw [e2]
      have : Q * (r + P * V2) = Q * r + Q * V2 * P := by grind
      omega
    have h4 : Q * V2 * P < (U3 + 1) * P := by
      have : (U3 + 1) * P = P * U3 + P := by grind
      omega
    have := Nat.lt_of_mul_lt_mul_right h4
    omega
  have hhi : q ≤ Q + 1 := by
    refine guess_hi (n := 0) (P := P) (r := r) (U3 := U3) (V2 := V2) (U := U) (V := V) ?_ ?_ l2 h1 hQ2 hq ?_ hP
    · rw [Nat.mul_comm]; omega
    · rw [e2, Nat.mul_comm P]; omega
    · omega
  omega
/-- The guessed digit is the digit, or one more. -/
theorem digit_bounds {S B : List Nat} {n q : Nat} (hS : Lim S) (hB : Lim B) (hSl : S.length = n + 3) (hBl : B.length = n + 2) (hlt : valL S < 4294967296 * valL B) (htop : 2147483648 ≤ B.getD (n + 1) 0) (hq : q ≤ 4294967296)
    (h1 : q * (B.getD (n + 1) 0 * 4294967296 + B.getD n 0) ≤ (S.getD (n + 2) 0 * 4294967296 + S.getD (n + 1) 0) * 4294967296 + S.getD n 0)
    (h2 : ∀ Q, Q ≤ 4294967295 → Q * (B.getD (n + 1) 0 * 4294967296 + B.getD n 0) ≤ (S.getD (n + 2) 0 * 4294967296 + S.getD (n + 1) 0) * 4294967296 + S.getD n 0 → Q ≤ q) :
    q = valL S / valL B ∨ q = valL S / valL B + 1 := by
  have l1 := valL_lt (hS.take n)
  have l2 := valL_lt (hB.take n)
  rw [List.length_take, Nat.min_eq_left (by omega)] at l1 l2
  exact digit_core (top_three S n hSl) (top_two B n hBl) l1 l2 hlt (by omega) hq h1 h2
/-- Nothing was borrowed: what is left. -/
theorem left_zero {U V q D : Nat} (h : U = D + q * V) (hq : q = U / V ∨ q = U / V + 1) (hV : 0 < V) : q = U / V ∧ D = U % V := by
  have h1 := Nat.div_add_mod U V
  rcases hq with hq | hq
  · refine ⟨hq, ?_⟩
    rw [hq] at h
    have : U / V * V = V * (U / V) := Nat.mul_comm _ _
    omega
  · exfalso
    have h2 := Nat.lt_mul_div_succ U hV
    rw [hq] at h
    have : (U / V + 1) * V = V * (U / V + 1) := Nat.mul_comm _ _
    omega
/-- One was borrowed: the digit was one too great. -/
theorem left_one {U V q D E P c : Nat} (h : U + P = D + q * V) (hD : D < P) (hq : q = U / V ∨ q = U / V + 1) (hV : 0 < V) (hVP : V ≤ P) (hE : E + P * c = D + V) (hEP : E < P) : q = U / V + 1 ∧ E = U % V := by
  have h1 := Nat.div_add_mod U V
  have h2 := Nat.mod_lt U hV
  have hq1 : q = U / V + 1 := by
    rcases hq with hq | hq
    · exfalso
      rw [hq] at h
      have : U / V * V = V * (U / V) := Nat.mul_comm _ _
      omega
    · exact hq
  refine ⟨hq1, ?_⟩
  rw [hq1, Nat.add_mul, Nat.one_mul, Nat.mul_comm (U / V)] at h
  have h3 : E + P * c = U % V + P := by omega
  have hc : c = 1 := by
    match c with
    | 0 => omega
    | 1 => rfl
    | k + 2 =>
      exfalso
      have : P * (k + 2) = P * k + P + P := by grind
      have := Nat.zero_le (P * k)
      omega
  rw [hc] at h3
  omega
end Go.Proofs.YtjcpfmndkeiegaaGreatDoor
namespace Go.Proofs.YtjcpfmndkeiegaaGreatDoor
open Go.RowKit
set_option linter.unusedVariables false

/-- A number between its highest limb's multiples. -/
theorem top_bounds {y n : Nat} (h : szN y = n + 1) : 4294967296 ^ n * (limbs y).getD n 0 ≤ y ∧ y < 4294967296 ^ n * ((limbs y).getD n 0 + 1) ∧ (limbs y).getD n 0 ≠ 0 := by
  have hl : (limbs y).length = n + 1 := h
  have h1 := valL_drop (limbs y) n
  rw [limbs_val, Nat.min_eq_left (by omega), valL_step (limbs y) n, List.drop_of_length_le (by omega)] at h1
  have h2 := valL_lt ((limbs_lim y).take n)
  rw [List.length_take, Nat.min_eq_left (by omega)] at h2
  simp only [valL, Nat.mul_zero, Nat.add_zero] at h1
  have h3 : (limbs y).getD n 0 ≠ 0 := by
    have hy : y ≠ 0 := by rintro rfl; rw [szN_zero] at h; omega
    have := limbs_last hy
    rw [h, Nat.add_sub_cancel] at this
    exact this
  generalize (limbs y).getD n 0 = t at *
  generalize 4294967296 ^ n = P at *
  refine ⟨by omega, ?_, h3⟩
  rw [Nat.mul_succ]
  omega
/-- The divisor, shifted. -/
theorem norm_div {y n s : Nat} (h : szN y = n + 1) (hs : s ≤ 31) (h1 : 2147483648 ≤ (limbs y).getD n 0 * 2 ^ s) (h2 : ((limbs y).getD n 0 + 1) * 2 ^ s ≤ 4294967296) :
    szN (y * 2 ^ s) = n + 1 ∧ 2147483648 ≤ (limbs (y * 2 ^ s)).getD n 0 := by
  obtain ⟨b1, b2, b3⟩ := top_bounds h
  have hp : 0 < 2 ^ s := Nat.pow_pos (by omega)
  generalize (limbs y).getD n 0 = t at *
  generalize hp2 : 2 ^ s = p at *
  have hlo : 4294967296 ^ n * (t * p) ≤ y * p := by rw [← Nat.mul_assoc]; exact Nat.mul_le_mul_right p b1
  have hhi : y * p < 4294967296 ^ n * 4294967296 := by
    have : y * p < 4294967296 ^ n * (t + 1) * p := Nat.mul_lt_mul_of_pos_right b2 hp
    rw [Nat.mul_assoc] at this
    exact Nat.lt_of_lt_of_le this (Nat.mul_le_mul_left _ h2)
  have hsz : szN (y * p) = n + 1 := by
    have a1 : szN (y * p) ≤ n + 1 := szN_le (by rw [Nat.pow_succ]; exact hhi)
    have a2 : ¬ szN (y * p) ≤ n := fun hle => by
      have a3 := szN_lt (y * p)
      have a4 : 4294967296 ^ szN (y * p) ≤ 4294967296 ^ n := Nat.pow_le_pow_right (by omega) hle
      have a5 : 4294967296 ^ n * 1 ≤ 4294967296 ^ n * (t * p) := Nat.mul_le_mul_left _ (by omega)
      omega
    omega
  refine ⟨hsz, ?_⟩
  obtain ⟨c1, c2, c3⟩ := top_bounds hsz
  have : 4294967296 ^ n * 2147483648 < 4294967296 ^ n * ((limbs (y * p)).getD n 0 + 1) := Nat.lt_of_le_of_lt (Nat.le_trans (Nat.mul_le_mul_left _ h1) hlo) c2
  have := Nat.lt_of_mul_lt_mul_left this
  omega
/-- Bits ahead of a limb's first one. -/
theorem lead_zeros {t b : Nat} (hb : b ≤ 32) (h1 : t < 2 ^ b) (h2 : 2 ^ b ≤ 2 * t) (ht : t ≠ 0) : 32 - b ≤ 31 ∧ 2147483648 ≤ t * 2 ^ (32 - b) ∧ (t + 1) * 2 ^ (32 - b) ≤ 4294967296 := by
  have hb0 : b ≠ 0 := by rintro rfl; simp at h1; omega
  have e : 2 ^ b * 2 ^ (32 - b) = 4294967296 := by rw [← Nat.pow_add, show b + (32 - b) = 32 by omega]
  refine ⟨by omega, ?_, ?_⟩
  · have := Nat.mul_le_mul_right (2 ^ (32 - b)) h2
    rw [e, Nat.mul_assoc] at this
    omega
  · have := Nat.mul_le_mul_right (2 ^ (32 - b)) (show t + 1 ≤ 2 ^ b from h1)
    rw [e] at this
    exact this
theorem bitLen_is : ∀ (x : Nat), x ≠ 0 → x < 2 ^ 64 → x < 2 ^ Lib.bitLen x ∧ 2 ^ Lib.bitLen x ≤ 2 * x := by
  intro x
  induction x using Nat.strongRecOn with
  | _ x ih =>
    intro h0 h
    rw [Lib.bitLen_half x h0 h]
    by_cases h1 : x / 2 = 0
    · have : x = 1 := by omega
      subst this
      exact ⟨by decide, by decide⟩
    · have := ih (x / 2) (by omega) h1 (by omega)
      rw [Nat.pow_add, Nat.pow_one]
      omega
theorem bitLen_32 {x : Nat} (h : x < 4294967296) (h0 : x ≠ 0) : Lib.bitLen x ≤ 32 := by
  have := (bitLen_is x h0 (by omega)).2
  apply Decidable.byContradiction
  intro hn
  have h2 : 2 ^ 33 ≤ 2 ^ Lib.bitLen x := Nat.pow_le_pow_right (by omega) (by omega)
  omega
/-- One digit of a long division: what is left, and what was told. -/
theorem long_step {U U' S V d Q T j : Nat} {lo P : Nat} (hU : U = lo + P * S) (hU' : U' = lo + P * (S % V)) (hd : d = S / V) (h : U + V * (P * 4294967296) * Q = T) :
    U' + V * P * (d + 4294967296 * Q) = T := by
  have e := Nat.div_add_mod S V
  rw [← hd] at e
  generalize S % V = r at *
  grind
/-- The end. -/
theorem long_end {U V Q x p y : Nat} (hp : 0 < p) (hy : 0 < y) (hV : V = y * p) (h : U + V * Q = x * p) (hU : U < V) : Q = x / y ∧ U = x % y * p := by
  subst hV
  have hVp : 0 < y * p := Nat.mul_pos hy hp
  have hQ : Q = x * p / (y * p) := by
    rw [← h, Nat.add_mul_div_left _ _ hVp, Nat.div_eq_of_lt hU, Nat.zero_add]
  have hR : U = x * p % (y * p) := by
    rw [← h, Nat.add_mul_mod_self_left, Nat.mod_eq_of_lt hU]
  refine ⟨by rw [hQ, Nat.mul_div_mul_right _ _ hp], by rw [hR, Nat.mul_mod_mul_right]⟩
end Go.Proofs.YtjcpfmndkeiegaaGreatDoor
namespace Go.Proofs.YtjcpfmndkeiegaaGreatDoor
open Go.RowKit
set_option linter.unusedVariables false

/-- Ahead of the first digit. -/
theorem long_start {x y s m N : Nat} {L : List Nat} (hx : szN x = m + N) (hs : s ≤ 31) (h1 : szN (y * 2 ^ s) = m + 1) (h2 : 2147483648 ≤ (limbs (y * 2 ^ s)).getD m 0) (hv : valL L = x * 2 ^ s) (hl : L.length = m + N + 1) :
    valL (L.drop N) < y * 2 ^ s := by
  obtain ⟨b1, _, _⟩ := top_bounds h1
  have hd := valL_drop L N
  rw [Nat.min_eq_left (by omega), hv] at hd
  have hxl := szN_lt x
  rw [hx] at hxl
  have hp : 2 ^ s ≤ 2147483648 := Nat.le_trans (Nat.pow_le_pow_right (by omega) hs) (by decide)
  have hp0 : 0 < 2 ^ s := Nat.pow_pos (by omega)
  generalize y * 2 ^ s = V at *
  generalize 2 ^ s = p at *
  generalize (limbs V).getD m 0 = t at *
  generalize valL (L.drop N) = z at *
  generalize valL (L.take N) = lo at *
  rw [Nat.add_comm m N, Nat.pow_add] at hxl
  have e1 : x * p < 4294967296 ^ N * 4294967296 ^ m * p := Nat.mul_lt_mul_of_pos_right hxl hp0
  have e2 : 4294967296 ^ m * p ≤ V := Nat.le_trans (Nat.mul_le_mul_left _ (Nat.le_trans hp h2)) b1
  rw [Nat.mul_assoc] at e1
  have e3 : 4294967296 ^ N * z < 4294967296 ^ N * V := Nat.lt_of_le_of_lt (by omega) (Nat.lt_of_lt_of_le e1 (Nat.mul_le_mul_left _ e2))
  exact Nat.lt_of_mul_lt_mul_left e3
/-- The segment that a digit is drawn from. -/
theorem long_seg {U : List Nat} {m j V : Nat} (hU : Lim U) (hl : j + (m + 2) ≤ U.length) (h : valL (U.drop (j + 1)) < V) (hV : szN V = m + 1) :
    ∃ A S R, U = A ++ (S ++ R) ∧ A.length = j ∧ S.length = m + 2 ∧ Lim A ∧ Lim S ∧ Lim R ∧ valL R = 0 ∧ valL S < 4294967296 * V ∧ valL U = valL A + 4294967296 ^ j * valL S := by
  have hVl := szN_lt V
  rw [hV] at hVl
  have hR : valL (U.drop (j + (m + 2))) = 0 := by
    have hd := valL_drop (U.drop (j + 1)) (m + 1)
    rw [List.length_drop, Nat.min_eq_left (by omega), List.drop_drop, show j + 1 + (m + 1) = j + (m + 2) by omega] at hd
    generalize valL (U.drop (j + (m + 2))) = z at *
    apply Decidable.byContradiction
    intro hz
    have : 4294967296 ^ (m + 1) * 1 ≤ 4294967296 ^ (m + 1) * z := Nat.mul_le_mul_left _ (by omega)
    omega
  have hS : valL (U.drop j) = valL ((U.drop j).take (m + 2)) := by
    have hd := valL_drop (U.drop j) (m + 2)
    rw [List.length_drop, Nat.min_eq_left (by omega), List.drop_drop, hR, Nat.mul_zero, Nat.add_zero] at hd
    exact hd
  have hA := valL_drop U j
  rw [Nat.min_eq_left (by omega), hS] at hA
  refine ⟨U.take j, (U.drop j).take (m + 2), U.drop (j + (m + 2)), ?_, by rw [List.length_take]; omega, by rw [List.length_take, List.length_drop]; omega, hU.take _, (hU.drop _).take _, hU.drop _, hR, ?_, hA⟩
  · rw [← List.drop_drop, List.take_append_drop, List.take_append_drop]
  · rw [← hS, valL_step]
    have := hU.getD j
    omega
/-- The list, with a segment's new limbs. -/
theorem long_put {A S' R : List Nat} {j m V : Nat} (hA : A.length = j) (hS : S'.length = m + 2) (hR : valL R = 0) : valL ((A ++ (S' ++ R)).drop j) = valL S' ∧ valL (A ++ (S' ++ R)) = valL A + 4294967296 ^ j * valL S' := by
  subst hA
  have h1 : valL (S' ++ R) = valL S' := by rw [valL_append, hR, Nat.mul_zero, Nat.add_zero]
  refine ⟨by rw [List.drop_left, h1], by rw [valL_append, h1]⟩
/-- A digit put into the quotient. -/
theorem long_dig {Q : List Nat} {j d : Nat} (h : j < Q.length) : valL ((Q.set j d).drop j) = d + 4294967296 * valL (Q.drop (j + 1)) := by
  rw [valL_step]
  congr 1
  · rw [List.getD, List.getElem?_set_self h]; rfl
  · rw [List.drop_set_of_lt (by omega)]
end Go.Proofs.YtjcpfmndkeiegaaGreatDoor
namespace Go.Proofs.YtjcpfmndkeiegaaGreatDoor
open Go.RowKit
set_option linter.unusedVariables false

theorem lowD_snoc (k n : Nat) : lowD (k + 1) n = lowD k n ++ [UInt8.ofNat (48 + n / 10 ^ k % 10)] := lowD_add k 1 n
theorem lowD_mod : ∀ (k n : Nat), lowD k (n % 10 ^ k) = lowD k n
  | 0, _ => rfl
  | k + 1, n => by
    rw [lowD, lowD, Nat.pow_succ, Nat.mod_mul_left_div_self, lowD_mod k, Nat.mod_mul_left_mod]
theorem low_nine (n i : Nat) : lowD (9 * (i + 1)) n = lowD (9 * i) n ++ lowD 9 (n / 10 ^ (9 * i) % 1000000000) := by
  rw [show 9 * (i + 1) = 9 * i + 9 by omega, lowD_add, lowD_mod 9]
theorem div_nine (n i : Nat) : n / 10 ^ (9 * (i + 1)) = n / 10 ^ (9 * i) / 1000000000 := by
  rw [Nat.div_div_eq_div_mul, show 9 * (i + 1) = 9 * i + 9 by omega, Nat.pow_add]
theorem div_nine_lt {n i : Nat} (h : n / 10 ^ (9 * i) = 0) : n < 10 ^ (9 * i) := by
  apply Decidable.byContradiction
  intro h2
  have := Nat.div_pos (Nat.le_of_not_lt h2) (Nat.pow_pos (n := 9 * i) (show 0 < 10 by omega))
  omega
end Go.Proofs.YtjcpfmndkeiegaaGreatDoor
namespace Go.Proofs.YtjcpfmndkeiegaaGreatDoor
open Go.RowKit
set_option linter.unusedVariables false

/-- A fraction of its parts. -/
def lowQ (neg : Bool) (n d : Nat) : Rat := mkRat (if neg then -(n : Int) else (n : Int)) d
def negQ (q : Rat) : Bool := decide (q.num < 0)
def numQ (q : Rat) : Nat := q.num.natAbs
/-- The denominator as it is kept: that of 0 is 0. -/
def denQ (q : Rat) : Nat := if q.num = 0 then 0 else q.den
theorem lowQ_zero (neg : Bool) (d : Nat) : lowQ neg 0 d = 0 := by
  unfold lowQ
  cases neg <;> simp [Rat.zero_mkRat]
theorem denQ_one {q : Rat} (h : q.num = 0) : q.den = 1 := by
  rw [Rat.num_eq_zero.1 h]; rfl
theorem lowQ_parts {neg : Bool} {n d : Nat} (hn : n ≠ 0) (hd : d ≠ 0) : numQ (lowQ neg n d) = n / n.gcd d ∧ denQ (lowQ neg n d) = d / n.gcd d ∧ negQ (lowQ neg n d) = neg ∧ (lowQ neg n d).den = d / n.gcd d := by
  have hg : 0 < n.gcd d := Nat.gcd_pos_of_pos_left _ (by omega)
  have hq : 0 < n / n.gcd d := Nat.div_pos (Nat.le_of_dvd (by omega) (Nat.gcd_dvd_left _ _)) hg
  have e : lowQ neg n d = Rat.normalize (if neg then -(n : Int) else (n : Int)) d hd := by
    unfold lowQ; rw [Rat.mkRat_def, dif_neg hd]
  rw [e, Rat.normalize_eq]
  cases neg with
  | true =>
    have h1 : (-(n : Int) / (n.gcd d : Nat)) = -((n / n.gcd d : Nat) : Int) := by
      rw [Int.neg_ediv_of_dvd (by exact_mod_cast Nat.gcd_dvd_left n d)]; simp
    simp only [if_true, numQ, denQ, negQ, Int.natAbs_neg, Int.natAbs_natCast, h1]
    refine ⟨trivial, ?_, ?_, trivial⟩
    · rw [if_neg (by omega)]
    · exact decide_eq_true (by omega)
  | false =>
    have h1 : ((n : Int) / (n.gcd d : Nat)) = ((n / n.gcd d : Nat) : Int) := by simp
    simp only [Bool.false_eq_true, if_false, numQ, denQ, negQ, Int.natAbs_natCast, h1]
    refine ⟨trivial, ?_, ?_, trivial⟩
    · rw [if_neg (by omega)]
    · exact decide_eq_false (by omega)
theorem numQ_zero {q : Rat} : numQ q = 0 ↔ q = 0 := by
  unfold numQ
  rw [Int.natAbs_eq_zero]
  exact Rat.num_eq_zero
/-- A fraction is made of its own parts. -/
theorem lowQ_self (q : Rat) : lowQ (negQ q) (numQ q) q.den = q := by
  unfold lowQ negQ numQ
  have : (if decide (q.num < 0) = true then -(q.num.natAbs : Int) else (q.num.natAbs : Int)) = q.num := by
    by_cases h : q.num < 0
    · rw [decide_eq_true h]; simp; omega
    · rw [decide_eq_false h]; simp; omega
  rw [this]
  exact Rat.mkRat_self q
theorem num_sgn (q : Rat) : q.num = if negQ q then -(numQ q : Int) else (numQ q : Int) := by
  unfold negQ numQ
  by_cases h : q.num < 0
  · rw [decide_eq_true h]; simp; omega
  · rw [decide_eq_false h]; simp; omega
theorem mulQ (a b : Rat) : lowQ (negQ a != negQ b) (numQ a * numQ b) (a.den * b.den) = a * b := by
  have h := Rat.mkRat_mul_mkRat a.num b.num a.den b.den
  rw [Rat.mkRat_self, Rat.mkRat_self] at h
  rw [h]
  unfold lowQ
  congr 1
  rw [num_sgn a, num_sgn b]
  cases negQ a <;> cases negQ b <;> simp <;> grind
theorem addQ_same {a b : Rat} (h : negQ a = negQ b) : lowQ (negQ a) (numQ a * b.den + numQ b * a.den) (a.den * b.den) = a + b := by
  have h2 := Rat.mkRat_add_mkRat a.num b.num a.den_nz b.den_nz
  rw [Rat.mkRat_self, Rat.mkRat_self] at h2
  rw [h2]
  unfold lowQ
  congr 1
  rw [num_sgn a, num_sgn b, ← h]
  cases negQ a <;> simp <;> try grind
theorem addQ_ge {a b : Rat} (h : negQ a ≠ negQ b) (hle : numQ b * a.den ≤ numQ a * b.den) : lowQ (negQ a) (numQ a * b.den - numQ b * a.den) (a.den * b.den) = a + b := by
  have h2 := Rat.mkRat_add_mkRat a.num b.num a.den_nz b.den_nz
  rw [Rat.mkRat_self, Rat.mkRat_self] at h2
  rw [h2]
  unfold lowQ
  congr 1
  rw [num_sgn a, num_sgn b, Int.natCast_sub hle]
  cases ha : negQ a <;> cases hb : negQ b <;> simp_all <;> try grind
theorem addQ_lt {a b : Rat} (h : negQ a ≠ negQ b) (hle : numQ a * b.den ≤ numQ b * a.den) : lowQ (negQ b) (numQ b * a.den - numQ a * b.den) (a.den * b.den) = a + b := by
  have h2 := Rat.mkRat_add_mkRat a.num b.num a.den_nz b.den_nz
  rw [Rat.mkRat_self, Rat.mkRat_self] at h2
  rw [h2]
  unfold lowQ
  congr 1
  rw [num_sgn a, num_sgn b, Int.natCast_sub hle]
  cases ha : negQ a <;> cases hb : negQ b <;> simp_all <;> try grind
/-- How two fractions compare. -/
def cmpQ (a b : Rat) : Int := if a < b then -1 else if b < a then 1 else 0
theorem cmpQ_pp {a b : Rat} (ha : negQ a = false) (hb : negQ b = false) : (a < b ↔ numQ a * b.den < numQ b * a.den) := by
  rw [Rat.lt_iff, num_sgn a, num_sgn b, ha, hb]
  simp only [Bool.false_eq_true, if_false]
  exact_mod_cast Iff.rfl
theorem cmpQ_nn {a b : Rat} (ha : negQ a = true) (hb : negQ b = true) : (a < b ↔ numQ b * a.den < numQ a * b.den) := by
  rw [Rat.lt_iff, num_sgn a, num_sgn b, ha, hb]
  simp only [if_true]
  have : (-(numQ a : Int) * (b.den : Int) < -(numQ b : Int) * (a.den : Int)) ↔ ((numQ b * a.den : Nat) : Int) < ((numQ a * b.den : Nat) : Int) := by
    simp only [Int.neg_mul, Int.natCast_mul]; omega
  rw [this]
  exact_mod_cast Iff.rfl
theorem cmpQ_np {a b : Rat} (ha : negQ a = true) (hb : negQ b = false) : a < b := by
  unfold negQ at ha hb
  have h1 : a.num < 0 := of_decide_eq_true ha
  have h2 : ¬ b.num < 0 := of_decide_eq_false hb
  rw [Rat.lt_iff]
  have h3 : a.num * (b.den : Int) < 0 := Int.mul_neg_of_neg_of_pos h1 (by have := b.den_pos; omega)
  have h4 : 0 ≤ b.num * (a.den : Int) := Int.mul_nonneg (by omega) (by omega)
  omega
end Go.Proofs.YtjcpfmndkeiegaaGreatDoor
