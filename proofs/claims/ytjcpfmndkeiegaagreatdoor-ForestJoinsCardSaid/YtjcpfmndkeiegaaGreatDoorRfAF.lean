/- Plain words on natural numbers in digits of base 10,000, the lowest first. The walks of the document's own trim, Cmp. The walk of the document's own Cmp. Rows of digits of the call's own; the walk of the document's own Sub. The walk of the document's own Mul. The walk of the document's own DivMod. -/
import Derived.WalkKit
import Derived.Test.YtjcpfmndkeiegaaGreatDoorMem
import Derived.Test.YtjcpfmndkeiegaaGreatDoorOw
import Derived.ProofKit
import Derived.Deep.QuietTactic
import Derived.BigQuiet
import Derived.Lib.Hide
import Derived.Outline
import Derived.Test.YtjcpfmndkeiegaaGreatDoorProg
import Derived.Test.YtjcpfmndkeiegaaGreatDoorIt
import Derived.Laws.OwnMore
import Derived.IntWalk
import Derived.Maps.AppendAt
import Derived.DataElems
import Derived.Deep.Upon
namespace Go.Proofs.YtjcpfmndkeiegaaGreatDoor.Rf
open Go.RowKit
set_option linter.unusedVariables false

/-- What limbs come to, the lowest first. -/
def valL : List Nat → Nat
  | [] => 0
  | x :: t => x + 10000 * valL t
def Lim (l : List Nat) : Prop := ∀ x ∈ l, x < 10000
theorem Lim.nil : Lim [] := fun _ h => by cases h
theorem Lim.cons {x : Nat} {t : List Nat} (h : x < 10000) (k : Lim t) : Lim (x :: t) := fun y hy => by
  rcases List.mem_cons.1 hy with rfl | hy
  · exact h
  · exact k y hy
theorem Lim.append {a b : List Nat} (h : Lim a) (k : Lim b) : Lim (a ++ b) := fun y hy => by
  rcases List.mem_append.1 hy with hy | hy
  · exact h y hy
  · exact k y hy
theorem Lim.take {a : List Nat} (h : Lim a) (n : Nat) : Lim (a.take n) := fun y hy => h y (List.mem_of_mem_take hy)
theorem Lim.drop {a : List Nat} (h : Lim a) (n : Nat) : Lim (a.drop n) := fun y hy => h y (List.mem_of_mem_drop hy)
theorem Lim.get {a : List Nat} (h : Lim a) {i : Nat} (hi : i < a.length) : a[i] < 10000 := h _ (List.getElem_mem hi)
theorem Lim.getD {a : List Nat} (h : Lim a) (i : Nat) : a.getD i 0 < 10000 := by
  by_cases hi : i < a.length
  · rw [List.getD, List.getElem?_eq_getElem hi]; exact h.get hi
  · rw [List.getD, List.getElem?_eq_none (by omega)]; decide
theorem Lim.set {a : List Nat} (h : Lim a) (i : Nat) {x : Nat} (hx : x < 10000) : Lim (a.set i x) := fun y hy => by
  rcases List.mem_or_eq_of_mem_set hy with hy | rfl
  · exact h y hy
  · exact hx
theorem Lim.replicate (n : Nat) : Lim (List.replicate n 0) := fun y hy => by
  have := (List.mem_replicate.1 hy).2
  omega
theorem valL_append (a b : List Nat) : valL (a ++ b) = valL a + 10000 ^ a.length * valL b := by
  induction a with
  | nil => simp [valL]
  | cons x t ih =>
    rw [List.cons_append, valL, valL, ih, List.length_cons, Nat.pow_succ]
    grind
theorem valL_lt : ∀ {l : List Nat}, Lim l → valL l < 10000 ^ l.length
  | [], _ => by simp [valL]
  | x :: t, h => by
    have hx := h x (by simp)
    have ih := valL_lt (l := t) (fun y hy => h y (by simp [hy]))
    rw [valL, List.length_cons, Nat.pow_succ]
    omega
theorem valL_zero (n : Nat) : valL (List.replicate n 0) = 0 := by
  induction n with
  | zero => rfl
  | succ n ih => rw [List.replicate_succ, valL, ih]
theorem valL_drop (l : List Nat) (i : Nat) : valL l = valL (l.take i) + 10000 ^ (min i l.length) * valL (l.drop i) := by
  have := valL_append (l.take i) (l.drop i)
  rw [List.take_append_drop, List.length_take] at this
  exact this
theorem valL_step (l : List Nat) (i : Nat) : valL (l.drop i) = l.getD i 0 + 10000 * valL (l.drop (i + 1)) := by
  by_cases hi : i < l.length
  · rw [List.drop_eq_getElem_cons hi, valL, List.getD, List.getElem?_eq_getElem hi]; rfl
  · rw [List.drop_of_length_le (by omega), List.drop_of_length_le (by omega), List.getD, List.getElem?_eq_none (by omega)]; rfl
/-- A number's limbs. -/
def limbs (n : Nat) : List Nat := if h : n = 0 then [] else n % 10000 :: limbs (n / 10000)
termination_by n
theorem limbs_zero : limbs 0 = [] := by rw [limbs]; rfl
theorem limbs_pos {n : Nat} (h : n ≠ 0) : limbs n = n % 10000 :: limbs (n / 10000) := by rw [limbs, dif_neg h]
theorem limbs_nil {n : Nat} : limbs n = [] ↔ n = 0 := by
  by_cases h : n = 0
  · subst h; simp [limbs_zero]
  · rw [limbs_pos h]; simp [h]
theorem limbs_val (n : Nat) : valL (limbs n) = n := by
  induction n using Nat.strongRecOn with
  | _ n ih =>
    by_cases h : n = 0
    · subst h; rw [limbs_zero]; rfl
    · rw [limbs_pos h, valL, ih _ (by omega)]; omega
theorem limbs_lim (n : Nat) : Lim (limbs n) := by
  induction n using Nat.strongRecOn with
  | _ n ih =>
    by_cases h : n = 0
    · subst h; rw [limbs_zero]; exact Lim.nil
    · rw [limbs_pos h]; exact Lim.cons (Nat.mod_lt _ (by omega)) (ih _ (by omega))
/-- Limbs whose highest is not 0 are the limbs of what they come to. -/
theorem limbs_of {l : List Nat} (h : Lim l) (ht : l.getLast? ≠ some 0) : limbs (valL l) = l := by
  induction l with
  | nil => exact limbs_zero
  | cons x t ih =>
    have hx := h x (by simp)
    have htl : Lim t := fun y hy => h y (by simp [hy])
    have hv : valL (x :: t) = x + 10000 * valL t := rfl
    by_cases h0 : t = []
    · subst h0
      have hx0 : x ≠ 0 := fun e => ht (by simp [e])
      rw [hv, limbs_pos (by simp [valL]; omega)]
      have e1 : (x + 10000 * valL []) % 10000 = x := by simp [valL]; omega
      have e2 : (x + 10000 * valL []) / 10000 = 0 := by simp [valL]; omega
      rw [e1, e2, limbs_zero]
    · have ih := ih htl (by rw [List.getLast?_cons] at ht; intro e; exact ht (by rw [e]; rfl))
      have hvt : valL t ≠ 0 := fun e => by rw [e, limbs_zero] at ih; exact h0 ih.symm
      rw [hv, limbs_pos (by omega)]
      have e1 : (x + 10000 * valL t) % 10000 = x := by omega
      have e2 : (x + 10000 * valL t) / 10000 = valL t := by omega
      rw [e1, e2, ih]
theorem limbs_top (n : Nat) : (limbs n).getLast? ≠ some 0 := by
  induction n using Nat.strongRecOn with
  | _ n ih =>
    by_cases h : n = 0
    · subst h; rw [limbs_zero]; simp
    · rw [limbs_pos h, List.getLast?_cons]
      have ih := ih (n / 10000) (by omega)
      cases hl : limbs (n / 10000) with
      | nil =>
        have := limbs_nil.1 hl
        simp
        omega
      | cons y t =>
        rw [hl] at ih
        obtain ⟨z, hz⟩ : ∃ z, (y :: t).getLast? = some z := ⟨_, List.getLast?_cons⟩
        rw [hz] at ih ⊢
        simpa using ih
/-- Noughts above, and what is not 0 below them. -/
theorem limbs_take {l : List Nat} (h : Lim l) (n : Nat) (hn : n ≤ l.length) (h0 : ∀ x ∈ l.drop n, x = 0) (h1 : n = 0 ∨ l.getD (n - 1) 0 ≠ 0) : limbs (valL l) = l.take n := by
  have hz : ∀ t : List Nat, (∀ x ∈ t, x = 0) → valL t = 0 := by
    intro t
    induction t with
    | nil => intro _; rfl
    | cons x t ih => intro h; rw [valL, ih (fun y hy => h y (by simp [hy])), h x (by simp)]
  have hv : valL l = valL (l.take n) := by rw [valL_drop l n, hz _ h0]; omega
  rw [hv]
  refine limbs_of (h.take n) ?_
  rcases h1 with rfl | h1
  · simp
  · rw [List.getLast?_eq_getElem?]
    intro e
    apply h1
    by_cases h2 : n = 0
    · subst h2; simp at e
    · rw [List.length_take, Nat.min_eq_left hn, List.getElem?_take_of_lt (by omega)] at e
      rw [List.getD, e]; rfl
/-- How many limbs a number has. -/
def szN (n : Nat) : Nat := (limbs n).length
theorem szN_lt (n : Nat) : n < 10000 ^ szN n := by
  have := valL_lt (limbs_lim n)
  rwa [limbs_val] at this
theorem szN_le : ∀ {k n : Nat}, n < 10000 ^ k → szN n ≤ k
  | 0, n, h => by
    have : n = 0 := by simpa using h
    subst this; rw [szN, limbs_zero]; exact Nat.le_refl _
  | k + 1, n, h => by
    by_cases h0 : n = 0
    · subst h0; rw [szN, limbs_zero]; exact Nat.zero_le _
    · have := szN_le (k := k) (n := n / 10000) (by rw [Nat.pow_succ] at h; omega)
      rw [szN, limbs_pos h0, List.length_cons]
      exact Nat.succ_le_succ this
theorem szN_ge {n : Nat} (h : n ≠ 0) : 10000 ^ (szN n - 1) ≤ n := by
  induction n using Nat.strongRecOn with
  | _ n ih =>
    rw [szN, limbs_pos h, List.length_cons, Nat.add_sub_cancel]
    by_cases h1 : n / 10000 = 0
    · rw [h1, limbs_zero]; simp; omega
    · have := ih _ (by omega) h1
      have hs : 0 < szN (n / 10000) := by
        unfold szN
        have := mt limbs_nil.1 h1
        exact List.length_pos_iff.2 this
      have e : szN (n / 10000) = (szN (n / 10000) - 1) + 1 := by omega
      show 10000 ^ szN (n / 10000) ≤ n
      rw [e, Nat.pow_succ]
      omega
theorem szN_mono {a b : Nat} (h : a ≤ b) : szN a ≤ szN b := szN_le (Nat.lt_of_le_of_lt h (szN_lt b))
theorem szN_zero : szN 0 = 0 := by rw [szN, limbs_zero]; rfl
theorem szN_pos {n : Nat} (h : n ≠ 0) : 0 < szN n := List.length_pos_iff.2 (mt limbs_nil.1 h)
theorem szN_mul (a b : Nat) : szN (a * b) ≤ szN a + szN b := by
  refine szN_le ?_
  rw [Nat.pow_add]
  by_cases h : b = 0
  · subst h; rw [Nat.mul_zero]; exact Nat.mul_pos (Nat.pow_pos (by omega)) (Nat.pow_pos (by omega))
  · exact Nat.mul_lt_mul_of_lt_of_le (szN_lt a) (Nat.le_of_lt (szN_lt b)) (Nat.pow_pos (by omega))
theorem szN_add (a b : Nat) : szN (a + b) ≤ max (szN a) (szN b) + 1 := by
  refine szN_le ?_
  rw [Nat.pow_succ]
  have h1 := Nat.lt_of_lt_of_le (szN_lt a) (Nat.pow_le_pow_right (n := 10000) (by omega) (Nat.le_max_left (szN a) (szN b)))
  have h2 := Nat.lt_of_lt_of_le (szN_lt b) (Nat.pow_le_pow_right (n := 10000) (by omega) (Nat.le_max_right (szN a) (szN b)))
  omega
theorem szN_small {n : Nat} (h : n < 10000) : szN n ≤ 1 := szN_le (by simpa using h)
theorem limbs_len (n : Nat) : (limbs n).length = szN n := rfl
theorem limbs_getD_lt (n i : Nat) : (limbs n).getD i 0 < 10000 := (limbs_lim n).getD i
/-- A number's highest limb is not 0. -/
theorem limbs_last {n : Nat} (h : n ≠ 0) : (limbs n).getD (szN n - 1) 0 ≠ 0 := by
  have ht := limbs_top n
  rw [List.getLast?_eq_getElem?] at ht
  intro e
  apply ht
  have hs := szN_pos h
  rw [List.getD] at e
  rw [limbs_len]
  cases hg : (limbs n)[szN n - 1]? with
  | none => rw [List.getElem?_eq_none_iff, limbs_len] at hg; omega
  | some x => rw [hg] at e; simp at e; rw [e]

theorem valL_snoc (D : List Nat) (x : Nat) : valL (D ++ [x]) = valL D + 10000 ^ D.length * x := by
  rw [valL_append]; simp [valL]
theorem dm (s b : Nat) : b * (s / b) + s % b = s := Nat.div_add_mod s b
/-- One step of a sum. -/
theorem add_step {D : List Nat} {c x y X Y T k : Nat} (hk : D.length = k) (h : valL D + 10000 ^ k * (c + (x + 10000 * X) + (y + 10000 * Y)) = T) :
    valL (D ++ [(c + x + y) % 10000]) + 10000 ^ (k + 1) * ((c + x + y) / 10000 + X + Y) = T := by
  have e := dm (c + x + y) 10000
  rw [valL_snoc, hk, Nat.pow_succ]
  generalize 10000 ^ k = P at *
  generalize (c + x + y) / 10000 = q at *
  generalize (c + x + y) % 10000 = r at *
  grind
/-- One step of a product by a small number. -/
theorem more_step {D : List Nat} {c x by_ X T k : Nat} (hk : D.length = k) (h : valL D + 10000 ^ k * (c + by_ * (x + 10000 * X)) = T) :
    valL (D ++ [(c + x * by_) % 10000]) + 10000 ^ (k + 1) * ((c + x * by_) / 10000 + by_ * X) = T := by
  have e := dm (c + x * by_) 10000
  rw [valL_snoc, hk, Nat.pow_succ]
  generalize 10000 ^ k = P at *
  generalize (c + x * by_) / 10000 = q at *
  generalize (c + x * by_) % 10000 = r at *
  grind
/-- One step of a difference. -/
theorem sub_step {D : List Nat} {w x y d w' X Y T k : Nat} (hk : D.length = k) (h : valL D + 10000 ^ k * (x + 10000 * X) = T + 10000 ^ k * (w + (y + 10000 * Y))) (hd : x + 10000 * w' = d + (w + y)) :
    valL (D ++ [d]) + 10000 ^ (k + 1) * X = T + 10000 ^ (k + 1) * (w' + Y) := by
  rw [valL_snoc, hk, Nat.pow_succ]
  generalize 10000 ^ k = P at *
  grind
/-- One step of a division by a small number, from above. -/
theorem less_step {D : List Nat} {x r by_ V L : Nat} {P : Nat} (h : L = V + P * (x + 10000 * (by_ * valL D + r))) :
    L = V + P * (by_ * valL ((r * 10000 + x) / by_ :: D) + (r * 10000 + x) % by_) := by
  have e := dm (r * 10000 + x) by_
  rw [valL]
  generalize (r * 10000 + x) / by_ = q at *
  generalize (r * 10000 + x) % by_ = s at *
  grind
theorem valL_take_succ (L : List Nat) (i : Nat) (h : i < L.length) : valL (L.take (i + 1)) = valL (L.take i) + 10000 ^ i * L[i] := by
  rw [List.take_succ_eq_append_getElem h, valL_snoc, List.length_take, Nat.min_eq_left (Nat.le_of_lt h)]
theorem valL_set (L : List Nat) (k x : Nat) (h : k < L.length) : valL (L.set k x) + 10000 ^ k * L[k] = valL L + 10000 ^ k * x := by
  induction L generalizing k with
  | nil => simp at h
  | cons y t ih =>
    cases k with
    | zero => simp only [List.set_cons_zero, valL, List.getElem_cons_zero, Nat.pow_zero]; omega
    | succ k =>
      have := ih k (by simpa using h)
      simp only [List.set_cons_succ, valL, List.getElem_cons_succ, Nat.pow_succ]
      generalize 10000 ^ k = P at *
      grind
/-- One step of a product. -/
theorem mul_step {O : List Nat} {k c p T : Nat} (h : k < O.length) (hT : valL O + 10000 ^ k * c = T) :
    valL (O.set k ((c + (p + O[k])) % 10000)) + 10000 ^ (k + 1) * ((c + (p + O[k])) / 10000) = T + 10000 ^ k * p := by
  have hs := valL_set O k ((c + (p + O[k])) % 10000) h
  have e := dm (c + (p + O[k])) 10000
  rw [Nat.pow_succ]
  generalize 10000 ^ k = P at *
  generalize (c + (p + O[k])) / 10000 = q at *
  generalize (c + (p + O[k])) % 10000 = r at *
  generalize O[k] = o at *
  grind
/-- One step of the taking away of a multiple. -/
theorem step_step {D : List Nat} {c w u x d w' q U V k : Nat} (hk : D.length = k) (h : U + 10000 ^ k * (c + w) = valL D + q * V) (hd : u + 10000 * w' = d + (c + q * x) % 10000 + w) :
    (U + 10000 ^ k * u) + 10000 ^ (k + 1) * ((c + q * x) / 10000 + w') = valL (D ++ [d]) + q * (V + 10000 ^ k * x) := by
  have e := dm (c + q * x) 10000
  rw [valL_snoc, hk, Nat.pow_succ]
  generalize 10000 ^ k = P at *
  generalize (c + q * x) / 10000 = z at *
  generalize (c + q * x) % 10000 = r at *
  grind
/-- Which of two is greater is told by the first limb, from above, at which they differ. -/
theorem cmp_lt {x y X Y : Nat} (hx : x < 10000) (h : X = Y) (hl : x < y) : x + 10000 * X < y + 10000 * Y := by omega
theorem valL_drop_lt {a b : List Nat} {i : Nat} (ha : Lim a) (hb : Lim b) (h : valL (a.drop i) < valL (b.drop i)) : valL a < valL b := by
  have h1 := valL_drop a i
  have h2 := valL_drop b i
  by_cases hai : i ≤ b.length
  · rw [Nat.min_eq_left hai] at h2
    have h3 := valL_lt (ha.take i)
    rw [List.length_take] at h3
    have h4 : 10000 ^ (min i a.length) ≤ 10000 ^ i := Nat.pow_le_pow_right (by omega) (Nat.min_le_left _ _)
    have h5 : 10000 ^ (min i a.length) * valL (a.drop i) + 10000 ^ i ≤ 10000 ^ i * valL (b.drop i) := by
      have h6 := Nat.mul_le_mul_right (valL (a.drop i)) h4
      have h7 : 10000 ^ i * (valL (a.drop i) + 1) ≤ 10000 ^ i * valL (b.drop i) := Nat.mul_le_mul_left _ h
      rw [Nat.mul_add, Nat.mul_one] at h7
      omega
    omega
  · rw [List.drop_of_length_le (by omega : b.length ≤ i)] at h
    simp [valL] at h
theorem no_carry {d P c T : Nat} (h : d + P * c = T) (hT : T < P) : c = 0 := by
  cases c with
  | zero => rfl
  | succ c => rw [Nat.mul_succ] at h; omega
theorem sum_lt {x y n m : Nat} (hx : x < 10000 ^ n) (hy : y < 10000 ^ m) (h : m ≤ n) : x + y < 10000 ^ (n + 1) := by
  have h3 : 10000 ^ m ≤ 10000 ^ n := Nat.pow_le_pow_right (by omega) h
  rw [Nat.pow_succ]
  generalize 10000 ^ n = P at *
  omega
theorem valL_eq_zero : ∀ {l : List Nat}, valL l = 0 → ∀ x ∈ l, x = 0
  | [], _, x, hx => by cases hx
  | y :: t, h, x, hx => by
    rw [valL] at h
    rcases List.mem_cons.1 hx with rfl | hx
    · omega
    · exact valL_eq_zero (l := t) (by omega) x hx
end Go.Proofs.YtjcpfmndkeiegaaGreatDoor.Rf
namespace Go.Proofs.YtjcpfmndkeiegaaGreatDoor.Rf
open Go.RowKit Go.Proofs.YtjcpfmndkeiegaaGreatDoor
set_option linter.unusedVariables false

/-- A store into another block. -/
theorem cell_far {w : World} {p : Addr} {g i : Nat} (h : p.block ≠ g) (u : Value) : (w.setCell ⟨g, i, none⟩ u).cell? p = w.cell? p := by
  unfold World.cell?
  rw [Below.heap_setCell w ⟨g, i, none⟩ u p.block h]
theorem add_block (x : Addr) (i : Nat) : (x.add i).block = x.block := by unfold Addr.add; split <;> rfl
/-- A block of ints. -/
def IntB (w : World) (b : Nat) : Prop := ∃ cur, w.heap[b]? = some (.cells cur 3 (0, 0))
theorem IntB.lt {w : World} {b : Nat} (h : IntB w b) : b < w.heap.size := by
  obtain ⟨cur, h⟩ := h
  exact (Array.getElem?_eq_some_iff.1 h).1
theorem IntB.far {w : World} {b : Nat} {p : Addr} (h : IntB w b) (hp : b ≠ p.block) (u : Value) : IntB (w.setCell p u) b := by
  obtain ⟨cur, h⟩ := h
  exact ⟨cur, (Below.heap_setCell w p u b hp).trans h⟩
theorem IntB.keep {w w' : World} {b : Nat} (h : IntB w b) (hk : KeepT 3 w w') : IntB w' b := by
  obtain ⟨cur, h⟩ := h
  exact ⟨cur, hk b cur h⟩
theorem IntB.below {w w' : World} {b : Nat} (h : IntB w b) (hB : Below w.heap.size w w') : IntB w' b := by
  obtain ⟨cur, h⟩ := h
  exact ⟨cur, (hB.block b (Array.getElem?_eq_some_iff.1 h).1).trans h⟩
/-- Digits as they lie. -/
def RdD (w : World) (a : Option Addr) (l : List Nat) : Prop := ∀ i (h : i < l.length), ∃ x, a = some x ∧ IntB w x.block ∧ w.cell? (x.add i) = some (.int .i64 (l[i] : Nat))
theorem RdD.below {w w' : World} {a : Option Addr} {l : List Nat} (h : RdD w a l) (hB : Below w.heap.size w w') : RdD w' a l := fun i hi => by
  obtain ⟨x, h1, h2, h3⟩ := h i hi
  exact ⟨x, h1, h2.below hB, (hB.cell (p := x.add i) (by rw [add_block]; exact h2.lt)).trans h3⟩
theorem RdD.keep {w w' : World} {a : Option Addr} {l : List Nat} (h : RdD w a l) (hk : KeepT 3 w w') : RdD w' a l := fun i hi => by
  obtain ⟨x, h1, ⟨cur, hb⟩, h3⟩ := h i hi
  refine ⟨x, h1, ⟨cur, hk _ cur hb⟩, ?_⟩
  rw [← h3]
  have hb' := hk _ cur hb
  have hblk : (x.add i).block = x.block := add_block x i
  unfold World.cell?
  rw [hblk, hb, hb']
theorem RdD.nil (w : World) (a : Option Addr) : RdD w a [] := fun i hi => absurd hi (by simp)
theorem RdD.take {w : World} {a : Option Addr} {l : List Nat} (h : RdD w a l) (k : Nat) : RdD w a (l.take k) := fun i hi => by
  rw [List.length_take] at hi
  obtain ⟨x, h1, h2, h3⟩ := h i (by omega)
  exact ⟨x, h1, h2, by rw [h3, List.getElem_take]⟩
/-- A number as it lies: its digits. -/
def DgAt (w : World) (v : Value) (n : Nat) : Prop := ∃ a c, v = .slice a (szN n) c ∧ szN n ≤ c ∧ RdD w a (limbs n) ∧ (a = none → c = 0)
theorem DgAt.below {w w' : World} {v : Value} {n : Nat} (h : DgAt w v n) (hB : Below w.heap.size w w') : DgAt w' v n := by
  obtain ⟨a, c, h1, h2, h3, h4⟩ := h
  exact ⟨a, c, h1, h2, h3.below hB, h4⟩
/-- A number of the call's own. -/
def DgNew (B : Nat) (w : World) (v : Value) (n : Nat) : Prop := ∃ a c, v = .slice a (szN n) c ∧ szN n ≤ c ∧ RdD w a (limbs n) ∧ (∀ x, a = some x → B ≤ x.block) ∧ (a = none → c = 0)
theorem DgNew.keep {B : Nat} {w w' : World} {v : Value} {n : Nat} (h : DgNew B w v n) (hk : KeepT 3 w w') : DgNew B w' v n := by
  obtain ⟨a, c, h1, h2, h3, h4, h5⟩ := h
  exact ⟨a, c, h1, h2, h3.keep hk, h4, h5⟩
theorem DgAt.keep {w w' : World} {v : Value} {n : Nat} (h : DgAt w v n) (hk : KeepT 3 w w') : DgAt w' v n := by
  obtain ⟨a, c, h1, h2, h3, h4⟩ := h
  exact ⟨a, c, h1, h2, h3.keep hk, h4⟩
theorem DgNew.at {B : Nat} {w : World} {v : Value} {n : Nat} (h : DgNew B w v n) : DgAt w v n := by
  obtain ⟨a, c, h1, h2, h3, -, h4⟩ := h
  exact ⟨a, c, h1, h2, h3, h4⟩
theorem DgNew.below {B : Nat} {w w' : World} {v : Value} {n : Nat} (h : DgNew B w v n) (hB : Below w.heap.size w w') : DgNew B w' v n := by
  obtain ⟨a, c, h1, h2, h3, h4, h5⟩ := h
  exact ⟨a, c, h1, h2, h3.below hB, h4, h5⟩
theorem DgNew.mono {B B' : Nat} {w : World} {v : Value} {n : Nat} (h : DgNew B w v n) (hb : B' ≤ B) : DgNew B' w v n := by
  obtain ⟨a, c, h1, h2, h3, h4, h5⟩ := h
  exact ⟨a, c, h1, h2, h3, fun x e => Nat.le_trans hb (h4 x e), h5⟩
theorem DgNew.far {B g i : Nat} {w : World} {v : Value} {n : Nat} (h : DgNew B w v n) (hg : g < B) (u : Value) : DgNew B (w.setCell ⟨g, i, none⟩ u) v n := by
  obtain ⟨a, c, h1, h2, h3, h4, h5⟩ := h
  refine ⟨a, c, h1, h2, fun j hj => ?_, h4, h5⟩
  obtain ⟨x, e, hx, hc⟩ := h3 j hj
  have hne : x.block ≠ g := by have := h4 x e; omega
  refine ⟨x, e, hx.far (p := ⟨g, i, none⟩) hne u, ?_⟩
  rw [← hc]
  exact cell_far (by rw [add_block]; exact hne) u
set_option maxRecDepth 20000 in
set_option maxHeartbeats 2000000 in
theorem trim_any {w : World} {a : Option Addr} {n c : Nat} {l : List Nat} (hr : RdD w a l) (hl : l.length = n) (hn : n ≤ c) (hd : Lim l) (hlim : n ≤ 100000000) :
    Calls Tryz.prog 70 #[.slice a n c] w fun e w' => e = .returned (.slice a (szN (valL l)) c) ∧ w = w' := by
  have HR := Lib.hid hr
  have HL := Lib.hid hl
  have HD := Lib.hid hd
  clear hr hl hd
  go_enter Tryz.func70, Tryz.ntmps70
  go_wp2
  go_loop [0] (fun v => ∃ k : Nat, v = .slice a k c ∧ k ≤ n ∧ Hid (∀ x ∈ l.drop k, x = 0)) (fun v => match v with | .slice _ k _ => k | _ => 0)
  case atStart => exact ⟨n, rfl, Nat.le_refl _, Lib.hid (by rw [List.drop_of_length_le (by rw [HL.out]; exact Nat.le_refl _)]; intro x hx; cases hx)⟩
  case round =>
    obtain ⟨k, rfl, hk, hz⟩ := hrel
    by_cases h0 : 0 < k
    · obtain ⟨j, hj⟩ : ∃ j, k = j + 1 := ⟨k - 1, by omega⟩
      obtain ⟨x, rfl, hxb, hxc⟩ := HR.out j (by rw [HL.out]; omega)
      obtain ⟨d, hd⟩ : ∃ d, l[j]'(by rw [HL.out]; omega) = d := ⟨_, rfl⟩
      rw [hd] at hxc
      have h0I : (0 : Int) < (k : Int) := by omega
      have hjI : (k : Int) - 1 = (j : Int) := by omega
      have hjk : j < k := by omega
      have hjc : (j : Int) ≤ (c : Int) := by omega
      have HDe := Lib.hid (show l.getD j 0 = d by rw [List.getD, List.getElem?_eq_getElem (by rw [HL.out]; omega), Option.getD_some, hd])
      have HJ := Lib.hid hj
      clear hd hj
      by_cases hd0 : d = 0
      · subst hd0
        go_wp2
        refine ⟨⟨j, rfl, by omega, ?_⟩, by omega⟩
        refine Lib.hid ?_
        have hjl : j < l.length := by rw [HL.out]; omega
        rw [List.drop_eq_getElem_cons hjl]
        intro x hx
        rcases List.mem_cons.1 hx with rfl | hx
        · have := HDe.out; rwa [List.getD, List.getElem?_eq_getElem hjl, Option.getD_some] at this
        · exact hz.out x (by rw [HJ.out]; exact hx)
      · have hdI : ((d : Int) == 0) = false := beq_eq_false_iff_ne.2 (by omega)
        go_wp2
        go_ret
        have e : szN (valL l) = k := by
          have := limbs_take HD.out k (by rw [HL.out]; exact hk) hz.out (.inr (by
            rw [show k - 1 = j by rw [HJ.out]; rfl, HDe.out]
            exact hd0))
          rw [← limbs_len, this, List.length_take, HL.out]
          omega
        exact ⟨by rw [e]; rfl, rfl⟩
    · obtain rfl : k = 0 := by omega
      go_wp2
      go_ret
      have e : szN (valL l) = 0 := by
        have := limbs_take HD.out 0 (Nat.zero_le _) hz.out (.inl rfl)
        rw [← limbs_len, this]; rfl
      exact ⟨by rw [e]; rfl, rfl⟩
/-- What trim leaves is the number. -/
theorem trim_dg {w : World} {a : Option Addr} {n c : Nat} {l : List Nat} (hr : RdD w a l) (hl : l.length = n) (hn : n ≤ c) (hd : Lim l) : szN (valL l) ≤ n ∧ RdD w a (limbs (valL l)) := by
  have hs : szN (valL l) ≤ l.length := szN_le (valL_lt hd)
  refine ⟨by omega, ?_⟩
  have e : limbs (valL l) = l.take (szN (valL l)) := by
    have h1 : valL (l.take (szN (valL l))) = valL l := by
      have h2 := valL_drop l (szN (valL l))
      rw [Nat.min_eq_left hs] at h2
      have h3 := szN_lt (valL l)
      have h4 : valL (l.drop (szN (valL l))) = 0 := no_carry h2.symm h3
      rw [h4] at h2
      omega
    have h5 := valL_drop l (szN (valL l))
    rw [Nat.min_eq_left hs, h1] at h5
    have h6 : valL (l.drop (szN (valL l))) = 0 := by
      have h7 : 0 < 10000 ^ szN (valL l) := Nat.pow_pos (by decide)
      rcases Nat.eq_zero_or_pos (valL (l.drop (szN (valL l)))) with h | h
      · exact h
      · have := Nat.mul_pos h7 h
        omega
    by_cases h0 : valL l = 0
    · rw [h0, szN_zero, limbs_zero]; rfl
    · refine limbs_take hd _ hs (fun x hx => ?_) (.inr ?_)
      · exact valL_eq_zero h6 x hx
      · intro hz
        have h8 : valL (l.take (szN (valL l))) < 10000 ^ (szN (valL l) - 1) := by
          have h9 := szN_pos h0
          obtain ⟨m, hm⟩ : ∃ m, szN (valL l) = m + 1 := ⟨szN (valL l) - 1, by omega⟩
          rw [hm] at hz hs ⊢
          rw [Nat.add_sub_cancel] at hz ⊢
          rw [valL_take_succ l m (by omega)]
          rw [List.getD, List.getElem?_eq_getElem (by omega), Option.getD_some] at hz
          rw [hz, Nat.mul_zero, Nat.add_zero]
          have := valL_lt (hd.take m)
          rwa [List.length_take, Nat.min_eq_left (by omega)] at this
        have := szN_ge h0
        omega
  rw [e]
  exact hr.take _
end Go.Proofs.YtjcpfmndkeiegaaGreatDoor.Rf
namespace Go.Proofs.YtjcpfmndkeiegaaGreatDoor.Rf
open Go.RowKit Go.Proofs.YtjcpfmndkeiegaaGreatDoor
set_option linter.unusedVariables false

theorem below_drewN' {B : Nat} {a w : World} (h : Below B a w) (n : Nat) : Below B a (w.drewN n) := ⟨h.os, h.tape, h.output, h.size, h.block⟩
/-- How two numbers compare. -/
def cmpN (a b : Nat) : Int := if a < b then -1 else if b < a then 1 else 0
theorem cmp_lt' {a b : Nat} (h : a < b) : cmpN a b = -1 := if_pos h
theorem cmp_gt' {a b : Nat} (h : b < a) : cmpN a b = 1 := by unfold cmpN; rw [if_neg (by omega), if_pos h]
theorem cmp_eq' {a b : Nat} (h : a = b) : cmpN a b = 0 := by unfold cmpN; rw [if_neg (by omega), if_neg (by omega)]
theorem cmp_less {a b j : Nat} (h : valL ((limbs a).drop (j + 1)) = valL ((limbs b).drop (j + 1))) (hx : (limbs a).getD j 0 < (limbs b).getD j 0) : a < b := by
  have h1 : valL ((limbs a).drop j) < valL ((limbs b).drop j) := by
    rw [valL_step (limbs a) j, valL_step (limbs b) j, h]; omega
  have := valL_drop_lt (limbs_lim a) (limbs_lim b) h1
  rwa [limbs_val, limbs_val] at this
theorem less_sz {a b : Nat} (h : szN a < szN b) : a < b := Nat.lt_of_not_le fun hle => by have := szN_mono hle; omega
theorem RdD.at {w : World} {a : Option Addr} {l : List Nat} (h : RdD w a l) {i : Nat} (hi : i < l.length) : ∃ x, a = some x ∧ x.block < w.heap.size ∧ w.cell? (x.add i) = some (.int .i64 (l.getD i 0 : Nat)) := by
  obtain ⟨x, h1, h2, h3⟩ := h i hi
  exact ⟨x, h1, h2.lt, by rw [h3, List.getD, List.getElem?_eq_getElem hi]; rfl⟩
set_option maxRecDepth 20000 in
set_option maxHeartbeats 4000000 in
theorem cmp_any {w : World} {a b : Option Addr} {n m c d x y : Nat} {la lb : List Nat} (ha : RdD w a la) (hla : la.length = n) (hn : n ≤ c) (hda : Lim la) (hxa : valL la = x) (hb : RdD w b lb) (hlb : lb.length = m) (hm : m ≤ d) (hdb : Lim lb) (hxb : valL lb = y)
    (hlim : n ≤ 100000000) (hlim2 : m ≤ 100000000) :
    Calls Tryz.prog 74 #[.slice a n c, .slice b m d] w fun e w' => e = .returned (.int .i64 (cmpN x y)) ∧ Below w.heap.size w w' := by
  have HT1 := Lib.hid (trim_any ha hla hn hda hlim)
  have HT2 := Lib.hid (trim_any hb hlb hm hdb hlim2)
  obtain ⟨hs1, hr1⟩ := trim_dg ha hla hn hda
  obtain ⟨hs2, hr2⟩ := trim_dg hb hlb hm hdb
  rw [hxa] at HT1 hs1 hr1
  rw [hxb] at HT2 hs2 hr2
  obtain ⟨p, hp⟩ : ∃ p, szN x = p := ⟨_, rfl⟩
  obtain ⟨q, hq⟩ : ∃ q, szN y = q := ⟨_, rfl⟩
  rw [hp] at HT1 hs1
  rw [hq] at HT2 hs2
  have HR1 := Lib.hid hr1
  have HR2 := Lib.hid hr2
  have HP := Lib.hid hp
  have HQ := Lib.hid hq
  clear ha hla hn hda hxa hb hlb hm hdb hxb hr1 hr2 hp hq
  by_cases hpq : p = q
  · subst hpq
    have HL1 := Lib.hid (show (limbs x).length = p from HP.out)
    have HL2 := Lib.hid (show (limbs y).length = p from HQ.out)
    go_enter Tryz.func74, Tryz.ntmps74
    go_wp2_with fail
    refine HT1.out.mono ?_
    rintro e w1 ⟨rfl, rfl⟩
    go_wp2_with fail
    refine HT2.out.mono ?_
    rintro e w1 ⟨rfl, rfl⟩
    clear HT1 HT2
    go_wp2
    go_loopw [5] (fun v W => ∃ k : Nat, v = .int .i64 ((k : Int) - 1) ∧ k ≤ p ∧ Hid (valL ((limbs x).drop k) = valL ((limbs y).drop k)) ∧ Below w.heap.size w W) (fun v W => (intOf v + 1).toNat)
    case atStart => exact ⟨p, rfl, Nat.le_refl _, Lib.hid (by rw [List.drop_of_length_le (by rw [HL1.out]; exact Nat.le_refl _), List.drop_of_length_le (by rw [HL2.out]; exact Nat.le_refl _)]), Below.refl _ _⟩
    case round =>
      obtain ⟨k, rfl, hk, hv, hB⟩ := hrel
      have HB := Lib.hid hB
      clear hB
      by_cases hlt : 0 < k
      · obtain ⟨j, rfl⟩ : ∃ j, k = j + 1 := ⟨k - 1, by omega⟩
        obtain ⟨u, rfl, hub, huc⟩ := (HR1.out.below HB.out).at (i := j) (by rw [HL1.out]; omega)
        obtain ⟨t, rfl, htb, htc⟩ := (HR2.out.below HB.out).at (i := j) (by rw [HL2.out]; omega)
        obtain ⟨s1, h1⟩ : ∃ s1, (limbs x).getD j 0 = s1 := ⟨_, rfl⟩
        obtain ⟨s2, h2⟩ : ∃ s2, (limbs y).getD j 0 = s2 := ⟨_, rfl⟩
        rw [h1] at huc
        rw [h2] at htc
        have H1 := Lib.hid h1
        have H2 := Lib.hid h2
        clear h1 h2
        by_cases hs : s1 = s2
        · have hne : ((s1 : Int) != (s2 : Int)) = false := by simp [hs]
          have HS := Lib.hid hs
          clear hs
          go_wp2
          go_quiet (fail)
          go_wp2
          exact ⟨⟨j, rfl, by omega, Lib.hid (by rw [valL_step (limbs x) j, valL_step (limbs y) j, H1.out, H2.out, HS.out, hv.out]), below_drewN' HB.out _⟩, by simp only [intOf]; omega⟩
        · have hne : ((s1 : Int) != (s2 : Int)) = true := bne_iff_ne.2 (by omega)
          by_cases hlt2 : s1 < s2
          · have HS := Lib.hid hlt2
            go_wp2
            go_quiet (fail)
            go_wp2
            go_quiet (fail)
            go_wp2
            go_ret
            exact ⟨ret_int (cmp_lt' (cmp_less hv.out (by rw [H1.out, H2.out]; exact HS.out))).symm, below_drewN' (below_drewN' HB.out _) _⟩
          · have hgt : s2 < s1 := by omega
            have HS := Lib.hid hgt
            go_wp2
            go_quiet (fail)
            go_wp2
            go_quiet (fail)
            go_wp2
            go_ret
            exact ⟨ret_int (cmp_gt' (cmp_less hv.out.symm (by rw [H1.out, H2.out]; exact HS.out))).symm, below_drewN' (below_drewN' HB.out _) _⟩
      · obtain rfl : k = 0 := by omega
        go_wp2
        go_ret
        have := hv.out
        rw [List.drop_zero, List.drop_zero, limbs_val, limbs_val] at this
        exact ⟨ret_int (cmp_eq' this).symm, HB.out⟩
  · have hne : ((p : Int) != (q : Int)) = true := bne_iff_ne.2 (by omega)
    by_cases hlt : p < q
    · have HC := Lib.hid (show cmpN x y = -1 from cmp_lt' (less_sz (by rw [HP.out, HQ.out]; exact hlt)))
      go_enter Tryz.func74, Tryz.ntmps74
      go_wp2_with fail
      refine HT1.out.mono ?_
      rintro e w1 ⟨rfl, rfl⟩
      go_wp2_with fail
      refine HT2.out.mono ?_
      rintro e w1 ⟨rfl, rfl⟩
      go_wp2
      go_ret
      exact ⟨ret_int HC.out.symm, Below.refl _ _⟩
    · have hgt : q < p := by omega
      have HC := Lib.hid (show cmpN x y = 1 from cmp_gt' (less_sz (by rw [HP.out, HQ.out]; exact hgt)))
      go_enter Tryz.func74, Tryz.ntmps74
      go_wp2_with fail
      refine HT1.out.mono ?_
      rintro e w1 ⟨rfl, rfl⟩
      go_wp2_with fail
      refine HT2.out.mono ?_
      rintro e w1 ⟨rfl, rfl⟩
      go_wp2
      go_ret
      exact ⟨ret_int HC.out.symm, Below.refl _ _⟩
end Go.Proofs.YtjcpfmndkeiegaaGreatDoor.Rf
namespace Go.Proofs.YtjcpfmndkeiegaaGreatDoor.Rf
open Go.RowKit Go.Proofs.YtjcpfmndkeiegaaGreatDoor
set_option linter.unusedVariables false

/-- A digit as a cell. -/
def dv (d : Nat) : Value := .int .i64 (d : Int)
def OwnD (w : World) (base : Nat) (v : Value) (L : List Nat) : Prop := w.ownsRow base 3 1 v L.length (L.map dv)
theorem OwnD.nil (w : World) (base : Nat) : OwnD w base (.slice none 0 0) [] := World.ownsRow_nil _ _ _ _
theorem OwnD.rd {w : World} {base : Nat} {v : Value} {L : List Nat} (h : OwnD w base v L) : ∃ a c, v = .slice a L.length c ∧ L.length ≤ c ∧ RdD w a L ∧ (∀ x, a = some x → base ≤ x.block) ∧ (a = none → c = 0) := by
  rcases h.2 with ⟨rfl, h0⟩ | ⟨g, cap, cur, rfl, hb, hg, h1, h2, h3, h4⟩
  · exact ⟨none, 0, by rw [h0], by omega, fun i hi => by omega, (fun x e => by cases e), fun _ => rfl⟩
  · refine ⟨_, _, rfl, h1, fun i hi => ⟨_, rfl, ⟨_, hg⟩, ?_⟩, (fun x e => by cases e; exact hb), fun e => by cases e⟩
    exact h.cells (g := g) rfl i _ (by rw [List.getElem?_map, List.getElem?_eq_getElem hi]; rfl)
theorem cells0 {w : World} {g i : Nat} {o : Option Value} (h : w.cell? ((⟨g, 0, none⟩ : Addr).add i) = o) : w.cell? ⟨g, i, none⟩ = o := by
  have hadd : (⟨g, 0, none⟩ : Addr).add i = ⟨g, i, none⟩ := by unfold Addr.add; split <;> simp_all
  rwa [hadd] at h
theorem OwnD.form {w : World} {base : Nat} {v : Value} {L : List Nat} (h : OwnD w base v L) (hn : 0 < L.length) : ∃ g c, v = .slice (some ⟨g, 0, none⟩) L.length c ∧ base ≤ g ∧ g < w.heap.size ∧ L.length ≤ c ∧ (∀ i (hi : i < L.length), w.cell? ⟨g, i, none⟩ = some (.int .i64 (L[i] : Nat))) ∧ (∀ i, w.frozen? ⟨g, i, none⟩ = false) ∧
    ∀ i x, i < L.length → OwnD (w.setCell ⟨g, i, none⟩ (.int .i64 (x : Nat))) base v (L.set i x) := by
  rcases h.2 with ⟨rfl, h0⟩ | ⟨g, cap, cur, rfl, hb, hg, h1, h2, h3, h4⟩
  · omega
  · have hB : BlkAt w g 3 cur := hg
    refine ⟨g, cap, rfl, hb, hB.lt, h1, fun i hi => ?_, fun i => hB.frozen i, fun i x hi => ?_⟩
    · rw [hB.cell i]
      have : (cur.toList.take (L.length * 1))[i]? = cur[i]? := by rw [List.getElem?_take_of_lt (by omega)]; simp
      rw [← this, h4]; simp [hi, dv]
    · refine ⟨by simp, .inr ⟨g, cap, cur.setIfInBounds i (dv x), by simp, hb, hB.set i _, by simpa using h1, h2, by simpa using h3, ?_⟩⟩
      rw [List.length_set, Array.toList_setIfInBounds, List.take_set, h4, List.map_set]
theorem rowKept {w w' : World} {base : Nat} {e : TypeId} {size : Nat} {v : Value} {n : Nat} {xs : List Value} (h : w.ownsRow base e size v n xs) (hB : Below w.heap.size w w') : w'.ownsRow base e size v n xs :=
  h.kept (grown_none hB) (by
    rcases h.2 with ⟨rfl, _⟩ | ⟨g, cap, cur, rfl, _⟩
    · exact .inl rfl
    · exact .inr (by simp [Value.ownBlock]))
theorem OwnD.below {w w' : World} {base : Nat} {v : Value} {L : List Nat} (h : OwnD w base v L) (hB : Below w.heap.size w w') : OwnD w' base v L := rowKept h hB
set_option maxRecDepth 100000 in
theorem slD : SlT Tryz.prog 31 3 1 8 := SlT.mk Tryz.underlying31 (z := .int .i64 0) (by kernel_rfl) rfl (by decide) (by decide)
/-- The loop of Sub. -/
def SubL (la lb : List Nat) (T : Nat) (w : World) (v t p : Value) (W : World) : Prop :=
  ∃ k D tk, p = .int .i64 (k : Nat) ∧ t = .int .i64 (tk : Nat) ∧ k ≤ la.length ∧ D.length = k ∧ Lim D ∧ tk ≤ 1 ∧ Hid (valL D + 10000 ^ k * valL (la.drop k) = T + 10000 ^ k * (tk + valL (lb.drop k))) ∧ OwnD W w.heap.size v D ∧ Below w.heap.size w W
theorem sub_end {D lb : List Nat} {la : List Nat} {T tk : Nat} (hD : Lim D) (hl : D.length = la.length) (h : valL D + 10000 ^ la.length * valL (la.drop la.length) = T + 10000 ^ la.length * (tk + valL (lb.drop la.length))) : valL D = T := by
  rw [List.drop_of_length_le (Nat.le_refl la.length), valL, Nat.mul_zero, Nat.add_zero] at h
  have h1 := valL_lt hD
  rw [hl] at h1
  have h2 := no_carry h.symm h1
  rw [h2, Nat.mul_zero, Nat.add_zero] at h
  exact h
set_option maxRecDepth 100000 in
set_option maxHeartbeats 8000000 in
theorem sub_any {w : World} {a b : Option Addr} {n m c d x y : Nat} {la lb : List Nat} (ha : RdD w a la) (hla : la.length = n) (hda : Lim la) (hxa : valL la = x) (hb : RdD w b lb) (hlb : lb.length = m) (hdb : Lim lb) (hxb : valL lb = y)
    (hyx : y ≤ x) (hlim : n ≤ 10000000) (hlim2 : m ≤ 10000000) :
    Calls Tryz.prog 78 #[.slice a n c, .slice b m d] w fun e w' => ∃ v, e = .returned v ∧ DgNew w.heap.size w' v (x - y) ∧ Below w.heap.size w w' := by
  have HA := Lib.hid ha
  have HLa := Lib.hid hla
  have HDa := Lib.hid hda
  have HB := Lib.hid hb
  have HLb := Lib.hid hlb
  have HDb := Lib.hid hdb
  have H0 := Lib.hid (show SubL la lb (x - y) w (.slice none 0 0) (.int .i64 0) (.int .i64 0) w from ⟨0, [], 0, rfl, rfl, Nat.zero_le _, rfl, Lim.nil, by omega, Lib.hid (by simp [valL]; omega), OwnD.nil w _, Below.refl _ _⟩)
  clear ha hla hda hxa hb hlb hdb hxb
  go_enter Tryz.func78, Tryz.ntmps78
  go_wp2
  go_loopw [5, 6, 7] (fun v t p W => SubL la lb (x - y) w v t p W) (fun v t p W => n - (intOf p).toNat)
  case atStart => exact H0.out
  case round =>
    obtain ⟨k, D, tk, rfl, rfl, hk, hDl, hD, htk, hv, ho, hBl⟩ := hrel
    rw [HLa.out] at hk
    have HBl := Lib.hid hBl
    have hol := ho
    unfold OwnD at hol
    rw [hDl] at hol
    obtain ⟨va, vc, rfl⟩ := ownsRow_slice' hol
    have HO := Lib.hid hol
    have HD := Lib.hid hD
    have HDl := Lib.hid hDl
    have htkI : (tk : Int) ≤ 1 := by omega
    have hkI : (k : Int) ≤ 10000000 := by omega
    by_cases hlt : k < n
    · obtain ⟨u, rfl, hub, huc⟩ := (HA.out.below HBl.out).at (i := k) (by rw [HLa.out]; exact hlt)
      have hvv := hv.out
      rw [valL_step la k, valL_step lb k] at hvv
      have hpb := HDa.out.getD k
      have hqb := HDb.out.getD k
      obtain ⟨p, hp⟩ : ∃ p, la.getD k 0 = p := ⟨_, rfl⟩
      obtain ⟨q, hq⟩ : ∃ q, lb.getD k 0 = q := ⟨_, rfl⟩
      rw [hp] at huc hvv hpb
      rw [hq] at hvv hqb
      have hpI : (p : Int) ≤ 9999 := by omega
      have hqI : (q : Int) ≤ 9999 := by omega
      have hdig : ∃ dd w' : Nat, p + 10000 * w' = dd + (tk + q) ∧ dd < 10000 ∧ w' ≤ 1 ∧ (w' = 0 → (p : Int) - tk - q = dd) ∧ (w' = 1 → (p : Int) - tk - q + 10000 = dd) ∧ (w' = 0 ↔ tk + q ≤ p) := by
        by_cases hge : tk + q ≤ p
        · exact ⟨p - (tk + q), 0, by omega, by omega, by omega, fun _ => by omega, fun h => by omega, by omega⟩
        · exact ⟨p + 10000 - (tk + q), 1, by omega, by omega, by omega, fun h => by omega, fun _ => by omega, by omega⟩
      obtain ⟨dd, w', e1, e2, e3, e4, e5, e6⟩ := hdig
      have HS := Lib.hid (sub_step hDl hvv e1)
      have HDn := Lib.hid (show Lim (D ++ [dd]) from hD.append (Lim.cons e2 Lim.nil))
      have hddI : (dd : Int) ≤ 9999 := by omega
      have hdd0 : 0 ≤ (dd : Int) := by omega
      clear hvv hp hpb hqb hD hDl ho hol hBl hv hub
      have hw01 : w' = 0 ∨ w' = 1 := by omega
      by_cases hkm : k < m
      · obtain ⟨t, rfl, htb, htc⟩ := (HB.out.below HBl.out).at (i := k) (by rw [HLb.out]; exact hkm)
        rw [hq] at htc
        clear hq htb
        rcases hw01 with hw | hw
        · have HW := Lib.hid hw
          have e7 : (p : Int) - tk - q = dd := by have := e4 hw; omega
          clear e1 e3 e4 e5 e6 hw
          go_wp2_with (at_builtin; refine wpList_app _ rfl _ _ _ _ _ _ slD rfl w.heap.size w (HBl.out.alloc HBl.out.size _) (by have := HBl.out.size; rw [World.size_alloc]; omega) _ _ _ rfl (HO.out.alloc _) ⟨wr.heap.size, 0, none⟩ #[.int .i64 (dd : Int)].toList rfl rfl (news_blk (BlkAt.new wr 3 #[.int .i64 (dd : Int)])) (by intro u hu; simp at hu; subst hu; rfl) (by omega) ?_; intro v6 w6 ho6 hB6 hb6 hg6)
          have ho7 : OwnD w6 w.heap.size v6 (D ++ [dd]) := by unfold OwnD; rw [List.length_append, HDl.out, List.map_append]; exact ho6
          exact ⟨⟨k + 1, D ++ [dd], w', by go_num, by rw [HW.out]; rfl, by rw [HLa.out]; omega, by rw [List.length_append, HDl.out]; rfl, HDn.out, by rw [HW.out]; omega, HS, ho7, hB6⟩, by simp only [intOf]; omega⟩
        · have HW := Lib.hid hw
          have e7 : (p : Int) - tk - q + 10000 = dd := by have := e5 hw; omega
          have hneg : (p : Int) - tk - q < 0 := by omega
          clear e1 e3 e4 e5 e6 hw
          go_wp2_with (at_builtin; refine wpList_app _ rfl _ _ _ _ _ _ slD rfl w.heap.size w (HBl.out.alloc HBl.out.size _) (by have := HBl.out.size; rw [World.size_alloc]; omega) _ _ _ rfl (HO.out.alloc _) ⟨wr.heap.size, 0, none⟩ #[.int .i64 (dd : Int)].toList rfl rfl (news_blk (BlkAt.new wr 3 #[.int .i64 (dd : Int)])) (by intro u hu; simp at hu; subst hu; rfl) (by omega) ?_; intro v6 w6 ho6 hB6 hb6 hg6)
          have ho7 : OwnD w6 w.heap.size v6 (D ++ [dd]) := by unfold OwnD; rw [List.length_append, HDl.out, List.map_append]; exact ho6
          exact ⟨⟨k + 1, D ++ [dd], w', by go_num, by rw [HW.out]; rfl, by rw [HLa.out]; omega, by rw [List.length_append, HDl.out]; rfl, HDn.out, by rw [HW.out]; omega, HS, ho7, hB6⟩, by simp only [intOf]; omega⟩
      · have hq0 : q = 0 := by rw [← hq, List.getD, List.getElem?_eq_none (by rw [HLb.out]; omega)]; rfl
        clear hq
        subst hq0
        rcases hw01 with hw | hw
        · have HW := Lib.hid hw
          have e7 : (p : Int) - tk = dd := by have := e4 hw; omega
          clear e1 e3 e4 e5 e6 hw
          go_wp2_with (at_builtin; refine wpList_app _ rfl _ _ _ _ _ _ slD rfl w.heap.size w (HBl.out.alloc HBl.out.size _) (by have := HBl.out.size; rw [World.size_alloc]; omega) _ _ _ rfl (HO.out.alloc _) ⟨wr.heap.size, 0, none⟩ #[.int .i64 (dd : Int)].toList rfl rfl (news_blk (BlkAt.new wr 3 #[.int .i64 (dd : Int)])) (by intro u hu; simp at hu; subst hu; rfl) (by omega) ?_; intro v6 w6 ho6 hB6 hb6 hg6)
          have ho7 : OwnD w6 w.heap.size v6 (D ++ [dd]) := by unfold OwnD; rw [List.length_append, HDl.out, List.map_append]; exact ho6
          exact ⟨⟨k + 1, D ++ [dd], w', by go_num, by rw [HW.out]; rfl, by rw [HLa.out]; omega, by rw [List.length_append, HDl.out]; rfl, HDn.out, by rw [HW.out]; omega, HS, ho7, hB6⟩, by simp only [intOf]; omega⟩
        · have HW := Lib.hid hw
          have e7 : (p : Int) - tk + 10000 = dd := by have := e5 hw; omega
          have hneg : (p : Int) - tk < 0 := by omega
          clear e1 e3 e4 e5 e6 hw
          go_wp2_with (at_builtin; refine wpList_app _ rfl _ _ _ _ _ _ slD rfl w.heap.size w (HBl.out.alloc HBl.out.size _) (by have := HBl.out.size; rw [World.size_alloc]; omega) _ _ _ rfl (HO.out.alloc _) ⟨wr.heap.size, 0, none⟩ #[.int .i64 (dd : Int)].toList rfl rfl (news_blk (BlkAt.new wr 3 #[.int .i64 (dd : Int)])) (by intro u hu; simp at hu; subst hu; rfl) (by omega) ?_; intro v6 w6 ho6 hB6 hb6 hg6)
          have ho7 : OwnD w6 w.heap.size v6 (D ++ [dd]) := by unfold OwnD; rw [List.length_append, HDl.out, List.map_append]; exact ho6
          exact ⟨⟨k + 1, D ++ [dd], w', by go_num, by rw [HW.out]; rfl, by rw [HLa.out]; omega, by rw [List.length_append, HDl.out]; rfl, HDn.out, by rw [HW.out]; omega, HS, ho7, hB6⟩, by simp only [intOf]; omega⟩
    · obtain rfl : k = n := by omega
      have he : valL D = x - y := sub_end (la := la) (lb := lb) (tk := tk) HD.out (by rw [HDl.out, HLa.out]) (by rw [HLa.out]; exact hv.out)
      obtain ⟨va', vc', hve, hvl, hvr, hvb, hvn⟩ := OwnD.rd ho
      simp only [Value.slice.injEq] at hve
      obtain ⟨rfl, -, rfl⟩ := hve
      rw [HDl.out] at hvl
      have HT := Lib.hid (trim_any hvr hDl hvl hD (by omega))
      obtain ⟨hs1, hs2⟩ := trim_dg hvr hDl hvl hD
      rw [he] at HT hs1 hs2
      have HN := Lib.hid (show DgNew w.heap.size wr (.slice va (szN (x - y)) vc) (x - y) from ⟨va, vc, rfl, Nat.le_trans hs1 hvl, hs2, hvb, hvn⟩)
      clear he hvr hs2 hvb hvn ho hol hDl hD hv hBl
      go_wp2_with fail
      refine HT.out.mono ?_
      rintro e w6 ⟨rfl, rfl⟩
      go_wp2
      go_ret
      exact ⟨_, rfl, HN.out, HBl.out⟩
end Go.Proofs.YtjcpfmndkeiegaaGreatDoor.Rf
namespace Go.Proofs.YtjcpfmndkeiegaaGreatDoor.Rf
open Go.RowKit Go.Proofs.YtjcpfmndkeiegaaGreatDoor
set_option linter.unusedVariables false

theorem infoD : (Tryz.prog.info? 3).map (fun i => (i.zero, i.size, i.bytes)) = some (some (.int .i64 0), 1, 8) := by kernel_rfl
theorem made_cells (n : Nat) : (madeCells #[.int .i64 0] (n * 1)).toList = (List.replicate n 0).map dv := by
  apply List.ext_getElem?
  intro j
  by_cases hj : j < n
  · simp [madeCells, dv, hj, Nat.mod_one]
  · simp [madeCells, hj]
/-- 'make(Nat, N)'. -/
theorem make_any (w : World) (N : Nat) (hN : N ≤ 30000000) : ∃ w', (Instr.makeSlice 31 (.int .i64 (N : Int)) (.int .i64 (N : Int))).run Tryz.prog w = .ok (.slice (some ⟨w.heap.size, 0, none⟩) N N) w' ∧
    OwnD w' w.heap.size (.slice (some ⟨w.heap.size, 0, none⟩) N N) (List.replicate N 0) ∧ Below w.heap.size w w' := by
  obtain ⟨i0, hi, hz0, hz1, hz2⟩ := info_parts infoD
  obtain ⟨w', h1, h2, h3⟩ := run_make_full (P := Tryz.prog) w w.heap.size 31 3 i0 _ 1 Tryz.underlying31 hi hz0 hz1 .i64 .i64 N (by rw [hz2]; omega) (by unfold maxLen; omega) (Nat.le_refl _)
  refine ⟨w', h1, ?_, ⟨h3.os, h3.tape, h3.output, h3.size, fun k hk => h3.block k hk (by simp)⟩⟩
  unfold OwnD
  rw [List.length_replicate, ← made_cells]
  exact h2
theorem getD_set_ne (O : List Nat) {i j x : Nat} (h : i ≠ j) : (O.set i x).getD j 0 = O.getD j 0 := by
  rw [List.getD, List.getD, List.getElem?_set_ne h]
theorem getD_at {O : List Nat} {i : Nat} (h : i < O.length) : O[i] = O.getD i 0 := by rw [List.getD, List.getElem?_eq_getElem h]; rfl
theorem OwnD.put {w : World} {base g N c : Nat} {L : List Nat} (h : OwnD w base (.slice (some ⟨g, 0, none⟩) N c) L) (q : Nat) {i : Nat} (x : Nat) (hi : i < L.length) : OwnD ((w.drewN q).setCell ⟨g, i, none⟩ (.int .i64 (x : Int))) base (.slice (some ⟨g, 0, none⟩) N c) (L.set i x) := by
  have h0 : OwnD (w.drewN q) base (.slice (some ⟨g, 0, none⟩) N c) L := h
  obtain ⟨g', c', he, -, -, -, -, -, hset⟩ := h0.form (by omega)
  simp only [Value.slice.injEq, Option.some.injEq, Addr.mk.injEq] at he
  obtain ⟨⟨rfl, -⟩, -⟩ := he
  exact hset i x hi
/-- The outer loop of Mul. -/
def MulO (la : List Nat) (y m N : Nat) (w : World) (v p : Value) (W : World) : Prop :=
  ∃ k O, p = .int .i64 (k : Nat) ∧ k ≤ la.length ∧ O.length = N ∧ Lim O ∧ Hid (valL O = valL (la.take k) * y) ∧ Hid (∀ i, k + m ≤ i → O.getD i 0 = 0) ∧ OwnD W w.heap.size v O ∧ Below w.heap.size w W
/-- The inner loop of Mul. -/
def MulI (lb : List Nat) (xk k m N T0 : Nat) (w : World) (v c p : Value) (W : World) : Prop :=
  ∃ j O cy, p = .int .i64 (j : Nat) ∧ c = .int .i64 (cy : Nat) ∧ j ≤ m + 1 ∧ (j = m + 1 → cy = 0) ∧ O.length = N ∧ Lim O ∧ cy < 10000 ∧ Hid (valL O + 10000 ^ (k + j) * cy = T0 + 10000 ^ k * (xk * valL (lb.take j))) ∧ Hid (∀ i, k + max m j ≤ i → O.getD i 0 = 0) ∧ OwnD W w.heap.size v O ∧ Below w.heap.size w W
theorem mul_in {O : List Nat} {k j cy xk yj T0 V S : Nat} (h : k + j < O.length) (hS : O[k + j] + cy + xk * yj = S) (hv : valL O + 10000 ^ (k + j) * cy = T0 + 10000 ^ k * (xk * V)) :
    valL (O.set (k + j) (S % 10000)) + 10000 ^ (k + (j + 1)) * (S / 10000) = T0 + 10000 ^ k * (xk * (V + 10000 ^ j * yj)) := by
  have e : S = cy + (xk * yj + O[k + j]) := by omega
  rw [e, show k + (j + 1) = k + j + 1 by omega, mul_step h hv, Nat.pow_add]
  generalize 10000 ^ k = P
  generalize 10000 ^ j = Q
  grind
theorem mul_out {O : List Nat} {k j cy xk T0 V : Nat} (h : k + j < O.length) (h0 : O[k + j] = 0) (hv : valL O + 10000 ^ (k + j) * cy = T0 + 10000 ^ k * (xk * V)) :
    valL (O.set (k + j) cy) + 10000 ^ (k + (j + 1)) * 0 = T0 + 10000 ^ k * (xk * V) := by
  have h1 := valL_set O (k + j) cy h
  rw [h0, Nat.mul_zero, Nat.add_zero] at h1
  rw [h1, Nat.mul_zero, Nat.add_zero]
  exact hv
theorem mul_row {k xk T0 X y Y : Nat} (hT : T0 = X * y) (hY : Y = y) : T0 + 10000 ^ k * (xk * Y) = (X + 10000 ^ k * xk) * y := by
  rw [hT, hY]
  generalize 10000 ^ k = P
  grind
theorem dig_sum {o c x y : Nat} (h1 : o < 10000) (h2 : c < 10000) (h3 : x < 10000) (h4 : y < 10000) : (o + c + x * y) / 10000 < 10000 ∧ x * y ≤ 99980001 := by
  have : x * y ≤ 9999 * 9999 := Nat.mul_le_mul (by omega) (by omega)
  omega
set_option maxRecDepth 100000 in
set_option maxHeartbeats 8000000 in
theorem mul_any {w : World} {a b : Option Addr} {n m c d x y : Nat} {la lb : List Nat} (ha : RdD w a la) (hla : la.length = n) (hda : Lim la) (hxa : valL la = x) (hb : RdD w b lb) (hlb : lb.length = m) (hdb : Lim lb) (hxb : valL lb = y)
    (hlim : n ≤ 10000000) (hlim2 : m ≤ 10000000) :
    Calls Tryz.prog 76 #[.slice a n c, .slice b m d] w fun e w' => ∃ v, e = .returned v ∧ DgNew w.heap.size w' v (x * y) ∧ Below w.heap.size w w' := by
  have HA := Lib.hid ha
  have HLa := Lib.hid hla
  have HDa := Lib.hid hda
  have HXa := Lib.hid hxa
  have HB := Lib.hid hb
  have HLb := Lib.hid hlb
  have HDb := Lib.hid hdb
  have HXb := Lib.hid hxb
  obtain ⟨w3, hmk, ho3, hB3⟩ := make_any w (n + m + 1) (by omega)
  rw [show ((n + m + 1 : Nat) : Int) = (n : Int) + (m : Int) + 1 by omega] at hmk
  obtain ⟨g, hg⟩ : ∃ g, w.heap.size = g := ⟨_, rfl⟩
  have HG := Lib.hid hg
  have H0 := Lib.hid (show MulO la y m (n + m + 1) w (.slice (some ⟨g, 0, none⟩) (n + m + 1) (n + m + 1)) (.int .i64 0) w3 from ⟨0, _, rfl, Nat.zero_le _, List.length_replicate, Lim.replicate _, Lib.hid (by rw [valL_zero]; simp [valL]), Lib.hid (fun i _ => by rw [List.getD, List.getElem?_replicate]; split <;> rfl), by rw [← hg]; exact ho3, hB3⟩)
  rw [hg] at hmk
  have hn1 : (0 : Int) ≤ (n : Int) + (m : Int) + 1 := by omega
  have hn2 : (n : Int) + (m : Int) + 1 ≤ 30000000 := by omega
  clear ha hla hda hxa hb hlb hdb hxb ho3 hB3 hg
  go_enter Tryz.func76, Tryz.ntmps76
  go_wp2
  clear hmk
  go_loopw [6] (fun p W => MulO la y m (n + m + 1) w (.slice (some ⟨g, 0, none⟩) (n + m + 1) (n + m + 1)) p W) (fun p W => n - (intOf p).toNat)
  case atStart => exact H0.out
  case round =>
    obtain ⟨k, O, rfl, hk, hOl, hO, hv, hz, ho, hB⟩ := hrel
    rw [HLa.out] at hk
    have HBl := Lib.hid hB
    by_cases hlt : k < n
    · obtain ⟨u, rfl, hub, huc⟩ := (HA.out).at (i := k) (by rw [HLa.out]; exact hlt)
      have hpb := HDa.out.getD k
      have htk : valL (la.take (k + 1)) = valL (la.take k) + 10000 ^ k * la.getD k 0 := by
        rw [valL_take_succ _ _ (by rw [HLa.out]; exact hlt), getD_at]
      obtain ⟨xk, hxk⟩ : ∃ xk, la.getD k 0 = xk := ⟨_, rfl⟩
      rw [hxk] at huc hpb htk
      have HTk := Lib.hid htk
      have HC := Lib.hid (show ∀ W, Below w.heap.size w W → W.cell? (u.add k) = some (.int .i64 (xk : Nat)) from fun W hW => (hW.cell (p := u.add k) (by rw [add_block]; exact hub)).trans huc)
      obtain ⟨T0, hT0⟩ : ∃ T0, valL O = T0 := ⟨_, rfl⟩
      have HT0 := Lib.hid (show T0 = valL (la.take k) * y by rw [← hT0]; exact hv.out)
      have HI := Lib.hid (show MulI lb xk k m (n + m + 1) T0 w (.slice (some ⟨g, 0, none⟩) (n + m + 1) (n + m + 1)) (.int .i64 0) (.int .i64 0) wr from ⟨0, O, 0, rfl, rfl, Nat.zero_le _, fun h => rfl, hOl, hO, by omega, Lib.hid (by rw [hT0]; simp [valL]), Lib.hid (by rw [Nat.max_eq_left (Nat.zero_le _)]; exact hz.out), ho, hB⟩)
      have hxI : (xk : Int) ≤ 9999 := by omega
      have HXk := Lib.hid hpb
      obtain ⟨wo, hwo⟩ : ∃ wo : World, wo = wr := ⟨_, rfl⟩
      rw [← hwo] at HI HBl ⊢
      clear hub huc hpb htk hxk hT0 hv hz ho hB hOl hO hwo
      go_wp2
      go_loopw [7, 8] (fun c' p W => MulI lb xk k m (n + m + 1) T0 w (.slice (some ⟨g, 0, none⟩) (n + m + 1) (n + m + 1)) c' p W) (fun c' p W => m + 1 - (intOf p).toNat)
      case atStart => exact HI.out
      case round =>
        obtain ⟨j, O, cy, rfl, rfl, hj, hje, hOl, hO, hcy, hv, hz, ho, hB⟩ := hrel
        have HB2 := Lib.hid hB
        have HO := Lib.hid hO
        have HOl := Lib.hid hOl
        have hcI : (cy : Int) ≤ 9999 := by omega
        obtain ⟨g', c', he, hbg, hgl, hcc, hcell, hfr, hset⟩ := ho.form (by omega)
        simp only [Value.slice.injEq] at he
        obtain ⟨hgg, -, -⟩ := he
        obtain rfl : g = g' := by simpa using hgg
        have hua := HC.out wr HB2.out
        by_cases hjm : j < m
        · obtain ⟨t, rfl, htb, htc⟩ := (HB.out.below HB2.out).at (i := j) (by rw [HLb.out]; exact hjm)
          have hqb := HDb.out.getD j
          have htj : valL (lb.take (j + 1)) = valL (lb.take j) + 10000 ^ j * lb.getD j 0 := by
            rw [valL_take_succ _ _ (by rw [HLb.out]; exact hjm), getD_at]
          obtain ⟨yj, hyj⟩ : ∃ yj, lb.getD j 0 = yj := ⟨_, rfl⟩
          rw [hyj] at htc hqb htj
          have hc1 := hcell (k + j) (by omega)
          have hob := hO.get (i := k + j) (by omega)
          have hst := fun x => hset (k + j) x (by omega)
          have hfk := hfr (k + j)
          have HSt := Lib.hid hst
          obtain ⟨o, hoo⟩ : ∃ o, O[k + j]'(by omega) = o := ⟨_, rfl⟩
          rw [hoo] at hc1 hob
          obtain ⟨hd1, hd2⟩ := dig_sum hob hcy HXk.out hqb
          obtain ⟨S, hS⟩ : ∃ S, o + cy + xk * yj = S := ⟨_, rfl⟩
          have HV := Lib.hid (mul_in (S := S) (by omega) (by rw [hoo]; exact hS) hv.out)
          have HTj := Lib.hid htj
          rw [hS] at hd1
          have hSI : (o : Int) + (cy : Int) + (xk : Int) * (yj : Int) = (S : Int) := by rw [← hS]; push_cast; rfl
          have hP0 : (0 : Int) ≤ (xk : Int) * (yj : Int) := by rw [← Int.natCast_mul]; omega
          have hP1 : (xk : Int) * (yj : Int) ≤ 99980001 := by rw [← Int.natCast_mul]; omega
          have hoI : (o : Int) ≤ 9999 := by omega
          have hSb : (S : Int) ≤ 100000000 := by omega
          have hij : (k : Int) + (j : Int) < (n : Int) + (m : Int) + 1 := by omega
          have hij2 : k + j < n + m + 1 := by omega
          have HD1 := Lib.hid hd1
          have HJe := Lib.hid hje
          have HOo := Lib.hid ho
          have HZ := Lib.hid hz.out
          have hgb : w.heap.size ≤ g := hbg
          clear hqb htj hyj hcell hob hst hset hfr hoo hd1 hd2 hS hv ho hB hO hOl hje hcy htb hgg hz
          go_wp2
          go_quiet (fail)
          go_wp2
          have hO2 := HOo.out.put nq (i := k + j) (S % 10000) (by rw [HOl.out]; omega)
          rw [show ((S % 10000 : Nat) : Int) = (S : Int) % 10000 by omega] at hO2
          refine ⟨⟨j + 1, O.set (k + j) (S % 10000), S / 10000, by go_num, congrArg (Value.int .i64) (by omega), by omega, by omega, by rw [List.length_set]; exact HOl.out, HO.out.set _ (by omega), HD1.out, Lib.hid ?_, Lib.hid ?_, hO2, (below_drewN' HB2.out nq).setCell (p := ⟨g, k + j, none⟩) hgb _⟩, by simp only [intOf]; omega⟩
          · rw [HTj.out]; exact HV.out
          · intro i hi
            rw [getD_set_ne _ (by omega)]
            exact HZ.out i (by omega)
        · have hmjI : (m : Int) ≤ (j : Int) := by omega
          by_cases hc0 : 0 < cy
          · obtain rfl : j = m := by omega
            have hc1 := hcell (k + j) (by omega)
            have hoo : O[k + j]'(by omega) = 0 := by rw [getD_at]; exact hz.out _ (by omega)
            rw [hoo] at hc1
            have HV := Lib.hid (mul_out (by omega) hoo hv.out)
            have hfk := hfr (k + j)
            have hcd : (cy : Int) / 10000 = 0 := by omega
            have hcm : (cy : Int) % 10000 = (cy : Int) := by omega
            have hcpI : (0 : Int) < (cy : Int) := by omega
            have hij : (k : Int) + (j : Int) < (n : Int) + (j : Int) + 1 := by omega
            have hij2 : k + j < n + j + 1 := by omega
            have HOo := Lib.hid ho
            have HZ := Lib.hid hz.out
            have hgb : w.heap.size ≤ g := hbg
            have HCy := Lib.hid hcy
            have HTk2 := Lib.hid (show lb.take (j + 1) = lb.take j by rw [List.take_of_length_le (by rw [HLb.out]; omega), List.take_of_length_le (by rw [HLb.out]; omega)])
            clear hcell hset hfr hoo hv ho hB hO hOl hje hcy hgg hz
            go_wp2
            have hO2 := HOo.out.put 0 (i := k + j) cy (by rw [HOl.out]; omega)
            refine ⟨⟨j + 1, O.set (k + j) cy, 0, by go_num, rfl, by omega, fun _ => rfl, by rw [List.length_set]; exact HOl.out, HO.out.set _ HCy.out, by omega, Lib.hid ?_, Lib.hid ?_, hO2, HB2.out.setCell (p := ⟨g, k + j, none⟩) hgb _⟩, by simp only [intOf]; omega⟩
            · rw [HTk2.out]; exact HV.out
            · intro i hi
              rw [getD_set_ne _ (by omega)]
              exact HZ.out i (by omega)
          · obtain rfl : cy = 0 := by omega
            have HV := Lib.hid (show valL O = valL (la.take (k + 1)) * y by
              have h1 := hv.out
              rw [Nat.mul_zero, Nat.add_zero, mul_row HT0.out (show valL (lb.take j) = y by rw [List.take_of_length_le (by rw [HLb.out]; omega)]; exact HXb.out)] at h1
              rw [HTk.out]; exact h1)
            have HZ := Lib.hid hz.out
            have HOo := Lib.hid ho
            clear hcell hset hfr hv ho hB hO hOl hje hcy hgg hz
            go_wp2
            exact ⟨⟨k + 1, O, by go_num, by rw [HLa.out]; omega, HOl.out, HO.out, Lib.hid HV.out, Lib.hid (fun i hi => HZ.out i (by omega)), HOo.out, HB2.out⟩, by simp only [intOf]; omega⟩
    · obtain rfl : k = n := by omega
      have he : valL O = x * y := by
        have := hv.out
        rw [List.take_of_length_le (by rw [HLa.out]; exact Nat.le_refl _), HXa.out] at this
        exact this
      obtain ⟨va', vc', hve, hvl, hvr, hvb, hvn⟩ := OwnD.rd ho
      simp only [Value.slice.injEq] at hve
      obtain ⟨rfl, -, rfl⟩ := hve
      have HT := Lib.hid (trim_any hvr hOl (Nat.le_refl _) hO (by omega))
      obtain ⟨hs1, hs2⟩ := trim_dg hvr hOl (Nat.le_refl _) hO
      rw [he] at HT hs1 hs2
      have HN := Lib.hid (show DgNew w.heap.size wr (.slice (some ⟨g, 0, none⟩) (szN (x * y)) (k + m + 1)) (x * y) from ⟨_, _, rfl, hs1, hs2, hvb, fun e => by cases e⟩)
      clear he hvr hs2 hvb hvn ho hOl hO hv hB hz
      go_wp2_with fail
      refine HT.out.mono ?_
      rintro e w6 ⟨rfl, rfl⟩
      go_wp2
      go_ret
      exact ⟨_, rfl, HN.out, HBl.out⟩
end Go.Proofs.YtjcpfmndkeiegaaGreatDoor.Rf
namespace Go.Proofs.YtjcpfmndkeiegaaGreatDoor.Rf
open Go.RowKit Go.Proofs.YtjcpfmndkeiegaaGreatDoor
set_option linter.unusedVariables false

/-- A slice of digits, nil or not. -/
def RdY (w : World) (xv : Value) (ys : List Nat) : Prop := (∃ ad c, xv = .slice (some ad) ys.length c ∧ RdD w (some ad) ys) ∨ (xv = .slice none 0 0 ∧ ys = [])
theorem DgAt.rdY {w : World} {v : Value} {n : Nat} (h : DgAt w v n) : RdY w v (limbs n) := by
  obtain ⟨a, c, rfl, h2, h3, h4⟩ := h
  cases a with
  | some x => exact .inl ⟨x, c, rfl, h3⟩
  | none =>
    have h0 : limbs n = [] := by
      apply List.eq_nil_of_length_eq_zero
      rcases Nat.eq_zero_or_pos (limbs n).length with h | h
      · exact h
      · obtain ⟨x, e, -⟩ := h3 0 h
        cases e
    refine .inr ⟨?_, h0⟩
    rw [h4 rfl, ← limbs_len, h0]; rfl
theorem dv_one (l : List Nat) : ∀ u ∈ l.map dv, u.oneCell' = true := fun u hu => by
  obtain ⟨s, _, rfl⟩ := List.mem_map.1 hu
  rfl
/-- An append of a slice of digits onto one's own. -/
theorem run_appD (w : World) (base : Nat) (v xv : Value) (l ys : List Nat) (hv : OwnD w base v l) (hx : RdY w xv ys) (hlen : l.length + ys.length ≤ 100000000) (hbase : base ≤ w.heap.size) :
    ∃ v' w', (Builtin.append_ #[31, 31] 31 #[v, xv]).run Tryz.prog w = .ok v' w' ∧ OwnD w' base v' (l ++ ys) ∧ w.grownBy w' v.ownBlock := by
  obtain ⟨i0, hi, hz0, hz1, hz2⟩ := info_parts infoD
  rcases hx with ⟨ad, c, rfl, h⟩ | ⟨rfl, rfl⟩
  · obtain ⟨v', w', hr, h2, h3, _, _⟩ := run_append_own_at (P := Tryz.prog) w base 31 31 3 i0 _ 1 8 Tryz.underlying31 hi hz0 hz1 hz2 rfl (by decide) v l.length _ hv ad ys.length c (ys.map dv) (by simp)
      (fun j u hu => by
        rw [List.getElem?_map] at hu
        obtain ⟨s, hs, rfl⟩ := Option.map_eq_some_iff.1 hu
        obtain ⟨hj, rfl⟩ := List.getElem?_eq_some_iff.1 hs
        obtain ⟨x, hxe, -, hc⟩ := h j hj
        cases hxe
        exact hc) (dv_one ys) (by unfold maxLen; omega) (by omega) hbase
    refine ⟨v', w', hr, ?_, h3⟩
    unfold OwnD
    rw [List.length_append, List.map_append]
    exact h2
  · refine ⟨v, w, ?_, by rw [List.append_nil]; exact hv, World.grownBy.refl w _⟩
    obtain ⟨b, n, c, rfl, hnc⟩ : ∃ b n c, v = .slice b n c ∧ n ≤ c := by
      rcases hv.2 with ⟨rfl, h0⟩ | ⟨g, cap, cur, rfl, hb, hg, h1, -⟩
      · exact ⟨none, 0, 0, rfl, Nat.le_refl _⟩
      · exact ⟨_, _, _, rfl, h1⟩
    exact run_append_nothing (P := Tryz.prog) w _ _ _ _ i0 Tryz.underlying31 hi b n c hnc _ (by
      refine ⟨.inl ⟨_, Tryz.underlying31⟩, fun w' => ?_, ?_, ?_, by simp, fun u hu => by cases hu⟩
      · simp [Builtin.lenOf]
      · rw [hz1]; simp [Builtin.firstCells]
      · rw [hz1]; simp [Builtin.firstCells])
/-- 'append(s, xs...)' of digits, s of the call's own. -/
theorem wpList_appD {w : World} {ops : Array Oper} {rest : List Oper} {o : Oper} {a : Act} {Q : Exit → Act → World → Prop} (hgd : o.guard = none) (s x : Operand)
    (ho : o.op = .call { callee := .builtin .append, args := #[s, x], argTypes := #[31, 31] }) (hty : o.type = 31)
    (base : Nat) (v xv : Value) (l ys : List Nat) (hs : a.eval s = v) (hxe : a.eval x = xv) (hv : OwnD w base v l) (hx : RdY w xv ys) (hlen : l.length + ys.length ≤ 100000000) (hbase : base ≤ w.heap.size)
    (h : ∀ v' w', OwnD w' base v' (l ++ ys) → Below base w w' → wpList Tryz.prog ops Q rest (a.put o.dst v') w') : wpList Tryz.prog ops Q (o :: rest) a w :=
  wpList_plain hgd fun K hK => by
    obtain ⟨v', w', hr, h2, h3⟩ := run_appD w base v xv l ys hv hx hlen hbase
    unfold Oper.wp execOp
    simp only [ho, hty, resolve, invoke, builtin, Sem.run_bind, Sem.run_pure, Result.andThen_ok, List.map_toArray, List.map_cons, List.map_nil, hs, hxe, hr]
    exact hK _ _ (h v' w' h2 ((Below.refl base w).grown h3 hbase fun k e => (hv.lt k e).1))
theorem OwnD.one (w : World) (d : Nat) : OwnD (w.alloc (.cells #[.int .i64 (d : Int)] 3)) w.heap.size (.slice (some ⟨w.heap.size, 0, none⟩) 1 1) [d] :=
  ⟨by simp, .inr ⟨w.heap.size, 1, #[.int .i64 (d : Int)], rfl, Nat.le_refl _, BlkAt.new w _ _, Nat.le_refl _, by unfold maxLen; omega, rfl, rfl⟩⟩
theorem RdD.one (w : World) (d : Nat) : RdD (w.alloc (.cells #[.int .i64 (d : Int)] 3)) (some ⟨w.heap.size, 0, none⟩) [d] := by
  obtain ⟨a, c, e, -, h, -⟩ := (OwnD.one w d).rd
  simp only [Value.slice.injEq] at e
  obtain ⟨rfl, -, rfl⟩ := e
  exact h
/-- The digits of a division, one by one. -/
theorem long_step {X Q R d y xi V : Nat} (hy : 0 < y) (hV : V = xi + 10000 * X) (hQ : Q = X / y) (hR : R = X % y) (hd : d = (xi + 10000 * R) / y) : d + 10000 * Q = V / y ∧ xi + 10000 * R - y * d = V % y := by
  have e := dm X y
  rw [← hQ, ← hR] at e
  have e2 := dm (xi + 10000 * R) y
  rw [← hd] at e2
  have hlt := Nat.mod_lt (xi + 10000 * R) hy
  have hr : xi + 10000 * R - y * d = (xi + 10000 * R) % y := by omega
  have hv : V = (xi + 10000 * R) % y + y * (d + 10000 * Q) := by
    rw [hV, ← e]
    generalize (xi + 10000 * R) % y = s at *
    grind
  rw [hr, hv, Nat.add_mul_div_left _ _ hy, Nat.div_eq_of_lt hlt, Nat.add_mul_mod_self_left, Nat.mod_eq_of_lt hlt]
  exact ⟨by omega, rfl⟩
theorem dig_lt {xi R y : Nat} (hx : xi < 10000) (hR : R < y) : (xi + 10000 * R) / y < 10000 := by
  rw [Nat.div_lt_iff_lt_mul (by omega)]
  have : 10000 * (R + 1) ≤ 10000 * y := Nat.mul_le_mul_left _ hR
  omega
theorem cmpN_le {a b : Nat} (h : a ≤ b) : cmpN a b ≤ 0 := by
  unfold cmpN
  by_cases h1 : a < b
  · rw [if_pos h1]; omega
  · rw [if_neg h1, if_neg (by omega)]; omega
theorem getD_set_self (L : List Nat) {i x : Nat} (h : i < L.length) : (L.set i x).getD i 0 = x := by
  rw [List.getD, List.getElem?_set_self h]; rfl
theorem drop_set_lt (L : List Nat) {i k x : Nat} (h : i < k) : (L.set i x).drop k = L.drop k := by
  rw [List.drop_set_of_lt h]
/-- The outer loop of DivMod. -/
def DivO (la : List Nat) (y B g n : Nat) (w : World) (rv p : Value) (W : World) : Prop :=
  ∃ (k : Nat) (Q : List Nat), p = .int .i64 ((k : Int) - 1) ∧ k ≤ n ∧ Q.length = n ∧ Lim Q ∧ Hid (valL (Q.drop k) = valL (la.drop k) / y) ∧ DgNew B W rv (valL (la.drop k) % y) ∧ OwnD W w.heap.size (.slice (some ⟨g, 0, none⟩) n n) Q ∧ Below w.heap.size w W ∧ B ≤ W.heap.size
/-- The search for one digit. -/
def DivI (dd : Nat) (wo : World) (lv hv : Value) (W : World) : Prop := ∃ lo hi : Nat, lv = .int .i64 (lo : Nat) ∧ hv = .int .i64 (hi : Nat) ∧ lo ≤ dd ∧ dd ≤ hi ∧ hi ≤ 9999 ∧ Below wo.heap.size wo W
set_option maxRecDepth 100000 in
set_option maxHeartbeats 8000000 in
theorem divMod_any {w : World} {a b : Option Addr} {n m c d x y : Nat} {la lb : List Nat} (ha : RdD w a la) (hla : la.length = n) (hda : Lim la) (hxa : valL la = x) (hb : RdD w b lb) (hlb : lb.length = m) (hmd : m ≤ d) (hdb : Lim lb) (hxb : valL lb = y)
    (hy : 0 < y) (hlim : n ≤ 1000000) (hlim2 : m ≤ 1000000) :
    Calls Tryz.prog 72 #[.slice a n c, .slice b m d] w fun e w' => ∃ v1 v2, e = .returned (.tuple #[v1, v2]) ∧ DgNew w.heap.size w' v1 (x / y) ∧ DgNew w.heap.size w' v2 (x % y) ∧ Below w.heap.size w w' := by
  have HA := Lib.hid ha
  have HLa := Lib.hid hla
  have HDa := Lib.hid hda
  have HXa := Lib.hid hxa
  have HB := Lib.hid hb
  have HLb := Lib.hid hlb
  have HDb := Lib.hid hdb
  have HXb := Lib.hid hxb
  obtain ⟨w3, hmk, ho3, hB3⟩ := make_any w n (by omega)
  obtain ⟨g, hg⟩ : ∃ g, w.heap.size = g := ⟨_, rfl⟩
  have HG := Lib.hid hg
  obtain ⟨B, hBe⟩ : ∃ B, w3.heap.size = B := ⟨_, rfl⟩
  have hgl : g < B := by
    rw [← hBe]
    by_cases h0 : n = 0
    · subst h0
      rcases ho3.2 with ⟨h, _⟩ | ⟨g', cap, cur, he, hb', hg', -⟩
      · cases h
      · have := (Array.getElem?_eq_some_iff.1 hg').1; omega
    · obtain ⟨g', c', he, h1, h2, -⟩ := ho3.form (by rw [List.length_replicate]; omega)
      omega
  have H0 := Lib.hid (show DivO la y B g n w (.slice none 0 0) (.int .i64 ((n : Int) - 1)) w3 from ⟨n, _, rfl, Nat.le_refl _, List.length_replicate, Lim.replicate _, Lib.hid (by rw [List.drop_of_length_le (by rw [List.length_replicate]; exact Nat.le_refl _), List.drop_of_length_le (by rw [hla]; exact Nat.le_refl _)]; simp [valL]),
    by rw [List.drop_of_length_le (by rw [hla]; exact Nat.le_refl _)]; exact ⟨none, 0, by simp [valL, szN_zero], by simp [valL, szN_zero], by simp only [valL, Nat.zero_mod, limbs_zero]; exact RdD.nil _ _, (fun x e => by cases e), fun _ => rfl⟩, by rw [← hg]; exact ho3, hB3, by omega⟩)
  rw [hg] at hmk
  have hgw : w.heap.size ≤ B := by have := hB3.size; omega
  clear ha hla hda hxa hb hlb hdb hxb ho3 hB3 hg hBe
  go_enter Tryz.func72, Tryz.ntmps72
  go_wp2
  clear hmk
  go_loopw [7, 8] (fun rv p W => DivO la y B g n w rv p W) (fun rv p W => (intOf p + 1).toNat)
  case atStart => exact H0.out
  case round =>
    obtain ⟨k, Q, rfl, hk, hQl, hQ, hv, hr, ho, hBl, hBs⟩ := hrel
    have HBl := Lib.hid hBl
    have HO := Lib.hid ho
    have HQl := Lib.hid hQl
    have HQ := Lib.hid hQ
    by_cases hlt : 0 < k
    · obtain ⟨j, rfl⟩ : ∃ j, k = j + 1 := ⟨k - 1, by omega⟩
      obtain ⟨u, rfl, hub, huc⟩ := (HA.out.below HBl.out).at (i := j) (by rw [HLa.out]; omega)
      have hxb := HDa.out.getD j
      have hst := valL_step la j
      obtain ⟨xi, hxi⟩ : ∃ xi, la.getD j 0 = xi := ⟨_, rfl⟩
      rw [hxi] at huc hxb hst
      obtain ⟨R, hR⟩ : ∃ R, valL (la.drop (j + 1)) % y = R := ⟨_, rfl⟩
      rw [hR] at hr
      have hRy : R < y := by rw [← hR]; exact Nat.mod_lt _ hy
      obtain ⟨dd, hdd⟩ : ∃ dd, (xi + 10000 * R) / y = dd := ⟨_, rfl⟩
      have hdl : dd < 10000 := by rw [← hdd]; exact dig_lt hxb hRy
      have HLs := Lib.hid (long_step (y := y) hy hst hv.out hR.symm hdd.symm)
      have HDd := Lib.hid hdd
      have HRs := Lib.hid (show szN R ≤ m from Nat.le_trans (szN_mono (Nat.le_of_lt hRy)) (by rw [← HXb.out, ← HLb.out]; exact szN_le (valL_lt HDb.out)))
      have HR := Lib.hid hr
      have HXi := Lib.hid hxb
      have hxI : (xi : Int) ≤ 9999 := by omega
      obtain ⟨ra, rc, hre, -⟩ := hr
      subst hre
      have hjn : (j : Int) ≤ 1000000 := by omega
      have hja : (j : Nat) < n := by omega
      clear hub hst hxi hR hdd hv ho hBl hQl hQ hxb
      have HRY := Lib.hid ((HR.out.at.below ((Below.refl _ wr).alloc (Nat.le_refl _) (.cells #[.int .i64 (xi : Int)] 3))).rdY)
      have HLen := Lib.hid (show [xi].length + (limbs R).length ≤ 100000000 by rw [limbs_len]; have := HRs.out; simp; omega)
      have HVal := Lib.hid (show valL ([xi] ++ limbs R) = xi + 10000 * R by rw [List.singleton_append, valL, limbs_val])
      have HLim := Lib.hid (show Lim ([xi] ++ limbs R) from (Lim.cons HXi.out Lim.nil).append (limbs_lim R))
      have HVl := Lib.hid (show ([xi] ++ limbs R).length ≤ 100000000 by rw [List.length_append]; exact HLen.out)
      go_wp2_with (first
        | (at_builtin; refine wpList_appD rfl _ _ rfl rfl wr.heap.size (.slice (some ⟨wr.heap.size, 0, none⟩) 1 1) (.slice ra (szN R) rc) [xi] (limbs R) rfl rfl (OwnD.one wr xi) HRY.out HLen.out (by simp) ?_; intro v6 w6 ho6 hB6; have HO6 := Lib.hid ho6; have HB6 := Lib.hid hB6; clear ho6 hB6)
        | (go_at_call 70; obtain ⟨va, vc, hve, hvl, hvr, hvb, hvn⟩ := HO6.out.rd; subst hve; refine (trim_any hvr rfl hvl HLim.out HVl.out).mono ?_; rintro e w7 ⟨rfl, hw7⟩; subst hw7; obtain ⟨hs1, hs2⟩ := trim_dg hvr rfl hvl HLim.out; rw [HVal.out] at hs1 hs2 ⊢; have HN1 := Lib.hid (show DgNew wr.heap.size w6 (.slice va (szN (xi + 10000 * R)) vc) (xi + 10000 * R) from ⟨va, vc, rfl, Nat.le_trans hs1 hvl, hs2, hvb, hvn⟩); clear hvl hvr hvb hvn hs1 hs2))
      obtain ⟨R1, hR1⟩ : ∃ R1, xi + 10000 * R = R1 := ⟨_, rfl⟩
      rw [hR1] at HN1 HDd HLs ⊢
      have HB61 := Lib.hid (show Below wr.heap.size wr w6 from ((Below.refl _ wr).alloc (Nat.le_refl _) _).trans HB6.out)
      have HS1 := Lib.hid (show szN R1 ≤ m + 1 by
        rw [← hR1]
        refine szN_le ?_
        have h1 := HXi.out
        have h2 := szN_lt R
        have h3 : 10000 ^ szN R ≤ 10000 ^ m := Nat.pow_le_pow_right (by decide) HRs.out
        rw [Nat.pow_succ]
        omega)
      have HI := Lib.hid (show DivI dd w6 (.int .i64 0) (.int .i64 9999) w6 from ⟨0, 9999, rfl, rfl, Nat.zero_le _, by omega, Nat.le_refl _, Below.refl _ _⟩)
      have HN6 := Lib.hid (HN1.out.mono hBs)
      have HW6 := Lib.hid (HBl.out.trans (HB61.out.mono HBl.out.size))
      have HO6q := Lib.hid (HO.out.below HB61.out)
      have hB6s : B ≤ w6.heap.size := Nat.le_trans hBs HB61.out.size
      have hddI : (dd : Int) ≤ 9999 := by omega
      clear hR1 HVal HLim HVl HLen HRY HXi HB6 HO6 HN1 HBl HO HB61 HR
      go_loopw [9, 10] (fun l h W => DivI dd w6 l h W) (fun l h W => (intOf h).toNat - (intOf l).toNat)
      case atStart => exact HI.out
      case round =>
        obtain ⟨lo, hi, rfl, rfl, hlo, hhi, hh, hBi⟩ := hrel
        have HBi := Lib.hid hBi
        have HBw := Lib.hid (HW6.out.trans (hBi.mono HW6.out.size))
        have HNr := Lib.hid (HN6.out.below hBi)
        have HOq := Lib.hid (HO6q.out.below hBi)
        have hBsz : B ≤ wr.heap.size := Nat.le_trans hB6s hBi.size
        clear hBi
        by_cases hlh : lo < hi
        · obtain ⟨mm, hmm⟩ : ∃ mm, (lo + hi + 1) / 2 = mm := ⟨_, rfl⟩
          have hmI : ((lo : Int) + (hi : Int) + 1) / 2 = (mm : Int) := by omega
          have hm1 : lo < mm := by omega
          have hm2 : mm ≤ hi := by omega
          have hlI : (lo : Int) ≤ 9999 := by omega
          have hhI : (hi : Int) ≤ 9999 := by omega
          clear hmm
          obtain ⟨W1, hW1⟩ : ∃ W1, wr.alloc (.cells #[.int .i64 (mm : Int)] 3) = W1 := ⟨_, rfl⟩
          have hBW1 : Below wr.heap.size wr W1 := by rw [← hW1]; exact (Below.refl _ wr).alloc (Nat.le_refl _) _
          have HBW1 := Lib.hid hBW1
          have HMul := Lib.hid (mul_any (c := d) (d := 1) (w := W1) (lb := [mm]) (HB.out.below (HBw.out.trans (hBW1.mono HBw.out.size))) HLb.out HDb.out HXb.out (by rw [← hW1]; exact RdD.one wr mm) rfl (Lim.cons (by omega) Lim.nil) (show valL [mm] = mm by simp [valL]) (by omega) (by simp))
          have HNr1 := Lib.hid (HNr.out.below hBW1)
          have hmmI : (mm : Int) ≤ 9999 := by omega
          have HSm := Lib.hid (show szN (y * mm) ≤ m + 1 from Nat.le_trans (szN_mul y mm) (Nat.add_le_add (by rw [← HXb.out, ← HLb.out]; exact szN_le (valL_lt HDb.out)) (szN_small (by omega))))
          clear hBW1
          by_cases hle : mm ≤ dd
          · have HC := Lib.hid (show cmpN (y * mm) R1 ≤ 0 by
              have : y * mm ≤ R1 := by rw [← HDd.out] at hle; rw [Nat.mul_comm]; exact (Nat.le_div_iff_mul_le hy).1 hle
              exact cmpN_le this)
            go_wp2_with fail
            refine HMul.out.mono ?_
            rintro e w8 ⟨v8, rfl, hN8, hB8⟩
            obtain ⟨a8, c8, rfl, hc8, hr8, -, -⟩ := hN8
            obtain ⟨ra1, rc1, hre, hrc, hrr, -, -⟩ := HNr1.out
            simp only [Value.slice.injEq] at hre
            obtain ⟨rfl, -, rfl⟩ := hre
            have HCm := Lib.hid (cmp_any hr8 (limbs_len _) hc8 (limbs_lim _) (limbs_val _) (hrr.below hB8) (limbs_len _) hrc (limbs_lim _) (limbs_val _) (by have := HSm.out; omega) (by have := HS1.out; omega))
            have HB8 := Lib.hid (HBi.out.trans ((HBW1.out.trans (hB8.mono HBW1.out.size)).mono HBi.out.size))
            obtain ⟨z, hz⟩ : ∃ z, cmpN (y * mm) R1 = z := ⟨_, rfl⟩
            rw [hz] at HCm HC
            have hz0 := HC.out
            clear hc8 hr8 hrc hrr hB8 hz HMul hW1
            go_wp2_with fail
            refine HCm.out.mono ?_
            rintro e w9 ⟨rfl, hB9⟩
            have HB9 := Lib.hid (HB8.out.trans (hB9.mono HB8.out.size))
            clear hB9 HCm
            go_wp2
            exact ⟨⟨mm, hi, rfl, rfl, hle, hhi, hh, HB9.out⟩, by simp only [intOf]; omega⟩
          · have HC := Lib.hid (show 1 ≤ cmpN (y * mm) R1 by
              have : R1 < y * mm := by rw [← HDd.out] at hle; rw [Nat.mul_comm]; exact Nat.lt_of_not_le fun h => hle ((Nat.le_div_iff_mul_le hy).2 h)
              exact by rw [cmp_gt' this]; exact Int.le_refl _)
            go_wp2_with fail
            refine HMul.out.mono ?_
            rintro e w8 ⟨v8, rfl, hN8, hB8⟩
            obtain ⟨a8, c8, rfl, hc8, hr8, -, -⟩ := hN8
            obtain ⟨ra1, rc1, hre, hrc, hrr, -, -⟩ := HNr1.out
            simp only [Value.slice.injEq] at hre
            obtain ⟨rfl, -, rfl⟩ := hre
            have HCm := Lib.hid (cmp_any hr8 (limbs_len _) hc8 (limbs_lim _) (limbs_val _) (hrr.below hB8) (limbs_len _) hrc (limbs_lim _) (limbs_val _) (by have := HSm.out; omega) (by have := HS1.out; omega))
            have HB8 := Lib.hid (HBi.out.trans ((HBW1.out.trans (hB8.mono HBW1.out.size)).mono HBi.out.size))
            obtain ⟨z, hz⟩ : ∃ z, cmpN (y * mm) R1 = z := ⟨_, rfl⟩
            rw [hz] at HCm HC
            have hz0 := HC.out
            clear hc8 hr8 hrc hrr hB8 hz HMul hW1
            go_wp2_with fail
            refine HCm.out.mono ?_
            rintro e w9 ⟨rfl, hB9⟩
            have HB9 := Lib.hid (HB8.out.trans (hB9.mono HB8.out.size))
            clear hB9 HCm
            go_wp2
            exact ⟨⟨lo, mm - 1, rfl, congrArg (Value.int .i64) (by omega), hlo, by omega, by omega, HB9.out⟩, by simp only [intOf]; omega⟩
        · obtain rfl : lo = dd := by omega
          obtain rfl : hi = lo := by omega
          obtain ⟨g', c', he, hbg, hgl', -, hcell, hfr, -⟩ := HOq.out.form (by rw [HQl.out]; omega)
          simp only [Value.slice.injEq, Option.some.injEq, Addr.mk.injEq] at he
          obtain ⟨⟨rfl, -⟩, -⟩ := he
          have hc1 := hcell j (by rw [HQl.out]; exact hja)
          have hf1 := hfr j
          obtain ⟨o1, ho1⟩ : ∃ o1, Q[j]'(by rw [HQl.out]; exact hja) = o1 := ⟨_, rfl⟩
          rw [ho1] at hc1
          obtain ⟨W2, hW2⟩ : ∃ W2, wr.setCell ⟨g, j, none⟩ (.int .i64 (hi : Int)) = W2 := ⟨_, rfl⟩
          have HO2 := Lib.hid (show OwnD W2 w.heap.size (.slice (some ⟨g, 0, none⟩) n n) (Q.set j hi) by
            rw [← hW2]
            exact HOq.out.put 0 hi (by rw [HQl.out]; exact hja))
          have hB2 : Below w.heap.size w W2 := by rw [← hW2]; exact HBw.out.setCell (p := ⟨g, j, none⟩) hbg _
          have HN2 := Lib.hid (show DgNew B W2 (.slice va (szN R1) vc) R1 by rw [← hW2]; exact HNr.out.far hgl _)
          have hz2 : W2.heap.size = wr.heap.size := by rw [← hW2]; simp
          obtain ⟨W3, hW3⟩ : ∃ W3, W2.alloc (.cells #[.int .i64 (hi : Int)] 3) = W3 := ⟨_, rfl⟩
          have hB23 : Below W2.heap.size W2 W3 := by rw [← hW3]; exact (Below.refl _ W2).alloc (Nat.le_refl _) _
          have hR3 : RdD W3 (some ⟨W2.heap.size, 0, none⟩) [hi] := by rw [← hW3]; exact RdD.one W2 hi
          have hlim1 : Lim [hi] := Lim.cons (by omega) Lim.nil
          have hval1 : valL [hi] = hi := by simp [valL]
          have HT := Lib.hid (trim_any (c := 1) hR3 rfl (Nat.le_refl _) hlim1 (by simp))
          obtain ⟨hs1, hs2⟩ := trim_dg (c := 1) hR3 rfl (Nat.le_refl _) hlim1
          rw [hval1] at HT hs1 hs2
          rw [hz2] at HT hs2
          have hB3 := hB2.trans (hB23.mono hB2.size)
          have HMul := Lib.hid (mul_any (c := d) (d := 1) (HB.out.below hB3) HLb.out HDb.out HXb.out hs2 (limbs_len hi) (limbs_lim hi) (limbs_val hi) (by omega) (Nat.le_trans hs1 (by simp)))
          have HB3 := Lib.hid hB3
          have HN3 := Lib.hid (HN2.out.below hB23)
          have HO3 := Lib.hid (HO2.out.below hB23)
          have hB3s : B ≤ W3.heap.size := by have := hB23.size; omega
          have HSm := Lib.hid (show szN (y * hi) ≤ m + 1 from Nat.le_trans (szN_mul y hi) (Nat.add_le_add (by rw [← HXb.out, ← HLb.out]; exact szN_le (valL_lt HDb.out)) (szN_small (by omega))))
          have HLe := Lib.hid (show y * hi ≤ R1 by rw [← HDd.out, Nat.mul_comm]; exact Nat.div_mul_le_self R1 y)
          clear hcell hfr ho1 hB2 hB23 hR3 hlim1 hval1 hs1 hs2 hB3 HOq HNr HN2 HO2 HI
          go_wp2_with fail
          refine HT.out.mono ?_
          rintro e w8 ⟨rfl, hw8⟩
          subst hw8
          clear hW2 hW3 hz2 hc1 hf1 HT
          go_wp2_with fail
          refine HMul.out.mono ?_
          rintro e w9 ⟨v9, rfl, hN9, hB9⟩
          obtain ⟨a9, c9, rfl, hc9, hr9, -, -⟩ := hN9
          obtain ⟨ra1, rc1, hre, hrc, hrr, -, -⟩ := HN3.out
          simp only [Value.slice.injEq] at hre
          obtain ⟨rfl, -, rfl⟩ := hre
          have HSb := Lib.hid (sub_any (c := vc) (d := c9) (hrr.below hB9) (limbs_len _) (limbs_lim _) (limbs_val _) hr9 (limbs_len _) (limbs_lim _) (limbs_val _) HLe.out (by have := HS1.out; omega) (by have := HSm.out; omega))
          have HB9 := Lib.hid (HB3.out.trans (hB9.mono HB3.out.size))
          have HO9 := Lib.hid (HO3.out.below hB9)
          have hB9s : B ≤ w9.heap.size := Nat.le_trans hB3s hB9.size
          clear hc9 hr9 hrc hrr hB9 HMul
          go_wp2_with fail
          refine HSb.out.mono ?_
          rintro e w10 ⟨v10, rfl, hN10, hB10⟩
          have HB10 := Lib.hid (HB9.out.trans (hB10.mono HB9.out.size))
          have HO10 := Lib.hid (HO9.out.below hB10)
          have hB10s : B ≤ w10.heap.size := Nat.le_trans hB9s hB10.size
          have HN10 := Lib.hid (hN10.mono hB9s)
          clear hN10 hB10 HSb
          go_wp2
          refine ⟨⟨j, Q.set j hi, congrArg (Value.int .i64) (by omega), by omega, by rw [List.length_set]; exact HQl.out, HQ.out.set _ (by omega), Lib.hid ?_, ?_, HO10.out, HB10.out, hB10s⟩, by simp only [intOf]; omega⟩
          · rw [← HLs.out.1, valL_step, getD_set_self _ (by rw [HQl.out]; exact hja), drop_set_lt _ (by omega)]
          · rw [← HLs.out.2]
            exact HN10.out
    · obtain rfl : k = 0 := by omega
      rw [List.drop_zero, HXa.out] at hr
      have hq : valL Q = x / y := by
        have := hv.out
        rw [List.drop_zero, List.drop_zero, HXa.out] at this
        exact this
      obtain ⟨va', vc', hve, hvl, hvr, hvb, hvn⟩ := OwnD.rd ho
      simp only [Value.slice.injEq] at hve
      obtain ⟨rfl, -, rfl⟩ := hve
      have HT := Lib.hid (trim_any hvr hQl (Nat.le_refl _) hQ (by omega))
      obtain ⟨hs1, hs2⟩ := trim_dg hvr hQl (Nat.le_refl _) hQ
      rw [hq] at HT hs1 hs2
      have HN := Lib.hid (show DgNew w.heap.size wr (.slice (some ⟨g, 0, none⟩) (szN (x / y)) n) (x / y) from ⟨_, _, rfl, hs1, hs2, hvb, fun e => by cases e⟩)
      have HNr := Lib.hid (hr.mono hgw)
      clear hq hvl hvr hvb hvn hs1 hs2 hr ho hv hBl hQ hQl
      go_wp2_with fail
      refine HT.out.mono ?_
      rintro e w6 ⟨rfl, rfl⟩
      go_wp2
      go_ret2
      exact ⟨_, _, rfl, HN.out, HNr.out, HBl.out⟩
end Go.Proofs.YtjcpfmndkeiegaaGreatDoor.Rf
