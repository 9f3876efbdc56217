/- The walk of a document's Valid. -/
import Derived.Test.YtajnpmhgldfgfaaXtD
import Derived.OwnWalk
import Derived.Deep.QuietTactic
import Derived.BigQuiet
namespace Go.Proofs.Ytajnpmhgldfgfaa
open Go.RowKit
set_option linter.unusedVariables false

theorem infoInts : (Try.prog.info? 33).map (fun i => (i.zero, i.size, i.bytes)) = some (some (.slice none 0 0), 1, 24) := by kernel_rfl
/-- A slice of ints that can be read. -/
def IntRd (W : World) (v : Value) (l : List Int) : Prop :=
  ∃ a c, v = .slice a l.length c ∧ (l ≠ [] → ∃ b o, a = some ⟨b, o, none⟩ ∧ b < W.heap.size ∧ ∀ j, j < l.length → W.cell? ⟨b, o + j, none⟩ = some (.int .i64 (l.getD j 0)))
theorem IntRd.below {W W' : World} {v : Value} {l : List Int} (h : IntRd W v l) (hB : Below W.heap.size W W') : IntRd W' v l := by
  obtain ⟨a, c, h1, h2⟩ := h
  refine ⟨a, c, h1, fun hne => ?_⟩
  obtain ⟨b, o, g1, g2, g3⟩ := h2 hne
  exact ⟨b, o, g1, Nat.lt_of_lt_of_le g2 hB.size, fun j hj => (hB.cell (p := ⟨b, o + j, none⟩) g2).trans (g3 j hj)⟩
theorem IntRd.drewN {W : World} {v : Value} {l : List Int} (h : IntRd W v l) (k : Nat) : IntRd (W.drewN k) v l := h
theorem IntRd.of_ints {W : World} {v : Value} {base : Nat} {l : List Nat} (h : IntsAt base W l v) : IntRd W v (l.map fun (k : Nat) => (k : Int)) := by
  rcases h.2 with ⟨h1, h2⟩ | ⟨g, cap, cur, h1, h2, h3⟩
  · refine ⟨none, 0, ?_, fun hne => absurd ?_ hne⟩
    · rw [h1, List.length_map, h2]
    · rw [List.length_eq_zero_iff.1 h2]; rfl
  · have h4 : W.ownsRow base 3 1 (.slice (some ⟨g, 0, none⟩) l.length cap) l.length (intCells l) := by rw [← h1]; exact h
    refine ⟨some ⟨g, 0, none⟩, cap, by rw [h1, List.length_map], fun hne => ⟨g, 0, rfl, own_lt h4 rfl, fun j hj => ?_⟩⟩
    rw [List.length_map] at hj
    rw [Nat.zero_add, World.ownsRow.cellAt h4 j (by omega)]
    unfold intCells
    rw [List.getElem?_map, List.getD_eq_getElem?_getD, List.getElem?_map, List.getElem?_eq_getElem hj]
    rfl
/-- Equal of two slices of ints. -/
theorem equal_any {W : World} {x y : Value} {l m : List Int} (hx : IntRd W x l) (hy : IntRd W y m) (hl : l.length ≤ 1000000) (hm : m.length ≤ 1000000) :
    Calls Try.prog 44 #[x, y] W fun e W' => e = .returned (.bool (l == m)) ∧ ∃ q, W' = W.drewN q := by
  obtain ⟨a, c, rfl, hx2⟩ := hx
  obtain ⟨b, d, rfl, hy2⟩ := hy
  by_cases hlm : l.length = m.length
  · by_cases h0 : l = []
    · subst h0
      have hm0 : m = [] := List.length_eq_zero_iff.1 hlm.symm
      subst hm0
      exact (Try.slices_Equal_int_empty a b c 0 d W (by omega)).mono fun e W' ⟨h1, h2⟩ => ⟨by rw [h1]; rfl, 0, by rw [h2]; rfl⟩
    · have hm0 : m ≠ [] := fun e => h0 (List.length_eq_zero_iff.1 (by rw [hlm, e]; rfl))
      obtain ⟨b1, o1, rfl, _, g1⟩ := hx2 h0
      obtain ⟨b2, o2, rfl, _, g2⟩ := hy2 hm0
      exact (Try.slices_Equal_int b1 o1 l.length c b2 o2 m.length d l m W (Nat.le_refl _) (Nat.le_refl _) (by omega) (by omega) g1 g2).mono fun e W' ⟨h1, h2⟩ => ⟨by rw [h1, List.take_length, List.take_length], h2⟩
  · exact (Try.slices_Equal_int_lens a b l.length c m.length d W hlm).mono fun e W' ⟨h1, h2⟩ => ⟨by
      rw [h1, show (l == m) = false from beq_eq_false_iff_ne.2 fun e => hlm (by rw [e])], 0, by rw [h2]; rfl⟩

/-- A row of rows of ints. -/
structure KidsI (n0 gk : Nat) (L : List (List Nat × Value)) (W : World) : Prop where
  row : W.ownsRow n0 33 1 (.slice (some ⟨gk, 0, none⟩) L.length L.length) L.length (L.map (·.2))
  each : ∀ q ∈ L, IntsAt n0 W q.1 q.2
  apart : ∀ (i j : Nat) (q r : List Nat × Value) (g : Nat), L[i]? = some q → L[j]? = some r → i ≠ j → q.2.ownBlock = some g → r.2.ownBlock ≠ some g
theorem KidsI.below {n0 gk : Nat} {L : List (List Nat × Value)} {W W' : World} (h : KidsI n0 gk L W) (hB : Below W.heap.size W W') : KidsI n0 gk L W' :=
  ⟨own_below h.row hB, fun q hq => own_below (h.each q hq) hB, h.apart⟩
theorem KidsI.base {n0 gk : Nat} {L : List (List Nat × Value)} {W : World} (h : KidsI n0 gk L W) : n0 ≤ gk ∧ gk < W.heap.size := h.row.lt gk rfl
theorem KidsI.made {n0 gk n : Nat} {W : World} (h : W.ownsRow n0 33 1 (.slice (some ⟨gk, 0, none⟩) n n) n (List.replicate n (.slice none 0 0))) : KidsI n0 gk (List.replicate n ([], .slice none 0 0)) W := by
  refine ⟨by rw [List.length_replicate, List.map_replicate]; exact h, fun q hq => ?_, fun i j q r g hi _ _ hg => ?_⟩
  · obtain rfl := (List.mem_replicate.1 hq).2
    exact World.ownsRow_nil _ _ _ _
  · obtain rfl := (List.mem_replicate.1 (List.mem_of_getElem? hi)).2
    cases hg
/-- One more kid. -/
theorem KidsI.kid {n0 gk gg kc u n : Nat} {L : List (List Nat × Value)} {W W1 : World} {o : Obj} {q : List Nat × Value} (h : KidsI n0 gk L W) (hq : L[u]? = some q)
    (hown : W1.ownsRow n0 3 1 (.slice (some ⟨gg, 0, none⟩) (q.1.length + 1) kc) (q.1.length + 1) (intCells q.1 ++ [.int .i64 n])) (hgrow : (W.alloc o).grownBy W1 q.2.ownBlock) (hat : q.2.ownBlock = some gg ∨ gg = W.heap.size + 1) :
    KidsI n0 gk (L.set u (q.1 ++ [n], .slice (some ⟨gg, 0, none⟩) (q.1.length + 1) kc)) (W1.setCell ⟨gk, u, none⟩ (.slice (some ⟨gg, 0, none⟩) (q.1.length + 1) kc)) ∧
      Below n0 W (W1.setCell ⟨gk, u, none⟩ (.slice (some ⟨gg, 0, none⟩) (q.1.length + 1) kc)) := by
  have hqm : q ∈ L := List.mem_of_getElem? hq
  have hb := h.base
  have hA1 := h.below ((Below.refl _ W).alloc (Nat.le_refl _) o)
  have hka : IntsAt n0 (W.alloc o) q.1 q.2 := hA1.each q hqm
  have hI : ∀ {n : Nat} {v : Value} {xs : List Value}, (W.alloc o).ownsRow n0 3 1 v n xs → (∀ g, v.ownBlock = some g → q.2.ownBlock ≠ some g) → W1.ownsRow n0 3 1 v n xs := fun ho hne =>
    own_keep ho fun g hg => hgrow.block g (own_lt ho hg) (fun e => hne g hg e.symm)
  have hE1 : W1.ownsRow n0 33 1 (.slice (some ⟨gk, 0, none⟩) L.length L.length) L.length (L.map (·.2)) := (KeepT.grown hka (by decide) hgrow).owns hA1.row
  obtain ⟨h1, h2⟩ := hE1.stored u (.slice (some ⟨gg, 0, none⟩) (q.1.length + 1) kc)
  have hS : ∀ {n : Nat} {v : Value} {xs : List Value}, W1.ownsRow n0 3 1 v n xs → (W1.setCell ⟨gk, u, none⟩ (.slice (some ⟨gg, 0, none⟩) (q.1.length + 1) kc)).ownsRow n0 3 1 v n xs := fun ho =>
    (KeepT.grown (v := .slice (some ⟨gk, 0, none⟩) L.length L.length) hE1 (by decide) h2).owns ho
  have hnew : ∀ r ∈ L, ∀ k, r.2.ownBlock = some k → gg = k → q.2.ownBlock = some k := fun r hr k hk e => by
    subst e
    rcases hat with h7 | h7
    · exact h7
    · have := own_lt (h.each r hr) hk
      omega
  refine ⟨⟨?_, ?_, ?_⟩, ?_⟩
  · rw [List.length_set, List.map_set]
    exact h1
  · intro r hr
    obtain ⟨i, hi, rfl⟩ := List.mem_iff_getElem.1 hr
    rw [List.getElem_set]
    by_cases hiu : u = i
    · rw [if_pos hiu]
      show (_ : World).ownsRow n0 3 1 _ (q.1 ++ [n]).length (intCells (q.1 ++ [n]))
      rw [show intCells (q.1 ++ [n]) = intCells q.1 ++ [.int .i64 n] from by simp [intCells], show (q.1 ++ [n]).length = q.1.length + 1 from by simp]
      exact hS hown
    · rw [if_neg hiu]
      rw [List.length_set] at hi
      have hmem : L[i] ∈ L := List.getElem_mem hi
      exact hS (hI (hA1.each _ hmem) (fun k hk => h.apart i u _ q k (List.getElem?_eq_getElem hi) hq (Ne.symm hiu) hk))
  · intro i j r r' k hi hj hij hk
    rw [List.getElem?_set] at hi hj
    split at hi
    · rename_i hui
      split at hi
      · cases hi
        rw [if_neg (by omega)] at hj
        have e : gg = k := by simpa [Value.ownBlock] using hk
        intro hk2
        exact h.apart u j q r' k hq hj (by omega) (hnew r' (List.mem_of_getElem? hj) k hk2 e) hk2
      · cases hi
    · rename_i hui
      split at hj
      · split at hj
        · cases hj
          intro hk2
          have e : gg = k := by simpa [Value.ownBlock] using hk2
          exact h.apart i u r q k hi hq (by omega) hk (hnew r (List.mem_of_getElem? hi) k hk e)
        · cases hj
      · exact h.apart i j r r' k hi hj hij hk
  · have hB1 : Below n0 W W1 := ((Below.refl n0 W).alloc (by omega) o).grown hgrow (by simp; omega) (fun k e => (hka.lt k e).1)
    exact hB1.grown h2 (by have := hB1.size; omega) (fun k e => by
      have : gk = k := Option.some.inj e
      omega)
/-- Whether a document can be. -/
def validX (ups : List Int) (ks : List (List Int)) : Bool :=
  match depthsX ups with
  | none => false
  | some D => decide (ups.length ≤ 10000) && D.all (fun d => decide (d ≤ 100)) && decide (∀ i, i < ups.length → ks[i]? = some ((kidsI ups i).map fun (k : Nat) => (k : Int)))
/-- The kids among the first ones. -/
def kidsTo (ups : List Int) (i u : Nat) : List Nat := (List.range i).filter fun k => decide (ups[k]? = some (u : Int))
theorem kidsTo_all (ups : List Int) (u : Nat) : kidsTo ups ups.length u = kidsI ups u := rfl
theorem kidsTo_step (ups : List Int) (i u : Nat) : kidsTo ups (i + 1) u = kidsTo ups i u ++ if ups[i]? = some (u : Int) then [i] else [] := by
  unfold kidsTo
  rw [List.range_succ, List.filter_append, List.filter_cons]
  congr 1
  by_cases h : ups[i]? = some (u : Int) <;> simp [h]
theorem kidsTo_len (ups : List Int) (i u : Nat) : (kidsTo ups i u).length ≤ i := by
  have := List.length_filter_le (fun k => decide (ups[k]? = some (u : Int))) (List.range i)
  rwa [List.length_range] at this
theorem kidsTo_set {ups : List Int} {n i u : Nat} (hu : ups[i]? = some (u : Int)) : ((List.range n).map (kidsTo ups i)).set u (kidsTo ups i u ++ [i]) = (List.range n).map (kidsTo ups (i + 1)) := by
  apply List.ext_getElem?
  intro j
  rw [List.getElem?_set]
  by_cases hju : u = j
  · subst hju
    rw [if_pos rfl]
    by_cases hj : u < n
    · rw [if_pos (by simpa using hj), List.getElem?_map, List.getElem?_range hj, Option.map_some, kidsTo_step, if_pos hu]
    · rw [if_neg (by simpa using hj), List.getElem?_eq_none (by simpa using Nat.le_of_not_lt hj)]
  · rw [if_neg hju, List.getElem?_map, List.getElem?_map]
    by_cases hj : j < n
    · rw [List.getElem?_range hj, Option.map_some, Option.map_some, kidsTo_step, if_neg, List.append_nil]
      intro h
      rw [hu] at h
      have := Option.some.inj h
      omega
    · rw [List.getElem?_eq_none (by simpa using Nat.le_of_not_lt hj)]; rfl
end Go.Proofs.Ytajnpmhgldfgfaa
