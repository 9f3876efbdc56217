/- Words for slices of numbers as they lie in memory; no program in sight. -/
import Derived.Test.YtjcpfmndkeiegaaGreatDoorIt
import Derived.WalkKit
import Derived.ProofKit
namespace Go.Proofs.YtjcpfmndkeiegaaGreatDoor
open Go.RowKit
set_option linter.unusedVariables false

/-- A slice's numbers as they lie. -/
def RdI (w : World) (a : Option Addr) (l : List Int) : Prop := ∀ i, i < l.length → ∃ g, a = some ⟨g, 0, none⟩ ∧ g < w.heap.size ∧ w.cell? ⟨g, i, none⟩ = some (.int .i64 (l.getD i 0))
theorem rdI_own {w : World} {base : Nat} {e : TypeId} {v : Value} {l : List Int} (h : w.ownsRow base e 1 v l.length (l.map (Value.int .i64))) : ∃ a c, v = .slice a l.length c ∧ RdI w a l := by
  rcases h.2 with ⟨rfl, h0⟩ | ⟨g, cap, cur, rfl, hb, hg, h1, h2, h3, h4⟩
  · exact ⟨none, 0, by rw [h0], fun i hi => by omega⟩
  · refine ⟨_, _, rfl, fun i hi => ⟨g, rfl, (Array.getElem?_eq_some_iff.1 hg).1, ?_⟩⟩
    rw [cell_of_row w g _ cur _ _ hg]
    have : (cur.toList.take (l.length * 1))[i]? = cur[i]? := by rw [List.getElem?_take_of_lt (by omega)]; simp
    rw [← this, h4]
    simp [List.getD, List.getElem?_eq_getElem hi]
theorem RdI.below {w w' : World} {a : Option Addr} {l : List Int} (h : RdI w a l) (hB : Below w.heap.size w w') : RdI w' a l := fun i hi => by
  obtain ⟨g, h1, h2, h3⟩ := h i hi
  exact ⟨g, h1, Nat.lt_of_lt_of_le h2 hB.size, (hB.cell h2).trans h3⟩

/-- 's[:n]' of a slice at its block's begin. -/
theorem run_front {P : Program} {t e : TypeId} {z : Nat} (ht : P.underlying t = some (.slice e)) (hz : ∀ w, (sizeOf (P.elem t)).run P w = .ok z w) {a : Option Addr} (ha : a = none ∨ ∃ g, a = some ⟨g, 0, none⟩) {n c m : Nat} (h : m ≤ c) (w : World) :
    (Instr.slice t (.slice a n c) none (some (.int .i64 m)) none).run P w = .ok (.slice a m c) w := by
  have hu : P.underlying t = some (.slice (P.elem t)) := by rw [ht]; simp [Program.elem, ht]
  rw [run_slice_h w t a n c hu .i64 m (by omega) (by omega), hz]
  show Result.ok _ w = _
  have : sliced a 0 ((m : Int).toNat) c z = .slice a m c := by
    unfold sliced
    rcases ha with rfl | ⟨g, rfl⟩
    · simp
    · simp [Addr.add]
  rw [this]
theorem rdI_front {w : World} {base : Nat} {e : TypeId} {v : Value} {l : List Int} (h : w.ownsRow base e 1 v l.length (l.map (Value.int .i64))) :
    ∃ a c, v = .slice a l.length c ∧ l.length ≤ c ∧ (a = none ∨ ∃ g, a = some ⟨g, 0, none⟩) ∧ RdI w a l := by
  have h0 := h
  rcases h.2 with ⟨rfl, h0'⟩ | ⟨g, cap, cur, rfl, hb, hg, h1, h2, h3, h4⟩
  · exact ⟨none, 0, by rw [h0'], by omega, .inl rfl, fun i hi => by omega⟩
  · obtain ⟨a, c, e, hr⟩ := rdI_own h0
    cases e
    exact ⟨_, _, rfl, by omega, .inr ⟨g, rfl⟩, hr⟩
theorem RdI.take {w : World} {a : Option Addr} {l : List Int} (h : RdI w a l) (m : Nat) : RdI w a (l.take m) := fun i hi => by
  have hi' : i < l.length := by simp at hi; omega
  obtain ⟨g, h1, h2, h3⟩ := h i hi'
  refine ⟨g, h1, h2, ?_⟩
  rw [h3]
  have : i < m := by simp at hi; omega
  simp [List.getD, List.getElem?_take_of_lt this]
theorem rowKept {W W' : World} {base : Nat} {e : TypeId} {size : Nat} {v : Value} {n : Nat} {xs : List Value} (h : W.ownsRow base e size v n xs) (hB : Below W.heap.size W W') : W'.ownsRow base e size v n xs := by
  refine ⟨h.1, ?_⟩
  rcases h.2 with h' | ⟨g, cap, cur, hv, hb, hg, hr⟩
  · exact .inl h'
  · exact .inr ⟨g, cap, cur, hv, hb, by rw [hB.block g (Array.getElem?_eq_some_iff.1 hg).1]; exact hg, hr⟩
theorem bcells {W w1 : World} (hb : Below W.heap.size W w1) : (∀ b o, b < W.heap.size → w1.cell? ⟨b, o, none⟩ = W.cell? ⟨b, o, none⟩) ∧ (∀ b o, b < W.heap.size → w1.frozen? ⟨b, o, none⟩ = W.frozen? ⟨b, o, none⟩) :=
  ⟨fun b o h => hb.cell (p := ⟨b, o, none⟩) h, fun b o h => hb.frozen (p := ⟨b, o, none⟩) h⟩
theorem block_lt {w : World} {a : Addr} {v : Value} (h : w.cell? a = some v) : a.block < w.heap.size := by
  apply Decidable.byContradiction
  intro hn
  rw [World.cell?, Array.getElem?_eq_none (by omega)] at h
  cases h
theorem add_block (a : Addr) (n : Nat) : (a.add n).block = a.block := by unfold Addr.add; split <;> rfl
theorem add_sum (a : Addr) (i j : Nat) : (a.add i).add j = a.add (i + j) := by
  unfold Addr.add
  by_cases hi : i = 0 <;> by_cases hj : j = 0 <;> simp [hi, hj, Nat.add_assoc]
end Go.Proofs.YtjcpfmndkeiegaaGreatDoor
