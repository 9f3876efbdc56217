/- Rows as they lie: words that hold for every element type. -/
import Derived.Test.YtajnpmhgldfgfaaProg
import Derived.Test.YtajnpmhgldfgfaaMem
import Derived.OwnWalk
import Derived.Below
namespace Go.Proofs.Ytajnpmhgldfgfaa
open Go.RowKit
set_option linter.unusedVariables false

theorem ownsRow_slice' {w : World} {base : Nat} {e : TypeId} {size : Nat} {v : Value} {n : Nat} {xs : List Value} (h : w.ownsRow base e size v n xs) : ∃ b c, v = .slice b n c := by
  rcases h.2 with ⟨rfl, rfl⟩ | ⟨g, cap, cur, rfl, _⟩ <;> exact ⟨_, _, rfl⟩
theorem ownsRow_mono {w : World} {base base' : Nat} {e : TypeId} {size : Nat} {v : Value} {n : Nat} {xs : List Value} (h : w.ownsRow base e size v n xs) (hb : base' ≤ base) : w.ownsRow base' e size v n xs := by
  refine ⟨h.1, ?_⟩
  rcases h.2 with h0 | ⟨g, cap, cur, hv, hg, r⟩
  · exact .inl h0
  · exact .inr ⟨g, cap, cur, hv, Nat.le_trans hb hg, r⟩
theorem own_at {W : World} {base size n : Nat} {e : TypeId} {v : Value} {xs : List Value} {g : Nat} (h : W.ownsRow base e size v n xs) (hg : v.ownBlock = some g) : ∃ cur, W.heap[g]? = some (.cells cur e (0, 0)) ∧ base ≤ g := by
  rcases h.2 with ⟨rfl, _⟩ | ⟨g', cap, cur, rfl, hb, hg', _⟩
  · cases hg
  · obtain rfl : g' = g := Option.some.inj hg
    exact ⟨cur, hg', hb⟩
/-- Rows of elements of different types lie apart. -/
theorem own_ne {W : World} {base size n base' size' n' : Nat} {e e' : TypeId} {v v' : Value} {xs xs' : List Value} (h : W.ownsRow base e size v n xs) (h' : W.ownsRow base' e' size' v' n' xs') (he : e ≠ e') {g : Nat} (hg : v.ownBlock = some g) : v'.ownBlock ≠ some g := fun hg' => by
  obtain ⟨c1, k1, _⟩ := own_at h hg
  obtain ⟨c2, k2, _⟩ := own_at h' hg'
  rw [k1] at k2
  cases k2
  exact he rfl
theorem blk_ne {W : World} {base size n B : Nat} {e t : TypeId} {v : Value} {xs : List Value} {cs : Array Value} (h : W.ownsRow base e size v n xs) (hB : BlkAt W B t cs) (he : e ≠ t) : v.ownBlock ≠ some B := fun hg => by
  obtain ⟨c1, k1, _⟩ := own_at h hg
  rw [show W.heap[B]? = _ from hB] at k1
  cases k1
  exact he rfl
theorem own_lt {W : World} {base size n : Nat} {e : TypeId} {v : Value} {xs : List Value} {g : Nat} (h : W.ownsRow base e size v n xs) (hg : v.ownBlock = some g) : g < W.heap.size := by
  obtain ⟨c, hc, _⟩ := own_at h hg
  exact (Array.getElem?_eq_some_iff.1 hc).1
/-- A row stays if its block stays. -/
theorem own_keep {W W' : World} {base size n : Nat} {e : TypeId} {v : Value} {xs : List Value} (ho : W.ownsRow base e size v n xs) (h : ∀ g, v.ownBlock = some g → W'.heap[g]? = W.heap[g]?) : W'.ownsRow base e size v n xs := by
  refine ⟨ho.1, ?_⟩
  rcases ho.2 with h0 | ⟨g, cap, cur, hv, hb, hg, hr⟩
  · exact .inl h0
  · refine .inr ⟨g, cap, cur, hv, hb, ?_, hr⟩
    rw [h g (by rw [hv]; rfl)]
    exact hg
/-- All rows of the elements' type e stay as they are. -/
def KeepT (e : TypeId) (W W' : World) : Prop := ∀ (k : Nat) (cur : Array Value), W.heap[k]? = some (.cells cur e (0, 0)) → W'.heap[k]? = some (.cells cur e (0, 0))
theorem KeepT.refl (e : TypeId) (W : World) : KeepT e W W := fun _ _ h => h
theorem KeepT.trans {e : TypeId} {a b c : World} (h : KeepT e a b) (k : KeepT e b c) : KeepT e a c := fun i cur h1 => k i cur (h i cur h1)
theorem KeepT.of_below {e : TypeId} {a b : World} (h : Below a.heap.size a b) : KeepT e a b := fun i cur h1 => (h.block i (Array.getElem?_eq_some_iff.1 h1).1).trans h1
theorem KeepT.owns {e : TypeId} {W W' : World} (h : KeepT e W W') {base size n : Nat} {v : Value} {xs : List Value} (ho : W.ownsRow base e size v n xs) : W'.ownsRow base e size v n xs := by
  refine ⟨ho.1, ?_⟩
  rcases ho.2 with h0 | ⟨g, cap, cur, hv, hb, hg, hr⟩
  · exact .inl h0
  · exact .inr ⟨g, cap, cur, hv, hb, h g cur hg, hr⟩
theorem KeepT.grown {e e' : TypeId} {W W' : World} {base size n : Nat} {v : Value} {xs : List Value} (ho : W.ownsRow base e' size v n xs) (hne : e ≠ e') (h : W.grownBy W' v.ownBlock) : KeepT e W W' := fun k cur h1 => by
  rw [h.block k (Array.getElem?_eq_some_iff.1 h1).1 (fun ek => ?_)]
  · exact h1
  · obtain ⟨c, hc, _⟩ := own_at ho ek.symm
    rw [h1] at hc
    cases hc
    exact hne rfl
theorem KeepT.blk {e t : TypeId} {W W' : World} {B : Nat} {cs : Array Value} (hb : BlkAt W B t cs) (hne : e ≠ t) (h : W.grownBy W' (some B)) : KeepT e W W' := fun k cur h1 => by
  rw [h.block k (Array.getElem?_eq_some_iff.1 h1).1 (fun ek => ?_)]
  · exact h1
  · obtain rfl : k = B := Option.some.inj ek
    rw [show W.heap[k]? = _ from hb] at h1
    cases h1
    exact hne rfl
theorem block_lt' {w : World} {a : Addr} {v : Value} (h : w.cell? a = some v) : a.block < w.heap.size := by
  apply Decidable.byContradiction
  intro hn
  rw [World.cell?, Array.getElem?_eq_none (by omega)] at h
  cases h
end Go.Proofs.Ytajnpmhgldfgfaa
