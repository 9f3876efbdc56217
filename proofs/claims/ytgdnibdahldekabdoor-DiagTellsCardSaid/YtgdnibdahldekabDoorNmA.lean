/- The document's numbers as they lie in memory: trim, Of, Text. -/
import Derived.Test.YtgdnibdahldekabDoorNmT
import Derived.Test.YtgdnibdahldekabDoorRd
import Derived.Test.YtgdnibdahldekabDoorDgC
namespace Go.Proofs.YtgdnibdahldekabDoor
open Go.RowKit
set_option linter.unusedVariables false

/-- A slice of numbers as it lies, at its block's begin. -/
def NS (W : World) (v : Value) (xs : List Int) : Prop := ∃ a c, v = .slice a xs.length c ∧ xs.length ≤ c ∧ (a = none ∨ ∃ g, a = some ⟨g, 0, none⟩) ∧ RdI W a xs
theorem NS.below {W W' : World} {v : Value} {xs : List Int} (h : NS W v xs) (hB : Below W.heap.size W W') : NS W' v xs := by
  obtain ⟨a, c, h1, h2, h3, h4⟩ := h
  exact ⟨a, c, h1, h2, h3, h4.below hB⟩
theorem ns_nil (W : World) : NS W (.slice none 0 0) [] := ⟨none, 0, rfl, Nat.le_refl _, .inl rfl, fun i hi => by cases hi⟩
theorem ns_own {W : World} {base : Nat} {e : TypeId} {v : Value} {xs : List Int} (h : W.ownsRow base e 1 v xs.length (xs.map (Value.int .i64))) : NS W v xs := by
  obtain ⟨a, c, h1, h2, h3, h4⟩ := rdI_front h
  exact ⟨a, c, h1, h2, h3, h4⟩
theorem slN : SlT Tryd.prog 76 3 1 8 := SlT.mk Tryd.underlying76 (z := .int .i64 0) (by kernel_rfl) rfl (by decide) (by decide)

def lenV (v : Value) : Nat := match v with | .slice _ n _ => n | _ => 0
/-- How far a trim has come. -/
def TrimR (w : World) (xs : List Int) (a : Option Addr) (c : Nat) (p : Value) (wr : World) : Prop :=
  ∃ m, p = .slice a m c ∧ m ≤ xs.length ∧ (∀ i, m ≤ i → i < xs.length → xs.getD i 0 = 0) ∧ wr = w
/-- What a trim leaves. -/
def TrimD (w : World) (xs : List Int) (a : Option Addr) (c : Nat) (e : Ending) (W' : World) : Prop :=
  ∃ m, e = .returned (.slice a m c) ∧ m ≤ xs.length ∧ (∀ i, m ≤ i → i < xs.length → xs.getD i 0 = 0) ∧ (0 < m → xs.getD (m - 1) 0 ≠ 0) ∧ W' = w
set_option maxRecDepth 100000 in
theorem trim_walk (n : Nat) (xs : List Int) (g c : Nat) (hn : xs.length = n) (hm : n ≤ 1000) (hc : n ≤ c) (w : World) (hr : ∀ i, i < n → w.cell? ⟨g, i, none⟩ = some (.int .i64 (xs.getD i 0))) :
    Calls Tryd.prog 82 #[.slice (some ⟨g, 0, none⟩) n c] w fun e W' => TrimD w xs (some ⟨g, 0, none⟩) c e W' := by
  have hz : ∀ w, (Go.sizeOf (Tryd.prog.elem 76)).run Tryd.prog w = .ok 1 w := fun w => by kernel_rfl
  have hf : ∀ m k, m ≤ c → ∀ W, (Instr.slice 76 (.slice (some ⟨g, 0, none⟩) k c) none (some (.int .i64 (m : Nat))) none).run Tryd.prog W = .ok (.slice (some ⟨g, 0, none⟩) m c) W := fun m k h W =>
    run_front Tryd.underlying76 hz (.inr ⟨g, rfl⟩) h W
  have HF := Lib.hid hf
  have HR := Lib.hid hr
  have HN := Lib.hid hn
  clear hz hf hr hn
  go_enter Tryd.func82, Tryd.ntmps82
  go_wp2
  go_loopw [0] (fun p wr => TrimR w xs (some ⟨g, 0, none⟩) c p wr) (fun p _ => lenV p)
  case atStart => exact ⟨n, rfl, by rw [HN.out]; exact Nat.le_refl _, fun i h1 h2 => by rw [HN.out] at h2; omega, rfl⟩
  case round =>
    obtain ⟨m, rfl, hmn, hzero, rfl⟩ := hrel
    have HZ := Lib.hid hzero
    have hmn' : m ≤ n := by rw [HN.out] at hmn; exact hmn
    clear hzero hmn
    by_cases h0 : m = 0
    · subst h0
      have hz0 : ¬ (0 : Int) > 0 := by omega
      go_wp2
      go_ret
      exact ⟨0, rfl, Nat.zero_le _, HZ.out, fun h => by omega, rfl⟩
    · obtain ⟨m, rfl⟩ : ∃ k, m = k + 1 := ⟨m - 1, by omega⟩
      have hc0 := HR.out m (by omega)
      have hi : (m : Int) < (m : Int) + 1 := by omega
      have hp : (m : Int) + 1 > 0 := by omega
      by_cases hx : xs.getD m 0 = 0
      · have hs := HF.out m (m + 1) (by omega)
        have HX := Lib.hid hx
        rw [hx] at hc0
        clear hx
        go_wp2
        go_roundw
        case rel => exact ⟨m, rfl, by rw [HN.out]; omega, fun i h1 h2 => by
          by_cases e : i = m
          · rw [e]; exact HX.out
          · exact HZ.out i (by omega) h2, rfl⟩
        case measure => simp [lenV]
      · have HX := Lib.hid hx
        generalize xs.getD m 0 = x at hx hc0
        have hxb : (x == 0) = false := beq_eq_false_iff_ne.2 hx
        go_wp2
        go_ret
        exact ⟨m + 1, rfl, by rw [HN.out]; omega, HZ.out, fun _ => HX.out, rfl⟩
set_option maxRecDepth 100000 in
theorem trim_none (c : Nat) (a : Option Addr) (w : World) :
    Calls Tryd.prog 82 #[.slice a 0 c] w fun e W' => e = .returned (.slice a 0 c) ∧ W' = w := by
  go_enter Tryd.func82, Tryd.ntmps82
  go_wp2
  refine wp_loop_rounds 1 ?_
  rw [rounds_succ]
  go_wp2
  go_ret
  exact ⟨rfl, rfl⟩
/-- A number that ends in no 0 is left as it is. -/
theorem trim_same {v : Value} {xs : List Int} {w : World} (h : NS w v xs) (hm : xs.length ≤ 1000) (hl : 0 < xs.length → xs.getD (xs.length - 1) 0 ≠ 0) :
    Calls Tryd.prog 82 #[v] w fun e W' => e = .returned v ∧ W' = w := by
  obtain ⟨a, c, rfl, hc, ha, hr⟩ := h
  by_cases h0 : xs.length = 0
  · rw [h0]
    exact trim_none c a w
  · obtain ⟨g, rfl, hg, _⟩ := hr 0 (by omega)
    refine (trim_walk xs.length xs g c rfl hm hc w fun i hi => ?_).mono ?_
    · obtain ⟨g', e, _, h3⟩ := hr i hi
      cases e
      exact h3
    · rintro e W' ⟨m, rfl, h1, h2, h3, rfl⟩
      have : m = xs.length := by
        apply Decidable.byContradiction
        intro hn
        exact hl (by omega) (h2 (xs.length - 1) (by omega) (by omega))
      rw [this]
      exact ⟨rfl, rfl⟩
/-- One digit, and noughts behind it: it is trimmed. -/
theorem trim_dig {v : Value} {x : Int} {n : Nat} {w : World} (h : NS w v (x :: List.replicate n 0)) (hm : n ≤ 100) :
    Calls Tryd.prog 82 #[v] w fun e W' => ∃ u, e = .returned u ∧ NS w u (dig x) ∧ W' = w := by
  obtain ⟨a, c, rfl, hc, ha, hr⟩ := h
  obtain ⟨g, rfl, hg, _⟩ := hr 0 (by simp)
  have hl : (x :: List.replicate n (0 : Int)).length = n + 1 := by simp
  rw [hl] at hc ⊢
  refine (trim_walk (n + 1) _ g c hl (by omega) hc w fun i hi => ?_).mono ?_
  · obtain ⟨g', e, _, h3⟩ := hr i (by rw [hl]; exact hi)
    cases e
    exact h3
  · rintro e W' ⟨m, rfl, h1, h2, h3, rfl⟩
    have hrep : ∀ i, (x :: List.replicate n (0 : Int)).getD (i + 1) 0 = 0 := fun i => by
      rw [List.getD_cons_succ]
      simp only [List.getD, List.getElem?_replicate]
      split <;> rfl
    have hm1 : m ≤ 1 := by
      apply Decidable.byContradiction
      intro hn
      have := h3 (by omega)
      rw [show m - 1 = m - 2 + 1 by omega, hrep] at this
      exact this rfl
    refine ⟨_, rfl, ⟨some ⟨g, 0, none⟩, c, ?_, ?_, .inr ⟨g, rfl⟩, ?_⟩, rfl⟩
    · by_cases hx : x = 0
      · have : m = 0 := by
          apply Decidable.byContradiction
          intro hn
          have := h3 (by omega)
          rw [show m - 1 = 0 by omega] at this
          exact this hx
        rw [this, dig_len, if_pos hx]
      · have : m = 1 := by
          apply Decidable.byContradiction
          intro hn
          have := h2 0 (by omega) (by simp)
          exact hx this
        rw [this, dig_len, if_neg hx]
    · rw [dig_len]; split <;> omega
    · intro i hi
      rw [dig_len] at hi
      by_cases hx : x = 0
      · rw [if_pos hx] at hi; omega
      · rw [if_neg hx] at hi
        obtain rfl : i = 0 := by omega
        obtain ⟨g', e, h5, h6⟩ := hr 0 (by simp)
        exact ⟨g', e, h5, by rw [h6]; unfold dig; rw [if_neg hx]; rfl⟩

/-- How far Of has come. -/
def OfR (u : Nat) (w : World) (p q : Value) (wr : World) : Prop :=
  ∃ (U : Nat) (l : List Int), p = .int .u64 U ∧ U ≤ u ∧ limbs u = l ++ limbs U ∧ wr.ownsRow w.heap.size 3 1 q l.length (l.map (Value.int .i64)) ∧ Below w.heap.size w wr ∧ w.heap.size ≤ wr.heap.size
set_option maxRecDepth 20000 in
set_option maxHeartbeats 800000 in
theorem of_any (u : Nat) (hu : u < 18446744073709551616) (w : World) :
    Calls Tryd.prog 74 #[.int .u64 u] w fun e W' => ∃ v, e = .returned v ∧ NS W' v (limbs u) ∧ Below w.heap.size w W' := by
  go_enter Tryd.func74, Tryd.ntmps74
  go_wp2
  go_loopw [0, 3] (fun p q wr => OfR u w p q wr) (fun p _ _ => (intOf p).toNat)
  case atStart => exact ⟨u, [], rfl, Nat.le_refl _, rfl, World.ownsRow_nil _ _ _ _, Below.refl _ _, Nat.le_refl _⟩
  case round =>
    obtain ⟨U, l, rfl, hU, h, hown, hB, hsz⟩ := hrel
    have H := Lib.hid h
    clear h
    by_cases hlt : 0 < U
    · have HP := Lib.hid (limbs_pos hlt)
      have hz : (U : Int) > 0 := by omega
      have HLL := Lib.hid (show l.length ≤ 5 by
        have h1 := limbs_len5 hu
        rw [H.out, List.length_append] at h1
        omega)
      go_wp2_with (at_builtin; refine wpList_app _ rfl _ _ _ _ _ _ slN rfl _ w (hB.alloc hsz _) (by simp; omega) _ _ _ rfl (hown.alloc _) ⟨wr.heap.size, 0, none⟩ _ rfl rfl (cell_one_new _ _ _) ?c1 ?c2 ?_)
      case c1 => intro x hx; simp at hx; subst hx; rfl
      case c2 => have := HLL.out; omega
      intro v' w1 hown1 hB1 hsz1 _
      go_wp2
      go_roundw
      case rel =>
        refine ⟨U / 10000, l ++ [((U % 10000 : Nat) : Int)], by go_num, by omega, by rw [H.out, HP.out]; simp, ?_, hB1, hsz1⟩
        simpa using hown1
      case measure => simp [intOf]; omega
    · obtain rfl : U = 0 := by omega
      have hz : ¬ ((0 : Nat) : Int) > 0 := by omega
      have HN := Lib.hid (ns_own hown)
      go_wp2
      go_ret
      exact ⟨_, rfl, by rw [H.out, limbs_zero, List.append_nil]; exact HN.out, hB⟩
end Go.Proofs.YtgdnibdahldekabDoor
