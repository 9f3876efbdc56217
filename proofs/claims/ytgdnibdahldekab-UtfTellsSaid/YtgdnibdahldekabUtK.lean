/- The walk of the law's own word alike. -/
import Derived.Test.YtgdnibdahldekabIt
import Derived.BigRegion
import Derived.Test.YtgdnibdahldekabProg
import Derived.WalkKit
import Derived.ProofKit
import Derived.LoopTactic
import Derived.Lib.Hide
import Derived.Outline
import Derived.Handy
namespace Go.Proofs.Ytgdnibdahldekab
open Go.RowKit
set_option linter.unusedVariables false

/-- A slice's numbers as they lie. -/
def RdI (w : World) (a : Option Addr) (l : List Int) : Prop := ∀ i, i < l.length → ∃ g, a = some ⟨g, 0, none⟩ ∧ g < w.heap.size ∧ w.cell? ⟨g, i, none⟩ = some (.int .i64 (l.getD i 0))
theorem rdI_own {w : World} {base : Nat} {e : TypeId} {v : Value} {l : List Int} (h : w.ownsRow base e 1 v l.length (l.map (Value.int .i64))) : ∃ a c, v = .slice a l.length c ∧ RdI w a l := by
  rcases h.2 with ⟨rfl, h0⟩ | ⟨g, cap, cur, rfl, hb, hg, h1, h2, h3, h4⟩
  · exact ⟨none, 0, by rw [h0], fun i hi => by omega⟩
  · refine ⟨_, _, rfl, fun i hi => ⟨g, rfl, (Array.getElem?_eq_some_iff.1 hg).1, ?_⟩⟩
    rw [cell_of_row w g _ cur _ _ hg]
    have : (cur.toList.take (l.length * 1))[i]? = cur[i]? := by rw [List.getElem?_take_of_lt (by omega)]; simp
    rw [← this, h4]
    simp [List.getD, List.getElem?_eq_getElem hi]
theorem RdI.below {w w' : World} {a : Option Addr} {l : List Int} (h : RdI w a l) (hB : Below w.heap.size w w') : RdI w' a l := fun i hi => by
  obtain ⟨g, h1, h2, h3⟩ := h i hi
  exact ⟨g, h1, Nat.lt_of_lt_of_le h2 hB.size, (hB.cell h2).trans h3⟩

set_option maxRecDepth 20000 in
set_option maxHeartbeats 800000 in
theorem alike6_any (a b : Option Addr) (ca cb : Nat) (la lb : List Int) (h0 : la.length ≤ 4611686018427387904) (h1 : lb.length ≤ 4611686018427387904) (w : World) (ha : RdI w a la) (hb : RdI w b lb) :
    Calls Try.prog 24 #[.slice a la.length ca, .slice b lb.length cb] w fun e w' => e = .returned (.bool (decide (la = lb))) ∧ Below w.heap.size w w' := by
  by_cases hl : la.length = lb.length
  · have HA := Lib.hid ha
    have HB := Lib.hid hb
    clear ha hb
    obtain ⟨r, hr⟩ : ∃ r, decide (la = lb) = r := ⟨_, rfl⟩
    rw [hr]
    have HR := Lib.hid hr
    clear hr
    have hl2 : (la.length : Int) = (lb.length : Int) := by omega
    go_enter Try.func24, Try.ntmps24
    go_wp2
    go_loopw [5] (fun p wr => ∃ k : Nat, p = .int .i64 k ∧ k ≤ la.length ∧ la.take k = lb.take k ∧ Below w.heap.size w wr) (fun p wr => la.length - (intOf p).toNat)
    case atStart => exact ⟨0, rfl, Nat.zero_le _, rfl, Below.refl _ _⟩
    case round =>
      obtain ⟨k, rfl, hk, ht, hB⟩ := hrel
      have HT := Lib.hid ht
      clear ht
      by_cases hlt : k < la.length
      · obtain ⟨ga, rfl, ha1, ha2⟩ := (HA.out.below hB) k hlt
        obtain ⟨gb, rfl, hb1, hb2⟩ := (HB.out.below hB) k (by omega)
        have ea : la.getD k 0 = la[k] := by rw [List.getD, List.getElem?_eq_getElem hlt]; rfl
        have eb : lb.getD k 0 = lb[k]'(by omega) := by rw [List.getD, List.getElem?_eq_getElem (by omega)]; rfl
        by_cases heq : la.getD k 0 = lb.getD k 0
        · have hst : la.take (k + 1) = lb.take (k + 1) := by
            rw [List.take_add_one, List.take_add_one, HT.out, List.getElem?_eq_getElem hlt, List.getElem?_eq_getElem (by omega), ← ea, ← eb, heq]
          have HS := Lib.hid hst
          rw [heq] at ha2
          clear ea eb heq hst
          go_wp2_with fail
          go_region
          all_goals
            go_wp2_with fail
            go_roundw
            case rel => exact ⟨k + 1, by go_num, by omega, HS.out, hB.drew⟩
            case measure => simp [intOf]; omega
        · have hr : r = false := by
            rw [← HR.out]
            refine decide_eq_false fun e => heq ?_
            rw [e]
          subst hr
          generalize la.getD k 0 = p at ha2 heq ea
          generalize lb.getD k 0 = q at hb2 heq eb
          clear ea eb
          go_wp2_with fail
          go_region
          all_goals
            go_wp2_with fail
            go_ret
            exact ⟨rfl, hB.drew⟩
      · obtain rfl : k = la.length := by omega
        have hr : r = true := by
          rw [← HR.out]
          refine decide_eq_true ?_
          have := HT.out
          rw [List.take_length, hl, List.take_length] at this
          exact this
        subst hr
        go_wp2_with fail
        go_ret
        exact ⟨rfl, hB⟩
  · have hr : decide (la = lb) = false := decide_eq_false fun e => hl (by rw [e])
    rw [hr]
    clear hr ha hb
    have hl2 : ¬ (la.length : Int) = (lb.length : Int) := by omega
    go_enter Try.func24, Try.ntmps24
    go_wp2
    go_ret
    exact ⟨rfl, Below.refl _ _⟩
end Go.Proofs.Ytgdnibdahldekab
