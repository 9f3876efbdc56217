/- The cutter's plain words at the two texts of 'alive'; no program in sight. -/
import Derived.Test.YtmhhkekokfpppaaDoorXkL
namespace Go.Proofs.YtmhhkekokfpppaaDoor
open Go.RowKit
set_option linter.unusedVariables false

def aliveT : List UInt8 := [60, 97, 32, 98, 61, 39, 49, 38, 97, 109, 112, 59, 50, 39, 47, 62]
theorem cutX_alive : cutX 20 aliveT = .ok [⟨1, 0, [97], [], [⟨[98], [49, 38, 50], 3⟩], true⟩] := by
  have hc : charsX aliveT = none := charsX_print (by decide)
  have hs : nameStartR ((97 : UInt8).toNat : Int) = true := by decide
  have hs2 : nameStartR ((98 : UInt8).toNat : Int) = true := by decide
  have n1 : nameX (aliveT.drop 1) = 1 := nameX_one 32 _ (by decide) (by decide) 97 (by decide) hs
  have n2 : nameX (aliveT.drop 3) = 1 := nameX_one 61 _ (by decide) (by decide) 98 (by decide) hs2
  have v : valueX 0 39 19 (aliveT.drop 6) 6 [] = .ok ([49, 38, 50], 14) := by rfl
  have b1 : blanksX (aliveT.drop 2) = 1 := by rfl
  have b2 : blanksX (aliveT.drop 4) = 0 := by rfl
  have b3 : blanksX (aliveT.drop 5) = 0 := by rfl
  have b4 : blanksX (aliveT.drop 14) = 0 := by rfl
  have ha : attrX 19 aliveT 0 [] 3 = .ok (⟨[98], [49, 38, 50], 3⟩, 14) := by
    unfold attrX
    simp only [n2, List.any_nil, Bool.false_eq_true, if_false, Nat.reduceAdd, b2, b3, Nat.add_zero]
    rw [if_neg (by decide)]
    have e5 : aliveT[5]? = some 39 := by rfl
    rw [e5]
    simp only [v]
    rw [if_pos (by decide)]
    rfl
  have ho : openX 20 aliveT 0 = .ok (⟨1, 0, [97], [], [⟨[98], [49, 38, 50], 3⟩], true⟩, 16) := by
    unfold openX
    simp only [Nat.zero_add, n1, Nat.reduceAdd]
    rw [if_neg (by decide), openGo]
    simp only [b1, Nat.reduceAdd]
    rw [if_neg (by decide), if_neg (by decide), if_neg (by decide), ha]
    simp only [List.nil_append]
    rw [openGo]
    simp only [b4, Nat.add_zero]
    rw [if_neg (by decide), if_pos (by decide)]
    rfl
  have hn : nextX 20 aliveT ⟨0, [], [], 0⟩ = .ok ⟨16, [⟨1, 0, [97], [], [⟨[98], [49, 38, 50], 3⟩], true⟩], [], 0⟩ := by
    unfold nextX
    simp only [ho]
    rfl
  unfold cutX
  rw [hc]
  simp only []
  rw [cutGo, if_neg (by decide), hn]
  simp only []
  rw [cutGo, if_pos (by decide)]
  rfl
theorem cutX_dead : cutX 20 [60, 97] = .bad ⟨11, 0, wBegin⟩ := by
  have hc : charsX [60, 97] = none := charsX_print (by decide)
  have n1 : nameX [97] = 1 := by
    unfold nameX allRunes
    rw [runesL_ascii _ (by decide), runesL_none nextL_nil]
    rfl
  have ho : openX 20 [60, 97] 0 = .bad ⟨11, 0, wBegin⟩ := by
    unfold openX
    simp only [Nat.zero_add, List.drop_succ_cons, List.drop_zero, n1, Nat.reduceAdd]
    rw [if_neg (by decide)]
    rfl
  have hn : nextX 20 [60, 97] ⟨0, [], [], 0⟩ = .bad ⟨11, 0, wBegin⟩ := by
    unfold nextX
    simp only [ho]
    rfl
  unfold cutX
  rw [hc]
  simp only []
  rw [cutGo, if_neg (by decide), hn]
end Go.Proofs.YtmhhkekokfpppaaDoor
