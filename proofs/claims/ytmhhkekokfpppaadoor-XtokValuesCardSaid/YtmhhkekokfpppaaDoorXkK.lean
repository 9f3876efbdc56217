/- The runs of the cutter at the law's texts; no program in sight. -/
import Derived.Test.YtmhhkekokfpppaaDoorXkE
import Derived.Test.YtmhhkekokfpppaaDoorXkY
namespace Go.Proofs.YtmhhkekokfpppaaDoor
open Go.RowKit
set_option linter.unusedVariables false

theorem run_ref (M : List UInt8) (hx : ∀ c ∈ M, 32 ≤ c.toNat ∧ c.toNat < 128 ∧ c ≠ 59 ∧ c ≠ 60) (o : Option (List UInt8)) (hr : refX ([38, 35] ++ M ++ [59]) = o.map fun t => (t, ([38, 35] ++ M ++ [59]).length)) (hne : ∀ t, o = some t → t ≠ []) :
    charsX ([60, 97, 62, 38, 35] ++ M ++ [59, 60, 47, 97, 62]) = none ∧ CutRun 8 ([60, 97, 62, 38, 35] ++ M ++ [59, 60, 47, 97, 62]) ⟨0, [], [], 0⟩ (refRes M.length o) := by
  have hchars : charsX ([60, 97, 62, 38, 35] ++ M ++ [59, 60, 47, 97, 62]) = none := charsX_print (by
    intro c hc
    simp only [List.mem_append, List.mem_cons, List.not_mem_nil, or_false] at hc
    rcases hc with ((rfl | rfl | rfl | rfl | rfl) | h) | (rfl | rfl | rfl | rfl | rfl)
    all_goals first | exact ⟨(hx _ h).1, (hx _ h).2.1⟩ | decide)
  have hp : namePartR ((62 : UInt8).toNat : Int) = false := by decide
  have hs : nameStartR ((97 : UInt8).toNat : Int) = true := by decide
  -- the begin
  have hn1 : nameX (97 :: 62 :: 38 :: 35 :: (M ++ [59, 60, 47, 97, 62])) = 1 := nameX_one 62 _ (by decide) hp 97 (by decide) hs
  have hb1 : blanksX (62 :: 38 :: 35 :: (M ++ [59, 60, 47, 97, 62])) = 0 := by simp [blanksX, Lib.trimLeftS, List.dropWhile]
  have hopen : openX 8 ([60, 97, 62, 38, 35] ++ M ++ [59, 60, 47, 97, 62]) 0 = .ok (⟨1, 0, [97], [], [], false⟩, 3) := by
    unfold openX
    simp only [List.cons_append, List.nil_append, Nat.zero_add, List.drop_succ_cons, List.drop_zero, hn1]
    rw [if_neg (by omega), openGo]
    simp only [Nat.reduceAdd, List.drop_succ_cons, List.drop_zero, hb1, Nat.add_zero]
    rw [if_pos (by simp [Lib.hasPrefix])]
    rfl
  have hstep1 : nextX 8 ([60, 97, 62, 38, 35] ++ M ++ [59, 60, 47, 97, 62]) ⟨0, [], [], 0⟩ = .ok ⟨3, [⟨1, 0, [97], [], [], false⟩], [], 0⟩ := by
    unfold nextX
    simp only [hopen]
    simp [Lib.hasPrefix, List.isPrefixOf, finX]
  -- the reference
  have hend : endX ([60, 97, 62, 38, 35] ++ M ++ [59, 60, 47, 97, 62]) 3 = 3 + (M.length + 3) := by
    unfold endX
    have e : ([60, 97, 62, 38, 35] ++ M ++ [59, 60, 47, 97, 62] : List UInt8).drop 3 = (38 :: 35 :: M ++ [59]) ++ 60 :: [47, 97, 62] := by simp
    rw [e, indexByte_front _ _ _ (by
      intro c hc
      simp only [List.mem_append, List.mem_cons, List.not_mem_nil, or_false] at hc
      rcases hc with (rfl | rfl | h) | rfl
      · decide
      · decide
      · exact (hx c h).2.2.2
      · decide)]
    rw [if_neg (by omega)]
    simp
    omega
  have htake : (([60, 97, 62, 38, 35] ++ M ++ [59, 60, 47, 97, 62] : List UInt8).drop 3).take (3 + (M.length + 3) - 3) = [38, 35] ++ M ++ [59] := by
    have e : ([60, 97, 62, 38, 35] ++ M ++ [59, 60, 47, 97, 62] : List UInt8).drop 3 = ([38, 35] ++ M ++ [59]) ++ [60, 47, 97, 62] := by simp
    rw [e, List.take_append_of_le_length (by simp), List.take_of_length_le (by simp)]
  have h0 : (([60, 97, 62, 38, 35] ++ M ++ [59, 60, 47, 97, 62] : List UInt8).drop 3)[0]? ≠ some 60 := by simp
  have hlt : ¬ ([60, 97, 62, 38, 35] ++ M ++ [59, 60, 47, 97, 62] : List UInt8).length ≤ 0 := by simp
  have hlt3 : ¬ ([60, 97, 62, 38, 35] ++ M ++ [59, 60, 47, 97, 62] : List UInt8).length ≤ 3 := by simp
  refine ⟨hchars, ?_⟩
  have hlen : ([60, 97, 62, 38, 35] ++ M ++ [59, 60, 47, 97, 62] : List UInt8).length = M.length + 10 := by simp <;> omega
  have g3 : ([60, 97, 62, 38, 35] ++ M ++ [59, 60, 47, 97, 62] : List UInt8)[3]? = some 38 := by simp
  refine .step _ ⟨3, [⟨1, 0, [97], [], [], false⟩], [], 0⟩ _ (by rw [hlen]; simp) (fun _ _ => .inl ⟨_, _, hopen, by simp⟩) hstep1 (by simp) (by rw [hlen]; (simp <;> omega)) (by simp) (by simp) ?_
  cases o with
  | none =>
    have hb : nextX 8 ([60, 97, 62, 38, 35] ++ M ++ [59, 60, 47, 97, 62]) ⟨3, [⟨1, 0, [97], [], [], false⟩], [], 0⟩ = .bad ⟨11, 3, wReference⟩ := by
      unfold nextX
      simp only []
      rw [if_pos h0, hend, htake, wordsX_noref 7 _ _ _ (by simp) hr]
    exact .bad _ _ (by rw [hlen]; (simp <;> omega)) (fun h => by rw [g3] at h; cases h) hb (by simp)
  | some t =>
    have htl : t.length ≤ 4 := (refX_bd hr).1
    have ht := hne t rfl
    have hs2 : nextX 8 ([60, 97, 62, 38, 35] ++ M ++ [59, 60, 47, 97, 62]) ⟨3, [⟨1, 0, [97], [], [], false⟩], [], 0⟩ = .ok ⟨3 + (M.length + 3), [⟨1, 0, [97], [], [], false⟩], t, 3⟩ := by
      unfold nextX
      simp only []
      rw [if_pos h0, hend, htake, wordsX_ref 6 _ _ _ t (by simp) hr]
      simp [addX, ht]
    -- the end
    have hd : ([60, 97, 62, 38, 35] ++ M ++ [59, 60, 47, 97, 62] : List UInt8).drop (3 + (M.length + 3)) = [60, 47, 97, 62] := by
      have e : ([60, 97, 62, 38, 35] ++ M ++ [59, 60, 47, 97, 62] : List UInt8) = ([60, 97, 62, 38, 35] ++ M ++ [59]) ++ [60, 47, 97, 62] := by simp
      rw [e, List.drop_append_of_le_length (by simp <;> omega), List.drop_of_length_le (by simp <;> omega)]
      rfl
    have hd2 : ∀ k, ([60, 97, 62, 38, 35] ++ M ++ [59, 60, 47, 97, 62] : List UInt8).drop (3 + (M.length + 3) + k) = [60, 47, 97, 62].drop k := by
      intro k; rw [← List.drop_drop, hd]
    have hn2 : nameX [97, 62] = 1 := nameX_one 62 _ (by decide) hp 97 (by decide) hs
    have hb2 : blanksX [62] = 0 := by simp [blanksX, Lib.trimLeftS, List.dropWhile]
    have hg : ([60, 97, 62, 38, 35] ++ M ++ [59, 60, 47, 97, 62] : List UInt8)[3 + (M.length + 3) + 3]? = some 62 := by
      have := congrArg (fun l => l[0]?) (hd2 3)
      simpa [List.getElem?_drop] using this
    have hclose : closeX ([60, 97, 62, 38, 35] ++ M ++ [59, 60, 47, 97, 62]) (3 + (M.length + 3)) = .ok (⟨2, 3 + (M.length + 3), [97], [], [], false⟩, 3 + (M.length + 3) + 4) := by
      obtain ⟨P, hP⟩ : ∃ P, 3 + (M.length + 3) = P := ⟨_, rfl⟩
      rw [hP] at hd2 hg ⊢
      have e2 := hd2 2
      have e3 := hd2 3
      simp only [List.drop_succ_cons, List.drop_zero] at e2 e3
      unfold closeX
      simp only [e2, hn2, show P + 2 + 1 = P + 3 from rfl, e3, hb2]
      rw [if_neg (by rw [hg]; simp)]
      rfl
    have hs3 : nextX 8 ([60, 97, 62, 38, 35] ++ M ++ [59, 60, 47, 97, 62]) ⟨3 + (M.length + 3), [⟨1, 0, [97], [], [], false⟩], t, 3⟩
        = .ok ⟨3 + (M.length + 3) + 4, [⟨1, 0, [97], [], [], false⟩, ⟨3, 3, [], t, [], false⟩, ⟨2, 3 + (M.length + 3), [97], [], [], false⟩], [], 3⟩ := by
      unfold nextX
      simp only [hclose]
      rw [hd]
      simp [Lib.hasPrefix, List.isPrefixOf, finX, ht]
    have hfin : finX ⟨3 + (M.length + 3) + 4, [⟨1, 0, [97], [], [], false⟩, ⟨3, 3, [], t, [], false⟩, ⟨2, 3 + (M.length + 3), [97], [], [], false⟩], [], 3⟩ = ⟨3 + (M.length + 3) + 4, [⟨1, 0, [97], [], [], false⟩, ⟨3, 3, [], t, [], false⟩, ⟨2, 3 + (M.length + 3), [97], [], [], false⟩], [], 3⟩ := rfl
    have hdone := CutRun.done (f := 8) (s := ([60, 97, 62, 38, 35] ++ M ++ [59, 60, 47, 97, 62])) ⟨3 + (M.length + 3) + 4, [⟨1, 0, [97], [], [], false⟩, ⟨3, 3, [], t, [], false⟩, ⟨2, 3 + (M.length + 3), [97], [], [], false⟩], [], 3⟩ (by rw [hlen]; (simp <;> omega))
    rw [hfin] at hdone
    have hres : refRes M.length (some t) = .ok [⟨1, 0, [97], [], [], false⟩, ⟨3, 3, [], t, [], false⟩, ⟨2, 3 + (M.length + 3), [97], [], [], false⟩] := by
      unfold refRes
      rw [show M.length + 6 = 3 + (M.length + 3) by omega]
    rw [hres]
    exact .step _ _ _ (by rw [hlen]; (simp <;> omega)) (fun h => by rw [g3] at h; cases h) hs2 (by simp <;> omega) (by rw [hlen]; (simp <;> omega)) (by simp) (by simp <;> omega)
      (.step _ _ _ (by rw [hlen]; (simp <;> omega)) (fun _ h => by rw [hd] at h; simp [Lib.hasPrefix, List.isPrefixOf] at h) hs3 (by simp) (by rw [hlen]; (simp <;> omega)) (by simp) (by simp) hdone)
theorem run_alive : charsX aliveT = none ∧ CutRun 20 aliveT ⟨0, [], [], 0⟩ (.ok [⟨1, 0, [97], [], [⟨[98], [49, 38, 50], 3⟩], true⟩]) := by
  have hc : charsX aliveT = none := charsX_print (by decide)
  have hs : nameStartR ((97 : UInt8).toNat : Int) = true := by decide
  have hs2 : nameStartR ((98 : UInt8).toNat : Int) = true := by decide
  have n1 : nameX (aliveT.drop 1) = 1 := nameX_one 32 _ (by decide) (by decide) 97 (by decide) hs
  have n2 : nameX (aliveT.drop 3) = 1 := nameX_one 61 _ (by decide) (by decide) 98 (by decide) hs2
  have v : valueX 0 39 19 (aliveT.drop 6) 6 [] = .ok ([49, 38, 50], 14) := by rfl
  have b1 : blanksX (aliveT.drop 2) = 1 := by rfl
  have b2 : blanksX (aliveT.drop 4) = 0 := by rfl
  have b3 : blanksX (aliveT.drop 5) = 0 := by rfl
  have b4 : blanksX (aliveT.drop 14) = 0 := by rfl
  have ha : attrX 19 aliveT 0 [] 3 = .ok (⟨[98], [49, 38, 50], 3⟩, 14) := by
    unfold attrX
    simp only [n2, List.any_nil, Bool.false_eq_true, if_false, Nat.reduceAdd, b2, b3, Nat.add_zero]
    rw [if_neg (by decide)]
    have e5 : aliveT[5]? = some 39 := by rfl
    rw [e5]
    simp only [v]
    rw [if_pos (by decide)]
    rfl
  have ho : openX 20 aliveT 0 = .ok (⟨1, 0, [97], [], [⟨[98], [49, 38, 50], 3⟩], true⟩, 16) := by
    unfold openX
    simp only [Nat.zero_add, n1, Nat.reduceAdd]
    rw [if_neg (by decide), openGo]
    simp only [b1, Nat.reduceAdd]
    rw [if_neg (by decide), if_neg (by decide), if_neg (by decide), ha]
    simp only [List.nil_append]
    rw [openGo]
    simp only [b4, Nat.add_zero]
    rw [if_neg (by decide), if_pos (by decide)]
    rfl
  have hn : nextX 20 aliveT ⟨0, [], [], 0⟩ = .ok ⟨16, [⟨1, 0, [97], [], [⟨[98], [49, 38, 50], 3⟩], true⟩], [], 0⟩ := by
    unfold nextX
    simp only [ho]
    rfl
  refine ⟨hc, .step _ _ _ (by decide) (fun _ _ => .inl ⟨_, _, ho, by decide⟩) hn (by decide) (by decide) (by decide) (by decide) ?_⟩
  exact CutRun.done (f := 20) (s := aliveT) ⟨16, [⟨1, 0, [97], [], [⟨[98], [49, 38, 50], 3⟩], true⟩], [], 0⟩ (by decide)
theorem run_dead : charsX [60, 97] = none ∧ CutRun 20 [60, 97] ⟨0, [], [], 0⟩ (.bad ⟨11, 0, wBegin⟩) := by
  have hc : charsX [60, 97] = none := charsX_print (by decide)
  have n1 : nameX [97] = 1 := by
    unfold nameX allRunes
    rw [runesL_ascii _ (by decide), runesL_none nextL_nil]
    rfl
  have ho : openX 20 [60, 97] 0 = .bad ⟨11, 0, wBegin⟩ := by
    unfold openX
    simp only [Nat.zero_add, List.drop_succ_cons, List.drop_zero, n1, Nat.reduceAdd]
    rw [if_neg (by decide)]
    rfl
  have hn : nextX 20 [60, 97] ⟨0, [], [], 0⟩ = .bad ⟨11, 0, wBegin⟩ := by
    unfold nextX
    simp only [ho]
    rfl
  have hbare : BareX [60, 97] 0 := by
    unfold BareX
    simp only [Nat.zero_add, List.drop_succ_cons, List.drop_zero, n1, Nat.reduceAdd]
    exact ⟨by decide, by decide, by decide, by decide⟩
  exact ⟨hc, .bad _ _ (by decide) (fun _ _ => .inr (.inr hbare)) hn (by decide)⟩

/-- The law's two texts. -/
theorem run_dec (r : Nat) (h : r ≤ 1114111) : charsX ([60, 97, 62, 38, 35] ++ decX r ++ [59, 60, 47, 97, 62]) = none ∧ CutRun 8 ([60, 97, 62, 38, 35] ++ decX r ++ [59, 60, 47, 97, 62]) ⟨0, [], [], 0⟩ (numRes (decX r).length r) := by
  have hl := digF_len 10 decCh 7 r []
  have hl1 := digF_one 10 decCh 6 r
  have hn := numX_digF 10 (by omega) decCh (fun d hd => decCh_dig hd) 7 r [] (by omega) (.inr (by omega))
  have hm := decX_mem r
  have hc := charX_of (decX r) 10 7 r hl1 (by simpa [decX, hexX] using hl.1) hn
  refine run_ref _ (fun c hc => ?_) _ ?_ ?_
  · have := hm c hc
    exact ⟨by omega, by omega, u8_ne (by simp; omega), u8_ne (by simp; omega)⟩
  · have hr := refX_num [] (decX r) [] 10 7 (.inl ⟨rfl, rfl, rfl, fun e => by
      have := hm 120 (List.mem_of_head? e)
      simp at this⟩) (fun c hc => by have := hm c hc; exact u8_ne (by simp; omega))
    rw [hc] at hr
    simp only [List.nil_append] at hr
    rw [hr]
    congr 1
    funext t
    simp
    omega
  · intro t ht
    split at ht
    · cases ht; exact putR_ne r
    · cases ht
theorem run_hex (u : Bool) (r : Nat) (h : r ≤ 1114111) : charsX ([60, 97, 62, 38, 35] ++ (120 :: hexX u r) ++ [59, 60, 47, 97, 62]) = none ∧ CutRun 8 ([60, 97, 62, 38, 35] ++ (120 :: hexX u r) ++ [59, 60, 47, 97, 62]) ⟨0, [], [], 0⟩ (numRes (120 :: hexX u r).length r) := by
  have hl := digF_len 16 (hexCh u) 6 r []
  have hl1 := digF_one 16 (hexCh u) 5 r
  have hn := numX_digF 16 (by omega) (hexCh u) (fun d hd => hexCh_dig u hd) 6 r [] (by omega) (.inr (by omega))
  have hm := hexX_mem u r
  have hc := charX_of (hexX u r) 16 6 r hl1 (by simpa [decX, hexX] using hl.1) hn
  refine run_ref _ (fun c hc => ?_) _ ?_ ?_
  · simp only [List.mem_cons] at hc
    rcases hc with rfl | hc
    · decide
    · have := hm c hc
      exact ⟨by omega, by omega, u8_ne (by simp; omega), u8_ne (by simp; omega)⟩
  · have hr := refX_num [120] (hexX u r) [] 16 6 (.inr ⟨rfl, rfl, rfl⟩) (fun c hc => by have := hm c hc; exact u8_ne (by simp; omega))
    rw [hc] at hr
    simp only [List.cons_append, List.nil_append] at hr ⊢
    rw [hr]
    congr 1
    funext t
    simp
    omega
  · intro t ht
    split at ht
    · cases ht; exact putR_ne r
    · cases ht
end Go.Proofs.YtmhhkekokfpppaaDoor
