/- diag.List.Add: which blocks it turns. -/
import Derived.Test.YtgdnibdahldekabDoorDgA
import Derived.Test.YtgdnibdahldekabDoorDgB
import Derived.Deep.RegionLaw
import Derived.Deep.AppendLies
import Derived.RegionTactic
import Derived.BigRegion
import Derived.BigQuiet
import Derived.Laws.StructEq
import Derived.WalkKit
import Derived.ProofKit
import Derived.LoopTactic
import Derived.WalkSpells
import Derived.Lib.Hide
import Derived.Outline
import Derived.Handy
namespace Go.Proofs.YtgdnibdahldekabDoor
open Go.RowKit
set_option linter.unusedVariables false

/-- Block B is a list of the reasons ds; its row is v. -/
def IsLv (base : Nat) (w : World) (B : Nat) (ds : List Di) (v : Value) : Prop :=
  base ≤ B ∧ ds.length ≤ 100 ∧ BlkAt w B 27 #[v] ∧ w.ownsRow base 31 3 v ds.length (ds.flatMap diCells) ∧ v.ownBlock ≠ some B ∧ (ds = [] → v = .slice none 0 0)
theorem IsLv.toL {base B : Nat} {w : World} {ds : List Di} {v : Value} (h : IsLv base w B ds v) : IsL base w B ds := ⟨h.1, h.2.1, v, h.2.2⟩
def AddR (base : Nat) (w : World) (B : Nat) (ds : List Di) (v : Value) (e : Ending) (w' : World) : Prop :=
  (∃ x, e = .returned x) ∧ ∃ v', IsLv base w' B ds v' ∧ Below base w w' ∧ (v'.ownBlock = v.ownBlock ∨ ∃ g, w.heap.size ≤ g ∧ v'.ownBlock = some g) ∧ ∀ k, k < w.heap.size → k ≠ B → v.ownBlock ≠ some k → w'.heap[k]? = w.heap[k]?
set_option maxRecDepth 100000 in
set_option maxHeartbeats 3200000 in
theorem add_more (base B : Nat) (ds : List Di) (v : Value) (code at_ : Int) (what : ByteArray) (hw : what.size ≤ 9223372036854775807) (w : World) (h : IsLv base w B ds v) :
    Calls Tryd.prog 7 #[.pointer (some ⟨B, 0, none⟩), .int .i64 code, .int .i64 at_, .string what] w fun e w' => AddR base w B (addL ds code at_ what.data.toList) v e w' := by
  have h' := h
  obtain ⟨hb, hl, hB, hown, hne, hnil⟩ := h
  have hBl := hB.lt
  obtain ⟨n, hn⟩ : ∃ n, ds.length = n := ⟨_, rfl⟩
  obtain ⟨vb, vc, rfl⟩ := ownsRow_slice' hown
  have c0 := hB.cell 0
  have cf := hB.frozen 0
  rw [hn] at c0 hl hown hnil hB hne
  by_cases hc : code = 0
  · have ha : addL ds code at_ what.data.toList = ds := by unfold addL; rw [if_pos (.inl hc)]
    rw [ha]
    subst hc
    have H := Lib.hid h'
    clear hown hnil h' ha hn hB
    go_enter Tryd.func7, Tryd.ntmps7
    go_wp2
    refine bodyPost_ret (results_none rfl _ _ _) rfl ?_
    exact ⟨⟨_, rfl⟩, _, H.out, Below.refl _ _, .inl rfl, fun _ _ _ _ => rfl⟩
  · by_cases hf : 100 ≤ n
    · have ha : addL ds code at_ what.data.toList = ds := by unfold addL; rw [if_pos (.inr (by omega))]
      rw [ha]
      have H := Lib.hid h'
      clear hown hnil h' ha hn hB
      go_enter Tryd.func7, Tryd.ntmps7
      have hcb : (code == 0) = false := by simpa using hc
      have hnb : decide (100 ≤ (n : Int)) = true := by simp; omega
      go_wp2
      refine bodyPost_ret (results_none rfl _ _ _) rfl ?_
      exact ⟨⟨_, rfl⟩, _, H.out, Below.refl _ _, .inl rfl, fun _ _ _ _ => rfl⟩
    · have ha : addL ds code at_ what.data.toList = ds ++ [⟨code, max at_ 0, what.data.toList.take 60⟩] := by unfold addL; rw [if_neg (by omega)]
      have hbase : base ≤ w.heap.size := by omega
      obtain ⟨m, hm, hm60⟩ : ∃ m : Nat, m ≤ what.size ∧ m = min what.size 60 := ⟨_, Nat.min_le_left _ _, rfl⟩
      have hcl : (what.extract 0 m).size ≤ 281474976710656 := by simp [ByteArray.size_extract]; omega
      have htk : (what.extract 0 m) = ⟨(what.data.toList.take 60).toArray⟩ := by
        have : (what.extract 0 m).data.toList = what.data.toList.take 60 := by
          rw [extract_list]
          simp only [List.drop_zero, Nat.sub_zero]
          have hls : what.data.toList.length = what.size := by simp
          rw [hm60]
          by_cases h60 : what.size ≤ 60
          · rw [Nat.min_eq_left h60, List.take_of_length_le (by omega), List.take_of_length_le (by omega)]
          · rw [Nat.min_eq_right (by omega)]
        rw [← this]
      have HC := Lib.hid (strings_clone _ hcl)
      have hmm : min (what.size : Int) 60 = (m : Int) := by omega
      obtain ⟨M, hM⟩ : ∃ M : Int, max at_ 0 = M := ⟨_, rfl⟩
      rw [ha, hM]
      have HT := Lib.hid htk
      have HN := Lib.hid hn
      have HO := Lib.hid hown
      obtain ⟨i0, hi0, hz0, hz1, hz2⟩ := info_parts infoD
      clear hown hnil h' ha hn hm60 htk hcl
      go_enter Tryd.func7, Tryd.ntmps7
      have hcb : (code == 0) = false := by simpa using hc
      have hnb : decide (100 ≤ (n : Int)) = false := by simp; omega
      go_wp2_with fail
      go_region_law (first
        | (go_simp; go_at_call 22; refine (HC.out _).mono ?_; rintro e w1 ⟨rfl, hB1⟩; have c1 : w1.cell? ⟨B, 0, none⟩ = some (.slice vb n vc) := (hB.drew.below hB1 hBl).cell 0; have c1a : (w1.alloc (Obj.cells #[.int .i64 code, .int .i64 M, .string (what.extract 0 m)] 31)).cell? ⟨B, 0, none⟩ = some (.slice vb n vc) := ((hB.drew.below hB1 hBl).alloc _).cell 0)
        | (refine step_append_lies _ (by rfl) _ _ _ (by rfl) base 31 i0 _ 3 32 Tryd.underlying22 hi0 hz0 hz1 hz2 rfl (by omega) (.slice vb n vc) n _ (by rfl) ((rowKept HO.out.drew hB1).alloc _)
            ⟨w1.heap.size, 0, none⟩ 1 1 [.int .i64 code, .int .i64 M, .string (what.extract 0 m)] (by rfl) (by rfl) (World.news_of_block (cs := #[.int .i64 code, .int .i64 M, .string (what.extract 0 m)]) (t := 31) (fr := (0, 0)) (heap_alloc_new w1 _)) (by simp [Value.oneCell'])
            (by omega) (by unfold maxLen; omega) (by omega) (by have := hB1.size; have e0 : w.drew.heap.size = w.heap.size := rfl; simp; omega) (w1.heap.size + 1) (by simp) ?_; intro gg cap w2 hown1 hgrow hat hlt1; have hB2 := ((hB.drew.below hB1 hBl).alloc _).grown hgrow (Ne.symm hne); have c2 := hB2.cell 0; have f2 := hB2.frozen 0))
      all_goals
        go_wp2
        go_end0
        have e0 : w.drew.heap.size = w.heap.size := rfl
        have s1 := hB1.size
        have hBel : Below base w w2 := ((((Below.refl base w).drew.trans (hB1.mono (by omega))).alloc (by omega) _)).grown hgrow (by simp; omega) (fun j ej => (HO.out.lt j ej).1)
        refine ⟨⟨_, rfl⟩, .slice (some ⟨gg, 0, none⟩) (n + 1) cap, ⟨hb, by simp; have := HN.out; omega, hB2.set 0 _, ?_, ?_, ?_⟩, hBel.setCell (p := ⟨B, 0, none⟩) hb _, ?_, ?_⟩
        · have hr := hown1.kept (grownBy_setCell' w2 B (.slice (some ⟨gg, 0, none⟩) (n + 1) cap)) ?_
          · rw [HT.out] at hr
            have e1 : (ds ++ [(⟨code, M, what.data.toList.take 60⟩ : Di)]).length = n + 1 := by simp; exact HN.out
            have e2 : (ds ++ [(⟨code, M, what.data.toList.take 60⟩ : Di)]).flatMap diCells = ds.flatMap diCells ++ [.int .i64 code, .int .i64 M, .string ⟨(what.data.toList.take 60).toArray⟩] := by simp
            rw [e1, e2]
            exact hr
          · right
            simp only [Value.ownBlock, ne_eq, Option.some.injEq]
            rcases hat with hat | hat
            · intro e; exact hne (by rw [hat, e])
            · intro e; omega
        · simp only [Value.ownBlock, ne_eq, Option.some.injEq]
          rcases hat with hat | hat
          · intro e; exact hne (by rw [hat, e])
          · intro e; omega
        · intro e; simp at e
        · rcases hat with hat | hat
          · exact .inl (by rw [HN.out, hat]; rfl)
          · exact .inr ⟨gg, by omega, rfl⟩
        · intro k hk k1 k2
          rw [Below.heap_setCell w2 ⟨B, 0, none⟩ _ k k1, hgrow.block k (by simp; omega) (fun e => k2 (by rw [HN.out]; exact e.symm)), Below.heap_alloc w1 _ k (by omega), hB1.block k (by omega)]
          rfl

end Go.Proofs.YtgdnibdahldekabDoor
