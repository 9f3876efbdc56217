/- Reasons: lists of them as they lie, and the walks of Add, First, Len, Each, Name and Text. -/
import Derived.Test.YtgdnibdahldekabDoorShelf
import Derived.Test.YtgdnibdahldekabDoorRd
import Derived.Test.YtgdnibdahldekabDoorMem
import Derived.Test.YtgdnibdahldekabDoorProg
import Derived.Deep.RegionLaw
import Derived.Deep.AppendLies
import Derived.RegionTactic
import Derived.BigRegion
import Derived.BigQuiet
import Derived.Laws.StructEq
import Derived.WalkKit
import Derived.ProofKit
import Derived.LoopTactic
import Derived.WalkSpells
import Derived.Lib.Hide
import Derived.Outline
import Derived.Handy
namespace Go.Proofs.YtgdnibdahldekabDoor
open Go.RowKit
set_option linter.unusedVariables false

/-- A reason. -/
structure Di where
  code : Int
  at_ : Int
  what : List UInt8
abbrev diCells (d : Di) : List Value := [.int .i64 d.code, .int .i64 d.at_, .string ⟨d.what.toArray⟩]
abbrev diV (d : Di) : Value := .agg #[.int .i64 d.code, .int .i64 d.at_, .string ⟨d.what.toArray⟩]
def zeroDi : Di := ⟨0, 0, []⟩
/-- A list's reasons behind one more. -/
def addL (ds : List Di) (code at_ : Int) (what : List UInt8) : List Di := if code = 0 ∨ 100 ≤ ds.length then ds else ds ++ [⟨code, max at_ 0, what.take 60⟩]
theorem addL_len (ds : List Di) (code at_ : Int) (what : List UInt8) (h : ds.length ≤ 100) : (addL ds code at_ what).length ≤ 100 := by
  unfold addL
  split
  · exact h
  · simp; omega
theorem diCells_len (ds : List Di) : (ds.flatMap diCells).length = ds.length * 3 := by
  induction ds with
  | nil => rfl
  | cons d ds ih => rw [List.flatMap_cons, List.length_append, ih]; simp; omega

/-- Block B is a list of the reasons ds. -/
def IsL (base : Nat) (w : World) (B : Nat) (ds : List Di) : Prop :=
  base ≤ B ∧ ds.length ≤ 100 ∧ ∃ v, BlkAt w B 27 #[v] ∧ w.ownsRow base 31 3 v ds.length (ds.flatMap diCells) ∧ v.ownBlock ≠ some B ∧ (ds = [] → v = .slice none 0 0)
theorem ownsRow_slice {w : World} {base : Nat} {e : TypeId} {size : Nat} {v : Value} {n : Nat} {xs : List Value} (h : w.ownsRow base e size v n xs) : ∃ b n c, v = .slice b n c := by
  rcases h.2 with ⟨rfl, _⟩ | ⟨g, cap, cur, rfl, _⟩ <;> exact ⟨_, _, _, rfl⟩
theorem ownsRow_slice' {w : World} {base : Nat} {e : TypeId} {size : Nat} {v : Value} {n : Nat} {xs : List Value} (h : w.ownsRow base e size v n xs) : ∃ b c, v = .slice b n c := by
  rcases h.2 with ⟨rfl, rfl⟩ | ⟨g, cap, cur, rfl, _⟩ <;> exact ⟨_, _, rfl⟩
theorem IsL.new (base : Nat) (w : World) (hb : base ≤ w.heap.size) : IsL base (w.alloc (.cells #[.slice none 0 0] 27)) w.heap.size [] :=
  ⟨hb, by simp, _, BlkAt.new _ _ _, World.ownsRow_nil _ _ _ _, by simp [Value.ownBlock], fun _ => rfl⟩
theorem IsL.below {base B : Nat} {w w' : World} {ds : List Di} (h : IsL base w B ds) (hB : Below w.heap.size w w') : IsL base w' B ds := by
  obtain ⟨h1, h2, v, h3, h4, h5, h6⟩ := h
  exact ⟨h1, h2, v, h3.below hB h3.lt, rowKept h4 hB, h5, h6⟩
theorem IsL.lt {base B : Nat} {w : World} {ds : List Di} (h : IsL base w B ds) : B < w.heap.size := by
  obtain ⟨h1, h2, v, h3, _⟩ := h
  exact h3.lt
set_option maxRecDepth 100000 in
theorem infoD : (Tryd.prog.info? 31).map (fun i => (i.zero, i.size, i.bytes)) = some (some (.agg #[.int .i64 0, .int .i64 0, .string ⟨#[]⟩]), 3, 32) := by kernel_rfl
set_option maxRecDepth 100000 in
theorem aggD : AggT Tryd.prog 31 3 := ⟨_, Tryd.underlying31, rfl, by kernel_rfl⟩
set_option maxRecDepth 100000 in
theorem slD : SlT Tryd.prog 22 31 3 32 := SlT.mk Tryd.underlying22 (z := .agg #[.int .i64 0, .int .i64 0, .string ⟨#[]⟩]) (by kernel_rfl) rfl (by decide) (by decide)

set_option maxRecDepth 20000 in
theorem strings_clone (s : ByteArray) (hlim : s.size ≤ 281474976710656) (w : World) :
    Calls Tryd.prog 22 #[.string s] w fun e w' => e = .returned (.string s) ∧ Below w.heap.size w w' := by
  go_enter Tryd.func22, Tryd.ntmps22
  go_wp2_with fail
  refine (Tryd.stringslite_Clone s _ hlim).mono ?_
  rintro e w' ⟨rfl, hB⟩
  go_wp2
  go_ret
  exact ⟨rfl, hB⟩

theorem add_nil (code at_ : Int) (what : ByteArray) (w : World) :
    Calls Tryd.prog 7 #[.pointer none, .int .i64 code, .int .i64 at_, .string what] w fun e w' => (∃ v, e = .returned v) ∧ w = w' := by
  go_enter Tryd.func7, Tryd.ntmps7
  go_wp2
  refine bodyPost_ret (results_none rfl _ _ _) rfl ?_
  exact ⟨⟨_, rfl⟩, rfl⟩

theorem len_nil (w : World) :
    Calls Tryd.prog 13 #[.pointer none] w fun e w' => e = .returned (.int .i64 0) ∧ w = w' := by
  go_enter Tryd.func13, Tryd.ntmps13
  go_wp2
  go_ret
  exact ⟨rfl, rfl⟩

theorem len_any (base B : Nat) (ds : List Di) (w : World) (h : IsL base w B ds) :
    Calls Tryd.prog 13 #[.pointer (some ⟨B, 0, none⟩)] w fun e w' => e = .returned (.int .i64 ds.length) ∧ w = w' := by
  obtain ⟨hb, hl, v, hB, hown, hne, hnil⟩ := h
  obtain ⟨n, hn⟩ : ∃ n, ds.length = n := ⟨_, rfl⟩
  obtain ⟨vb, vc, rfl⟩ := ownsRow_slice' hown
  have c0 := hB.cell 0
  rw [hn] at c0 hl ⊢
  clear hown hnil hn
  go_enter Tryd.func13, Tryd.ntmps13
  go_wp2
  go_ret
  exact ⟨rfl, rfl⟩

theorem each_any (p : Value) (hp : p = .pointer none ∨ ∃ B, p = .pointer (some ⟨B, 0, none⟩)) (w : World) :
    Calls Tryd.prog 9 #[p] w fun e w' => e = .returned (.func (.func 23) #[] #[.pointer (some ⟨w.heap.size, 0, none⟩)]) ∧ w.alloc (.cells #[p] 25) = w' := by
  rcases hp with rfl | ⟨B, rfl⟩
  · go_enter Tryd.func9, Tryd.ntmps9
    go_wp2
    go_ret
    exact ⟨rfl, rfl⟩
  · go_enter Tryd.func9, Tryd.ntmps9
    go_wp2
    go_ret
    exact ⟨rfl, rfl⟩

set_option maxRecDepth 100000 in
set_option maxHeartbeats 3200000 in
theorem add_any (base B : Nat) (ds : List Di) (code at_ : Int) (what : ByteArray) (hw : what.size ≤ 9223372036854775807) (w : World) (h : IsL base w B ds) :
    Calls Tryd.prog 7 #[.pointer (some ⟨B, 0, none⟩), .int .i64 code, .int .i64 at_, .string what] w fun e w' => (∃ v, e = .returned v) ∧ IsL base w' B (addL ds code at_ what.data.toList) ∧ Below base w w' := by
  have h' := h
  obtain ⟨hb, hl, v, hB, hown, hne, hnil⟩ := h
  have hBl := hB.lt
  obtain ⟨n, hn⟩ : ∃ n, ds.length = n := ⟨_, rfl⟩
  obtain ⟨vb, vc, rfl⟩ := ownsRow_slice' hown
  have c0 := hB.cell 0
  have cf := hB.frozen 0
  rw [hn] at c0 hl hown hnil hB hne
  by_cases hc : code = 0
  · have ha : addL ds code at_ what.data.toList = ds := by unfold addL; rw [if_pos (.inl hc)]
    rw [ha]
    subst hc
    have H := Lib.hid h'
    clear hown hnil h' ha hn hB
    go_enter Tryd.func7, Tryd.ntmps7
    go_wp2
    refine bodyPost_ret (results_none rfl _ _ _) rfl ?_
    exact ⟨⟨_, rfl⟩, H.out, Below.refl _ _⟩
  · by_cases hf : 100 ≤ n
    · have ha : addL ds code at_ what.data.toList = ds := by unfold addL; rw [if_pos (.inr (by omega))]
      rw [ha]
      have H := Lib.hid h'
      clear hown hnil h' ha hn hB
      go_enter Tryd.func7, Tryd.ntmps7
      have hcb : (code == 0) = false := by simpa using hc
      have hnb : decide (100 ≤ (n : Int)) = true := by simp; omega
      go_wp2
      refine bodyPost_ret (results_none rfl _ _ _) rfl ?_
      exact ⟨⟨_, rfl⟩, H.out, Below.refl _ _⟩
    · have ha : addL ds code at_ what.data.toList = ds ++ [⟨code, max at_ 0, what.data.toList.take 60⟩] := by unfold addL; rw [if_neg (by omega)]
      have hbase : base ≤ w.heap.size := by omega
      obtain ⟨m, hm, hm60⟩ : ∃ m : Nat, m ≤ what.size ∧ m = min what.size 60 := ⟨_, Nat.min_le_left _ _, rfl⟩
      have hcl : (what.extract 0 m).size ≤ 281474976710656 := by simp [ByteArray.size_extract]; omega
      have htk : (what.extract 0 m) = ⟨(what.data.toList.take 60).toArray⟩ := by
        have : (what.extract 0 m).data.toList = what.data.toList.take 60 := by
          rw [extract_list]
          simp only [List.drop_zero, Nat.sub_zero]
          have hls : what.data.toList.length = what.size := by simp
          rw [hm60]
          by_cases h60 : what.size ≤ 60
          · rw [Nat.min_eq_left h60, List.take_of_length_le (by omega), List.take_of_length_le (by omega)]
          · rw [Nat.min_eq_right (by omega)]
        rw [← this]
      have HC := Lib.hid (strings_clone _ hcl)
      have hmm : min (what.size : Int) 60 = (m : Int) := by omega
      obtain ⟨M, hM⟩ : ∃ M : Int, max at_ 0 = M := ⟨_, rfl⟩
      rw [ha, hM]
      have HT := Lib.hid htk
      have HN := Lib.hid hn
      have HO := Lib.hid hown
      obtain ⟨i0, hi0, hz0, hz1, hz2⟩ := info_parts infoD
      clear hown hnil h' ha hn hm60 htk hcl
      go_enter Tryd.func7, Tryd.ntmps7
      have hcb : (code == 0) = false := by simpa using hc
      have hnb : decide (100 ≤ (n : Int)) = false := by simp; omega
      go_wp2_with fail
      go_region_law (first
        | (go_simp; go_at_call 22; refine (HC.out _).mono ?_; rintro e w1 ⟨rfl, hB1⟩; have c1 : w1.cell? ⟨B, 0, none⟩ = some (.slice vb n vc) := (hB.drew.below hB1 hBl).cell 0; have c1a : (w1.alloc (Obj.cells #[.int .i64 code, .int .i64 M, .string (what.extract 0 m)] 31)).cell? ⟨B, 0, none⟩ = some (.slice vb n vc) := ((hB.drew.below hB1 hBl).alloc _).cell 0)
        | (refine step_append_lies _ (by rfl) _ _ _ (by rfl) base 31 i0 _ 3 32 Tryd.underlying22 hi0 hz0 hz1 hz2 rfl (by omega) (.slice vb n vc) n _ (by rfl) ((rowKept HO.out.drew hB1).alloc _)
            ⟨w1.heap.size, 0, none⟩ 1 1 [.int .i64 code, .int .i64 M, .string (what.extract 0 m)] (by rfl) (by rfl) (World.news_of_block (cs := #[.int .i64 code, .int .i64 M, .string (what.extract 0 m)]) (t := 31) (fr := (0, 0)) (heap_alloc_new w1 _)) (by simp [Value.oneCell'])
            (by omega) (by unfold maxLen; omega) (by omega) (by have := hB1.size; have e0 : w.drew.heap.size = w.heap.size := rfl; simp; omega) (w1.heap.size + 1) (by simp) ?_; intro gg cap w2 hown1 hgrow hat hlt1; have hB2 := ((hB.drew.below hB1 hBl).alloc _).grown hgrow (Ne.symm hne); have c2 := hB2.cell 0; have f2 := hB2.frozen 0))
      all_goals
        go_wp2
        go_end0
        have e0 : w.drew.heap.size = w.heap.size := rfl
        have s1 := hB1.size
        have hBel : Below base w w2 := ((((Below.refl base w).drew.trans (hB1.mono (by omega))).alloc (by omega) _)).grown hgrow (by simp; omega) (fun j ej => (HO.out.lt j ej).1)
        refine ⟨⟨_, rfl⟩, ⟨hb, by simp; have := HN.out; omega, _, hB2.set 0 _, ?_, ?_, ?_⟩, hBel.setCell (p := ⟨B, 0, none⟩) hb _⟩
        · have hr := hown1.kept (grownBy_setCell' w2 B (.slice (some ⟨gg, 0, none⟩) (n + 1) cap)) ?_
          · rw [HT.out] at hr
            have e1 : (ds ++ [(⟨code, M, what.data.toList.take 60⟩ : Di)]).length = n + 1 := by simp; exact HN.out
            have e2 : (ds ++ [(⟨code, M, what.data.toList.take 60⟩ : Di)]).flatMap diCells = ds.flatMap diCells ++ [.int .i64 code, .int .i64 M, .string ⟨(what.data.toList.take 60).toArray⟩] := by simp
            rw [e1, e2]
            exact hr
          · right
            simp only [Value.ownBlock, ne_eq, Option.some.injEq]
            rcases hat with hat | hat
            · intro e; exact hne (by rw [hat, e])
            · intro e; omega
        · simp only [Value.ownBlock, ne_eq, Option.some.injEq]
          rcases hat with hat | hat
          · intro e; exact hne (by rw [hat, e])
          · intro e; omega
        · intro e; simp at e

end Go.Proofs.YtgdnibdahldekabDoor
