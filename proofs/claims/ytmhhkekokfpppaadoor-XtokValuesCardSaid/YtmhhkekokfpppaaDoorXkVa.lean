/- The walk of the law XtokValues. -/
import Derived.Test.YtmhhkekokfpppaaDoorXkAl
import Derived.Test.YtmhhkekokfpppaaDoorXkX
import Derived.Test.YtmhhkekokfpppaaDoorXkEz
import Derived.Test.YtmhhkekokfpppaaDoorXkBd
import Derived.BigRegion
import Derived.BigQuiet
namespace Go.Proofs.YtmhhkekokfpppaaDoor
open Go.RowKit
set_option linter.unusedVariables false

theorem cat_b (a b : List UInt8) : (⟨a.toArray⟩ : ByteArray) ++ ⟨b.toArray⟩ = ⟨(a ++ b).toArray⟩ := by
  apply ByteArray.ext
  simp [ByteArray.data_append]
theorem encX_snoc (β : UInt8 → List UInt8) (l : List UInt8) (c : UInt8) : encX β (l ++ [c]) = encX β l ++ β c := by simp [encX]
theorem encX_app (β : UInt8 → List UInt8) (a b : List UInt8) : encX β (a ++ b) = encX β a ++ encX β b := by simp [encX]
/-- The text that is laid for single quotes. -/
def SinL (S : List UInt8) (w : World) (x p : Value) (W : World) : Prop :=
  ∃ k : Nat, p = .int .i64 (k : Nat) ∧ k ≤ S.length ∧ x = .string ⟨(encX apoB (S.take k)).toArray⟩ ∧ Below w.heap.size w W
def BlkL (bl : ByteArray) (w : World) (p : Value) (W : World) : Prop :=
  ∃ k : Nat, p = .int .i64 (k : Nat) ∧ k ≤ bl.size ∧ (∀ j (h : j < bl.size), j < k → bl[j] = 32 ∨ bl[j] = 9 ∨ bl[j] = 10) ∧ Below w.heap.size w W
/-- What comes of a Cut of one of the law's texts. -/
def CutV (l : List UInt8) (W : World) (e : Ending) (w' : World) : Prop :=
  ∃ (c p : Nat) (what : List UInt8) (out : Value), e = .returned (.tuple #[out, dgv (c : Int) (p : Int) ⟨what.toArray⟩]) ∧ Below W.heap.size W w' ∧ ((c = 0 ∧ charsX l = none ∧ ∃ pl, ToldAt W.heap.size w' out [⟨1, 0, [97], [], [⟨[98], l, pl⟩], true⟩]) ∨ (c = 11 ∧ charsX l ≠ none))
theorem told_attr {base : Nat} {W : World} {out : Value} {x : List UInt8} {pl : Nat} (h : ToldAt base W out [⟨1, 0, [97], [], [⟨[98], x, pl⟩], true⟩]) :
    ∃ g cap g2 cap2, out = .slice (some ⟨g, 0, none⟩) 1 cap ∧ W.cell? ⟨g, 4, none⟩ = some (.slice (some ⟨g2, 0, none⟩) 1 cap2) ∧ W.cell? ⟨g2, 1, none⟩ = some (.string ⟨x.toArray⟩) := by
  obtain ⟨g, cap, v, rfl, hgl, a0, a4, a5, hA⟩ := told_one h
  obtain ⟨g2, cap2, rfl, hg2l, b1⟩ := attrs_one hA
  exact ⟨g, cap, g2, cap2, rfl, a4, b1⟩
theorem charsX_form {l : List UInt8} {e : XE} (h : charsX l = some e) : ∃ p what, e = ⟨11, p, what⟩ := by
  unfold charsX at h
  split at h
  · simp only [Option.some.injEq] at h; exact ⟨_, _, h.symm⟩
  · split at h
    · simp only [Option.some.injEq] at h; exact ⟨_, _, h.symm⟩
    · cases h
theorem bytes_eq (s : ByteArray) : s = ⟨s.data.toList.toArray⟩ := by
  obtain ⟨⟨x⟩⟩ := s
  rfl
theorem bne_no {a b : UInt8} (h : a = b) : ((a.toNat : Int) != (b.toNat : Int)) = false := by rw [h]; simp
theorem bne_yes {a b : UInt8} (h : ¬ a = b) : ((a.toNat : Int) != (b.toNat : Int)) = true := by
  rw [bne, beq_no h]; rfl
theorem mk_get (l : List UInt8) (k : Nat) (h : k < l.length) : (⟨l.toArray⟩ : ByteArray)[k]'(by rw [size_mk]; exact h) = l[k] := rfl
theorem mk_extract (l : List UInt8) (k : Nat) (h : k < l.length) : (⟨l.toArray⟩ : ByteArray).extract k (k + 1) = ⟨[l[k]].toArray⟩ := by
  apply ByteArray.ext
  apply Array.ext'
  simp [ByteArray.data_extract, List.extract_eq_take_drop]
  rw [List.drop_eq_getElem_cons h]; rfl

set_option maxRecDepth 100000 in
set_option maxHeartbeats 16000000 in
theorem values_off {m : Int} (v bl : ByteArray) (hs : 300 < v.size ∨ (v.size ≤ 300 ∧ 20 < bl.size)) (w : World) (hm : w.cell? ⟨0, 0, none⟩ = some (.int .i64 m)) :
    Calls Tryd.prog 5 #[.string v, .string bl] w fun e w' => e = .returned (.bool true) ∧ Below w.heap.size w w' := by
  have HA := Lib.hid (alive_any w hm)
  clear hm
  rcases hs with hs | ⟨hs, hs2⟩
  all_goals
    go_enter Tryd.func5, Tryd.ntmps5
    go_wp2_with fail
    refine HA.out.mono ?_
    rintro e w1 ⟨rfl, hB⟩
    go_wp2
    go_ret
    exact ⟨rfl, hB⟩

set_option maxRecDepth 100000 in
set_option maxHeartbeats 100000000 in
theorem values_on {m : Int} (v bl : ByteArray) (hs : v.size ≤ 300) (hbs : bl.size ≤ 20) (w : World) (hm : w.cell? ⟨0, 0, none⟩ = some (.int .i64 m)) :
    Calls Tryd.prog 5 #[.string v, .string bl] w fun e w' => e = .returned (.bool true) ∧ Below w.heap.size w w' := by
  have hml := block_lt' hm
  obtain ⟨l, hl⟩ : ∃ l, v.data.toList = l := ⟨_, rfl⟩
  obtain ⟨S, hS⟩ : ∃ S, escX true l = S := ⟨_, rfl⟩
  obtain ⟨X, hX⟩ : ∃ X, encX escA l = X := ⟨_, rfl⟩
  have hSX : encX apoB S = X := by rw [← hS, ← hX, apo_esc]
  have hsz : v.size = l.length := by rw [← hl]; simp
  have hve : v = ⟨l.toArray⟩ := by rw [← hl]
  have hSl : S.length ≤ 1800 := by rw [← hS]; have := escX_len true l; omega
  have hXl : X.length ≤ 1800 := by rw [← hX]; have := escA_len l; omega
  have hSz := size_mk S
  have hXz := size_mk X
  have HA := Lib.hid (alive_any w hm)
  have HE := Lib.hid (show ∀ (W : World), Calls Tryd.prog 9 #[.string v, .bool true] W fun e w' => e = .returned (.string ⟨S.toArray⟩) ∧ Below W.heap.size W w' from fun W => by have := escape_any v (by omega) true W; rw [hl, hS] at this; exact this)
  have hM : ∀ (W : World) (hW : Below w.heap.size w W), W.cell? ⟨0, 0, none⟩ = some (.int .i64 m) := fun W hW => by rw [hW.cell (p := ⟨0, 0, none⟩) hml]; exact hm
  have hc1 : (⟨[60, 97, 32, 98, 61, 34].toArray⟩ : ByteArray) ++ ⟨S.toArray⟩ ++ ⟨[34, 47, 62].toArray⟩ = ⟨(tagX [] 34 S [47, 62]).toArray⟩ := by
    rw [cat_b, cat_b]; simp [tagX]
  have hc2 : (⟨[60, 97, 32].toArray⟩ : ByteArray) ++ bl ++ ⟨[98].toArray⟩ ++ bl ++ ⟨[61].toArray⟩ ++ bl ++ ⟨[39].toArray⟩ ++ ⟨X.toArray⟩ ++ ⟨[39].toArray⟩ ++ bl ++ ⟨[47, 62].toArray⟩ = ⟨(tagX bl.data.toList 39 X [47, 62]).toArray⟩ := by
    obtain ⟨b, hb⟩ : ∃ b, bl.data.toList = b := ⟨_, rfl⟩
    rw [show bl = ⟨b.toArray⟩ from by rw [← hb]]
    rw [cat_b, cat_b, cat_b, cat_b, cat_b, cat_b, cat_b, cat_b, cat_b, cat_b]; simp [tagX]
  have hbl : bl.data.toList.length = bl.size := by simp
  have l1 : (tagX [] 34 S [47, 62]).length ≤ 60000 := by rw [tagX_len]; simp; omega
  have l2 : (tagX bl.data.toList 39 X [47, 62]).length ≤ 60000 := by rw [tagX_len]; simp; omega
  have hl60 : ∀ (x : List UInt8), x.length ≤ 60000 → (⟨x.toArray⟩ : ByteArray).size ≤ 60000 := fun x h => by rw [size_mk]; exact h
  have hV : ∀ (T : List UInt8) (f pl : Nat), T.length ≤ 60000 → (charsX T = none ↔ charsX l = none) → CutRun (f + 1) T ⟨0, [], [], 0⟩ (.ok [⟨1, 0, [97], [], [⟨[98], l, pl⟩], true⟩]) →
      ∀ (W : World), Below w.heap.size w W → Calls Tryd.prog 7 #[.string ⟨T.toArray⟩] W (CutV l W) := by
    intro T f pl hT hiff hrun W hW
    cases hc : charsX T with
    | none =>
      refine (cut_any (f := f) (hl60 _ hT) (hM W hW) hc hrun).mono ?_
      rintro e w' ⟨out, rfl, hTo, hB⟩
      exact ⟨0, 0, [], out, rfl, hB, .inl ⟨rfl, hiff.1 hc, pl, hTo⟩⟩
    | some er =>
      obtain ⟨p, what, rfl⟩ := charsX_form hc
      refine (cut_bad (hl60 _ hT) hc).mono ?_
      rintro e w' ⟨rfl, hB⟩
      exact ⟨11, p, what, _, rfl, hB, .inr ⟨rfl, fun h => by have := hiff.2 h; rw [hc] at this; cases this⟩⟩
  have hend : Fit [47, 62] := fit_print (by decide)
  have HC1 := Lib.hid (show ∀ (W : World), Below w.heap.size w W → Calls Tryd.prog 7 #[.string ((⟨[60, 97, 32, 98, 61, 34].toArray⟩ : ByteArray) ++ ⟨S.toArray⟩ ++ ⟨[34, 47, 62].toArray⟩)] W (CutV l W) from by
    rw [hc1]
    refine hV _ (l.length + 1) (3 + 0) l1 ?_ ?_
    · rw [charsX_fit, charsX_fit, ← hS, show escX true l = encX (escB true) l from rfl, tag_fit (fun c hc => by cases hc) (.inl rfl) (escB_T true)]
      simp [hend]
    · rw [← hS]
      exact run_empty (bl := []) (fun c hc => by cases hc) (.inl rfl) escB_V l)
  have HC2 := Lib.hid (show Blank bl.data.toList → ∀ (W : World), Below w.heap.size w W → Calls Tryd.prog 7 #[.string ((⟨[60, 97, 32].toArray⟩ : ByteArray) ++ bl ++ ⟨[98].toArray⟩ ++ bl ++ ⟨[61].toArray⟩ ++ bl ++ ⟨[39].toArray⟩ ++ ⟨X.toArray⟩ ++ ⟨[39].toArray⟩ ++ bl ++ ⟨[47, 62].toArray⟩)] W (CutV l W) from by
    intro hbk
    rw [hc2]
    refine hV _ (l.length + 1) (3 + bl.data.toList.length) l2 ?_ ?_
    · rw [charsX_fit, charsX_fit, ← hX, tag_fit hbk (.inr rfl) escA_T]
      simp [hend]
    · rw [← hX]
      exact run_empty hbk (.inr rfl) escA_V l)
  have H1 := Lib.hid (fun (W : World) (hW : Below w.heap.size w W) => (show BlkL bl w (.int .i64 0) W from ⟨0, rfl, by omega, fun j _ h => by omega, hW⟩))
  have HVE := Lib.hid hve
  have HSX := Lib.hid hSX
  clear hm hml hM hc1 hc2 l1 l2 hV hend hl hS hX hsz hve hbl hl60 hSX
  go_enter Tryd.func5, Tryd.ntmps5
  go_wp2_with fail
  refine HA.out.mono ?_
  rintro e w1 ⟨rfl, hB1⟩
  have HB1 := Lib.hid hB1
  clear hB1
  go_wp2
  go_loopw [5] (fun p W => BlkL bl w p W) (fun p W => bl.size - (intOf p).toNat)
  case atStart => exact H1.out _ HB1.out
  case round =>
    obtain ⟨k, rfl, hk, hall, hB⟩ := hrel
    have HB := Lib.hid hB
    have HAll := Lib.hid hall
    clear hB hall
    by_cases hlt : k < bl.size
    · by_cases hb : bl[k] = 32 ∨ bl[k] = 9 ∨ bl[k] = 10
      · have HN := Lib.hid (show ∀ j (h : j < bl.size), j < k + 1 → bl[j] = 32 ∨ bl[j] = 9 ∨ bl[j] = 10 from fun j h hj => by
          by_cases e : j = k
          · subst e; exact hb
          · exact HAll.out j h (by omega))
        rcases hb with hb | hb | hb
        · have E1 : ((bl[k].toNat : Int) != 32) = false := bne_no hb
          clear hb
          go_wp2
          go_roundw
          case rel => exact ⟨k + 1, by go_num, by omega, HN.out, HB.out⟩
          case measure => simp [intOf]; omega
        · have h0 : ¬ bl[k] = 32 := fun e => by rw [hb] at e; exact absurd e (by decide)
          have E0 : ((bl[k].toNat : Int) != 32) = true := bne_yes h0
          have E1 : ((bl[k].toNat : Int) != 9) = false := bne_no hb
          clear h0
          clear hb
          go_wp2
          go_roundw
          case rel => exact ⟨k + 1, by go_num, by omega, HN.out, HB.out⟩
          case measure => simp [intOf]; omega
        · have h0 : ¬ bl[k] = 32 := fun e => by rw [hb] at e; exact absurd e (by decide)
          have h1 : ¬ bl[k] = 9 := fun e => by rw [hb] at e; exact absurd e (by decide)
          have E0 : ((bl[k].toNat : Int) != 32) = true := bne_yes h0
          have E1 : ((bl[k].toNat : Int) != 9) = true := bne_yes h1
          have E2 : ((bl[k].toNat : Int) != 10) = false := bne_no hb
          clear h0 h1
          clear hb
          go_wp2
          go_roundw
          case rel => exact ⟨k + 1, by go_num, by omega, HN.out, HB.out⟩
          case measure => simp [intOf]; omega
      · have h0 : ¬ bl[k] = 32 := fun e => hb (.inl e)
        have h1 : ¬ bl[k] = 9 := fun e => hb (.inr (.inl e))
        have h2 : ¬ bl[k] = 10 := fun e => hb (.inr (.inr e))
        have E0 : ((bl[k].toNat : Int) != 32) = true := bne_yes h0
        have E1 : ((bl[k].toNat : Int) != 9) = true := bne_yes h1
        have E2 : ((bl[k].toNat : Int) != 10) = true := bne_yes h2
        clear h0 h1 h2
        clear hb
        go_wp2
        go_ret
        exact ⟨rfl, HB.out⟩
    · obtain rfl : k = bl.size := by omega
      have HBk := Lib.hid (show Blank bl.data.toList from fun c hc => by
        obtain ⟨j, hj, e⟩ := List.getElem_of_mem hc
        have hj2 : j < bl.size := by simpa using hj
        have h := HAll.out j hj2 hj2
        have e2 : bl[j] = c := by rw [← e]; rfl
        rw [e2] at h
        exact h)
      clear HAll
      go_wp2_with fail
      refine (HE.out _).mono ?_
      rintro e w2 ⟨rfl, hB2⟩
      have HB2 := Lib.hid (HB.out.trans (hB2.mono HB.out.size))
      clear hB2
      go_wp2_with fail
      refine (HC1.out _ HB2.out).mono ?_
      rintro e w3 ⟨c1, p1, what1, out1, rfl, hB3, hR1⟩
      obtain ⟨W3, hW3⟩ : ∃ W3, w3.alloc (Obj.cells #[.int .i64 (c1 : Int), .int .i64 (p1 : Int), .string ⟨what1.toArray⟩] 27) = W3 := ⟨_, rfl⟩
      obtain ⟨r1, hr1⟩ : ∃ r1, w3.heap.size = r1 := ⟨_, rfl⟩
      have hD1 : BlkAt W3 r1 27 #[.int .i64 (c1 : Int), .int .i64 (p1 : Int), .string ⟨what1.toArray⟩] := by rw [← hW3, ← hr1]; exact BlkAt.new w3 _ _
      have hB3' : Below w.heap.size w W3 := by rw [← hW3]; exact (HB2.out.trans (hB3.mono HB2.out.size)).alloc (by have := hB3.size; have := HB2.out.size; omega) _
      have hR3 : (c1 = 0 ∧ charsX l = none ∧ ∃ g cap g2 cap2, out1 = .slice (some ⟨g, 0, none⟩) 1 cap ∧ W3.cell? ⟨g, 4, none⟩ = some (.slice (some ⟨g2, 0, none⟩) 1 cap2) ∧ W3.cell? ⟨g2, 1, none⟩ = some (.string ⟨l.toArray⟩)) ∨ (c1 = 11 ∧ charsX l ≠ none) := by
        rcases hR1 with ⟨e1, e2, pl, hT⟩ | h
        · obtain ⟨g, cap, g2, cap2, e3, h4, h5⟩ := told_attr hT
          have kq : ∀ (k o : Nat) (u : Value), w3.cell? ⟨k, o, none⟩ = some u → W3.cell? ⟨k, o, none⟩ = some u := fun k o u h => by
            rw [← hW3, World.cell?_of_block (Below.heap_alloc w3 _ k (block_lt' h))]
            exact h
          exact .inl ⟨e1, e2, g, cap, g2, cap2, e3, kq _ _ _ h4, kq _ _ _ h5⟩
        · exact .inr h
      have HD1 := Lib.hid hD1
      have HB3 := Lib.hid hB3'
      have HR3 := Lib.hid hR3
      have HL0 := Lib.hid (show SinL S W3 (.string ⟨#[]⟩) (.int .i64 0) W3 from ⟨0, rfl, by omega, by simp [encX], Below.refl _ _⟩)
      clear hB3 hR1 hD1 hB3' hR3
      go_wp2
      clear hW3 hr1
      go_loopw [9, 10] (fun x p W => SinL S W3 x p W) (fun x p W => S.length - (intOf p).toNat)
      case atStart => exact HL0.out
      case round =>
        obtain ⟨k, rfl, hk, rfl, hB⟩ := hrel
        have HB := Lib.hid hB
        have hsp : encX apoB (S.take k) ++ encX apoB (S.drop k) = X := by rw [← encX_app, List.take_append_drop]; exact HSX.out
        have hAl : (encX apoB (S.take k)).length ≤ 1800 := by have := congrArg List.length hsp; rw [List.length_append] at this; omega
        by_cases hlt : k < S.length
        · have hst : encX apoB (S.take (k + 1)) = encX apoB (S.take k) ++ apoB S[k] := by rw [List.take_succ_eq_append_getElem hlt, encX_snoc]
          obtain ⟨A, hA⟩ : ∃ A, encX apoB (S.take k) = A := ⟨_, rfl⟩
          rw [hA] at hst hAl ⊢
          have hAz := size_mk A
          have hget : (⟨S.toArray⟩ : ByteArray)[k]'(by rw [hSz]; exact hlt) = S[k] := rfl
          by_cases h39 : S[k] = 39
          · have hap : apoB S[k] = [38, 97, 112, 111, 115, 59] := by rw [h39]; rfl
            rw [hap] at hst
            have HST := Lib.hid hst
            have E1 : ((S[k].toNat : Int) == 39) = true := beq_yes h39
            clear hst hap hA hB hsp h39
            go_wp2
            go_roundw
            case rel => exact ⟨k + 1, by go_num, by omega, by rw [HST.out, ← cat_b], HB.out⟩
            case measure => simp [intOf]; omega
          · have hap : apoB S[k] = [S[k]] := by unfold apoB; rw [if_neg h39]
            rw [hap] at hst
            have HST := Lib.hid hst
            have HX := Lib.hid (mk_extract S k hlt)
            have E1 : ((S[k].toNat : Int) == 39) = false := beq_no h39
            have hcz : ((⟨S.toArray⟩ : ByteArray).extract k (k + 1)).size = 1 := by rw [mk_extract S k hlt]; rfl
            clear hst hap hA hB hsp h39
            go_wp2
            go_roundw
            case rel => exact ⟨k + 1, by go_num, by omega, by rw [HST.out, ← cat_b, ← HX.out], HB.out⟩
            case measure => simp [intOf]; omega
        · obtain rfl : k = S.length := by omega
          have hfin : encX apoB (S.take S.length) = X := by rw [List.take_length]; exact HSX.out
          rw [hfin]
          have HBW := Lib.hid (HB3.out.trans (hB.mono HB3.out.size))
          clear hsp hAl hfin hB
          go_wp2_with fail
          refine (HC2.out HBk.out _ HBW.out).mono ?_
          rintro e w4 ⟨c2, p2, what2, out2, rfl, hB4, hR2⟩
          obtain ⟨W4, hW4⟩ : ∃ W4, w4.alloc (Obj.cells #[.int .i64 (c2 : Int), .int .i64 (p2 : Int), .string ⟨what2.toArray⟩] 27) = W4 := ⟨_, rfl⟩
          obtain ⟨r2, hr2⟩ : ∃ r2, w4.heap.size = r2 := ⟨_, rfl⟩
          have hD2 : BlkAt W4 r2 27 #[.int .i64 (c2 : Int), .int .i64 (p2 : Int), .string ⟨what2.toArray⟩] := by rw [← hW4, ← hr2]; exact BlkAt.new w4 _ _
          have hB44 : Below wr.heap.size wr W4 := by rw [← hW4]; exact hB4.alloc hB4.size _
          have hB34 : Below W3.heap.size W3 W4 := HB.out.trans (hB44.mono HB.out.size)
          have hD1 : BlkAt W4 r1 27 #[.int .i64 (c1 : Int), .int .i64 (p1 : Int), .string ⟨what1.toArray⟩] := HD1.out.below hB34 HD1.out.lt
          have HW4 := Lib.hid (show Below w.heap.size w W4 from HB3.out.trans (hB34.mono HB3.out.size))
          have kc : ∀ (k o : Nat) (u : Value), W3.cell? ⟨k, o, none⟩ = some u → W4.cell? ⟨k, o, none⟩ = some u := fun k o u h => by
            rw [hB34.cell (p := ⟨k, o, none⟩) (block_lt' h)]; exact h
          have kd : ∀ (k o : Nat) (u : Value), w4.cell? ⟨k, o, none⟩ = some u → W4.cell? ⟨k, o, none⟩ = some u := fun k o u h => by
            rw [← hW4, World.cell?_of_block (Below.heap_alloc w4 _ k (block_lt' h))]; exact h
          obtain ⟨⟨d0, d1, d2⟩, _, _, _⟩ := res_cells hD1
          obtain ⟨⟨e0, e1, e2⟩, _, _, _⟩ := res_cells hD2
          have hR3 := HR3.out
          have hve0 := HVE.out
          clear HA HE HC1 HC2 H1 HVE HSX HB1 HB HBk HB2 HD1 HB3 HR3 HL0 HBW hD1 hD2
          rcases hR3 with ⟨rfl, hcx, g, cap, g2, cap2, rfl, x4, x1⟩ | ⟨rfl, hcx⟩
          · rcases hR2 with ⟨rfl, _, pl, hT⟩ | ⟨_, hcy⟩
            · obtain ⟨g3, cap3, g4, cap4, rfl, y4, y1⟩ := told_attr hT
              have x4' := kc _ _ _ x4
              have x1' := kc _ _ _ x1
              have y4' := kd _ _ _ y4
              have y1' := kd _ _ _ y1
              clear x4 x1 y4 y1 kc kd hT hB4 hB44 hB34 hcx
              subst hve0
              have hWE : w4.alloc (Obj.cells #[.int .i64 0, .int .i64 (p2 : Int), .string ⟨what2.toArray⟩] 27) = W4 := hW4
              clear hW4
              go_wp2
              go_ret
              exact ⟨rfl, HW4.out⟩
            · exact absurd hcx hcy
          · rcases hR2 with ⟨_, hcy, _⟩ | ⟨rfl, _⟩
            · exact absurd hcy hcx
            · clear kc kd hB4 hB44 hB34 hcx
              have hWE : w4.alloc (Obj.cells #[.int .i64 11, .int .i64 (p2 : Int), .string ⟨what2.toArray⟩] 27) = W4 := hW4
              clear hW4
              go_wp2
              go_ret
              exact ⟨rfl, HW4.out⟩
end Go.Proofs.YtmhhkekokfpppaaDoor
