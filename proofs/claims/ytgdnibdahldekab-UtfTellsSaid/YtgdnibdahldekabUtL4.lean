/- The walk of the law UtfTells. -/
import Derived.Test.YtgdnibdahldekabUtT
import Derived.Test.YtgdnibdahldekabUtK
import Derived.Test.YtgdnibdahldekabUtV
import Derived.Test.YtgdnibdahldekabUtS
import Derived.Test.YtgdnibdahldekabUtQ
import Derived.Test.YtgdnibdahldekabUtO
import Derived.BigRegion
import Derived.WalkKit
import Derived.ProofKit
import Derived.LoopTactic
import Derived.Lib.Hide
import Derived.Outline
import Derived.Handy
namespace Go.Proofs.Ytgdnibdahldekab
open Go.RowKit
set_option linter.unusedVariables false

/-- What a number's bytes are, and whether it has any. -/
def putS (r : Int) : ByteArray := if widthR r = 0 then ⟨#[]⟩ else ⟨(putR r.toNat).toArray⟩
def putB (r : Int) : Bool := decide (widthR r ≠ 0)
theorem nat_of_width {r : Int} (h : widthR r ≠ 0) : ((r.toNat : Nat) : Int) = r := by
  apply Int.toNat_of_nonneg
  apply Decidable.byContradiction
  intro hn
  exact h (widthR_zero (by omega))
theorem put_any (r : Int) (w : World) : Calls Try.prog 11 #[.int .i64 r] w fun e w' => e = .returned (.tuple #[.string (putS r), .bool (putB r)]) ∧ Below w.heap.size w w' := by
  by_cases h : widthR r = 0
  · have e1 : putS r = ⟨#[]⟩ := if_pos h
    have e2 : putB r = false := by simp [putB, h]
    rw [e1, e2]
    exact (put_bad r h w).mono fun e w' hw => ⟨hw.1, by rw [← hw.2]; exact Below.refl _ _⟩
  · have e1 : putS r = ⟨(putR r.toNat).toArray⟩ := if_neg h
    have e2 : putB r = true := by simp [putB, h]
    have e3 := nat_of_width h
    rw [e1, e2]
    have := put_ok r.toNat (by rw [e3]; exact h) w
    rw [e3] at this
    exact this
theorem refPut_any (r : Int) (w : World) : Calls Try.prog 12 #[.int .i64 r] w fun e w' => e = .returned (.tuple #[.string (putS r), .bool (putB r)]) ∧ Below w.heap.size w w' := by
  by_cases h : widthR r = 0
  · have e1 : putS r = ⟨#[]⟩ := if_pos h
    have e2 : putB r = false := by simp [putB, h]
    rw [e1, e2]
    exact refPut_bad r h w
  · have e1 : putS r = ⟨(putR r.toNat).toArray⟩ := if_neg h
    have e2 : putB r = true := by simp [putB, h]
    have e3 := nat_of_width h
    rw [e1, e2]
    have := refPut_ok r.toNat (by rw [e3]; exact h) w
    rw [e3] at this
    exact this

/-- 's[:n]' of a slice at its block's begin. -/
theorem run_front {P : Program} {t e : TypeId} {z : Nat} (ht : P.underlying t = some (.slice e)) (hz : ∀ w, (sizeOf (P.elem t)).run P w = .ok z w) {a : Option Addr} (ha : a = none ∨ ∃ g, a = some ⟨g, 0, none⟩) {n c m : Nat} (h : m ≤ c) (w : World) :
    (Instr.slice t (.slice a n c) none (some (.int .i64 m)) none).run P w = .ok (.slice a m c) w := by
  have hu : P.underlying t = some (.slice (P.elem t)) := by rw [ht]; simp [Program.elem, ht]
  rw [run_slice_h w t a n c hu .i64 m (by omega) (by omega), hz]
  show Result.ok _ w = _
  have : sliced a 0 ((m : Int).toNat) c z = .slice a m c := by
    unfold sliced
    rcases ha with rfl | ⟨g, rfl⟩
    · simp
    · simp [Addr.add]
  rw [this]
theorem rdI_front {w : World} {base : Nat} {e : TypeId} {v : Value} {l : List Int} (h : w.ownsRow base e 1 v l.length (l.map (Value.int .i64))) :
    ∃ a c, v = .slice a l.length c ∧ l.length ≤ c ∧ (a = none ∨ ∃ g, a = some ⟨g, 0, none⟩) ∧ RdI w a l := by
  have h0 := h
  rcases h.2 with ⟨rfl, h0'⟩ | ⟨g, cap, cur, rfl, hb, hg, h1, h2, h3, h4⟩
  · exact ⟨none, 0, by rw [h0'], by omega, .inl rfl, fun i hi => by omega⟩
  · obtain ⟨a, c, e, hr⟩ := rdI_own h0
    cases e
    exact ⟨_, _, rfl, by omega, .inr ⟨g, rfl⟩, hr⟩
theorem RdI.take {w : World} {a : Option Addr} {l : List Int} (h : RdI w a l) (m : Nat) : RdI w a (l.take m) := fun i hi => by
  have hi' : i < l.length := by simp at hi; omega
  obtain ⟨g, h1, h2, h3⟩ := h i hi'
  refine ⟨g, h1, h2, ?_⟩
  rw [h3]
  have : i < m := by simp at hi; omega
  simp [List.getD, List.getElem?_take_of_lt this]
theorem cutL_take {α : Type} (stop : Int) (xs : List α) : cutL stop xs = xs.take (cutL stop xs).length := by
  unfold cutL
  split
  · rw [List.length_take, ← List.take_take, List.take_length]
  · rw [List.take_length]
theorem cutL_map {α β : Type} (stop : Int) (xs : List α) (f : α → β) : (cutL stop xs).map f = cutL stop (xs.map f) := by
  unfold cutL
  split <;> simp
theorem cutL_len {α : Type} (stop : Int) (xs : List α) : (cutL stop xs).length ≤ xs.length := by
  unfold cutL
  split
  · rw [List.length_take]; omega
  · omega
theorem cutL_len_map {α β : Type} (stop : Int) (xs : List α) (f : α → β) : (cutL stop (xs.map f)).length = (cutL stop xs).length := by
  rw [← cutL_map, List.length_map]

set_option maxRecDepth 100000 in
set_option maxHeartbeats 4000000 in
theorem utfTells_walk (s : ByteArray) (r stop : Int) (ws : s.size ≤ maxLen) (wr : (Lit.int .i64 r).wf = true) (wt : (Lit.int .i64 stop).wf = true) (w : World) :
    Calls Try.prog 3 #[.string s, .int .i64 r, .int .i64 stop] w fun e w' => e = .returned (.bool true) ∧ Below w.heap.size w w' := by
  unfold maxLen at ws
  have b1 : -9223372036854775808 ≤ r ∧ r ≤ 9223372036854775807 := by simpa [Lit.wf, IntKind.min, IntKind.max, IntKind.signed, IntKind.bits] using wr
  have b2 : -9223372036854775808 ≤ stop ∧ stop ≤ 9223372036854775807 := by simpa [Lit.wf, IntKind.min, IntKind.max, IntKind.signed, IntKind.bits] using wt
  obtain ⟨b1, b1'⟩ := b1
  obtain ⟨b2, b2'⟩ := b2
  clear wr wt
  by_cases hl : 2000 < s.size
  · go_enter Try.func3, Try.ntmps3
    go_wp2_with (go_at_call 7; refine (alive6_any _).mono ?_; rintro e w1 ⟨rfl, hB⟩)
    go_ret
    exact ⟨rfl, hB⟩
  · have hls : s.data.toList.length = s.size := by simp
    have hck := checkL_le _ s.data.toList (Nat.le_refl _)
    have hal := allRunes_le s.data.toList
    rw [hls] at hck hal
    have KC := fun w => check_any s (by omega) w
    have KD := fun w => refCheck_any s (by omega) w
    have KR := fun w => refRunes_any s (by omega) w
    have KN := fun w => count_any s (by omega) w
    have KT := fun B w hb => told6_any B s (by omega) stop w hb
    have K1 := fun w => char_any r w
    have K2 := fun w => refIsChar_any r w
    have K3 := fun w => nameStart_any r w
    have K4 := fun w => refNameStart_any r w
    have K5 := fun w => namePart_any r w
    have K6 := fun w => refNamePart_any r w
    have K7 := fun w => space_any r w
    have K8 := fun w => refSpace_any r w
    have KP := fun w => put_any r w
    have KQ := fun w => refPut_any r w
    rw [← allRunes_len] at KN
    obtain ⟨xs, hxs⟩ : ∃ xs, allRunes s.data.toList = xs := ⟨_, rfl⟩
    rw [hxs] at KR KN KT hal
    generalize decide (checkL s.data.toList = s.size) = z at *
    generalize checkL s.data.toList = n at *
    generalize charR r = t1 at *
    generalize nameStartR r = t2 at *
    generalize namePartR r = t3 at *
    generalize spaceR r = t4 at *
    generalize putS r = ps at *
    generalize putB r = pb at *
    obtain ⟨m, hm⟩ : ∃ m, (cutL stop xs).length = m := ⟨_, rfl⟩
    have hmx : m ≤ xs.length := by rw [← hm]; exact cutL_len _ _
    have hw : stop ≤ 0 ∧ m = xs.length ∨ 0 < stop ∧ m < xs.length ∧ (m : Int) = stop ∨ 0 < stop ∧ (xs.length : Int) ≤ stop ∧ m = xs.length := by
      have := hm
      unfold cutL at this
      by_cases h : 1 ≤ stop
      · rw [if_pos h, List.length_take] at this; omega
      · rw [if_neg h] at this; omega
    have hys : cutL stop xs = xs.take m := by rw [← hm]; exact cutL_take _ _
    rw [hys] at KT
    have hym : (xs.take m).length = m := by rw [List.length_take]; omega
    have HM := Lib.hid hym
    clear hys hym
    have HC := Lib.hid KC
    have HD := Lib.hid KD
    have HR := Lib.hid KR
    have HN := Lib.hid KN
    have HT := Lib.hid KT
    have H1 := Lib.hid K1
    have H2 := Lib.hid K2
    have H3 := Lib.hid K3
    have H4 := Lib.hid K4
    have H5 := Lib.hid K5
    have H6 := Lib.hid K6
    have H7 := Lib.hid K7
    have H8 := Lib.hid K8
    have HP := Lib.hid KP
    have HQ := Lib.hid KQ
    clear KC KD KR KN KT K1 K2 K3 K4 K5 K6 K7 K8 KP KQ hxs hls hm ws
    obtain ⟨N, hN⟩ : ∃ N, xs.length = N := ⟨_, rfl⟩
    have HNN := Lib.hid hN
    rw [hN] at hal hmx hw
    clear hN
    go_enter Try.func3, Try.ntmps3
    go_wp2_with fail
    refine (alive6_any _).mono ?_
    rintro e w1 ⟨rfl, hB1⟩
    go_wp2_with fail
    refine (HC.out _).mono ?_
    rintro e w' ⟨rfl, rfl⟩
    go_wp2_with fail
    refine (HD.out _).mono ?_
    rintro e w2 ⟨rfl, hB2⟩
    go_wp2_with fail
    refine (HR.out _).mono ?_
    rintro e w3 ⟨vA, vB, rfl, hrA, hrB, hB3⟩
    obtain ⟨lA, hlA⟩ : ∃ lA : List Int, xs.map (fun p => (p.1 : Int)) = lA := ⟨_, rfl⟩
    obtain ⟨lB, hlB⟩ : ∃ lB : List Int, xs.map (fun p => (p.2 : Int)) = lB := ⟨_, rfl⟩
    have eA : lA.length = N := by rw [← hlA, List.length_map, HNN.out]
    have eB : lB.length = N := by rw [← hlB, List.length_map, HNN.out]
    have hrA' : w3.ownsRow w2.heap.size 3 1 vA lA.length (lA.map (Value.int .i64)) := by
      rw [eA, ← hlA, List.map_map, ← HNN.out]; exact hrA
    have hrB' : w3.ownsRow w2.heap.size 3 1 vB lB.length (lB.map (Value.int .i64)) := by
      rw [eB, ← hlB, List.map_map, ← HNN.out]; exact hrB
    obtain ⟨aA, cA, rfl, hcA, haA, hRA⟩ := rdI_front hrA'
    obtain ⟨aB, cB, rfl, hcB, haB, hRB⟩ := rdI_front hrB'
    rw [eA] at hcA
    rw [eB] at hcB
    rw [eA, eB]
    have HLA := Lib.hid hlA
    have HLB := Lib.hid hlB
    have HEA := Lib.hid eA
    have HEB := Lib.hid eB
    have KFA := fun w => run_front (P := Try.prog) (z := 1) Try.underlying25 (fun w => by kernel_rfl) haA (n := N) (c := cA) (m := m) (by omega) w
    have KFB := fun w => run_front (P := Try.prog) (z := 1) Try.underlying25 (fun w => by kernel_rfl) haB (n := N) (c := cB) (m := m) (by omega) w
    have HFA := Lib.hid KFA
    have HFB := Lib.hid KFB
    clear hrA hrB hrA' hrB' hlA hlB eA eB KFA KFB haA haB
    go_wp2_with fail
    refine (HP.out _).mono ?_
    rintro e w4 ⟨rfl, hB4⟩
    go_wp2_with fail
    refine (HQ.out _).mono ?_
    rintro e w5 ⟨rfl, hB5⟩
    go_wp2_with fail
    refine (HN.out _).mono ?_
    rintro e w6 ⟨rfl, hB6⟩
    rw [HNN.out]
    go_wp2_with fail
    refine (H1.out _).mono ?_
    rintro e w' ⟨rfl, rfl⟩
    go_wp2_with fail
    refine (H2.out _).mono ?_
    rintro e w' ⟨rfl, rfl⟩
    go_wp2_with fail
    refine (H3.out _).mono ?_
    rintro e w' ⟨rfl, rfl⟩
    go_wp2_with fail
    refine (H4.out _).mono ?_
    rintro e w' ⟨rfl, rfl⟩
    go_wp2_with fail
    refine (H5.out _).mono ?_
    rintro e w' ⟨rfl, rfl⟩
    go_wp2_with fail
    refine (H6.out _).mono ?_
    rintro e w' ⟨rfl, rfl⟩
    go_wp2_with fail
    refine (H7.out _).mono ?_
    rintro e w' ⟨rfl, rfl⟩
    go_wp2_with fail
    refine (H8.out _).mono ?_
    rintro e w' ⟨rfl, rfl⟩
    have q1 := hB1.trans (hB2.mono hB1.size)
    have q2 := q1.trans (hB3.mono q1.size)
    have q3 := q2.trans (hB4.mono q2.size)
    have q4 := q3.trans (hB5.mono q3.size)
    have q5 := q4.trans (hB6.mono q4.size)
    have r3 := hB4
    have r4 := r3.trans (hB5.mono r3.size)
    have r5 := r4.trans (hB6.mono r4.size)
    have hRA6 := hRA.below r5
    have hRB6 := hRB.below r5
    clear q1 q2 q3 q4 r3 r4 r5 hB1 hB2 hB3 hB4 hB5 hB6 hRA hRB HC HD HR HN H1 H2 H3 H4 H5 H6 H7 H8 HP HQ
    go_wp2_with fail
    refine (runes_any s _).mono ?_
    rintro e w' ⟨rfl, rfl⟩
    have hnf : ∀ w : World, (binOp .eql 32 (.func (.func 48) #[] #[.pointer (some ⟨w6.heap.size, 0, none⟩)]) .nilFunc).run Try.prog w = .ok (.bool false) w := fun _ => by kernel_rfl
    have hbox := Boxed.new w6 9 (.string s)
    have q6 := q5.alloc q5.size (.cells #[.string s] 9)
    have hRA7 := hRA6.below ((Below.refl _ w6).alloc (Nat.le_refl _) (.cells #[.string s] 9))
    have hRB7 := hRB6.below ((Below.refl _ w6).alloc (Nat.le_refl _) (.cells #[.string s] 9))
    obtain ⟨W0, hW0⟩ : ∃ W0, w6.alloc (.cells #[.string s] 9) = W0 := ⟨_, rfl⟩
    rw [hW0] at hbox q6 hRA7 hRB7 ⊢
    generalize w6.heap.size = B at *
    have hBl := hbox.lt
    clear hW0 hRA6 hRB6 q5
    rcases hw with ⟨hs1, rfl⟩ | ⟨hs1, hs2, rfl⟩ | ⟨hs1, hs2, rfl⟩
    all_goals
      try have hm0 : 0 < m := by omega
      go_wp2
      all_goals
        go_loopw [19] (fun p wr => ∃ k : Nat, p = .int .i64 k ∧ k ≤ 2 ∧ Below W0.heap.size W0 wr) (fun p _ => 2 - (intOf p).toNat)
        case atStart => exact ⟨0, rfl, by omega, Below.refl _ _⟩
        case round =>
          obtain ⟨k, rfl, hk, hB⟩ := hrel
          by_cases hlt : k < 2
          · have hbr : Boxed wr B 9 (.string s) := (hB.block B hBl).trans hbox
            have hRAr := hRA7.below hB
            have hRBr := hRB7.below hB
            go_wp2_with fail
            refine (HT.out B _ hbr).mono ?_
            rintro e w7 ⟨vC, vD, rfl, hrC, hrD, hB7⟩
            have eC : (lA.take m).length = m := by rw [List.length_take, HEA.out]; omega
            have eD : (lB.take m).length = m := by rw [List.length_take, HEB.out]; omega
            have gC : (xs.take m).map (fun p => nv p.1) = (lA.take m).map (Value.int .i64) := by
              rw [← HLA.out, ← List.map_take, List.map_map]; rfl
            have gD : (xs.take m).map (fun p => nv p.2) = (lB.take m).map (Value.int .i64) := by
              rw [← HLB.out, ← List.map_take, List.map_map]; rfl
            rw [HM.out, gC] at hrC
            rw [HM.out, gD] at hrD
            have hrC' : w7.ownsRow wr.heap.size 3 1 vC (lA.take m).length ((lA.take m).map (Value.int .i64)) := by rw [eC]; exact hrC
            have hrD' : w7.ownsRow wr.heap.size 3 1 vD (lB.take m).length ((lB.take m).map (Value.int .i64)) := by rw [eD]; exact hrD
            obtain ⟨aC, cC, rfl, hRC⟩ := rdI_own hrC'
            obtain ⟨aD, cD, rfl, hRD⟩ := rdI_own hrD'
            have hRA8 := hRAr.below hB7
            have hRB8 := hRBr.below hB7
            have KA := fun w ha hb => alike6_any aC aA cC cA (lA.take m) (lA.take m) (by omega) (by omega) w ha hb
            have KB := fun w ha hb => alike6_any aD aB cD cB (lB.take m) (lB.take m) (by omega) (by omega) w ha hb
            rw [decide_eq_true rfl] at KA KB
            rw [eC] at KA ⊢
            rw [eD] at KB ⊢
            have HA := Lib.hid KA
            have HB := Lib.hid KB
            have fA := HFA.out
            have fB := HFB.out
            clear KA KB eC eD gC gD hrC hrD hrC' hrD'
            go_wp2_with fail
            refine (HA.out _ hRC (hRA8.take m)).mono ?_
            rintro e w8 ⟨rfl, hB8⟩
            go_wp2_with fail
            refine (HB.out _ (hRD.below hB8) ((hRB8.below hB8).take m)).mono ?_
            rintro e w9 ⟨rfl, hB9⟩
            clear fA fB
            have p1 := hB.trans (hB7.mono hB.size)
            have p2 := p1.trans (hB8.mono p1.size)
            have p3 := p2.trans (hB9.mono p2.size)
            go_wp2_with fail
            go_roundw
            case rel =>
              first
                | exact ⟨k + 1, by go_num, by omega, p3⟩
                | ((repeat apply Exists.intro); refine ⟨?rr, rfl⟩; exact ⟨k + 1, by go_num, by omega, p3⟩)
            case measure => simp [intOf]; omega
          · obtain rfl : k = 2 := by omega
            go_wp2_with fail
            go_ret
            exact ⟨rfl, q6.trans (hB.mono q6.size)⟩
end Go.Proofs.Ytgdnibdahldekab
