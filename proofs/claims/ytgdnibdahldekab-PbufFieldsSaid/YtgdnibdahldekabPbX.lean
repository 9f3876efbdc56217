/- The walks of the book's Room and of chapter 10's word same. -/
import Derived.Test.YtgdnibdahldekabProg
import Derived.Test.YtgdnibdahldekabRd
import Derived.Test.YtgdnibdahldekabPfB
import Derived.Test.YtgdnibdahldekabPfR
import Derived.Test.YtgdnibdahldekabMem
import Derived.RegionTactic
import Derived.BigRegion
import Derived.Laws.StructEq
import Derived.WalkKit
import Derived.ProofKit
import Derived.LoopTactic
import Derived.WalkSpells
import Derived.WalkLawsBesides
import Derived.Lib.Hide
import Derived.Outline
import Derived.Handy
namespace Go.Proofs.Ytgdnibdahldekab
open Go.RowKit
set_option linter.unusedVariables false

/-- What room is left. -/
def roomL : Int → List Int → Int
  | left, [] => left
  | left, s :: l => if left < 0 ∨ left < s then -1 else roomL (left - s) l

set_option maxRecDepth 20000 in
set_option maxHeartbeats 800000 in
theorem room_any (left : Int) (a : Option Addr) (c : Nat) (l : List Int) (h0 : l.length ≤ 4611686018427387904) (hl : -9223372036854775808 ≤ left) (hl2 : left ≤ 9223372036854775807) (hp : ∀ s ∈ l, 0 ≤ s) (w : World) (ha : RdI w a l) :
    Calls Try.prog 34 #[.int .i64 left, .slice a l.length c] w fun e w' => e = .returned (.int .i64 (roomL left l)) ∧ w = w' := by
  have HA := Lib.hid ha
  have HP := Lib.hid hp
  obtain ⟨n, hn⟩ : ∃ n, l.length = n := ⟨_, rfl⟩
  rw [hn] at h0 ⊢
  have HN := Lib.hid hn
  obtain ⟨r, hr⟩ : ∃ r, roomL left l = r := ⟨_, rfl⟩
  rw [hr]
  have HR := Lib.hid hr
  clear ha hp hn hr
  go_enter Try.func34, Try.ntmps34
  go_wp2
  go_loop [0, 5] (fun v p => ∃ (k : Nat) (m : Int), p = .int .i64 k ∧ v = .int .i64 m ∧ k ≤ n ∧ -9223372036854775808 ≤ m ∧ m ≤ 9223372036854775807 ∧ roomL left l = roomL m (l.drop k)) (fun v p => n - (intOf p).toNat)
  case atStart => exact ⟨0, left, rfl, rfl, Nat.zero_le _, hl, hl2, rfl⟩
  case round =>
    obtain ⟨k, m, rfl, rfl, hk, hm1, hm2, h⟩ := hrel
    have H := Lib.hid h
    clear h
    by_cases hlt : k < n
    · have hkl : k < l.length := by have := HN.out; omega
      obtain ⟨g, rfl, hg1, hg2⟩ := HA.out k hkl
      have hs : l.getD k 0 = l[k] := by rw [List.getD, List.getElem?_eq_getElem hkl]; rfl
      have hd : l.drop k = l[k] :: l.drop (k + 1) := List.drop_eq_getElem_cons hkl
      have hpos := HP.out _ (List.getElem_mem hkl)
      rw [hs] at hg2
      have hst : roomL left l = if m < 0 ∨ m < l[k] then -1 else roomL (m - l[k]) (l.drop (k + 1)) := by rw [H.out, hd]; rfl
      generalize l[k] = s at *
      have HST := Lib.hid hst
      clear hs hd hst hkl
      by_cases h1 : m < 0
      · have hr : r = -1 := by rw [← HR.out, HST.out, if_pos (.inl h1)]
        subst hr
        go_wp2
        go_ret
        exact ⟨rfl, rfl⟩
      · by_cases h2 : m < s
        · have hr : r = -1 := by rw [← HR.out, HST.out, if_pos (.inr h2)]
          subst hr
          go_wp2
          go_ret
          exact ⟨rfl, rfl⟩
        · have hst2 : roomL left l = roomL (m - s) (l.drop (k + 1)) := by rw [HST.out, if_neg (by omega)]
          have HS2 := Lib.hid hst2
          clear hst2
          go_wp2
          go_round
          case rel => exact ⟨k + 1, m - s, by go_num, rfl, by omega, by omega, by omega, HS2.out⟩
          case measure => simp [intOf]; omega
    · obtain rfl : k = n := by omega
      have hr : r = m := by
        rw [← HR.out, H.out, List.drop_eq_nil_of_le (by have := HN.out; omega)]; rfl
      subst hr
      go_wp2
      go_ret
      exact ⟨rfl, rfl⟩

/-- A slice's fields as they lie. -/
def RdF (w : World) (a : Option Addr) (fs : List Fld) : Prop := ∀ i, i < fs.length → ∃ g, a = some ⟨g, 0, none⟩ ∧ g < w.heap.size ∧ ∀ j, j < 5 → w.cell? ⟨g, i * 5 + j, none⟩ = (fldCells (fs.getD i zeroF))[j]?
theorem RdF.below {w w' : World} {a : Option Addr} {fs : List Fld} (h : RdF w a fs) (hB : Below w.heap.size w w') : RdF w' a fs := fun i hi => by
  obtain ⟨g, h1, h2, h3⟩ := h i hi
  exact ⟨g, h1, Nat.lt_of_lt_of_le h2 hB.size, fun j hj => (hB.cell h2).trans (h3 j hj)⟩
theorem run_neq_fld (w : World) (a0 a1 a2 b0 b1 b2 a3 b3 : Int) (s t : ByteArray) :
    (binOp .neq 39 (.agg #[.int .i64 a0, .int .i64 a1, .int .i64 a2, .int .u64 a3, .string s]) (.agg #[.int .i64 b0, .int .i64 b1, .int .i64 b2, .int .u64 b3, .string t])).run Try.prog w
      = .ok (.bool (!(decide (a0 = b0 ∧ a1 = b1 ∧ a2 = b2 ∧ a3 = b3 ∧ s.toList = t.toList)))) w := by
  rw [run_neq_struct]
  by_cases h0 : a0 = b0
  · by_cases h1 : a1 = b1
    · by_cases h2 : a2 = b2
      · by_cases h3 : a3 = b3
        · by_cases h4 : s.toList = t.toList
          · simp [go_sem, h0, h1, h2, h3, h4]
          · simp [go_sem, h0, h1, h2, h3, h4]
        · simp [go_sem, h0, h1, h2, h3]
      · simp [go_sem, h0, h1, h2]
    · simp [go_sem, h0, h1]
  · simp [go_sem, h0]
theorem bytes_list {a b : List UInt8} (h : (⟨a.toArray⟩ : ByteArray).toList = (⟨b.toArray⟩ : ByteArray).toList) : a = b := by
  rw [ByteArray.toList_eq, ByteArray.toList_eq] at h
  simpa using h
theorem run_neq_yes {f g : Fld} (h : f ≠ g) (w : World) : (binOp .neq 39 (fldV f) (fldV g)).run Try.prog w = .ok (.bool true) w := by
  rw [run_neq_fld]
  rw [decide_eq_false]
  · rfl
  · rintro ⟨h0, h1, h2, h3, h4⟩
    apply h
    have h4 := bytes_list h4
    obtain ⟨a0, a1, a2, a3, a4⟩ := f
    obtain ⟨b0, b1, b2, b3, b4⟩ := g
    simp only at h0 h1 h2 h3 h4
    rw [show a0 = b0 by omega, show a1 = b1 by omega, show a2 = b2 by omega, show a3 = b3 by omega, h4]
theorem run_neq_no (f : Fld) (w : World) : (binOp .neq 39 (fldV f) (fldV f)).run Try.prog w = .ok (.bool false) w := by
  rw [run_neq_fld, decide_eq_true ⟨rfl, rfl, rfl, rfl, rfl⟩]; rfl

open Classical in
set_option maxRecDepth 20000 in
set_option maxHeartbeats 800000 in
theorem same10_any (a b : Option Addr) (ca cb : Nat) (la lb : List Fld) (h0 : la.length ≤ 1000000) (h1 : lb.length ≤ 1000000) (w : World) (ha : RdF w a la) (hb : RdF w b lb) :
    Calls Try.prog 31 #[.slice a la.length ca, .slice b lb.length cb] w fun e w' => e = .returned (.bool (decide (la = lb))) ∧ Below w.heap.size w w' := by
  by_cases hl : la.length = lb.length
  · have HA := Lib.hid ha
    have HB := Lib.hid hb
    clear ha hb
    obtain ⟨r, hr⟩ : ∃ r, decide (la = lb) = r := ⟨_, rfl⟩
    rw [hr]
    have HR := Lib.hid hr
    clear hr
    have hl2 : (la.length : Int) = (lb.length : Int) := by omega
    go_enter Try.func31, Try.ntmps31
    go_wp2
    go_loopw [5] (fun p wr => ∃ k : Nat, p = .int .i64 k ∧ k ≤ la.length ∧ la.take k = lb.take k ∧ Below w.heap.size w wr) (fun p wr => la.length - (intOf p).toNat)
    case atStart => exact ⟨0, rfl, Nat.zero_le _, rfl, Below.refl _ _⟩
    case round =>
      obtain ⟨k, rfl, hk, ht, hB⟩ := hrel
      have HT := Lib.hid ht
      clear ht
      by_cases hlt : k < la.length
      · obtain ⟨ga, rfl, ha1, ha2⟩ := (HA.out.below hB) k hlt
        obtain ⟨gb, rfl, hb1, hb2⟩ := (HB.out.below hB) k (by omega)
        have ea : la.getD k zeroF = la[k] := by rw [List.getD, List.getElem?_eq_getElem hlt]; rfl
        have eb : lb.getD k zeroF = lb[k]'(by omega) := by rw [List.getD, List.getElem?_eq_getElem (by omega)]; rfl
        obtain ⟨f, hf⟩ : ∃ f, la.getD k zeroF = f := ⟨_, rfl⟩
        obtain ⟨g, hg⟩ : ∃ g, lb.getD k zeroF = g := ⟨_, rfl⟩
        rw [hf] at ha2 ea
        rw [hg] at hb2 eb
        by_cases heq : f = g
        · have hst : la.take (k + 1) = lb.take (k + 1) := by
            rw [List.take_add_one, List.take_add_one, HT.out, List.getElem?_eq_getElem hlt, List.getElem?_eq_getElem (by omega), ← ea, ← eb, heq]
          have HS := Lib.hid hst
          subst heq
          have hn := run_neq_no f
          have p0 := ha2 0 (by omega)
          have p1 := ha2 1 (by omega)
          have p2 := ha2 2 (by omega)
          have p3 := ha2 3 (by omega)
          have p4 := ha2 4 (by omega)
          have q0 := hb2 0 (by omega)
          have q1 := hb2 1 (by omega)
          have q2 := hb2 2 (by omega)
          have q3 := hb2 3 (by omega)
          have q4 := hb2 4 (by omega)
          clear ea eb hst ha2 hb2 hf hg
          obtain ⟨x0, x1, x2, x3, x4⟩ := f
          simp only [fldCells, List.getElem?_cons_succ, List.getElem?_cons_zero, Nat.add_zero] at p0 p1 p2 p3 p4 q0 q1 q2 q3 q4
          simp only [fldV] at hn
          go_wp2_with fail
          go_region
          all_goals
            go_wp2_with fail
            go_roundw
            case rel => exact ⟨k + 1, by go_num, by omega, HS.out, hB.drew⟩
            case measure => simp [intOf]; omega
        · have hr : r = false := by
            rw [← HR.out]
            refine decide_eq_false fun e => heq ?_
            rw [← hf, ← hg, e]
          subst hr
          have hn := run_neq_yes heq
          have p0 := ha2 0 (by omega)
          have p1 := ha2 1 (by omega)
          have p2 := ha2 2 (by omega)
          have p3 := ha2 3 (by omega)
          have p4 := ha2 4 (by omega)
          have q0 := hb2 0 (by omega)
          have q1 := hb2 1 (by omega)
          have q2 := hb2 2 (by omega)
          have q3 := hb2 3 (by omega)
          have q4 := hb2 4 (by omega)
          clear ea eb ha2 hb2 hf hg heq
          obtain ⟨x0, x1, x2, x3, x4⟩ := f
          obtain ⟨y0, y1, y2, y3, y4⟩ := g
          simp only [fldCells, List.getElem?_cons_succ, List.getElem?_cons_zero, Nat.add_zero] at p0 p1 p2 p3 p4 q0 q1 q2 q3 q4
          simp only [fldV] at hn
          go_wp2_with fail
          go_region
          all_goals
            go_wp2_with fail
            go_ret
            exact ⟨rfl, hB.drew⟩
      · obtain rfl : k = la.length := by omega
        have hr : r = true := by
          rw [← HR.out]
          refine decide_eq_true ?_
          have := HT.out
          rw [List.take_length, hl, List.take_length] at this
          exact this
        subst hr
        go_wp2_with fail
        go_ret
        exact ⟨rfl, hB⟩
  · have hr : decide (la = lb) = false := decide_eq_false fun e => hl (by rw [e])
    rw [hr]
    clear hr ha hb
    have hl2 : ¬ (la.length : Int) = (lb.length : Int) := by omega
    go_enter Try.func31, Try.ntmps31
    go_wp2
    go_ret
    exact ⟨rfl, Below.refl _ _⟩
open Classical in
theorem same10_yes (a b : Option Addr) (ca cb : Nat) (l : List Fld) (n : Nat) (hn : l.length = n) (h0 : n ≤ 1000000) (w : World) (ha : RdF w a l) (hb : RdF w b l) :
    Calls Try.prog 31 #[.slice a n ca, .slice b n cb] w fun e w' => e = .returned (.bool true) ∧ Below w.heap.size w w' := by
  subst hn
  have := same10_any a b ca cb l l h0 h0 w ha hb
  rw [decide_eq_true rfl] at this
  exact this
end Go.Proofs.Ytgdnibdahldekab
