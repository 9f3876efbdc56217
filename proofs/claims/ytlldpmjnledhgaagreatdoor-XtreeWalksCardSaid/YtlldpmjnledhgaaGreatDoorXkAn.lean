/- The walk of strings.IndexAny at any text, for the two bytes that the cutter looks for. -/
import Derived.Test.YtlldpmjnledhgaaGreatDoorXkAL
import Derived.Test.YtlldpmjnledhgaaGreatDoorShelf
import Derived.Laws.RangeAny
import Derived.Laws.Runes
import Derived.Deep.LoopGhost
import Derived.BigRegion
import Derived.WalkKit
import Derived.ProofKit
import Derived.LoopTactic
import Derived.WalkSpells
import Derived.WalkLawsBesides
import Derived.Lib.Hide
import Derived.Shelf.Strings.SlTrimAscii
import Derived.Outline
import Derived.Handy
namespace Go.Proofs.YtlldpmjnledhgaaGreatDoor
open Go.RowKit
set_option linter.unusedVariables false

/-- What a character of many bytes covers: bytes that are no ASCII. -/
theorem decode_over (s : ByteArray) (pos : Nat) (h : pos < s.size) (ha : 128 ≤ (s[pos]'h).toNat) :
    pos + (Utf8.decode s pos).2 ≤ s.size ∧ ∀ k, k < (Utf8.decode s pos).2 → ∀ hk : pos + k < s.size, 128 ≤ (s[pos + k]'hk).toNat := by
  have hn : ¬ (s[pos]'h).toNat < 128 := by omega
  have hg : ∀ k (hk : pos + k < s.size), s.get! (pos + k) = s[pos + k]'hk := fun k hk => by
    show s.get! (pos + k) = _
    simp [ByteArray.get!, getElem!_pos, hk]
    rfl
  have h1 : pos + 1 ≤ s.size ∧ ∀ k, k < 1 → ∀ hk : pos + k < s.size, 128 ≤ (s[pos + k]'hk).toNat := ⟨h, fun k hk hk2 => by
    obtain rfl : k = 0 := by omega
    exact ha⟩
  simp only [Utf8.decode, get_at s pos h, hn, if_false]
  split
  · rename_i hc
    simp only [Bool.and_eq_true, beq_iff_eq, decide_eq_true_eq] at hc
    split
    · refine ⟨by show pos + 2 ≤ _; omega, fun k hk hk2 => ?_⟩
      have hk' : k < 2 := hk
      obtain ⟨_, p1, q1⟩ := hc
      rw [hg 1 p1] at q1
      match k, hk', hk2 with
      | 0, _, _ => exact ha
      | 1, _, _ => omega
    · exact h1
  · split
    · rename_i hc
      simp only [Bool.and_eq_true, beq_iff_eq, decide_eq_true_eq] at hc
      split
      · refine ⟨by show pos + 3 ≤ _; omega, fun k hk hk2 => ?_⟩
        have hk' : k < 3 := hk
        obtain ⟨⟨_, p1, q1⟩, p2, q2⟩ := hc
        rw [hg 1 p1] at q1
        rw [hg 2 p2] at q2
        match k, hk', hk2 with
        | 0, _, _ => exact ha
        | 1, _, _ => omega
        | 2, _, _ => omega
      · exact h1
    · split
      · rename_i hc
        simp only [Bool.and_eq_true, beq_iff_eq, decide_eq_true_eq] at hc
        split
        · refine ⟨by show pos + 4 ≤ _; omega, fun k hk hk2 => ?_⟩
          have hk' : k < 4 := hk
          obtain ⟨⟨⟨_, p1, q1⟩, p2, q2⟩, p3, q3⟩ := hc
          rw [hg 1 p1] at q1
          rw [hg 2 p2] at q2
          rw [hg 3 p3] at q3
          match k, hk', hk2 with
          | 0, _, _ => exact ha
          | 1, _, _ => omega
          | 2, _, _ => omega
          | 3, _, _ => omega
        · exact h1
      · exact h1

set_option maxRecDepth 100000 in
set_option maxHeartbeats 8000000 in
theorem indexRune_fffd (w : World) :
    Calls Tryz.prog 83 #[.string ⟨#[38, 93]⟩, .int .i32 65533] w fun e w' => e = .returned (.int .i64 (-1)) ∧ Below w.heap.size w w' := by
  go_enter Tryz.func83, Tryz.ntmps83
  go_wp2
  go_loopg [5, 6] 2 (fun g _ _ wx => ∃ i : Nat, i + g = 2 ∧ wx = w.iter ⟨#[38, 93]⟩ i)
  case atStart => exact ⟨0, rfl, rfl⟩
  case round =>
    obtain ⟨i, hig, rfl⟩ := hrel
    match gk, hig with
    | 0, hig =>
      obtain rfl : i = 2 := by omega
      have hnx := run_next_end (P := Tryz.prog) w ⟨#[38, 93]⟩ 2
      go_wp2
      go_ret
      exact ⟨rfl, (Below.refl _ _).alloc (Nat.le_refl _) _⟩
    | 1, hig =>
      obtain rfl : i = 1 := by omega
      have hnx := fun ty => run_next_ascii (P := Tryz.prog) w ⟨#[38, 93]⟩ 1 ty (by decide) (by decide)
      go_wp2
      go_roundg 0
      case measure => omega
      case rel => exact ⟨2, rfl, rfl⟩
    | 2, hig =>
      obtain rfl : i = 0 := by omega
      have hnx := fun ty => run_next_ascii (P := Tryz.prog) w ⟨#[38, 93]⟩ 0 ty (by decide) (by decide)
      go_wp2
      go_roundg 1
      case measure => omega
      case rel => exact ⟨1, rfl, rfl⟩

theorem exit_then_ret {K : Act → World → Prop} {Q : Exit → Act → World → Prop} {a : Act} {w : World} (h : Q .ret a w) : Exit.then K Q .ret a w := h
theorem exit_block_ret {n : Nat} {Q : Exit → Act → World → Prop} {a : Act} {w : World} (h : Q .ret a w) : Exit.inBlock n Q .ret a w := h
theorem exit_no_ret {Q : Exit → Act → World → Prop} {a : Act} {w : World} (h : Q .ret a w) : Exit.noGoto Q .ret a w := h

set_option maxRecDepth 100000 in
set_option maxHeartbeats 8000000 in
theorem indexRune_high (r : Int) (h : 128 ≤ r) (hne : r ≠ 65533) (w : World) :
    Calls Tryz.prog 83 #[.string ⟨#[38, 93]⟩, .int .i32 r] w fun e w' => e = .returned (.int .i64 (-1)) ∧ Below w.heap.size w w' := by
  have hb : (r == 65533) = false := beq_eq_false_iff_ne.2 hne
  cases hv : Lib.validRune r with
  | false =>
    go_enter Tryz.func83, Tryz.ntmps83
    go_wp2_with (go_at_call 98; refine (Tryz.utf8_ValidRune _ _).mono ?_; rintro e w' ⟨rfl, hw⟩; rw [hw, hv]; clear hw)
    go_ret
    exact ⟨rfl, Below.refl _ _⟩
  | true =>
    have hvv : Utf8.valid r = true := by rw [validRune_eq]; exact hv
    obtain ⟨e1, e2, e3⟩ := encode_facts r hvv h
    obtain ⟨rs, hrs⟩ : ∃ rs, Utf8.encode r = rs := ⟨_, rfl⟩
    rw [hrs] at e1 e2 e3
    have hcv := fun w => run_convert_int_string (P := Tryz.prog) w 21 9 .i32 r (by rw [Tryz.underlying21]; rfl) Tryz.underlying9
    rw [hrs] at hcv
    clear hrs hvv
    go_enter Tryz.func83, Tryz.ntmps83
    go_wp2_with (first
      | (go_at_call 98; refine (Tryz.utf8_ValidRune _ _).mono ?_; rintro e w' ⟨rfl, hw⟩; rw [hw, hv]; clear hw))
    go_step3
    go_wp2
    by_cases h2 : rs.size = 2
    · have hl : (rs.size : Int) - 1 = 1 := by omega
      have h1s : 1 < rs.size := by omega
      obtain ⟨x, hx⟩ : ∃ x, rs[1]'h1s = x := ⟨_, rfl⟩
      have hx1 : 128 ≤ x.toNat := by
        have e4 : ∀ k (hk : k < rs.size), k = 1 → (rs[k]'hk) = x := fun k hk e => by subst e; exact hx
        have := e3 (by omega)
        rw [e4 _ _ (by omega)] at this
        exact this
      have hio2 : Lib.indexByte (ByteArray.empty.data.toList) ((x.toNat : Int)).toNat.toUInt8 = -1 := rfl
      have hxn : (((⟨#[38, 93]⟩ : ByteArray)[1].toNat : Int) != (x.toNat : Int)) = true := by
        show ((93 : Int) != (x.toNat : Int)) = true
        exact bne_iff_ne.2 (by omega)
      rw [hl]
      clear e1 e2 e3 hl hv hb hne
      go_loopw [9, 10] (fun a b W => a = .int .i64 1 ∧ b = .int .i64 0 ∧ W = w) (fun _ _ _ => 0)
      case atStart => exact ⟨rfl, rfl, rfl⟩
      case round =>
        obtain ⟨rfl, rfl, rfl⟩ := hrel
        go_wp2
        go_step3
        go_wp2
        go_region
        go_wp2
        go_region_with (go_at_call 68; refine (Tryz.strings_IndexByte _ _ _).mono ?_; rintro e w2 ⟨rfl, hw⟩; rw [hw, hio2]; clear hw)
        all_goals
          go_wp2
          refine exit_no_ret (exit_block_ret ?_)
          refine exit_then_ret ?_
          refine exit_block_ret (exit_then_ret (exit_no_ret ?_))
          go_ret
          exact ⟨rfl, (Below.refl _ _).drew.drew⟩
    · have h2' : 3 ≤ rs.size := by omega
      clear e1 e3 hb hne hv
      go_loopw [9, 10] (fun a b W => a = .int .i64 ((rs.size : Int) - 1) ∧ b = .int .i64 0 ∧ W = w) (fun _ _ _ => 0)
      case atStart => exact ⟨rfl, rfl, rfl⟩
      case round =>
        obtain ⟨rfl, rfl, rfl⟩ := hrel
        go_wp2
        rw [Exit.noGoto_ret]
        go_ret
        exact ⟨rfl, Below.refl _ _⟩

/-- Of a character that is no ASCII the cutter's two bytes have none. -/
theorem indexRune_wide (r : Int) (h : 128 ≤ r) (w : World) :
    Calls Tryz.prog 83 #[.string ⟨#[38, 93]⟩, .int .i32 r] w fun e w' => e = .returned (.int .i64 (-1)) ∧ Below w.heap.size w w' := by
  by_cases hne : r = 65533
  · subst hne; exact indexRune_fffd w
  · exact indexRune_high r h hne w
/-- Where the range stands, whatever was laid behind it. -/
def IterAt (w : World) (s : ByteArray) (i : Nat) (W : World) : Prop := Below w.heap.size w W ∧ W.heap[w.heap.size]? = some (.stringIter s i)
theorem IterAt.new (w : World) (s : ByteArray) : IterAt w s 0 (w.iter s 0) := ⟨(Below.refl _ _).alloc (Nat.le_refl _) _, World.iter_heap _ _ _⟩
theorem IterAt.on {w W : World} {s : ByteArray} {i : Nat} (h : IterAt w s i W) (j : Nat) : IterAt w s j (W.iterAt w.heap.size s j) := ⟨Lib.below_iterAt h.1 (Nat.le_refl _) s j, Lib.iterAt_heap _ _ _ _ _ h.2⟩
theorem IterAt.below {w W W' : World} {s : ByteArray} {i : Nat} (h : IterAt w s i W) (hB : Below W.heap.size W W') : IterAt w s i W' :=
  ⟨h.1.trans (hB.mono h.1.size), by rw [hB.block _ (Array.getElem?_eq_some_iff.1 h.2).1]; exact h.2⟩
theorem noAny_many {l c : List UInt8} {i : Nat} (h : Lib.NoAny l c i) : ∀ n, (∀ k, k < n → ∃ x, l[i + k]? = some x ∧ c.contains x = false) → Lib.NoAny l c (i + n)
  | 0, _ => h
  | n + 1, hk => by
    obtain ⟨x, hx, hc⟩ := hk n (Nat.lt_succ_self n)
    exact (noAny_many h n (fun k hk' => hk k (Nat.lt_succ_of_lt hk'))).succ hx hc

set_option maxHeartbeats 8000000 in
set_option maxRecDepth 1000000 in
/-- A text of at most 8 bytes. -/
theorem indexAny_short (s : ByteArray) (w : World) (h8 : s.size ≤ 8) :
    Calls Tryz.prog 69 #[.string s, .string ⟨#[38, 93]⟩] w fun e w' => e = .returned (.int .i64 (Lib.indexAny s.data.toList [38, 93])) ∧ Below w.heap.size w w' := by
  have h8z : decide ((8 : Int) < (s.size : Int)) = false := decide_eq_false (by omega)
  have hsl : s.data.toList.length = s.size := by simp
  go_enter Tryz.func69, Tryz.ntmps69
  go_wp2_with (go_at_call 84; refine (Tryz.strings_shouldUseASCIISet _ _).mono ?_; rintro e w' ⟨rfl, hw⟩; rw [hw, h8z]; clear hw)
  go_loopg [9, 10] s.size (fun g _ _ wx => ∃ i : Nat, i ≤ s.size ∧ s.size - i ≤ g ∧ IterAt w s i wx ∧ Lib.NoAny s.data.toList [38, 93] i)
  case atStart => exact ⟨0, by omega, by omega, IterAt.new w s, Lib.NoAny.zero _ _⟩
  case round =>
    obtain ⟨i, his, hig, hIt, hno⟩ := hrel
    have HN := Lib.hid hno
    have HI := Lib.hid hIt
    have hb := hIt.2
    clear hno hIt
    by_cases hlt : i < s.size
    · obtain ⟨g, rfl⟩ : ∃ g, gk = g + 1 := ⟨gk - 1, by omega⟩
      have hx1 : s.data.toList[i]? = some (s[i]'hlt) := Lib.data_getElem? s i hlt
      obtain ⟨x, hx⟩ : ∃ x : UInt8, s[i]'hlt = x := ⟨_, rfl⟩
      rw [hx] at hx1
      have Hx := Lib.hid hx1
      clear hx1
      by_cases hx128 : x.toNat < 128
      · have hnx := fun ty => Lib.run_next_ascii_at (P := Tryz.prog) wr w.heap.size s i ty hb hlt (by rw [hx]; exact hx128)
        rw [hx] at hnx
        clear hx hb
        have hcon := Lib.contains_iff_indexByte ([38, 93] : List UInt8) x
        have hback : ((x.toNat : Int)).toNat.toUInt8 = x := by simp
        cases hin : ([38, 93] : List UInt8).contains x
        · rw [hin] at hcon
          have hlt2 : ¬ ((0 : Int) ≤ Lib.indexByte [38, 93] x) := of_decide_eq_false hcon.symm
          clear hcon
          go_wp2_with (go_at_call 83; refine (Tryz.strings_IndexRune_ascii _ _ _ (by omega) (by omega)).mono ?_; rintro e w' ⟨rfl, hw⟩; rw [hw, hback])
          go_roundg g
          case measure => omega
          case rel => exact ⟨i + 1, by omega, by omega, HI.out.on _, HN.out.succ Hx.out hin⟩
        · rw [hin] at hcon
          have hge : (0 : Int) ≤ Lib.indexByte [38, 93] x := of_decide_eq_true hcon.symm
          clear hcon
          go_wp2_with (go_at_call 83; refine (Tryz.strings_IndexRune_ascii _ _ _ (by omega) (by omega)).mono ?_; rintro e w' ⟨rfl, hw⟩; rw [hw, hback])
          go_ret
          exact ⟨by rw [Lib.indexAny_hit HN.out Hx.out hin]; rfl, (HI.out.on _).1⟩
      · have hnx := fun ty => Lib.run_next_any_at (P := Tryz.prog) wr w.heap.size s i ty hb hlt
        have hd := (decode_high s i hlt (by rw [hx]; omega))
        have ho := decode_over s i hlt (by rw [hx]; omega)
        obtain ⟨rn, hrn⟩ : ∃ rn, (Utf8.decode s i).1 = rn := ⟨_, rfl⟩
        obtain ⟨wd, hwd⟩ : ∃ wd, (Utf8.decode s i).2 = wd := ⟨_, rfl⟩
        rw [hrn, hwd] at hd hnx
        rw [hwd] at ho
        have HN2 := Lib.hid (noAny_many HN.out wd (fun k hk => by
          have h1 := ho.2 k hk (by omega)
          refine ⟨_, Lib.data_getElem? s (i + k) (by omega), ?_⟩
          have : ∀ y : UInt8, 128 ≤ y.toNat → ([38, 93] : List UInt8).contains y = false := fun y hy => by
            have h38 : y ≠ 38 := fun e => by subst e; simp at hy
            have h93 : y ≠ 93 := fun e => by subst e; simp at hy
            simp [h38, h93]
          exact this _ h1))
        have ho1 := ho.1
        have hd1 := hd.1
        have hd2 := hd.2
        clear hx hb ho hd hrn hwd
        go_wp2_with (go_at_call 83; refine (indexRune_wide _ (by omega) _).mono ?_; rintro e w' ⟨rfl, hw⟩)
        go_roundg g
        case measure => omega
        case rel => exact ⟨i + wd, by omega, by omega, (HI.out.on _).below hw, HN2.out⟩
    · obtain rfl : i = s.size := by omega
      have hnx := Lib.run_next_end_at (P := Tryz.prog) wr w.heap.size s s.size
      go_wp2
      go_ret
      exact ⟨by rw [Lib.indexAny_none (by rw [hsl]; exact HN.out)]; rfl, HI.out.1⟩
/-- Any text. -/
theorem indexAny_any (s : ByteArray) (w : World) (hs : s.size ≤ 1000000) :
    Calls Tryz.prog 69 #[.string s, .string ⟨#[38, 93]⟩] w fun e w' => e = .returned (.int .i64 (Lib.indexAny s.data.toList [38, 93])) ∧ Below w.heap.size w w' := by
  by_cases h8 : s.size ≤ 8
  · exact indexAny_short s w h8
  · refine (Tryz.strings_IndexAny_long (zero_of_info (P := Tryz.prog) (t := 120) (n := 256) (by kernel_rfl)).1 s ⟨#[38, 93]⟩ w (by decide) (by omega) (by omega) (by decide) (ascii_of_all (by decide))).mono fun e w' ⟨h1, h2⟩ => ⟨h1, ?_⟩
    rw [h2]
    exact ((Below.refl _ _).alloc (Nat.le_refl _) _).alloc (by simp) _
end Go.Proofs.YtlldpmjnledhgaaGreatDoor
