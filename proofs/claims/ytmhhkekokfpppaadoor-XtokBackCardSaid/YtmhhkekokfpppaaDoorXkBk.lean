/- The walk of the law XtokBack. -/
import Derived.Test.YtmhhkekokfpppaaDoorXkAl
import Derived.Test.YtmhhkekokfpppaaDoorXkX
import Derived.Test.YtmhhkekokfpppaaDoorXkRc
import Derived.Test.YtmhhkekokfpppaaDoorXkEz
import Derived.BigRegion
import Derived.BigQuiet
namespace Go.Proofs.YtmhhkekokfpppaaDoor
open Go.RowKit
set_option linter.unusedVariables false

theorem cat_bytes2 (a b : List UInt8) : (⟨a.toArray⟩ : ByteArray) ++ ⟨b.toArray⟩ = ⟨(a ++ b).toArray⟩ := by
  apply ByteArray.ext
  simp [ByteArray.data_append]
theorem map_two {α β : Type} {f : α → β} {l : List α} {x y : β} (h : l.map f = [x, y]) : ∃ a b, l = [a, b] ∧ f a = x ∧ f b = y := by
  match l, h with
  | [a, b], h => simp at h; exact ⟨a, b, rfl, h⟩
  | [], h => simp at h
  | [a], h => simp at h
  | a :: b :: c :: l, h => simp at h
theorem told_two {base : Nat} {W : World} {out : Value} {T1 T2 : XT} (h : ToldAt base W out [T1, T2]) : ∃ g cap v, out = .slice (some ⟨g, 0, none⟩) 2 cap ∧ g < W.heap.size ∧ W.cell? ⟨g, 4, none⟩ = some v ∧ AttrsAt base W T1.attrs v := by
  obtain ⟨ts, ho, ht, hat⟩ := h
  obtain ⟨⟨T, v⟩, b, rfl, ha, hb⟩ := map_two ht
  obtain rfl : T = T1 := ha
  have hA := hat (T, v) (by simp)
  simp only [List.length_cons, List.length_nil, Nat.zero_add, Nat.reduceAdd] at ho
  obtain ⟨g, cap, rfl, hg, hgl⟩ := World.ownsRow.form ho (by decide)
  exact ⟨g, cap, v, rfl, hgl, cell_own ho (j := 4) rfl, hA⟩
theorem told_three2 {base : Nat} {W : World} {out : Value} {T1 T2 T3 : XT} (h : ToldAt base W out [T1, T2, T3]) : ∃ g cap v, out = .slice (some ⟨g, 0, none⟩) 3 cap ∧ g < W.heap.size ∧ W.cell? ⟨g, 4, none⟩ = some v ∧ AttrsAt base W T1.attrs v ∧ W.cell? ⟨g, 6, none⟩ = some (.int .i64 T2.kind) ∧ W.cell? ⟨g, 9, none⟩ = some (.string ⟨T2.text.toArray⟩) := by
  obtain ⟨ts, ho, ht, hat⟩ := h
  obtain ⟨⟨T, v⟩, b, c, rfl, ha, hb, hc⟩ := map_three ht
  obtain rfl : T = T1 := ha
  have hA := hat (T, v) (by simp)
  simp only [List.length_cons, List.length_nil, Nat.zero_add, Nat.reduceAdd] at ho
  obtain ⟨g, cap, rfl, hg, hgl⟩ := World.ownsRow.form ho (by decide)
  subst hb
  exact ⟨g, cap, v, rfl, hgl, cell_own ho (j := 4) rfl, hA, cell_own ho (j := 6) rfl, cell_own ho (j := 9) rfl⟩

set_option maxRecDepth 100000 in
set_option maxHeartbeats 16000000 in
theorem back_off {m : Int} (s : ByteArray) (hs : 1000 < s.size ∨ (s.size ≤ 1000 ∧ charsX s.data.toList ≠ none)) (w : World) (hm : w.cell? ⟨0, 0, none⟩ = some (.int .i64 m)) :
    Calls Tryd.prog 4 #[.string s] w fun e w' => e = .returned (.bool true) ∧ Below w.heap.size w w' := by
  have hml := block_lt' hm
  have HA := Lib.hid (fun (W : World) (hW : Below w.heap.size w W) => alive_any W (by rw [hW.cell (p := ⟨0, 0, none⟩) hml]; exact hm))
  clear hm hml
  rcases hs with hs | ⟨hs, hc⟩
  · go_enter Tryd.func4, Tryd.ntmps4
    go_wp2_with fail
    refine (HA.out _ (Below.refl _ _)).mono ?_
    rintro e w1 ⟨rfl, hB⟩
    go_wp2
    go_ret
    exact ⟨rfl, hB⟩
  · have hdc : decide (charsX s.data.toList = none) = false := decide_eq_false hc
    have HR := Lib.hid (refChars_any s (by omega) w)
    have HDC := Lib.hid hdc
    clear hc hdc
    go_enter Tryd.func4, Tryd.ntmps4
    go_wp2_with fail
    refine HR.out.mono ?_
    rintro e w1 ⟨rfl, hB1⟩
    rw [HDC.out]
    have HB1 := Lib.hid hB1
    clear hB1
    go_wp2_with fail
    refine (HA.out _ HB1.out).mono ?_
    rintro e w2 ⟨rfl, hB2⟩
    go_wp2
    go_ret
    exact ⟨rfl, HB1.out.trans (hB2.mono HB1.out.size)⟩

set_option maxRecDepth 100000 in
set_option maxHeartbeats 100000000 in
theorem back_on {m : Int} (s : ByteArray) (hs : s.size ≤ 1000) (hc : charsX s.data.toList = none) (w : World) (hm : w.cell? ⟨0, 0, none⟩ = some (.int .i64 m)) :
    Calls Tryd.prog 4 #[.string s] w fun e w' => e = .returned (.bool true) ∧ Below w.heap.size w w' := by
  have hml := block_lt' hm
  obtain ⟨l, hl⟩ : ∃ l, s.data.toList = l := ⟨_, rfl⟩
  have hsz : s.size = l.length := by rw [← hl]; simp
  have hse : s = ⟨l.toArray⟩ := by
    obtain ⟨⟨x⟩⟩ := s
    simp at hl
    rw [hl]
  have HA := Lib.hid (fun (W : World) (hW : Below w.heap.size w W) => alive_any W (by rw [hW.cell (p := ⟨0, 0, none⟩) hml]; exact hm))
  have hR := refChars_any s (by omega) w
  rw [decide_eq_true hc] at hR
  have HR := Lib.hid hR
  have HE := Lib.hid (fun (q : Bool) (W : World) => escape_any s (by omega) q W)
  have hrun := back_run l (by omega)
  obtain ⟨P, Q, hrun⟩ := hrun
  have hfit : Fit l := (charsX_fit l).1 (by rw [← hl]; exact hc)
  have hlen : (backT l l).length ≤ 60000 := by
    unfold backT
    rw [tagX_len]
    have := escX_len true l
    have := escX_len false l
    simp
    omega
  have HC := Lib.hid (fun (W : World) (hW : Below w.heap.size w W) => (show Calls Tryd.prog 7 #[.string ((⟨[60, 97, 32, 98, 61, 34].toArray⟩ : ByteArray) ++ ⟨(escX true s.data.toList).toArray⟩ ++ ⟨[34, 62].toArray⟩ ++ ⟨(escX false s.data.toList).toArray⟩ ++ ⟨[60, 47, 97, 62].toArray⟩)] W fun e w' => CutR W (.ok (backRes l l P Q)) e w' from by
    rw [cat_bytes2, cat_bytes2, cat_bytes2, cat_bytes2, hl]
    have e1 : [60, 97, 32, 98, 61, 34] ++ escX true l ++ [34, 62] ++ escX false l ++ [60, 47, 97, 62] = backT l l := by unfold backT tagX; simp
    rw [e1]
    exact cut_any (f := l.length + 1) (by rw [size_mk]; exact hlen) (by rw [hW.cell (p := ⟨0, 0, none⟩) hml]; exact hm) ((back_fit l l).2 ⟨hfit, hfit⟩) hrun))
  have hez1 := size_mk (escX true s.data.toList)
  have hez2 := size_mk (escX false s.data.toList)
  have hel1 := escX_len true s.data.toList
  have hel2 := escX_len false s.data.toList
  rw [hl] at hel1 hel2 hez1 hez2
  clear hm hml hR hrun hfit hlen hc
  rw [hl] at HC
  have HE2 := Lib.hid (show ∀ (q : Bool) (W : World), Calls Tryd.prog 9 #[.string s, .bool q] W fun e w' => e = .returned (.string ⟨(escX q l).toArray⟩) ∧ Below W.heap.size W w' from fun q W => by have := HE.out q W; rw [hl] at this; exact this)
  clear HE
  obtain ⟨E1, hE1⟩ : ∃ E1, escX true l = E1 := ⟨_, rfl⟩
  obtain ⟨E2, hE2⟩ : ∃ E2, escX false l = E2 := ⟨_, rfl⟩
  have HEt := Lib.hid (fun (W : World) => HE2.out true W)
  have HEf := Lib.hid (fun (W : World) => HE2.out false W)
  clear HE2
  rw [hE1] at HEt
  rw [hE2] at HEf
  rw [hE1, hE2] at HC
  rw [hE1] at hez1 hel1
  rw [hE2] at hez2 hel2
  clear hl hE1 hE2
  have h1 : E1.length ≤ 6000 := by omega
  have h2 : E2.length ≤ 6000 := by omega
  have HSE := Lib.hid hse
  clear hse hsz hel1 hel2
  go_enter Tryd.func4, Tryd.ntmps4
  go_wp2_with (first
    | (go_at_call 8; refine HR.out.mono ?_; rintro e w1 ⟨rfl, hB1⟩; have HB1 := Lib.hid hB1; clear hB1)
    | (go_at_call 6; refine (HA.out _ HB1.out).mono ?_; rintro e w2 ⟨rfl, hB2⟩; have HB2 := Lib.hid (HB1.out.trans (hB2.mono HB1.out.size)); clear hB2))
  go_wp2_with fail
  refine (HEt.out _).mono ?_
  rintro e w3 ⟨rfl, hB3⟩
  have HB3 := Lib.hid (HB2.out.trans (hB3.mono HB2.out.size))
  clear hB3
  go_wp2_with fail
  refine (HEf.out _).mono ?_
  rintro e w4 ⟨rfl, hB4⟩
  have HB4 := Lib.hid (HB3.out.trans (hB4.mono HB3.out.size))
  clear hB4
  go_wp2_with fail
  refine (HC.out _ HB4.out).mono ?_
  intro e w5 he
  by_cases hn : l = []
  · subst hn
    rw [show backRes [] [] P Q = [⟨1, 0, [97], [], [⟨[98], [], 3⟩], false⟩, ⟨2, Q, [97], [], [], false⟩] from rfl] at he
    obtain ⟨out, rfl, hT, hB5⟩ := he
    obtain ⟨g, cap, v, rfl, hgl, a4, hA⟩ := told_two hT
    obtain ⟨g2, cap2, rfl, hg2l, b1⟩ := attrs_one hA
    have hd : BlkAt (w5.alloc (Obj.cells #[.int .i64 0, .int .i64 0, .string ⟨#[]⟩] 27)) w5.heap.size 27 #[.int .i64 0, .int .i64 0, .string ⟨#[]⟩] := BlkAt.new w5 _ _
    obtain ⟨⟨d0, d1, d2⟩, _, _, _⟩ := res_cells hd
    have kq : ∀ (k o : Nat) (u : Value), w5.cell? ⟨k, o, none⟩ = some u → (w5.alloc dg0).cell? ⟨k, o, none⟩ = some u := fun k o u h => by
      rw [World.cell?_of_block (Below.heap_alloc w5 _ k (block_lt' h))]
      exact h
    have c4 := kq _ _ _ a4
    have e1 := kq _ _ _ b1
    have HB5 := Lib.hid ((HB4.out.trans (hB5.mono HB4.out.size)).alloc (by have := hB5.size; have := HB4.out.size; omega) dg0)
    have hs0 : s = ⟨#[]⟩ := HSE.out
    clear hT hA hB5 kq hd a4 b1 HR HA HEt HEf HC hs HSE
    subst hs0
    go_wp2_with fail
    go_ret
    exact ⟨rfl, HB5.out⟩
  · rw [show backRes l l P Q = [⟨1, 0, [97], [], [⟨[98], l, 3⟩], false⟩, ⟨3, P, [], l, [], false⟩, ⟨2, Q, [97], [], [], false⟩] from by unfold backRes; rw [if_neg hn]; rfl] at he
    obtain ⟨out, rfl, hT, hB5⟩ := he
    obtain ⟨g, cap, v, rfl, hgl, a4, hA, a6, a9⟩ := told_three2 hT
    obtain ⟨g2, cap2, rfl, hg2l, b1⟩ := attrs_one hA
    have hd : BlkAt (w5.alloc (Obj.cells #[.int .i64 0, .int .i64 0, .string ⟨#[]⟩] 27)) w5.heap.size 27 #[.int .i64 0, .int .i64 0, .string ⟨#[]⟩] := BlkAt.new w5 _ _
    obtain ⟨⟨d0, d1, d2⟩, _, _, _⟩ := res_cells hd
    have kq : ∀ (k o : Nat) (u : Value), w5.cell? ⟨k, o, none⟩ = some u → (w5.alloc dg0).cell? ⟨k, o, none⟩ = some u := fun k o u h => by
      rw [World.cell?_of_block (Below.heap_alloc w5 _ k (block_lt' h))]
      exact h
    have c4 := kq _ _ _ a4
    have c6 := kq _ _ _ a6
    have c9 := kq _ _ _ a9
    have e1 := kq _ _ _ b1
    have HB5 := Lib.hid ((HB4.out.trans (hB5.mono HB4.out.size)).alloc (by have := hB5.size; have := HB4.out.size; omega) dg0)
    have hs0 : s = ⟨l.toArray⟩ := HSE.out
    have hem : l.isEmpty = false := by cases l with | nil => exact absurd rfl hn | cons _ _ => rfl
    have hem2 : ((⟨l.toArray⟩ : ByteArray).toList == []) = false := by
      rw [ByteArray.toList_eq]; cases l with | nil => exact absurd rfl hn | cons _ _ => rfl
    clear hT hA hB5 kq hd a4 a6 a9 b1 HR HA HEt HEf HC hs HSE hn
    subst hs0
    go_wp2_with fail
    go_ret
    exact ⟨rfl, HB5.out⟩
end Go.Proofs.YtmhhkekokfpppaaDoor
