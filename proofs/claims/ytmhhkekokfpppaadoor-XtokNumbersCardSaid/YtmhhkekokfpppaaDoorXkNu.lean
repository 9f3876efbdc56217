/- The walk of the law XtokNumbers. -/
import Derived.Test.YtmhhkekokfpppaaDoorXkAl
import Derived.BigRegion
import Derived.BigQuiet
namespace Go.Proofs.YtmhhkekokfpppaaDoor
open Go.RowKit
set_option linter.unusedVariables false

/-- Digits that are laid one ahead of the other. -/
def DigL (b : Nat) (ch : Nat → UInt8) (D : List UInt8) (w : World) (x y : Value) (W : World) : Prop :=
  ∃ (v : Nat) (acc : List UInt8) (f : Nat), x = .string ⟨acc.toArray⟩ ∧ y = .int .i64 (v : Nat) ∧ digF b ch f v acc = D ∧ v < b ^ f ∧ v ≤ 1114111 ∧ (acc ≠ [] ∨ 1 ≤ f) ∧ Below w.heap.size w W
def digMu (x y : Value) : Nat := (intOf y).toNat * 2 + (match x with | .string s => (if s.size = 0 then 1 else 0) | _ => 0)
theorem digMu_of (acc : List UInt8) (v : Nat) : digMu (.string ⟨acc.toArray⟩) (.int .i64 (v : Nat)) = v * 2 + if acc = [] then 1 else 0 := by
  unfold digMu
  simp only [size_mk, List.length_eq_zero_iff, intOf, Int.toNat_natCast]
theorem digL_step {b : Nat} (hb : 1 < b) {ch : Nat → UInt8} {D acc : List UInt8} {v f : Nat} (h : digF b ch f v acc = D) (hv : v < b ^ f) (hf : acc ≠ [] ∨ 1 ≤ f) (hc : ¬ (v = 0 ∧ acc ≠ [])) :
    ∃ f', digF b ch f' (v / b) (ch (v % b) :: acc) = D ∧ v / b < b ^ f' := by
  cases f with
  | zero =>
    have : v = 0 := by simpa using hv
    rcases hf with hf | hf
    · exact absurd ⟨this, hf⟩ hc
    · omega
  | succ f =>
    rw [digF, if_neg hc] at h
    exact ⟨f, h, by rw [Nat.pow_succ] at hv; exact Nat.div_lt_of_lt_mul (by rw [Nat.mul_comm]; exact hv)⟩
theorem cat_bytes (a b : List UInt8) : (⟨a.toArray⟩ : ByteArray) ++ ⟨b.toArray⟩ = ⟨(a ++ b).toArray⟩ := by
  apply ByteArray.ext
  simp [ByteArray.data_append]
theorem numRes_ok {n r : Nat} (h : charR (r : Int) = true) : numRes n r = .ok [⟨1, 0, [97], [], [], false⟩, ⟨3, 3, [], putR r, [], false⟩, ⟨2, n + 6, [97], [], [], false⟩] := by unfold numRes; rw [if_pos h]; rfl
theorem numRes_no {n r : Nat} (h : ¬ charR (r : Int) = true) : numRes n r = .bad ⟨11, 3, wReference⟩ := by unfold numRes; rw [if_neg h]; rfl
theorem empty_list (l : List UInt8) : ((⟨l.toArray⟩ : ByteArray).toList == []) = l.isEmpty := by
  rw [ByteArray.toList_eq]; cases l <;> rfl
theorem low_digit : ∀ d : Fin 16, (⟨#[48, 49, 50, 51, 52, 53, 54, 55, 56, 57, 97, 98, 99, 100, 101, 102]⟩ : ByteArray).extract d.1 (d.1 + 1) = ⟨#[hexCh false d.1]⟩ := by decide
theorem up_digit : ∀ d : Fin 16, (⟨#[48, 49, 50, 51, 52, 53, 54, 55, 56, 57, 65, 66, 67, 68, 69, 70]⟩ : ByteArray).extract d.1 (d.1 + 1) = ⟨#[hexCh true d.1]⟩ := by decide

set_option maxRecDepth 100000 in
set_option maxHeartbeats 16000000 in
theorem numbers_off {m : Int} (r : Int) (u : Bool) (hr : r < 0 ∨ 1114111 < r) (w : World) (hm : w.cell? ⟨0, 0, none⟩ = some (.int .i64 m)) :
    Calls Tryd.prog 3 #[.int .i64 r, .bool u] w fun e w' => e = .returned (.bool true) ∧ Below w.heap.size w w' := by
  have HA := Lib.hid (alive_any w hm)
  clear hm
  rcases hr with hr | hr
  all_goals
    go_enter Tryd.func3, Tryd.ntmps3
    go_wp2_with fail
    refine HA.out.mono ?_
    rintro e w1 ⟨rfl, hB⟩
    go_wp2
    go_ret
    exact ⟨rfl, hB⟩

set_option maxRecDepth 100000 in
set_option maxHeartbeats 100000000 in
theorem numbers_on {m : Int} (r : Nat) (u : Bool) (hr : r ≤ 1114111) (w : World) (hm : w.cell? ⟨0, 0, none⟩ = some (.int .i64 m)) :
    Calls Tryd.prog 3 #[.int .i64 r, .bool u] w fun e w' => e = .returned (.bool true) ∧ Below w.heap.size w w' := by
  have hml := block_lt' hm
  have HA := Lib.hid (alive_any w hm)
  obtain ⟨D, hD⟩ : ∃ D, decX r = D := ⟨_, rfl⟩
  obtain ⟨X, hX⟩ : ∃ X, hexX u r = X := ⟨_, rfl⟩
  have hr1 := run_dec r hr
  have hr2 := run_hex u r hr
  have hl1 := digF_len 10 decCh 7 r []
  have hl2 := digF_len 16 (hexCh u) 6 r []
  have hm1 := decX_mem r
  have hm2 := hexX_mem u r
  rw [show digF 10 decCh 7 r [] = decX r from rfl] at hl1
  rw [show digF 16 (hexCh u) 6 r [] = hexX u r from rfl] at hl2
  rw [hD] at hr1 hm1 hl1
  rw [hX] at hr2 hm2 hl2
  have HC1 := Lib.hid (fun (W : World) (hW : Below w.heap.size w W) => (show Calls Tryd.prog 7 #[.string ((⟨[60, 97, 62, 38, 35].toArray⟩ : ByteArray) ++ ⟨D.toArray⟩ ++ ⟨[59, 60, 47, 97, 62].toArray⟩)] W fun e w' => CutR W (numRes D.length r) e w' from by
    rw [cat_bytes, cat_bytes]
    exact cut_any (by rw [size_mk]; simp; simp at hl1; omega) (asciiOr_of (fun c hc => by
      simp only [List.mem_append, List.mem_cons, List.not_mem_nil, or_false] at hc
      rcases hc with ((rfl | rfl | rfl | rfl | rfl) | h) | (rfl | rfl | rfl | rfl | rfl)
      all_goals first | (have := hm1 _ h; omega) | decide)) (by rw [hW.cell (p := ⟨0, 0, none⟩) hml]; exact hm) hr1.1 hr1.2))
  have HC2 := Lib.hid (fun (W : World) (hW : Below w.heap.size w W) => (show Calls Tryd.prog 7 #[.string ((⟨[60, 97, 62, 38, 35, 120].toArray⟩ : ByteArray) ++ ⟨X.toArray⟩ ++ ⟨[59, 60, 47, 97, 62].toArray⟩)] W fun e w' => CutR W (numRes (120 :: X).length r) e w' from by
    rw [cat_bytes, cat_bytes]
    have e1 : [60, 97, 62, 38, 35, 120] ++ X ++ [59, 60, 47, 97, 62] = [60, 97, 62, 38, 35] ++ (120 :: X) ++ [59, 60, 47, 97, 62] := by simp
    rw [e1]
    exact cut_any (by rw [size_mk]; simp; simp at hl2; omega) (asciiOr_of (fun c hc => by
      simp only [List.mem_append, List.mem_cons, List.not_mem_nil, or_false] at hc
      rcases hc with ((rfl | rfl | rfl | rfl | rfl) | (rfl | h)) | (rfl | rfl | rfl | rfl | rfl)
      all_goals first | (have := hm2 _ h; omega) | decide)) (by rw [hW.cell (p := ⟨0, 0, none⟩) hml]; exact hm) hr2.1 hr2.2))
  have H01 := Lib.hid (fun (W : World) (hW : Below w.heap.size w W) => (show DigL 10 decCh D w (.string ⟨#[]⟩) (.int .i64 (r : Nat)) W from ⟨r, [], 7, rfl, rfl, hD, by omega, hr, .inr (by omega), hW⟩))
  have H02 := Lib.hid (fun (W : World) (hW : Below w.heap.size w W) => (show DigL 16 (hexCh u) X w (.string ⟨#[]⟩) (.int .i64 (r : Nat)) W from ⟨r, [], 6, rfl, rfl, hX, by omega, hr, .inr (by omega), hW⟩))
  have hD7 : D.length ≤ 7 := by simpa using hl1.1
  have hX6 : X.length ≤ 6 := by simpa using hl2.1
  clear hm hml hD hX hr1 hr2 hl1 hl2 hm1 hm2
  cases u with
  | false =>
    have HDG := Lib.hid (fun (d : Nat) (hd : d < 16) => low_digit ⟨d, hd⟩)
    go_enter Tryd.func3, Tryd.ntmps3
    go_wp2_with fail
    refine HA.out.mono ?_
    rintro e w1 ⟨rfl, hB1⟩
    have HB1 := Lib.hid hB1
    clear hB1
    go_wp2
    go_loopw [5, 7] (fun x y W => DigL 10 decCh D w x y W) (fun x y W => digMu x y)
    case atStart => exact H01.out _ HB1.out
    case round =>
      obtain ⟨v, acc, f, rfl, rfl, hd, hv, hv2, hf, hW⟩ := hrel
      have HW := Lib.hid hW
      have hacl : acc.length ≤ 7 := by have := (digF_len 10 (decCh) f v acc).2; rw [hd] at this; omega
      have hasz := size_mk acc
      clear hW
      by_cases hc : v = 0 ∧ acc ≠ []
      · obtain ⟨rfl, hac⟩ := hc
        have hem : acc.isEmpty = false := by cases acc with | nil => exact absurd rfl hac | cons _ _ => rfl
        have hD2 : acc = D := by rw [← hd, digF_stop 10 (decCh) f acc hac]
        clear hd hv hf hv2 hac
        subst hD2
        go_wp2
        go_loopw [6, 9] (fun x y W => DigL 16 (hexCh false) X w x y W) (fun x y W => digMu x y)
        case atStart => exact H02.out _ HW.out
        case round =>
          obtain ⟨v, acc, f, rfl, rfl, hd, hv, hv2, hf, hW⟩ := hrel
          have HW := Lib.hid hW
          have hacl : acc.length ≤ 6 := by have := (digF_len 16 (hexCh false) f v acc).2; rw [hd] at this; omega
          have hasz := size_mk acc
          clear hW
          by_cases hc : v = 0 ∧ acc ≠ []
          · obtain ⟨rfl, hac⟩ := hc
            have hem : acc.isEmpty = false := by cases acc with | nil => exact absurd rfl hac | cons _ _ => rfl
            have hD2 : acc = X := by rw [← hd, digF_stop 16 (hexCh false) f acc hac]
            clear hd hv hf hv2 hac
            subst hD2
            go_wp2_with fail
            refine (HC1.out _ HW.out).mono ?_
            intro e w2 he
            by_cases hch : charR (r : Int) = true
            · rw [numRes_ok hch] at he
              obtain ⟨out, rfl, hT, hB2⟩ := he
              obtain ⟨g, cap, rfl, hgl, c9⟩ := told_three hT
              have HB2 := Lib.hid hB2
              have hW2 : Below w.heap.size w w2 := HW.out.trans (hB2.mono HW.out.size)
              clear hT hB2
              go_wp2_with fail
              refine (HC2.out _ (hW2.alloc hW2.size _)).mono ?_
              intro e w3 he
              rw [numRes_ok hch] at he
              obtain ⟨out, rfl, hT, hB3⟩ := he
              obtain ⟨g3, cap3, rfl, hgl3, c93⟩ := told_three hT
              have kp : ∀ (k o : Nat) (u : Value), k < w2.heap.size → w2.cell? ⟨k, o, none⟩ = some u → w3.cell? ⟨k, o, none⟩ = some u := fun k o u hk h => by
                rw [hB3.cell (p := ⟨k, o, none⟩) (by rw [World.size_alloc]; exact Nat.lt_succ_of_lt hk), World.cell?_of_block (Below.heap_alloc w2 _ k hk)]
                exact h
              have kq : ∀ (k o : Nat) (u : Value), w3.cell? ⟨k, o, none⟩ = some u → (w3.alloc dg0).cell? ⟨k, o, none⟩ = some u := fun k o u h => by
                rw [World.cell?_of_block (Below.heap_alloc w3 _ k (block_lt' h))]
                exact h
              have x9 := kq _ _ _ (kp g 9 _ hgl c9)
              have x93 := kq _ _ _ c93
              have hd := (BlkAt.new w2 27 #[.int .i64 0, .int .i64 0, .string ⟨#[]⟩]).below hB3 (by simp)
              obtain ⟨⟨d0, d1, d2⟩, _, _, _⟩ := res_cells hd
              have d0' := kq _ _ _ d0
              have d1' := kq _ _ _ d1
              obtain ⟨⟨e0', e1', e2'⟩, _, _, _⟩ := res_cells (BlkAt.new w3 27 #[.int .i64 0, .int .i64 0, .string ⟨#[]⟩])
              have HB3 := Lib.hid (((hW2.alloc hW2.size dg0).trans (hB3.mono (by have := hW2.size; simp; omega))).alloc (by have h1 := hW2.size; have h2 := hB3.size; simp at h2; omega) dg0)
              have hpl := putR_len r
              have hpn := List.length_pos_iff.2 (putR_ne r)
              have hps := size_mk (putR r)
              obtain ⟨P, hP⟩ : ∃ P, putR r = P := ⟨_, rfl⟩
              rw [hP] at x9 x93 hpl hpn hps
              have q1 : decide ((1 : Int) ≤ (P.length : Int)) = true := by simp; omega
              have q2 : decide ((P.length : Int) ≤ 4) = true := by simp; omega
              have q3 : decide ((1 : Int) ≤ ((⟨P.toArray⟩ : ByteArray).size : Int)) = true := by rw [hps]; exact q1
              have q4 : decide (((⟨P.toArray⟩ : ByteArray).size : Int) ≤ 4) = true := by rw [hps]; exact q2
              have hrr := (charR_iff r hr).1 hch
              clear hB3 kp kq hd c9 c93 d0 d1 d2 hT hP hch hW2
              rcases hrr with rfl | rfl | rfl | ⟨hr1, hr2⟩ | ⟨hr1, hr2⟩ | hr1
              all_goals try (have hri : (65536 : Int) ≤ (r : Int) := by omega)
              all_goals
                go_wp2_with fail
                go_big_region
                all_goals
                  go_wp2
                  go_ret
                  exact ⟨rfl, HB3.out.drew⟩
            · rw [numRes_no hch] at he
              obtain ⟨rfl, hB2⟩ := he
              have HB2 := Lib.hid hB2
              have hW2 : Below w.heap.size w w2 := HW.out.trans (hB2.mono HW.out.size)
              clear hB2
              go_wp2_with fail
              refine (HC2.out _ (hW2.alloc hW2.size _)).mono ?_
              intro e w3 he
              rw [numRes_no hch] at he
              obtain ⟨rfl, hB3⟩ := he
              have kq : ∀ (k o : Nat) (u : Value), w3.cell? ⟨k, o, none⟩ = some u → (w3.alloc (Obj.cells #[.int .i64 11, .int .i64 3, .string ⟨wReference.toArray⟩] 27)).cell? ⟨k, o, none⟩ = some u := fun k o u h => by
                rw [World.cell?_of_block (Below.heap_alloc w3 _ k (block_lt' h))]
                exact h
              have hd := (BlkAt.new w2 27 #[.int .i64 11, .int .i64 3, .string ⟨wReference.toArray⟩]).below hB3 (by simp)
              obtain ⟨⟨d0, d1, d2⟩, _, _, _⟩ := res_cells hd
              have d0' := kq _ _ _ d0
              have d1' := kq _ _ _ d1
              obtain ⟨⟨e0', e1', e2'⟩, _, _, _⟩ := res_cells (BlkAt.new w3 27 #[.int .i64 11, .int .i64 3, .string ⟨wReference.toArray⟩])
              have HB3 := Lib.hid (((hW2.alloc hW2.size (.cells #[.int .i64 11, .int .i64 3, .string ⟨wReference.toArray⟩] 27)).trans (hB3.mono (by have := hW2.size; simp; omega))).alloc (by have h1 := hW2.size; have h2 := hB3.size; simp at h2; omega) (.cells #[.int .i64 11, .int .i64 3, .string ⟨wReference.toArray⟩] 27))
              have hrr : ¬ (r = 9 ∨ r = 10 ∨ r = 13 ∨ (32 ≤ r ∧ r ≤ 55295) ∨ (57344 ≤ r ∧ r ≤ 65533) ∨ 65536 ≤ r) := fun h => hch ((charR_iff r hr).2 h)
              have h9 : ¬ (r : Int) = 9 := by omega
              have h10 : ¬ (r : Int) = 10 := by omega
              have h13 : ¬ (r : Int) = 13 := by omega
              have hcs : (r : Int) < 32 ∨ ((55295 : Int) < r ∧ (r : Int) < 57344) ∨ r = 65534 ∨ r = 65535 := by omega
              clear hB3 kq hd d0 d1 d2 hch hW2 hrr
              have B9 : ((r : Int) == 9) = false := beq_eq_false_iff_ne.2 h9
              have B10 : ((r : Int) == 10) = false := beq_eq_false_iff_ne.2 h10
              have B13 : ((r : Int) == 13) = false := beq_eq_false_iff_ne.2 h13
              rcases hcs with h1 | ⟨h1, h2⟩ | rfl | rfl
              · have D1 : decide ((32 : Int) ≤ (r : Int)) = false := decide_eq_false (by omega)
                have D3 : decide ((57344 : Int) ≤ (r : Int)) = false := decide_eq_false (by omega)
                have D5 : decide ((65536 : Int) ≤ (r : Int)) = false := decide_eq_false (by omega)
                clear h1
                go_wp2
                all_goals
                  go_ret
                  exact ⟨rfl, HB3.out⟩
              · have D1 : decide ((32 : Int) ≤ (r : Int)) = true := decide_eq_true (by omega)
                have D2 : decide ((r : Int) ≤ (55295 : Int)) = false := decide_eq_false (by omega)
                have D3 : decide ((57344 : Int) ≤ (r : Int)) = false := decide_eq_false (by omega)
                have D5 : decide ((65536 : Int) ≤ (r : Int)) = false := decide_eq_false (by omega)
                clear h1 h2 h9 h10 h13
                go_wp2
                go_ret
                exact ⟨rfl, HB3.out⟩
              all_goals
                go_wp2
                go_ret
                exact ⟨rfl, HB3.out⟩
          · obtain ⟨f', hd', hv'⟩ := digL_step (by omega) hd hv hf hc
            have HD := Lib.hid hd'
            have HMu := Lib.hid (show digMu (.string ⟨(hexCh false (v % 16) :: acc).toArray⟩) (.int .i64 ((v / 16 : Nat) : Int)) < digMu (.string ⟨acc.toArray⟩) (.int .i64 (v : Nat)) from by
              rw [digMu_of, digMu_of, if_neg (by simp)]
              by_cases h0 : v = 0
              · subst h0
                rw [if_pos (by by_cases ha : acc = []; exact ha; exact absurd ⟨rfl, ha⟩ hc)]
                omega
              · omega)
            have hcond : 0 < v ∨ (v = 0 ∧ acc = []) := by
              by_cases h0 : v = 0
              · exact .inr ⟨h0, by by_cases ha : acc = []; exact ha; exact absurd ⟨h0, ha⟩ hc⟩
              · exact .inl (by omega)
            clear hc hv hf hd hd'
            rcases hcond with h0 | ⟨rfl, rfl⟩
            · have hdg := HDG.out (v % 16) (by omega)
              obtain ⟨ch, hch⟩ : ∃ ch, hexCh false (v % 16) = ch := ⟨_, rfl⟩
              rw [hch] at HD HMu hdg
              have HDg := Lib.hid hdg
              have hcz : ((⟨#[48, 49, 50, 51, 52, 53, 54, 55, 56, 57, 97, 98, 99, 100, 101, 102]⟩ : ByteArray).extract (v % 16) (v % 16 + 1)).size = 1 := by rw [hdg]; rfl
              clear hch hdg
              go_wp2
              go_roundw
              case rel => exact ⟨v / 16, ch :: acc, f', by rw [HDg.out]; exact congrArg _ (cat_bytes [ch] acc), by go_num, HD.out, hv', by omega, .inl (by simp), HW.out⟩
              case measure =>
                have h := HMu.out
                rw [HDg.out, cat_bytes [ch] acc]
                push_cast at h ⊢
                exact h
            · have HDg := Lib.hid (HDG.out 0 (by omega))
              have hcz : ((⟨#[48, 49, 50, 51, 52, 53, 54, 55, 56, 57, 97, 98, 99, 100, 101, 102]⟩ : ByteArray).extract 0 1).size = 1 := by rw [show (⟨#[48, 49, 50, 51, 52, 53, 54, 55, 56, 57, 97, 98, 99, 100, 101, 102]⟩ : ByteArray).extract 0 1 = _ from HDG.out 0 (by omega)]; rfl
              go_wp2
              go_roundw
              case rel => exact ⟨0, [hexCh false 0], f', by rw [show (⟨#[48, 49, 50, 51, 52, 53, 54, 55, 56, 57, 97, 98, 99, 100, 101, 102]⟩ : ByteArray).extract 0 1 = ⟨#[hexCh false 0]⟩ from HDg.out]; exact congrArg _ (cat_bytes [hexCh false 0] []), by go_num, HD.out, hv', by omega, .inl (by simp), HW.out⟩
              case measure =>
                have h := HMu.out
                rw [show (⟨#[48, 49, 50, 51, 52, 53, 54, 55, 56, 57, 97, 98, 99, 100, 101, 102]⟩ : ByteArray).extract 0 1 = ⟨#[hexCh false 0]⟩ from HDg.out, cat_bytes [hexCh false 0] []]
                push_cast at h ⊢
                exact h
      · obtain ⟨f', hd', hv'⟩ := digL_step (by omega) hd hv hf hc
        have HD := Lib.hid hd'
        have HMu := Lib.hid (show digMu (.string ⟨(decCh (v % 10) :: acc).toArray⟩) (.int .i64 ((v / 10 : Nat) : Int)) < digMu (.string ⟨acc.toArray⟩) (.int .i64 (v : Nat)) from by
          rw [digMu_of, digMu_of, if_neg (by simp)]
          by_cases h0 : v = 0
          · subst h0
            rw [if_pos (by by_cases ha : acc = []; exact ha; exact absurd ⟨rfl, ha⟩ hc)]
            omega
          · omega)
        have hcond : 0 < v ∨ (v = 0 ∧ acc = []) := by
          by_cases h0 : v = 0
          · exact .inr ⟨h0, by by_cases ha : acc = []; exact ha; exact absurd ⟨h0, ha⟩ hc⟩
          · exact .inl (by omega)
        clear hc hv hf hd hd'
        rcases hcond with h0 | ⟨rfl, rfl⟩
        · have hdc : ((decCh (v % 10)).toNat : Int) = 48 + (v : Int) % 10 := by rw [decCh_nat (by omega)]; omega
          have hb1 : IntKind.u8.wrap (48 + (v : Int) % 10) = ((decCh (v % 10)).toNat : Int) := by rw [hdc]; simp [IntKind.wrap, IntKind.bits, IntKind.signed]; omega
          have hb2 : (48 + (v : Int) % 10) % 256 = ((decCh (v % 10)).toNat : Int) := by rw [hdc]; omega
          obtain ⟨ch, hch⟩ : ∃ ch, decCh (v % 10) = ch := ⟨_, rfl⟩
          rw [hch] at hb1 hb2 HD HMu
          have hcz := size_mk [ch]
          clear hdc hch
          go_wp2_with (refine wpList_toStr _ rfl 23 9 5 _ rfl Tryd.underlying23 Tryd.underlying5 Tryd.underlying9 ⟨wr.heap.size, 0, none⟩ [ch] 1 1 rfl rfl ?c1 ?_)
          case c1 =>
            intro j hj
            match j, hj with
            | 0, _ =>
              rw [List.getElem_cons_zero]
              exact cell_one_new wr _ _ 0 _ rfl
          go_wp2
          go_roundw
          case rel => exact ⟨v / 10, ch :: acc, f', by rw [cat_bytes]; rfl, by go_num, HD.out, hv', by omega, .inl (by simp), HW.out.alloc HW.out.size _⟩
          case measure =>
            have h := HMu.out
            rw [cat_bytes]
            push_cast at h ⊢
            exact h
        · have hcz := size_mk [(48 : UInt8)]
          go_wp2_with (refine wpList_toStr _ rfl 23 9 5 _ rfl Tryd.underlying23 Tryd.underlying5 Tryd.underlying9 ⟨wr.heap.size, 0, none⟩ [48] 1 1 rfl rfl ?c1 ?_)
          case c1 =>
            intro j hj
            match j, hj with
            | 0, _ =>
              rw [List.getElem_cons_zero]
              exact cell_one_new wr _ _ 0 _ rfl
          go_wp2
          go_roundw
          case rel => exact ⟨0 / 10, 48 :: [], f', by rw [cat_bytes]; rfl, by go_num, HD.out, hv', by omega, .inl (by simp), HW.out.alloc HW.out.size _⟩
          case measure =>
            have h := HMu.out
            rw [cat_bytes]
            push_cast at h ⊢
            exact h
  | true =>
    have HDG := Lib.hid (fun (d : Nat) (hd : d < 16) => up_digit ⟨d, hd⟩)
    go_enter Tryd.func3, Tryd.ntmps3
    go_wp2_with fail
    refine HA.out.mono ?_
    rintro e w1 ⟨rfl, hB1⟩
    have HB1 := Lib.hid hB1
    clear hB1
    go_wp2
    go_loopw [5, 7] (fun x y W => DigL 10 decCh D w x y W) (fun x y W => digMu x y)
    case atStart => exact H01.out _ HB1.out
    case round =>
      obtain ⟨v, acc, f, rfl, rfl, hd, hv, hv2, hf, hW⟩ := hrel
      have HW := Lib.hid hW
      have hacl : acc.length ≤ 7 := by have := (digF_len 10 (decCh) f v acc).2; rw [hd] at this; omega
      have hasz := size_mk acc
      clear hW
      by_cases hc : v = 0 ∧ acc ≠ []
      · obtain ⟨rfl, hac⟩ := hc
        have hem : acc.isEmpty = false := by cases acc with | nil => exact absurd rfl hac | cons _ _ => rfl
        have hD2 : acc = D := by rw [← hd, digF_stop 10 (decCh) f acc hac]
        clear hd hv hf hv2 hac
        subst hD2
        go_wp2
        go_loopw [6, 9] (fun x y W => DigL 16 (hexCh true) X w x y W) (fun x y W => digMu x y)
        case atStart => exact H02.out _ HW.out
        case round =>
          obtain ⟨v, acc, f, rfl, rfl, hd, hv, hv2, hf, hW⟩ := hrel
          have HW := Lib.hid hW
          have hacl : acc.length ≤ 6 := by have := (digF_len 16 (hexCh true) f v acc).2; rw [hd] at this; omega
          have hasz := size_mk acc
          clear hW
          by_cases hc : v = 0 ∧ acc ≠ []
          · obtain ⟨rfl, hac⟩ := hc
            have hem : acc.isEmpty = false := by cases acc with | nil => exact absurd rfl hac | cons _ _ => rfl
            have hD2 : acc = X := by rw [← hd, digF_stop 16 (hexCh true) f acc hac]
            clear hd hv hf hv2 hac
            subst hD2
            go_wp2_with fail
            refine (HC1.out _ HW.out).mono ?_
            intro e w2 he
            by_cases hch : charR (r : Int) = true
            · rw [numRes_ok hch] at he
              obtain ⟨out, rfl, hT, hB2⟩ := he
              obtain ⟨g, cap, rfl, hgl, c9⟩ := told_three hT
              have HB2 := Lib.hid hB2
              have hW2 : Below w.heap.size w w2 := HW.out.trans (hB2.mono HW.out.size)
              clear hT hB2
              go_wp2_with fail
              refine (HC2.out _ (hW2.alloc hW2.size _)).mono ?_
              intro e w3 he
              rw [numRes_ok hch] at he
              obtain ⟨out, rfl, hT, hB3⟩ := he
              obtain ⟨g3, cap3, rfl, hgl3, c93⟩ := told_three hT
              have kp : ∀ (k o : Nat) (u : Value), k < w2.heap.size → w2.cell? ⟨k, o, none⟩ = some u → w3.cell? ⟨k, o, none⟩ = some u := fun k o u hk h => by
                rw [hB3.cell (p := ⟨k, o, none⟩) (by rw [World.size_alloc]; exact Nat.lt_succ_of_lt hk), World.cell?_of_block (Below.heap_alloc w2 _ k hk)]
                exact h
              have kq : ∀ (k o : Nat) (u : Value), w3.cell? ⟨k, o, none⟩ = some u → (w3.alloc dg0).cell? ⟨k, o, none⟩ = some u := fun k o u h => by
                rw [World.cell?_of_block (Below.heap_alloc w3 _ k (block_lt' h))]
                exact h
              have x9 := kq _ _ _ (kp g 9 _ hgl c9)
              have x93 := kq _ _ _ c93
              have hd := (BlkAt.new w2 27 #[.int .i64 0, .int .i64 0, .string ⟨#[]⟩]).below hB3 (by simp)
              obtain ⟨⟨d0, d1, d2⟩, _, _, _⟩ := res_cells hd
              have d0' := kq _ _ _ d0
              have d1' := kq _ _ _ d1
              obtain ⟨⟨e0', e1', e2'⟩, _, _, _⟩ := res_cells (BlkAt.new w3 27 #[.int .i64 0, .int .i64 0, .string ⟨#[]⟩])
              have HB3 := Lib.hid (((hW2.alloc hW2.size dg0).trans (hB3.mono (by have := hW2.size; simp; omega))).alloc (by have h1 := hW2.size; have h2 := hB3.size; simp at h2; omega) dg0)
              have hpl := putR_len r
              have hpn := List.length_pos_iff.2 (putR_ne r)
              have hps := size_mk (putR r)
              obtain ⟨P, hP⟩ : ∃ P, putR r = P := ⟨_, rfl⟩
              rw [hP] at x9 x93 hpl hpn hps
              have q1 : decide ((1 : Int) ≤ (P.length : Int)) = true := by simp; omega
              have q2 : decide ((P.length : Int) ≤ 4) = true := by simp; omega
              have q3 : decide ((1 : Int) ≤ ((⟨P.toArray⟩ : ByteArray).size : Int)) = true := by rw [hps]; exact q1
              have q4 : decide (((⟨P.toArray⟩ : ByteArray).size : Int) ≤ 4) = true := by rw [hps]; exact q2
              have hrr := (charR_iff r hr).1 hch
              clear hB3 kp kq hd c9 c93 d0 d1 d2 hT hP hch hW2
              rcases hrr with rfl | rfl | rfl | ⟨hr1, hr2⟩ | ⟨hr1, hr2⟩ | hr1
              all_goals try (have hri : (65536 : Int) ≤ (r : Int) := by omega)
              all_goals
                go_wp2_with fail
                go_big_region
                all_goals
                  go_wp2
                  go_ret
                  exact ⟨rfl, HB3.out.drew⟩
            · rw [numRes_no hch] at he
              obtain ⟨rfl, hB2⟩ := he
              have HB2 := Lib.hid hB2
              have hW2 : Below w.heap.size w w2 := HW.out.trans (hB2.mono HW.out.size)
              clear hB2
              go_wp2_with fail
              refine (HC2.out _ (hW2.alloc hW2.size _)).mono ?_
              intro e w3 he
              rw [numRes_no hch] at he
              obtain ⟨rfl, hB3⟩ := he
              have kq : ∀ (k o : Nat) (u : Value), w3.cell? ⟨k, o, none⟩ = some u → (w3.alloc (Obj.cells #[.int .i64 11, .int .i64 3, .string ⟨wReference.toArray⟩] 27)).cell? ⟨k, o, none⟩ = some u := fun k o u h => by
                rw [World.cell?_of_block (Below.heap_alloc w3 _ k (block_lt' h))]
                exact h
              have hd := (BlkAt.new w2 27 #[.int .i64 11, .int .i64 3, .string ⟨wReference.toArray⟩]).below hB3 (by simp)
              obtain ⟨⟨d0, d1, d2⟩, _, _, _⟩ := res_cells hd
              have d0' := kq _ _ _ d0
              have d1' := kq _ _ _ d1
              obtain ⟨⟨e0', e1', e2'⟩, _, _, _⟩ := res_cells (BlkAt.new w3 27 #[.int .i64 11, .int .i64 3, .string ⟨wReference.toArray⟩])
              have HB3 := Lib.hid (((hW2.alloc hW2.size (.cells #[.int .i64 11, .int .i64 3, .string ⟨wReference.toArray⟩] 27)).trans (hB3.mono (by have := hW2.size; simp; omega))).alloc (by have h1 := hW2.size; have h2 := hB3.size; simp at h2; omega) (.cells #[.int .i64 11, .int .i64 3, .string ⟨wReference.toArray⟩] 27))
              have hrr : ¬ (r = 9 ∨ r = 10 ∨ r = 13 ∨ (32 ≤ r ∧ r ≤ 55295) ∨ (57344 ≤ r ∧ r ≤ 65533) ∨ 65536 ≤ r) := fun h => hch ((charR_iff r hr).2 h)
              have h9 : ¬ (r : Int) = 9 := by omega
              have h10 : ¬ (r : Int) = 10 := by omega
              have h13 : ¬ (r : Int) = 13 := by omega
              have hcs : (r : Int) < 32 ∨ ((55295 : Int) < r ∧ (r : Int) < 57344) ∨ r = 65534 ∨ r = 65535 := by omega
              clear hB3 kq hd d0 d1 d2 hch hW2 hrr
              have B9 : ((r : Int) == 9) = false := beq_eq_false_iff_ne.2 h9
              have B10 : ((r : Int) == 10) = false := beq_eq_false_iff_ne.2 h10
              have B13 : ((r : Int) == 13) = false := beq_eq_false_iff_ne.2 h13
              rcases hcs with h1 | ⟨h1, h2⟩ | rfl | rfl
              · have D1 : decide ((32 : Int) ≤ (r : Int)) = false := decide_eq_false (by omega)
                have D3 : decide ((57344 : Int) ≤ (r : Int)) = false := decide_eq_false (by omega)
                have D5 : decide ((65536 : Int) ≤ (r : Int)) = false := decide_eq_false (by omega)
                clear h1
                go_wp2
                all_goals
                  go_ret
                  exact ⟨rfl, HB3.out⟩
              · have D1 : decide ((32 : Int) ≤ (r : Int)) = true := decide_eq_true (by omega)
                have D2 : decide ((r : Int) ≤ (55295 : Int)) = false := decide_eq_false (by omega)
                have D3 : decide ((57344 : Int) ≤ (r : Int)) = false := decide_eq_false (by omega)
                have D5 : decide ((65536 : Int) ≤ (r : Int)) = false := decide_eq_false (by omega)
                clear h1 h2 h9 h10 h13
                go_wp2
                go_ret
                exact ⟨rfl, HB3.out⟩
              all_goals
                go_wp2
                go_ret
                exact ⟨rfl, HB3.out⟩
          · obtain ⟨f', hd', hv'⟩ := digL_step (by omega) hd hv hf hc
            have HD := Lib.hid hd'
            have HMu := Lib.hid (show digMu (.string ⟨(hexCh true (v % 16) :: acc).toArray⟩) (.int .i64 ((v / 16 : Nat) : Int)) < digMu (.string ⟨acc.toArray⟩) (.int .i64 (v : Nat)) from by
              rw [digMu_of, digMu_of, if_neg (by simp)]
              by_cases h0 : v = 0
              · subst h0
                rw [if_pos (by by_cases ha : acc = []; exact ha; exact absurd ⟨rfl, ha⟩ hc)]
                omega
              · omega)
            have hcond : 0 < v ∨ (v = 0 ∧ acc = []) := by
              by_cases h0 : v = 0
              · exact .inr ⟨h0, by by_cases ha : acc = []; exact ha; exact absurd ⟨h0, ha⟩ hc⟩
              · exact .inl (by omega)
            clear hc hv hf hd hd'
            rcases hcond with h0 | ⟨rfl, rfl⟩
            · have hdg := HDG.out (v % 16) (by omega)
              obtain ⟨ch, hch⟩ : ∃ ch, hexCh true (v % 16) = ch := ⟨_, rfl⟩
              rw [hch] at HD HMu hdg
              have HDg := Lib.hid hdg
              have hcz : ((⟨#[48, 49, 50, 51, 52, 53, 54, 55, 56, 57, 65, 66, 67, 68, 69, 70]⟩ : ByteArray).extract (v % 16) (v % 16 + 1)).size = 1 := by rw [hdg]; rfl
              clear hch hdg
              go_wp2
              go_roundw
              case rel => exact ⟨v / 16, ch :: acc, f', by rw [HDg.out]; exact congrArg _ (cat_bytes [ch] acc), by go_num, HD.out, hv', by omega, .inl (by simp), HW.out⟩
              case measure =>
                have h := HMu.out
                rw [HDg.out, cat_bytes [ch] acc]
                push_cast at h ⊢
                exact h
            · have HDg := Lib.hid (HDG.out 0 (by omega))
              have hcz : ((⟨#[48, 49, 50, 51, 52, 53, 54, 55, 56, 57, 65, 66, 67, 68, 69, 70]⟩ : ByteArray).extract 0 1).size = 1 := by rw [show (⟨#[48, 49, 50, 51, 52, 53, 54, 55, 56, 57, 65, 66, 67, 68, 69, 70]⟩ : ByteArray).extract 0 1 = _ from HDG.out 0 (by omega)]; rfl
              go_wp2
              go_roundw
              case rel => exact ⟨0, [hexCh true 0], f', by rw [show (⟨#[48, 49, 50, 51, 52, 53, 54, 55, 56, 57, 65, 66, 67, 68, 69, 70]⟩ : ByteArray).extract 0 1 = ⟨#[hexCh true 0]⟩ from HDg.out]; exact congrArg _ (cat_bytes [hexCh true 0] []), by go_num, HD.out, hv', by omega, .inl (by simp), HW.out⟩
              case measure =>
                have h := HMu.out
                rw [show (⟨#[48, 49, 50, 51, 52, 53, 54, 55, 56, 57, 65, 66, 67, 68, 69, 70]⟩ : ByteArray).extract 0 1 = ⟨#[hexCh true 0]⟩ from HDg.out, cat_bytes [hexCh true 0] []]
                push_cast at h ⊢
                exact h
      · obtain ⟨f', hd', hv'⟩ := digL_step (by omega) hd hv hf hc
        have HD := Lib.hid hd'
        have HMu := Lib.hid (show digMu (.string ⟨(decCh (v % 10) :: acc).toArray⟩) (.int .i64 ((v / 10 : Nat) : Int)) < digMu (.string ⟨acc.toArray⟩) (.int .i64 (v : Nat)) from by
          rw [digMu_of, digMu_of, if_neg (by simp)]
          by_cases h0 : v = 0
          · subst h0
            rw [if_pos (by by_cases ha : acc = []; exact ha; exact absurd ⟨rfl, ha⟩ hc)]
            omega
          · omega)
        have hcond : 0 < v ∨ (v = 0 ∧ acc = []) := by
          by_cases h0 : v = 0
          · exact .inr ⟨h0, by by_cases ha : acc = []; exact ha; exact absurd ⟨h0, ha⟩ hc⟩
          · exact .inl (by omega)
        clear hc hv hf hd hd'
        rcases hcond with h0 | ⟨rfl, rfl⟩
        · have hdc : ((decCh (v % 10)).toNat : Int) = 48 + (v : Int) % 10 := by rw [decCh_nat (by omega)]; omega
          have hb1 : IntKind.u8.wrap (48 + (v : Int) % 10) = ((decCh (v % 10)).toNat : Int) := by rw [hdc]; simp [IntKind.wrap, IntKind.bits, IntKind.signed]; omega
          have hb2 : (48 + (v : Int) % 10) % 256 = ((decCh (v % 10)).toNat : Int) := by rw [hdc]; omega
          obtain ⟨ch, hch⟩ : ∃ ch, decCh (v % 10) = ch := ⟨_, rfl⟩
          rw [hch] at hb1 hb2 HD HMu
          have hcz := size_mk [ch]
          clear hdc hch
          go_wp2_with (refine wpList_toStr _ rfl 23 9 5 _ rfl Tryd.underlying23 Tryd.underlying5 Tryd.underlying9 ⟨wr.heap.size, 0, none⟩ [ch] 1 1 rfl rfl ?c1 ?_)
          case c1 =>
            intro j hj
            match j, hj with
            | 0, _ =>
              rw [List.getElem_cons_zero]
              exact cell_one_new wr _ _ 0 _ rfl
          go_wp2
          go_roundw
          case rel => exact ⟨v / 10, ch :: acc, f', by rw [cat_bytes]; rfl, by go_num, HD.out, hv', by omega, .inl (by simp), HW.out.alloc HW.out.size _⟩
          case measure =>
            have h := HMu.out
            rw [cat_bytes]
            push_cast at h ⊢
            exact h
        · have hcz := size_mk [(48 : UInt8)]
          go_wp2_with (refine wpList_toStr _ rfl 23 9 5 _ rfl Tryd.underlying23 Tryd.underlying5 Tryd.underlying9 ⟨wr.heap.size, 0, none⟩ [48] 1 1 rfl rfl ?c1 ?_)
          case c1 =>
            intro j hj
            match j, hj with
            | 0, _ =>
              rw [List.getElem_cons_zero]
              exact cell_one_new wr _ _ 0 _ rfl
          go_wp2
          go_roundw
          case rel => exact ⟨0 / 10, 48 :: [], f', by rw [cat_bytes]; rfl, by go_num, HD.out, hv', by omega, .inl (by simp), HW.out.alloc HW.out.size _⟩
          case measure =>
            have h := HMu.out
            rw [cat_bytes]
            push_cast at h ⊢
            exact h
end Go.Proofs.YtmhhkekokfpppaaDoor
