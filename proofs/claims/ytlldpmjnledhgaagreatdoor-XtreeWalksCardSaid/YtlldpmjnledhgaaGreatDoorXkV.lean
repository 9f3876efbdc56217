/- The walk of the cutter's value. -/
import Derived.Test.YtlldpmjnledhgaaGreatDoorXkN
import Derived.Test.YtlldpmjnledhgaaGreatDoorXkH
import Derived.Test.YtlldpmjnledhgaaGreatDoorXkCI
namespace Go.Proofs.YtlldpmjnledhgaaGreatDoor
open Go.RowKit
set_option linter.unusedVariables false

theorem IsB.below {B b : Nat} {l : List UInt8} {W W' : World} (h : IsB B b l W) (hB : Below W.heap.size W W') : IsB B b l W' := by
  have key : ∀ p, Lib.BuilderAt 93 5 B b p (Lib.byteCells l) W → Lib.BuilderAt 93 5 B b p (Lib.byteCells l) W' := by
    intro p hp
    have hlt := hp.lt
    obtain ⟨h1, v, h2, h3, h4⟩ := hp
    exact ⟨h1, v, (hB.block b hlt).trans h2, own_keep h3 (fun g hg => hB.block g (own_lt h3 hg)), h4⟩
  rcases h with h | h
  · exact .inl (key _ h)
  · exact .inr (key _ h)
theorem IsB.lt {B b : Nat} {l : List UInt8} {W : World} (h : IsB B b l W) : b < W.heap.size := by
  rcases h with h | h <;> exact h.lt
abbrev bld0 : Obj := .cells #[.pointer none, .slice none 0 0] 93
/-- A call's two first cells: the result's, a builder's. -/
abbrev two0 (w : World) : World := (w.alloc dg0).alloc bld0
theorem two0_size (w : World) : (two0 w).heap.size = w.heap.size + 2 := by simp [two0]
theorem two0_b (w : World) : IsB (w.heap.size + 1) (w.heap.size + 1) [] (two0 w) := by
  have := IsB.new (w.alloc dg0)
  simp only [World.size_alloc] at this
  exact this
theorem two0_keep {w W : World} {g : Nat} {t : TypeId} {cs : Array Value} (h : BlkAt w g t cs) (hW : Below (w.heap.size + 1) (two0 w) W) : BlkAt W g t cs :=
  ((h.alloc _).alloc _).below hW (by have := h.lt; omega)
theorem two0_res {w W : World} (hW : Below (w.heap.size + 1) (two0 w) W) : BlkAt W w.heap.size 28 #[.int .i64 0, .int .i64 0, .string ⟨#[]⟩] :=
  ((BlkAt.new w _ _).alloc _).below hW (by omega)
theorem two0_below {w W Y : World} (hW : Below (w.heap.size + 1) (two0 w) W) (hg : W.grownBy Y (some w.heap.size)) : Below w.heap.size w Y :=
  ((((Below.refl _ w).alloc (Nat.le_refl _) _).alloc (by simp) _).trans (hW.mono (by omega))).trans (grown_below hg (Nat.le_refl _) (by have := hW.size; rw [two0_size] at this; omega))
/-- What a value comes to. -/
def ValR (w : World) (R : XR (List UInt8 × Nat)) (e : Ending) (w' : World) : Prop :=
  match R with
  | .none => True
  | .bad er => e = .returned (.tuple #[.string ⟨#[]⟩, .int .i64 0, errV er]) ∧ Below w.heap.size w w'
  | .ok (v, n) => e = .returned (.tuple #[.string ⟨v.toArray⟩, .int .i64 n, okV]) ∧ Below w.heap.size w w'
/-- The loop of a value. -/
def ValL (s : ByteArray) (ca : Nat) (q : UInt8) (R : XR (List UInt8 × Nat)) (w : World) (p : Value) (W : World) : Prop :=
  ∃ k acc f, p = .int .i64 (k : Nat) ∧ k ≤ s.size ∧ valueX ca q f (s.data.toList.drop k) k acc = R ∧ acc.length + 4 * (s.size - k) ≤ 4 * s.size ∧ IsB (w.heap.size + 1) (w.heap.size + 1) acc W ∧ Below (w.heap.size + 1) (two0 w) W
theorem valueX_end {ca : Nat} {q : UInt8} {f k : Nat} {acc : List UInt8} {R : XR (List UInt8 × Nat)} (h : valueX ca q f [] k acc = R) (hR : R ≠ .none) : R = .bad ⟨11, ca, wValue⟩ := by
  cases f with
  | zero => exact absurd h.symm hR
  | succ f => exact h.symm
theorem valueX_cons {ca : Nat} {q : UInt8} {f k : Nat} {c : UInt8} {t acc : List UInt8} {R : XR (List UInt8 × Nat)} (h : valueX ca q f (c :: t) k acc = R) (hR : R ≠ .none) :
    ∃ f', (if c = q then .ok (acc, k + 1)
      else if c = 60 then .bad ⟨11, ca, wValue⟩
      else if c = 38 then
        match refX (c :: t) with
        | none => .bad ⟨11, k, wReference⟩
        | some (x, n) => valueX ca q f' ((c :: t).drop n) (k + n) (acc ++ x)
      else if c = 13 ∧ Lib.hasPrefix (c :: t) [13, 10] = true then valueX ca q f' (t.drop 1) (k + 2) (acc ++ [32])
      else if c = 13 ∨ c = 10 ∨ c = 9 then valueX ca q f' t (k + 1) (acc ++ [32])
      else valueX ca q f' t (k + 1) (acc ++ [c])) = R := by
  cases f with
  | zero => exact absurd h.symm hR
  | succ f => rw [valueX] at h; exact ⟨f, h⟩
theorem beq_no {a b : UInt8} (h : ¬ a = b) : ((a.toNat : Int) == (b.toNat : Int)) = false := beq_eq_false_iff_ne.2 (fun e => h (UInt8.toNat_inj.1 (by omega)))
theorem beq_yes {a b : UInt8} (h : a = b) : ((a.toNat : Int) == (b.toNat : Int)) = true := by rw [h]; exact beq_self_eq_true _

theorem writeSp (B b : Nat) (l : List UInt8) (w : World) (h : IsB B b l w) (hlen : l.length + 1 ≤ 140737488355328) (hBw : B ≤ w.heap.size) :
    Calls Tryz.prog 73 #[.pointer (some ⟨b, 0, none⟩), .int .u8 32] w fun e w' => e = .returned .nilIface ∧ (IsB B b (l ++ [32]) w' ∧ Below B w w') := writeByte0 B b l 32 w h hlen hBw
theorem prefix_len {l p : List UInt8} (h : Lib.hasPrefix l p = true) : p.length ≤ l.length := (List.isPrefixOf_iff_prefix.1 h).length_le

set_option maxRecDepth 100000 in
set_option maxHeartbeats 16000000 in
theorem value_in {cb fr : Nat} {s : ByteArray} {ca : Nat} {si : Nat} {out p v : Value} {w : World} {f : Nat} {R : XR (List UInt8 × Nat)} (hs : s.size ≤ 1000000) (hb : BlkAt w cb 95 (cutCells s ca out p v si)) (hfr : fr < s.size)
    (hv : valueX ca s[fr] f (s.data.toList.drop (fr + 1)) (fr + 1) [] = R) (hR : R ≠ .none) :
    Calls Tryz.prog 96 #[.pointer (some ⟨cb, 0, none⟩), .int .i64 fr] w fun e w' => ValR w R e w' := by
  have hls : s.data.toList.length = s.size := by simp
  have HK := Lib.hid (fun (W : World) (hW : Below (w.heap.size + 1) (two0 w) W) => (show W.cell? ⟨cb, 0, none⟩ = some (.string s) ∧ W.cell? ⟨cb, 1, none⟩ = some (.int .i64 ca) from ⟨(two0_keep hb hW).cell 0, (two0_keep hb hW).cell 1⟩))
  have H0 := Lib.hid (show ValL s ca s[fr] R w (.int .i64 ((fr + 1 : Nat) : Int)) (two0 w) from ⟨fr + 1, [], f, rfl, hfr, hv, by simp; omega, two0_b w, Below.refl _ _⟩)
  have HRR := Lib.hid hR
  clear hv hls hb hR
  go_enter Tryz.func96, Tryz.ntmps96
  go_wp2
  go_loopw [8] (fun x W => ValL s ca s[fr] R w x W) (fun x W => s.size + 1 - (intOf x).toNat)
  case atStart => have := H0.out; push_cast at this; exact this
  case round =>
    obtain ⟨k, acc, f2, rfl, hk, hval, hacc, hB, hW⟩ := hrel
    have HW := Lib.hid hW
    have HB := Lib.hid hB
    have hsz := hW.size
    rw [two0_size] at hsz
    obtain ⟨k0, k1⟩ := HK.out _ hW
    clear hW hB
    by_cases hlt : k < s.size
    · rw [drop_cons s k hlt] at hval
      obtain ⟨f3, hval⟩ := valueX_cons hval HRR.out
      rw [← drop_cons s k hlt] at hval
      by_cases e1 : s[k] = s[fr]
      · rw [if_pos e1] at hval
        have HV := Lib.hid hval
        have E1 := beq_yes e1
        clear hval e1
        go_wp2_with (go_at_call 63; refine (Tryz.Builder_String_any _ _ acc _ HB.out (by omega)).mono ?_; rintro e w1 ⟨rfl, hB1⟩; have HW1 := Lib.hid (HW.out.trans hB1); have hr := (two0_res HW1.out); obtain ⟨⟨r0, r1, r2⟩, g0, g1, g2⟩ := res_cells hr)
        have hT := three_sets (.int .i64 0) (.int .i64 0) (.string ⟨#[]⟩) hr
        refine bodyPost_ret (results_ttc rfl rfl aggDiag rfl hT.1) rfl ?_
        rw [← HV.out]
        exact ⟨by push_cast; rfl, two0_below HW1.out hT.2⟩
      · rw [if_neg e1] at hval
        have E1 := beq_no e1
        have hacc1 : acc.length + 4 ≤ 4000000 := by omega
        by_cases e2 : s[k] = 60
        · rw [if_pos e2] at hval
          have HV := Lib.hid hval
          have E2 : ((s[k].toNat : Int) == 60) = true := beq_yes e2
          clear hval e2 e1
          go_wp2_with (go_at_call 52; refine (wrong_any _ _ _).mono ?_; rintro e w3 ⟨rfl, hB3⟩; have HW3 := Lib.hid (HW.out.trans (hB3.mono (by omega))); have hr := (two0_res HW3.out); obtain ⟨⟨r0, r1, r2⟩, g0, g1, g2⟩ := res_cells hr)
          have hT := three_sets (.int .i64 11) (.int .i64 ca) (.string ⟨#[118, 97, 108, 117, 101]⟩) hr
          refine bodyPost_ret (results_ttc rfl rfl aggDiag rfl hT.1) rfl ?_
          rw [← HV.out]
          exact ⟨rfl, two0_below HW3.out hT.2⟩
        · rw [if_neg e2] at hval
          have E2 : ((s[k].toNat : Int) == 60) = false := beq_no e2
          by_cases e3 : s[k] = 38
          · rw [if_pos e3] at hval
            have E3 : ((s[k].toNat : Int) == 38) = true := beq_yes e3
            have HRf := Lib.hid (fun W => reference_any (s.extract k s.size) (by simp; omega) (by rw [extract_drop, drop_cons s k hlt]; simp [e3]) W)
            rw [extract_drop] at HRf
            have hbd : ∀ t n, refX (s.data.toList.drop k) = some (t, n) → t.length ≤ 4 ∧ 1 ≤ n ∧ n ≤ s.size - k := fun t n h => by
              have := refX_bd h
              simpa using this
            obtain ⟨o, ho⟩ : ∃ o, refX (s.data.toList.drop k) = o := ⟨_, rfl⟩
            rw [ho] at hval HRf hbd
            clear ho e1 e2 e3
            cases o with
            | none =>
              have HV := Lib.hid hval
              clear hval hbd
              go_wp2_with (first | (go_at_call 72; refine (HRf.out _).mono ?_; rintro e w1 ⟨⟨t, n, rfl⟩, hB1⟩; have HW1 := Lib.hid (HW.out.trans (hB1.mono (by omega))); have hz1 := hB1.size) | (go_at_call 52; refine (wrong_any _ _ _).mono ?_; rintro e w3 ⟨rfl, hB3⟩; have HW3 := Lib.hid (HW1.out.trans (hB3.mono (by omega))); have hr := (two0_res HW3.out); obtain ⟨⟨r0, r1, r2⟩, g0, g1, g2⟩ := res_cells hr))
              have hT := three_sets (.int .i64 11) (.int .i64 k) (.string ⟨#[114, 101, 102, 101, 114, 101, 110, 99, 101]⟩) hr
              refine bodyPost_ret (results_ttc rfl rfl aggDiag rfl hT.1) rfl ?_
              rw [← HV.out]
              exact ⟨rfl, two0_below HW3.out hT.2⟩
            | some xn =>
              obtain ⟨x, n⟩ := xn
              obtain ⟨b1, b2, b3⟩ := hbd x n rfl
              have hval' : valueX ca s[fr] f3 (s.data.toList.drop (k + n)) (k + n) (acc ++ x) = R := by
                have := hval
                simp only [List.drop_drop] at this
                exact this
              have HV := Lib.hid hval'
              have hxz := size_mk x
              have HXZ := Lib.hid hxz
              clear hval hval' hbd hxz
              go_wp2_with (first | (go_at_call 72; refine (HRf.out _).mono ?_; rintro e w1 ⟨rfl, hB1⟩; have HW1 := Lib.hid (HW.out.trans (hB1.mono (by omega))); have hz1 := hB1.size; have HB1 := Lib.hid (HB.out.below hB1)) | (go_at_call 70; refine (writeString0 _ _ acc _ _ HB1.out (by rw [HXZ.out]; omega) (by omega)).mono ?_; rintro e w2 ⟨rfl, hB2, hW2⟩; have HB2 := Lib.hid hB2; have HW2 := Lib.hid (HW1.out.trans hW2)))
              go_roundw
              case rel => exact ⟨k + n, acc ++ x, f3, by go_num, by omega, HV.out, by simp; omega, HB2.out, HW2.out⟩
              case measure => simp [intOf]; omega
          · rw [if_neg e3] at hval
            have E3 : ((s[k].toNat : Int) == 38) = false := beq_no e3
            by_cases e4 : s[k] = 13
            · have E4 : ((s[k].toNat : Int) == 13) = true := beq_yes e4
              by_cases hp : Lib.hasPrefix (s.data.toList.drop k) [13, 10] = true
              · rw [if_pos ⟨e4, hp⟩] at hval
                have hpl : k + 2 ≤ s.size := by have := prefix_len hp; simp at this; omega
                have hval' : valueX ca s[fr] f3 (s.data.toList.drop (k + 2)) (k + 2) (acc ++ [32]) = R := by
                  have := hval
                  simp only [List.drop_drop] at this
                  exact this
                have HV := Lib.hid hval'
                have HP := Lib.hid (show Lib.hasPrefix (s.extract k s.size).data.toList [13, 10] = true by rw [extract_drop]; exact hp)
                clear hval hval' hp e1 e2 e3 e4
                go_wp2_with (first | (go_at_call 56; refine (Tryz.strings_HasPrefix _ _ _).mono ?_; rintro e w1 ⟨rfl, rfl⟩; rw [HP.out]) | (go_at_call 73; refine (writeSp _ _ acc _ HB.out (by omega) (by omega)).mono ?_; rintro e w2 ⟨rfl, hB2, hW2⟩; have HB2 := Lib.hid hB2; have HW2 := Lib.hid (HW.out.trans hW2)))
                go_roundw
                case rel => exact ⟨k + 2, acc ++ [32], f3, by go_num, by omega, HV.out, by simp; omega, HB2.out, HW2.out⟩
                case measure => simp [intOf]; omega
              · rw [if_neg (fun h => hp h.2), if_pos (.inl e4)] at hval
                have HV := Lib.hid hval
                have HP := Lib.hid (show Lib.hasPrefix (s.extract k s.size).data.toList [13, 10] = false by rw [extract_drop]; simpa using hp)
                clear hval hp e1 e2 e3 e4
                go_wp2_with (first | (go_at_call 56; refine (Tryz.strings_HasPrefix _ _ _).mono ?_; rintro e w1 ⟨rfl, rfl⟩; rw [HP.out]) | (go_at_call 73; refine (writeSp _ _ acc _ HB.out (by omega) (by omega)).mono ?_; rintro e w2 ⟨rfl, hB2, hW2⟩; have HB2 := Lib.hid hB2; have HW2 := Lib.hid (HW.out.trans hW2)))
                go_roundw
                case rel => exact ⟨k + 1, acc ++ [32], f3, by go_num, by omega, HV.out, by simp; omega, HB2.out, HW2.out⟩
                case measure => simp [intOf]; omega
            · rw [if_neg (fun h => e4 h.1)] at hval
              have E4 : ((s[k].toNat : Int) == 13) = false := beq_no e4
              by_cases e5 : s[k] = 10
              · rw [if_pos (.inr (.inl e5))] at hval
                have HV := Lib.hid hval
                have E5 : ((s[k].toNat : Int) == 10) = true := beq_yes e5
                clear hval e1 e2 e3 e4 e5
                go_wp2_with (first | (go_at_call 73; refine (writeSp _ _ acc _ HB.out (by omega) (by omega)).mono ?_; rintro e w2 ⟨rfl, hB2, hW2⟩; have HB2 := Lib.hid hB2; have HW2 := Lib.hid (HW.out.trans hW2)))
                go_roundw
                case rel => exact ⟨k + 1, acc ++ [32], f3, by go_num, by omega, HV.out, by simp; omega, HB2.out, HW2.out⟩
                case measure => simp [intOf]; omega
              · have E5 : ((s[k].toNat : Int) == 10) = false := beq_no e5
                by_cases e6 : s[k] = 9
                · rw [if_pos (.inr (.inr e6))] at hval
                  have HV := Lib.hid hval
                  have E6 : ((s[k].toNat : Int) == 9) = true := beq_yes e6
                  clear hval e1 e2 e3 e4 e5 e6
                  go_wp2_with (first | (go_at_call 73; refine (writeSp _ _ acc _ HB.out (by omega) (by omega)).mono ?_; rintro e w2 ⟨rfl, hB2, hW2⟩; have HB2 := Lib.hid hB2; have HW2 := Lib.hid (HW.out.trans hW2)))
                  go_roundw
                  case rel => exact ⟨k + 1, acc ++ [32], f3, by go_num, by omega, HV.out, by simp; omega, HB2.out, HW2.out⟩
                  case measure => simp [intOf]; omega
                · rw [if_neg (by rintro (h | h | h) <;> contradiction)] at hval
                  have HV := Lib.hid hval
                  have E6 : ((s[k].toNat : Int) == 9) = false := beq_no e6
                  clear hval e1 e2 e3 e4 e5 e6
                  go_wp2_with (first | (go_at_call 73; refine (writeByte0 _ _ acc (s[k]) _ HB.out (by omega) (by omega)).mono ?_; rintro e w2 ⟨rfl, hB2, hW2⟩; have HB2 := Lib.hid hB2; have HW2 := Lib.hid (HW.out.trans hW2)))
                  go_roundw
                  case rel => exact ⟨k + 1, acc ++ [s[k]], f3, by go_num, by omega, HV.out, by simp; omega, HB2.out, HW2.out⟩
                  case measure => simp [intOf]; omega
    · obtain rfl : k = s.size := by omega
      rw [drop_end s _ (Nat.le_refl _)] at hval
      have hv := valueX_end hval HRR.out
      have HV := Lib.hid hv
      clear hval hv
      go_wp2_with (go_at_call 52; refine (wrong_any _ _ _).mono ?_; rintro e w1 ⟨rfl, hB1⟩; have HW1 := Lib.hid (HW.out.trans (hB1.mono (by omega))); have hr := (two0_res HW1.out); obtain ⟨⟨r0, r1, r2⟩, g0, g1, g2⟩ := res_cells hr)
      have hT := three_sets (.int .i64 11) (.int .i64 ca) (.string ⟨#[118, 97, 108, 117, 101]⟩) hr
      refine bodyPost_ret (results_ttc rfl rfl aggDiag rfl hT.1) rfl ?_
      rw [HV.out]
      exact ⟨rfl, two0_below HW1.out hT.2⟩
end Go.Proofs.YtlldpmjnledhgaaGreatDoor
