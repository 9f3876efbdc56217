/- The document's Text of a number: its decimal digits. -/
import Derived.Test.YtgdnibdahldekabDoorNmA
namespace Go.Proofs.YtgdnibdahldekabDoor
open Go.RowKit
set_option linter.unusedVariables false

theorem byte48 (y : Nat) : (((UInt8.ofNat (48 + y % 10)).toNat : Nat) : Int) = 48 + (y : Int) % 10 := by
  rw [UInt8.toNat_ofNat']
  omega
theorem ba_cons (x : UInt8) (s : List UInt8) : (⟨#[x]⟩ : ByteArray) ++ ⟨s.toArray⟩ = ⟨(x :: s).toArray⟩ := by
  apply ByteArray.ext
  simp
/-- Which digit of base 10,000 comes next. -/
def TxO (u n : Nat) (w : World) (p q : Value) (wr : World) : Prop :=
  ∃ (i U : Nat) (s : List UInt8), p = .string ⟨s.toArray⟩ ∧ q = .int .i64 i ∧ i ≤ n ∧ (limbs u).drop i = limbs U ∧ U < 18446744073709551616 ∧ Lib.decDigits u = dec0 U ++ s ∧ s.length ≤ 4 * i ∧ Below w.heap.size w wr ∧ w.heap.size ≤ wr.heap.size
/-- Four decimal digits. -/
def TxI (u U' i : Nat) (w : World) (p q r : Value) (wr : World) : Prop :=
  ∃ (k e X y : Nat) (s : List UInt8), p = .string ⟨s.toArray⟩ ∧ q = .int .i64 y ∧ r = .int .i64 k ∧ k + e = 4 ∧ y = X % 10 ^ e ∧ y < 10000 ∧ X / 10 ^ e = U' ∧ Lib.decDigits u = dec0 X ++ s ∧ s.length ≤ 4 * i + k ∧ Below w.heap.size w wr ∧ w.heap.size ≤ wr.heap.size
/-- The last ones. -/
def TxL (u i : Nat) (w : World) (p q r : Value) (wr : World) : Prop :=
  ∃ (k e X : Nat) (s : List UInt8), p = .string ⟨s.toArray⟩ ∧ q = .int .i64 X ∧ r = .int .i64 k ∧ k + e = 4 ∧ X < 10 ^ e ∧ X < 10000 ∧ Lib.decDigits u = dec0 X ++ s ∧ s.length ≤ 4 * i + k ∧ Below w.heap.size w wr ∧ w.heap.size ≤ wr.heap.size
set_option maxRecDepth 100000 in
set_option maxHeartbeats 1600000 in
theorem text_num (u : Nat) (hu : u < 18446744073709551616) (v : Value) (w : World) (h : NS w v (limbs u)) :
    Calls Tryd.prog 71 #[v] w fun e W' => e = .returned (.string ⟨(Lib.decDigits u).toArray⟩) ∧ Below w.heap.size w W' := by
  have hl5 := limbs_len5 hu
  have HT := Lib.hid (trim_same h (by omega) (fun hp => limbs_last u (by
    apply Decidable.byContradiction
    intro hn
    obtain rfl : u = 0 := by omega
    rw [limbs_zero] at hp
    exact absurd hp (by simp))))
  obtain ⟨a, c, rfl, hc, ha, hr⟩ := h
  by_cases hu0 : u = 0
  · subst hu0
    have e0 : (limbs 0).length = 0 := by rw [limbs_zero]; rfl
    rw [e0] at HT hc ⊢
    have HD := Lib.hid dec_zero
    clear hr ha hl5 e0
    go_enter Tryd.func71, Tryd.ntmps71
    go_wp2_with fail
    refine HT.out.mono ?_
    rintro e w1 ⟨rfl, rfl⟩
    go_wp2
    go_ret
    exact ⟨by rw [HD.out]; rfl, Below.refl _ _⟩
  · obtain ⟨n, hn⟩ : ∃ n, (limbs u).length = n := ⟨_, rfl⟩
    have hn0 : 0 < n := by rw [← hn, limbs_pos (by omega)]; simp
    obtain ⟨g, rfl, hg, _⟩ := hr 0 (by omega)
    have hcl : ∀ W, Below w.heap.size w W → ∀ i, i < n → W.cell? ⟨g, i, none⟩ = some (.int .i64 ((limbs u).getD i 0)) := fun W hB i hi => by
      obtain ⟨g', e, h5, h6⟩ := hr i (by omega)
      cases e
      exact (hB.cell (p := ⟨g, i, none⟩) h5).trans h6
    have HC := Lib.hid hcl
    have HN := Lib.hid hn
    have HU0 := Lib.hid (dec0_all (show 0 < u by omega))
    rw [hn] at HT hc hl5 ⊢
    clear hr ha hcl hn
    go_enter Tryd.func71, Tryd.ntmps71
    go_wp2_with fail
    refine HT.out.mono ?_
    rintro e w1 ⟨rfl, rfl⟩
    have hn1 : ¬ (n : Int) = 0 := by omega
    have hn2 : ((n : Int) == 0) = false := beq_eq_false_iff_ne.2 hn1
    go_wp2_with fail
    go_loopw [3, 4] (fun p q wr => TxO u n w1 p q wr) (fun _ q _ => n - (intOf q).toNat)
    case atStart => exact ⟨0, u, [], rfl, rfl, Nat.zero_le _, rfl, hu, by rw [HU0.out, List.append_nil], Nat.zero_le _, Below.refl _ _, Nat.le_refl _⟩
    case round =>
      obtain ⟨i, U, s, rfl, rfl, hi, hdr, hU, hdec, hsl, hB, hsz⟩ := hrel
      have HDr := Lib.hid hdr
      have HDec := Lib.hid hdec
      clear hdr hdec
      by_cases hlt : i < n
      · have hz : (i : Int) < (n : Int) := by omega
        have hU0 : 0 < U := by
          apply Decidable.byContradiction
          intro h0
          obtain rfl : U = 0 := by omega
          have := congrArg List.length HDr.out
          rw [limbs_zero, List.length_drop, HN.out] at this
          simp at this; omega
        have hget : (limbs u).getD i 0 = ((U % 10000 : Nat) : Int) := by
          have := HDr.out
          rw [limbs_pos hU0, List.drop_eq_getElem_cons (by rw [HN.out]; exact hlt)] at this
          have e := (List.cons.inj this).1
          rw [← e]
          simp [List.getD, List.getElem?_eq_getElem (show i < (limbs u).length by rw [HN.out]; exact hlt)]
        have hnext : (limbs u).drop (i + 1) = limbs (U / 10000) := by
          have := HDr.out
          rw [limbs_pos hU0, List.drop_eq_getElem_cons (by rw [HN.out]; exact hlt)] at this
          exact (List.cons.inj this).2
        have hc0 := HC.out wr hB i hlt
        rw [hget] at hc0
        have hlen : n - (i + 1) = (limbs (U / 10000)).length := by rw [← hnext, List.length_drop, HN.out]
        have HNx := Lib.hid hnext
        have HLen := Lib.hid hlen
        obtain ⟨y0, hy0⟩ : ∃ y, U % 10000 = y := ⟨_, rfl⟩
        rw [hy0] at hc0
        have hy1 : y0 < 10000 := by omega
        have HY := Lib.hid hy0
        clear hget hnext hlen hy0
        by_cases hbig : 10000 ≤ U
        · have hin : i + 1 < n := by
            have := HLen.out
            rw [limbs_pos (show 0 < U / 10000 by omega), List.length_cons] at this
            omega
          have hin' : (i : Int) + 1 < (n : Int) := by omega
          go_wp2_with fail
          go_loopw [3, 5, 6] (fun p q r wr => TxI u (U / 10000) i w1 p q r wr) (fun _ _ r _ => 4 - (intOf r).toNat)
          case atStart => exact ⟨0, 4, U, y0, s, rfl, rfl, rfl, rfl, HY.out.symm, hy1, by omega, HDec.out, hsl, hB, hsz⟩
          case round =>
            obtain ⟨k, e, X, y, s, rfl, rfl, rfl, hke, hy, hyl, hX, hdec, hsl, hB, hsz⟩ := hrel
            have HDec := Lib.hid hdec
            have HX := Lib.hid hX
            have HYY := Lib.hid hy
            clear hdec hX hy
            by_cases hk : k < 4
            · have hkz : (k : Int) < 4 := by omega
              have hw8 : IntKind.u8.wrap (48 + (y : Int) % 10) = 48 + (y : Int) % 10 := by rw [IntKind.wrap_u8]; omega
              have HW8 := Lib.hid hw8
              go_wp2_with (refine wpList_toStr _ rfl 101 9 5 _ rfl Tryd.underlying101 Tryd.underlying5 Tryd.underlying9 ⟨wr.heap.size, 0, none⟩ [UInt8.ofNat (48 + y % 10)] 1 1 rfl rfl ?c1 ?_)
              case c1 =>
                intro j hj
                match j, hj with
                | 0, _ =>
                  show (World.alloc _ _).cell? ⟨wr.heap.size, 0, none⟩ = some (.int .u8 _)
                  rw [World.cell?_alloc_at _ _ _ _ rfl]
                  have := byte48 y
                  simp
                  omega
              go_wp2
              go_roundw
              case rel =>
                obtain ⟨e, rfl⟩ : ∃ e', e = e' + 1 := ⟨e - 1, by omega⟩
                refine ⟨k + 1, e, X / 10, y / 10, UInt8.ofNat (48 + y % 10) :: s, ?_, by go_num, by go_num, by omega, by rw [HYY.out, pad_rest], by omega, ?_, ?_, by rw [List.length_cons]; omega, hB.alloc hsz _, by simp; omega⟩
                · simp
                  exact ba_cons _ _
                · rw [Nat.div_div_eq_div_mul, Nat.mul_comm, ← Nat.pow_succ]; exact HX.out
                · rw [HDec.out, dec0_pos (show 0 < X from ?_), List.append_assoc, HYY.out, pad_digit]
                  · rfl
                  · apply Decidable.byContradiction
                    intro h0
                    obtain rfl : X = 0 := by omega
                    have := HX.out
                    rw [Nat.zero_div] at this
                    omega
              case measure => simp [intOf]; omega
            · obtain ⟨rfl, rfl⟩ : k = 4 ∧ e = 0 := by omega
              go_wp2
              refine ⟨⟨i + 1, U / 10000, s, rfl, by go_num, hlt, HNx.out, by omega, by rw [HDec.out, ← HX.out]; simp, by omega, hB, hsz⟩, ?_⟩
              simp [intOf]; omega
        · have hin : ¬ i + 1 < n := by
            have := HLen.out
            rw [show U / 10000 = 0 by omega, limbs_zero] at this
            simp at this; omega
          have hin' : ¬ (i : Int) + 1 < (n : Int) := by omega
          go_wp2_with fail
          go_loopw [3, 5, 6] (fun p q r wr => TxL u i w1 p q r wr) (fun _ _ r _ => 4 - (intOf r).toNat)
          case atStart => exact ⟨0, 4, y0, s, rfl, rfl, rfl, rfl, by omega, hy1, (by rw [HDec.out, ← HY.out, show U % 10000 = U by omega]), hsl, hB, hsz⟩
          case round =>
            obtain ⟨k, e, X, s, rfl, rfl, rfl, hke, hXe, hyl, hdec, hsl, hB, hsz⟩ := hrel
            have HDec := Lib.hid hdec
            have HX := Lib.hid hXe
            clear hdec hXe
            by_cases hk : k < 4 ∧ 0 < X
            · have hkz : (k : Int) < 4 := by omega
              have hXz : (X : Int) > 0 := by omega
              go_wp2_with (refine wpList_toStr _ rfl 101 9 5 _ rfl Tryd.underlying101 Tryd.underlying5 Tryd.underlying9 ⟨wr.heap.size, 0, none⟩ [UInt8.ofNat (48 + X % 10)] 1 1 rfl rfl ?c1 ?_)
              case c1 =>
                intro j hj
                match j, hj with
                | 0, _ =>
                  show (World.alloc _ _).cell? ⟨wr.heap.size, 0, none⟩ = some (.int .u8 _)
                  rw [World.cell?_alloc_at _ _ _ _ rfl]
                  have := byte48 X
                  simp
                  omega
              go_wp2
              go_roundw
              case rel =>
                obtain ⟨e, rfl⟩ : ∃ e', e = e' + 1 := ⟨e - 1, by omega⟩
                refine ⟨k + 1, e, X / 10, UInt8.ofNat (48 + X % 10) :: s, ?_, by go_num, by go_num, by omega, ?_, by omega, ?_, by rw [List.length_cons]; omega, hB.alloc hsz _, by simp; omega⟩
                · simp
                  exact ba_cons _ _
                · have := HX.out
                  rw [Nat.pow_succ] at this
                  omega
                · rw [HDec.out, dec0_pos hk.2, List.append_assoc]; rfl
              case measure => simp [intOf]; omega
            · have hX0 : X = 0 := by
                apply Decidable.byContradiction
                intro hn0
                obtain ⟨rfl, rfl⟩ : k = 4 ∧ e = 0 := by omega
                have := HX.out
                simp at this
                omega
              subst hX0
              have hXz : ¬ ((0 : Nat) : Int) > 0 := by omega
              have HII := Lib.hid hin
              by_cases hk4 : k < 4
              · have hkz : (k : Int) < 4 := by omega
                go_wp2
                go_roundw
                case rel => exact ⟨i + 1, 0, s, rfl, by go_num, hlt, by rw [HNx.out, show U / 10000 = 0 by omega], by omega, HDec.out, by omega, hB, hsz⟩
                case measure => simp [intOf]; omega
              · have hkz : ¬ (k : Int) < 4 := by omega
                go_wp2
                refine ⟨⟨i + 1, 0, s, rfl, by go_num, hlt, by rw [HNx.out, show U / 10000 = 0 by omega], by omega, HDec.out, by omega, hB, hsz⟩, ?_⟩
                simp [intOf]; omega
      · have hz : ¬ (i : Int) < (n : Int) := by omega
        have hU0 : U = 0 := by
          apply limbs_nil
          rw [← HDr.out]
          exact List.drop_eq_nil_of_le (by rw [HN.out]; omega)
        subst hU0
        go_wp2
        go_ret
        exact ⟨by rw [HDec.out]; rfl, hB⟩
end Go.Proofs.YtgdnibdahldekabDoor
