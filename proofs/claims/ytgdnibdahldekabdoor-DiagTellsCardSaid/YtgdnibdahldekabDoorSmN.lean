/- The walk of the library's merge in place over a row of reasons: it turns the middle, and merges either side. -/
import Derived.Test.YtgdnibdahldekabDoorSmM
namespace Go.Proofs.YtgdnibdahldekabDoor
open Go.RowKit Go.Sort
set_option linter.unusedVariables false

theorem Mrg.congr {K : Nat → Int} {f g : Nat → Nat} {a m b : Nat} (h : Mrg K f a m b) (e : ∀ k, a ≤ k → k < b → g k = f k) (h1 : a ≤ m) (h2 : m ≤ b) : Mrg K g a m b :=
  ⟨h.left.congr fun k k1 k2 => e k k1 (by omega), h.right.congr fun k k1 k2 => e k (by omega) k2, fun i j k1 k2 k3 k4 => by rw [e i k1 (by omega), e j (by omega) k4]; exact h.tags i j k1 k2 k3 k4⟩
theorem sym_fin {K : Nat → Int} {f f1 f2 f3 : Nat → Nat} {a mid b : Nat} (h01 : Moves f f1 a b) (h12 : Moves f1 f2 a mid) (h23 : Moves f2 f3 mid b) (ham : a ≤ mid) (hmb : mid ≤ b) (s2 : Srt K f2 a mid) (s3 : Srt K f3 mid b)
    (cr : ∀ i j, a ≤ i → i < mid → mid ≤ j → j < b → LK K (f1 i) (f1 j)) : Srt K f3 a b ∧ Moves f f3 a b := by
  refine ⟨srt_join (m := mid) (s2.congr fun k h1 h2 => h23.out k (by omega)) s3 (across (f := f1) (fun k h1 h2 => ?_) (fun k h1 h2 => ?_) cr), (h01.trans (h12.mono (Nat.le_refl _) hmb)).trans (h23.mono ham (Nat.le_refl _))⟩
  · obtain ⟨k', a1, a2, a3⟩ := h12.inn k h1 h2
    exact ⟨k', a1, a2, by rw [h23.out k (by omega), a3]⟩
  · obtain ⟨k', a1, a2, a3⟩ := h23.inn k h1 h2
    exact ⟨k', a1, a2, by rw [a3, h12.out k' (by omega)]⟩
/-- The search for the turn. -/
def SM (o : Nat → Di) (f : Nat → Nat) (g cap n lo hi c0 : Nat) (w : World) (p q : Value) (wr : World) : Prop :=
  ∃ (i j : Nat), p = .int .i64 i ∧ q = .int .i64 j ∧ lo ≤ i ∧ i ≤ j ∧ j ≤ hi ∧ (∀ k, lo ≤ k → k < i → keyO o (f k) ≤ keyO o (f (c0 - k))) ∧ (∀ k, j ≤ k → k < hi → keyO o (f (c0 - k)) < keyO o (f k)) ∧ DR wr g cap n o f ∧ w.grownBy wr (some g)
/-- What a merge does. -/
def SymDoes (g cap n : Nat) (o : Nat → Di) (a m b : Nat) (f : Nat → Nat) (w : World) : Prop :=
  Calls Tryd.prog 76 #[.slice (some ⟨g, 0, none⟩) n cap, .int .i64 a, .int .i64 m, .int .i64 b, cmpV] w fun e W' =>
      (∃ v, e = .returned v) ∧ ∃ f', Srt (keyO o) f' a b ∧ Moves f f' a b ∧ DR W' g cap n o f' ∧ w.grownBy W' (some g)

set_option maxRecDepth 200000 in
set_option maxHeartbeats 6400000 in
theorem sym_low (g cap n a m b M : Nat) (o : Nat → Di) (f : Nat → Nat) (ham : a + 1 < m) (hmb : m + 1 < b) (hb : b ≤ n) (hn : n ≤ cap) (hm : n ≤ 1000) (hM1 : 2 * M ≤ a + b) (hM2 : a + b ≤ 2 * M + 1) (hc : M < m)
    (ih : ∀ a' m' b' f' w', b' - a' < b - a → a' < m' → m' < b' → b' ≤ n → Mrg (keyO o) f' a' m' b' → DR w' g cap n o f' → SymDoes g cap n o a' m' b' f' w')
    (ht : Mrg (keyO o) f a m b) (hmg : ∀ s, M + m - b ≤ s → s ≤ M → (∀ c, M + m - b ≤ c → c < s → keyO o (f c) ≤ keyO o (f (M + m - 1 - c))) → (∀ c, s ≤ c → c < M → keyO o (f (M + m - 1 - c)) < keyO o (f c)) →
      a ≤ s ∧ s ≤ m ∧ s ≤ M ∧ m ≤ M + m - s ∧ M ≤ M + m - s ∧ M + m - s ≤ b ∧ Mrg (keyO o) (rotR f s m (M + m - s)) a s M ∧ Mrg (keyO o) (rotR f s m (M + m - s)) M (M + m - s) b ∧
      (∀ i j, a ≤ i → i < M → M ≤ j → j < b → LK (keyO o) (rotR f s m (M + m - s) i) (rotR f s m (M + m - s) j)))
    (w : World) (h : DR w g cap n o f) : SymDoes g cap n o a m b f w := by
  unfold SymDoes
  have mixed : Tryd.prog.follows .mixedOrders = true := by kernel_rfl
  have HT := Lib.hid ht
  have HM := Lib.hid hmg
  have IH := Lib.hid ih
  clear ht hmg ih
  go_enter Tryd.func76, Tryd.ntmps76
  have e28 : ¬ (m : Int) - (a : Int) = 1 := by omega
  have e28b : ((m : Int) - (a : Int) == 1) = false := beq_eq_false_iff_ne.2 e28
  have e80 : ¬ (b : Int) - (m : Int) = 1 := by omega
  have e80b : ((b : Int) - (m : Int) == 1) = false := beq_eq_false_iff_ne.2 e80
  have eM : ((a : Int) + (b : Int)) / 2 = (M : Int) := by omega
  have e140 : (m : Int) > (M : Int) := by omega
  have E1 := Lib.hid hM1
  have E2 := Lib.hid hM2
  have E3 := Lib.hid hc
  clear hM1 hM2 hc
  go_wp2_with fail
  go_loopw [20, 21] (fun p q wr => SM o f g cap n (M + m - b) (M) (M + m - 1) w p q wr) (fun p q _ => (intOf q).toNat - (intOf p).toNat)
  case atStart => exact ⟨M + m - b, M, by go_num, rfl, Nat.le_refl _, (by have hM1 := E1.out; have hM2 := E2.out; have hc := E3.out; omega), Nat.le_refl _, fun k h1 h2 => by omega, fun k h1 h2 => by omega, h, World.grownBy.refl _ _⟩
  case round =>
    obtain ⟨i, j, rfl, rfl, hai, hij, hjb, hlo, hhi, hD, hG⟩ := hrel
    have HL := Lib.hid hlo
    have HH := Lib.hid hhi
    clear hlo hhi
    by_cases hlt : i < j
    · have hM1 := E1.out
      have hM2 := E2.out
      have hc := E3.out
      obtain ⟨c, hm1, hm2, em⟩ : ∃ c : Nat, i ≤ c ∧ c < j ∧ ((i : Int) + (j : Int)) / 2 = (c : Int) := ⟨(i + j) / 2, by omega, by omega, by omega⟩
      obtain ⟨d, hd1, hd2, ed⟩ : ∃ d : Nat, d = M + m - 1 - c ∧ d < n ∧ (M : Int) + (m : Int) - 1 - (c : Int) = (d : Int) := ⟨M + m - 1 - c, rfl, by omega, by omega⟩
      have hd := hD
      obtain ⟨p0, p1, p2⟩ := hd.cells (i := d) hd2
      obtain ⟨q0, q1, q2⟩ := hd.cells (i := c) (by omega)
      have hl := hd.lt
      have P0 := cell_grown (a := ⟨g, d * 3, none⟩) hl p0
      have P1 := cell_grown (a := ⟨g, d * 3 + 1, none⟩) hl p1
      have P2 := cell_grown (a := ⟨g, d * 3 + 2, none⟩) hl p2
      have Q0 := cell_grown (a := ⟨g, c * 3, none⟩) hl q0
      have Q1 := cell_grown (a := ⟨g, c * 3 + 1, none⟩) hl q1
      have Q2 := cell_grown (a := ⟨g, c * 3 + 2, none⟩) hl q2
      have hb1 : (d : Int) < (n : Int) := by omega
      have hb2 : (c : Int) < (n : Int) := by omega
      have hltz : (i : Int) < (j : Int) := by omega
      have HC := Lib.hid fun W => cmp_grow (o (f d)) (o (f c)) W
      have HX := Lib.hid (show M + m - b ≤ c ∧ c < M ∧ c ≤ m ∧ c < M + m - 1 ∧ (∀ k, c < k → k < M → k < m ∧ m ≤ M + m - 1 - k ∧ M + m - 1 - k < M + m - 1 - c ∧ M + m - 1 - c < b) ∧ (∀ k, M + m - b ≤ k → k < c → c < m ∧ m ≤ M + m - 1 - c ∧ M + m - 1 - c < M + m - 1 - k ∧ M + m - 1 - k < b ∧ a ≤ k) from ⟨by omega, by omega, by omega, by omega, fun k h1 h2 => by omega, fun k h1 h2 => by omega⟩)
      have HD1 := Lib.hid hd1
      clear p0 p1 p2 q0 q1 q2 hl hD hM1 hM2 hc hd1
      have HD := Lib.hid hd
      clear hd
      by_cases hk : (o (f d)).at_ < (o (f c)).at_
      · have hz := cmpZ_lt hk
        have hz2 := Int.not_le.2 hz
        have HK := Lib.hid hk
        clear hk
        go_wp2_with fail
        have hwd : IntKind.i64.wrap (d : Int) = (d : Int) := IntWalk.i64_in _ (by omega)
        go_quiet_grown (first | (go_at_call 29; refine Calls.grown_of (HC.out _)))
        have hD1 := HD.out.below (below_grown wr nq osq)
        have hG1 := hG.trans (Below.grownN (below_grown wr nq osq) (some g))
        clear P0 P1 P2 Q0 Q1 Q2 hwd
        generalize grow (wr.drewN nq) osq = w2 at *
        go_wp2
        go_roundw
        case rel => exact ⟨i, c, rfl, by go_num, by omega, by omega, by omega, HL.out, (fun k h1 h2 => by
          by_cases e : k = c
          · rw [e, ← HD1.out]; exact HK.out
          · have hx := HX.out.2.2.2.2.1 k (by omega) h2
            have h5 : (o (f d)).at_ < (o (f c)).at_ := HK.out
            rw [HD1.out] at h5
            have t1 := (HT.out.left c k (by have := HX.out.1; omega) (by omega) hx.1).le
            have t2 := (HT.out.right (M + m - 1 - k) (M + m - 1 - c) hx.2.1 hx.2.2.1 hx.2.2.2).le
            have t1' : (o (f c)).at_ ≤ (o (f k)).at_ := t1
            have t2' : (o (f (M + m - 1 - k))).at_ ≤ (o (f (M + m - 1 - c))).at_ := t2
            show (o (f (M + m - 1 - k))).at_ < (o (f k)).at_
            omega), hD1, hG1⟩
        case measure => simp [intOf]; omega
      · have hz2 := Int.not_lt.1 (cmpZ_ge hk)
        have hz3 : decide (cmpZ (o (f d)).at_ (o (f c)).at_ < 0) = false := decide_eq_false (cmpZ_ge hk)
        have HK := Lib.hid (Int.not_lt.1 hk)
        clear hk
        go_wp2_with fail
        have hwd : IntKind.i64.wrap (d : Int) = (d : Int) := IntWalk.i64_in _ (by omega)
        go_quiet_grown (first | (go_at_call 29; refine Calls.grown_of (HC.out _)))
        have hD1 := HD.out.below (below_grown wr nq osq)
        have hG1 := hG.trans (Below.grownN (below_grown wr nq osq) (some g))
        clear P0 P1 P2 Q0 Q1 Q2 hwd
        generalize grow (wr.drewN nq) osq = w2 at *
        go_wp2
        go_roundw
        case rel => exact ⟨c + 1, j, by go_num, rfl, by omega, by omega, by omega, (fun k h1 h2 => by
          by_cases e : k = c
          · rw [e, ← HD1.out]; exact HK.out
          · have hx := HX.out.2.2.2.2.2 k h1 (by omega)
            have h5 : (o (f c)).at_ ≤ (o (f d)).at_ := HK.out
            rw [HD1.out] at h5
            have t1 := (HT.out.left k c hx.2.2.2.2 (by omega) hx.1).le
            have t2 := (HT.out.right (M + m - 1 - c) (M + m - 1 - k) hx.2.1 hx.2.2.1 hx.2.2.2.1).le
            have t1' : (o (f k)).at_ ≤ (o (f c)).at_ := t1
            have t2' : (o (f (M + m - 1 - c))).at_ ≤ (o (f (M + m - 1 - k))).at_ := t2
            show (o (f k)).at_ ≤ (o (f (M + m - 1 - k))).at_
            omega), HH.out, hD1, hG1⟩
        case measure => simp [intOf]; omega
    · obtain rfl : i = j := by omega
      have hltz : ¬ (i : Int) < (i : Int) := by omega
      obtain ⟨x1, x2, x3, x4, x5, x6, x7, x8, x9⟩ := HM.out i hai hjb HL.out HH.out
      clear HL HH HT HM
      have eE : (M : Int) + (m : Int) - (i : Int) = ((M + m - i : Nat) : Int) := by omega
      have hM1 := E1.out
      have hM2 := E2.out
      have HR := Lib.hid (show Moves f (rotR f i m (M + m - i)) a b from (rotR_moves f (by omega) (by omega)).mono x1 x6)
      have X7 := Lib.hid x7
      have X8 := Lib.hid x8
      have X9 := Lib.hid x9
      have RO := Lib.hid (fun (u1 : i < m) (u2 : m < M + m - i) => rotate_any g cap n i m (M + m - i) o f u1 u2 (by omega) hn hm wr hD)
      have RN := Lib.hid (fun (u : ¬ (i < m ∧ m < M + m - i)) => show rotR f i m (M + m - i) = f from (by
        by_cases u1 : i = m
        · rw [u1]; exact rotR_none_left f _ _
        · have u2 : M + m - i = m := by omega
          rw [u2]; exact rotR_none_right f _ _))
      have HBL := Lib.hid (show M - a < b - a ∧ b - M < b - a ∧ M ≤ n ∧ a ≤ M ∧ M ≤ b from by omega)
      clear x7 x8 x9
      generalize rotR f i m (M + m - i) = f1 at *
      generalize M + m - i = E at *
      have GG := Lib.hid hG
      have DD := Lib.hid hD
      clear hG hD E1 E2 E3 hM1 hM2
      by_cases c1 : i < m ∧ m < E
      · have g1 : (i : Int) < (m : Int) := by omega
        have g2 : (m : Int) < (E : Int) := by omega
        have RC := Lib.hid (RO.out c1.1 c1.2)
        clear RO RN c1
        go_wp2_with fail
        all_goals
          refine RC.out.mono ?_
          rintro e w1 ⟨⟨v1, rfl⟩, hD1, hG1⟩
          have DD1 := Lib.hid hD1
          have GG1 := Lib.hid (GG.out.trans hG1)
          clear hD1 hG1 DD GG
          by_cases c2 : a < i ∧ i < M
          · have k1 : (a : Int) < (i : Int) := by omega
            have k2 : (i : Int) < (M : Int) := by omega
            have RC := Lib.hid (IH.out a i M f1 w1 HBL.out.1 c2.1 c2.2 HBL.out.2.2.1 X7.out DD1.out)
            clear c2
            go_wp2_with fail
            all_goals
              refine RC.out.mono ?_
              rintro e w2 ⟨⟨v2, rfl⟩, f2, s2, m2, hD2, hG2⟩
              have S2 := Lib.hid s2
              have M2 := Lib.hid m2
              have DD2 := Lib.hid hD2
              have GG2 := Lib.hid (GG1.out.trans hG2)
              clear s2 m2 hD2 hG2 DD1 GG1
              have X8' := Lib.hid (X8.out.congr (g := f2) (fun k k1 k2 => M2.out.out k (by omega)) (by omega) (by omega))
              by_cases c3 : M < E ∧ E < b
              · have l1 : (M : Int) < (E : Int) := by omega
                have l2 : (E : Int) < (b : Int) := by omega
                have RC := Lib.hid (IH.out M E b f2 w2 HBL.out.2.1 c3.1 c3.2 hb X8'.out DD2.out)
                clear c3
                go_wp2_with fail
                all_goals
                  refine RC.out.mono ?_
                  rintro e w3 ⟨⟨v3, rfl⟩, f3, s3, m3, hD3, hG3⟩
                  go_wp2
                  all_goals
                    go_returns
                    have hf := sym_fin HR.out M2.out m3 HBL.out.2.2.2.1 HBL.out.2.2.2.2 S2.out s3 X9.out
                    exact ⟨⟨_, rfl⟩, f3, hf.1, hf.2, hD3, GG2.out.trans hG3⟩
              · have l1 : ¬ ((M : Int) < (E : Int) ∧ (E : Int) < (b : Int)) := by omega
                have s3 : Srt (keyO o) f2 M b := by
                  by_cases u : M = E
                  · have := X8'.out.right; rw [← u] at this; exact this
                  · have := X8'.out.left; rw [show E = b by omega] at this; exact this
                have S3 := Lib.hid s3
                clear s3 c3
                go_wp2
                all_goals
                  go_returns
                  have hf := sym_fin HR.out M2.out (Moves.refl f2 M b) HBL.out.2.2.2.1 HBL.out.2.2.2.2 S2.out S3.out X9.out
                  exact ⟨⟨_, rfl⟩, f2, hf.1, hf.2, DD2.out, GG2.out⟩
          · have k1 : ¬ ((a : Int) < (i : Int) ∧ (i : Int) < (M : Int)) := by omega
            have S2 := Lib.hid (show Srt (keyO o) f1 a M from (by
              by_cases u : a = i
              · have := X7.out.right; rw [← u] at this; exact this
              · have := X7.out.left; rw [show i = M by omega] at this; exact this))
            have M2 := Lib.hid (Moves.refl f1 a M)
            have DD2 := DD1
            have GG2 := GG1
            clear DD1 GG1 c2
            have X8' := Lib.hid (X8.out.congr (g := f1) (fun k k1 k2 => M2.out.out k (by omega)) (by omega) (by omega))
            by_cases c3 : M < E ∧ E < b
            · have l1 : (M : Int) < (E : Int) := by omega
              have l2 : (E : Int) < (b : Int) := by omega
              have RC := Lib.hid (IH.out M E b f1 w1 HBL.out.2.1 c3.1 c3.2 hb X8'.out DD2.out)
              clear c3
              go_wp2_with fail
              all_goals
                refine RC.out.mono ?_
                rintro e w3 ⟨⟨v3, rfl⟩, f3, s3, m3, hD3, hG3⟩
                go_wp2
                all_goals
                  go_returns
                  have hf := sym_fin HR.out M2.out m3 HBL.out.2.2.2.1 HBL.out.2.2.2.2 S2.out s3 X9.out
                  exact ⟨⟨_, rfl⟩, f3, hf.1, hf.2, hD3, GG2.out.trans hG3⟩
            · have l1 : ¬ ((M : Int) < (E : Int) ∧ (E : Int) < (b : Int)) := by omega
              have s3 : Srt (keyO o) f1 M b := by
                by_cases u : M = E
                · have := X8'.out.right; rw [← u] at this; exact this
                · have := X8'.out.left; rw [show E = b by omega] at this; exact this
              have S3 := Lib.hid s3
              clear s3 c3
              go_wp2
              all_goals
                go_returns
                have hf := sym_fin HR.out M2.out (Moves.refl f1 M b) HBL.out.2.2.2.1 HBL.out.2.2.2.2 S2.out S3.out X9.out
                exact ⟨⟨_, rfl⟩, f1, hf.1, hf.2, DD2.out, GG2.out⟩
      · have g1 : ¬ ((i : Int) < (m : Int) ∧ (m : Int) < (E : Int)) := by omega
        have g1d : (i : Int) < (m : Int) → ¬ (m : Int) < (E : Int) := by omega
        have DD1 := DD
        rw [← RN.out c1] at DD1
        have GG1 := GG
        clear RO RN c1 DD GG
        have w1 : World := wr
        by_cases c2 : a < i ∧ i < M
        · have k1 : (a : Int) < (i : Int) := by omega
          have k2 : (i : Int) < (M : Int) := by omega
          have RC := Lib.hid (IH.out a i M f1 wr HBL.out.1 c2.1 c2.2 HBL.out.2.2.1 X7.out DD1.out)
          clear c2
          go_wp2_with fail
          all_goals
            refine RC.out.mono ?_
            rintro e w2 ⟨⟨v2, rfl⟩, f2, s2, m2, hD2, hG2⟩
            have S2 := Lib.hid s2
            have M2 := Lib.hid m2
            have DD2 := Lib.hid hD2
            have GG2 := Lib.hid (GG1.out.trans hG2)
            clear s2 m2 hD2 hG2 DD1 GG1
            have X8' := Lib.hid (X8.out.congr (g := f2) (fun k k1 k2 => M2.out.out k (by omega)) (by omega) (by omega))
            by_cases c3 : M < E ∧ E < b
            · have l1 : (M : Int) < (E : Int) := by omega
              have l2 : (E : Int) < (b : Int) := by omega
              have RC := Lib.hid (IH.out M E b f2 w2 HBL.out.2.1 c3.1 c3.2 hb X8'.out DD2.out)
              clear c3
              go_wp2_with fail
              all_goals
                refine RC.out.mono ?_
                rintro e w3 ⟨⟨v3, rfl⟩, f3, s3, m3, hD3, hG3⟩
                go_wp2
                all_goals
                  go_returns
                  have hf := sym_fin HR.out M2.out m3 HBL.out.2.2.2.1 HBL.out.2.2.2.2 S2.out s3 X9.out
                  exact ⟨⟨_, rfl⟩, f3, hf.1, hf.2, hD3, GG2.out.trans hG3⟩
            · have l1 : ¬ ((M : Int) < (E : Int) ∧ (E : Int) < (b : Int)) := by omega
              have s3 : Srt (keyO o) f2 M b := by
                by_cases u : M = E
                · have := X8'.out.right; rw [← u] at this; exact this
                · have := X8'.out.left; rw [show E = b by omega] at this; exact this
              have S3 := Lib.hid s3
              clear s3 c3
              go_wp2
              all_goals
                go_returns
                have hf := sym_fin HR.out M2.out (Moves.refl f2 M b) HBL.out.2.2.2.1 HBL.out.2.2.2.2 S2.out S3.out X9.out
                exact ⟨⟨_, rfl⟩, f2, hf.1, hf.2, DD2.out, GG2.out⟩
        · have k1 : ¬ ((a : Int) < (i : Int) ∧ (i : Int) < (M : Int)) := by omega
          have S2 := Lib.hid (show Srt (keyO o) f1 a M from (by
            by_cases u : a = i
            · have := X7.out.right; rw [← u] at this; exact this
            · have := X7.out.left; rw [show i = M by omega] at this; exact this))
          have M2 := Lib.hid (Moves.refl f1 a M)
          have DD2 := DD1
          have GG2 := GG1
          clear DD1 GG1 c2
          have X8' := Lib.hid (X8.out.congr (g := f1) (fun k k1 k2 => M2.out.out k (by omega)) (by omega) (by omega))
          by_cases c3 : M < E ∧ E < b
          · have l1 : (M : Int) < (E : Int) := by omega
            have l2 : (E : Int) < (b : Int) := by omega
            have RC := Lib.hid (IH.out M E b f1 wr HBL.out.2.1 c3.1 c3.2 hb X8'.out DD2.out)
            clear c3
            go_wp2_with fail
            all_goals
              refine RC.out.mono ?_
              rintro e w3 ⟨⟨v3, rfl⟩, f3, s3, m3, hD3, hG3⟩
              go_wp2
              all_goals
                go_returns
                have hf := sym_fin HR.out M2.out m3 HBL.out.2.2.2.1 HBL.out.2.2.2.2 S2.out s3 X9.out
                exact ⟨⟨_, rfl⟩, f3, hf.1, hf.2, hD3, GG2.out.trans hG3⟩
          · have l1 : ¬ ((M : Int) < (E : Int) ∧ (E : Int) < (b : Int)) := by omega
            have s3 : Srt (keyO o) f1 M b := by
              by_cases u : M = E
              · have := X8'.out.right; rw [← u] at this; exact this
              · have := X8'.out.left; rw [show E = b by omega] at this; exact this
            have S3 := Lib.hid s3
            clear s3 c3
            go_wp2
            all_goals
              go_returns
              have hf := sym_fin HR.out M2.out (Moves.refl f1 M b) HBL.out.2.2.2.1 HBL.out.2.2.2.2 S2.out S3.out X9.out
              exact ⟨⟨_, rfl⟩, f1, hf.1, hf.2, DD2.out, GG2.out⟩

set_option maxRecDepth 200000 in
set_option maxHeartbeats 6400000 in
theorem sym_high (g cap n a m b M : Nat) (o : Nat → Di) (f : Nat → Nat) (ham : a + 1 < m) (hmb : m + 1 < b) (hb : b ≤ n) (hn : n ≤ cap) (hm : n ≤ 1000) (hM1 : 2 * M ≤ a + b) (hM2 : a + b ≤ 2 * M + 1) (hc : m ≤ M)
    (ih : ∀ a' m' b' f' w', b' - a' < b - a → a' < m' → m' < b' → b' ≤ n → Mrg (keyO o) f' a' m' b' → DR w' g cap n o f' → SymDoes g cap n o a' m' b' f' w')
    (ht : Mrg (keyO o) f a m b) (hmg : ∀ s, a ≤ s → s ≤ m → (∀ c, a ≤ c → c < s → keyO o (f c) ≤ keyO o (f (M + m - 1 - c))) → (∀ c, s ≤ c → c < m → keyO o (f (M + m - 1 - c)) < keyO o (f c)) →
      a ≤ s ∧ s ≤ m ∧ s ≤ M ∧ m ≤ M + m - s ∧ M ≤ M + m - s ∧ M + m - s ≤ b ∧ Mrg (keyO o) (rotR f s m (M + m - s)) a s M ∧ Mrg (keyO o) (rotR f s m (M + m - s)) M (M + m - s) b ∧
      (∀ i j, a ≤ i → i < M → M ≤ j → j < b → LK (keyO o) (rotR f s m (M + m - s) i) (rotR f s m (M + m - s) j)))
    (w : World) (h : DR w g cap n o f) : SymDoes g cap n o a m b f w := by
  unfold SymDoes
  have mixed : Tryd.prog.follows .mixedOrders = true := by kernel_rfl
  have HT := Lib.hid ht
  have HM := Lib.hid hmg
  have IH := Lib.hid ih
  clear ht hmg ih
  go_enter Tryd.func76, Tryd.ntmps76
  have e28 : ¬ (m : Int) - (a : Int) = 1 := by omega
  have e28b : ((m : Int) - (a : Int) == 1) = false := beq_eq_false_iff_ne.2 e28
  have e80 : ¬ (b : Int) - (m : Int) = 1 := by omega
  have e80b : ((b : Int) - (m : Int) == 1) = false := beq_eq_false_iff_ne.2 e80
  have eM : ((a : Int) + (b : Int)) / 2 = (M : Int) := by omega
  have e140 : ¬ (m : Int) > (M : Int) := by omega
  have E1 := Lib.hid hM1
  have E2 := Lib.hid hM2
  have E3 := Lib.hid hc
  clear hM1 hM2 hc
  go_wp2_with fail
  go_loopw [20, 21] (fun p q wr => SM o f g cap n (a) (m) (M + m - 1) w p q wr) (fun p q _ => (intOf q).toNat - (intOf p).toNat)
  case atStart => exact ⟨a, m, rfl, rfl, Nat.le_refl _, (by have hM1 := E1.out; have hM2 := E2.out; have hc := E3.out; omega), Nat.le_refl _, fun k h1 h2 => by omega, fun k h1 h2 => by omega, h, World.grownBy.refl _ _⟩
  case round =>
    obtain ⟨i, j, rfl, rfl, hai, hij, hjb, hlo, hhi, hD, hG⟩ := hrel
    have HL := Lib.hid hlo
    have HH := Lib.hid hhi
    clear hlo hhi
    by_cases hlt : i < j
    · have hM1 := E1.out
      have hM2 := E2.out
      have hc := E3.out
      obtain ⟨c, hm1, hm2, em⟩ : ∃ c : Nat, i ≤ c ∧ c < j ∧ ((i : Int) + (j : Int)) / 2 = (c : Int) := ⟨(i + j) / 2, by omega, by omega, by omega⟩
      obtain ⟨d, hd1, hd2, ed⟩ : ∃ d : Nat, d = M + m - 1 - c ∧ d < n ∧ (M : Int) + (m : Int) - 1 - (c : Int) = (d : Int) := ⟨M + m - 1 - c, rfl, by omega, by omega⟩
      have hd := hD
      obtain ⟨p0, p1, p2⟩ := hd.cells (i := d) hd2
      obtain ⟨q0, q1, q2⟩ := hd.cells (i := c) (by omega)
      have hl := hd.lt
      have P0 := cell_grown (a := ⟨g, d * 3, none⟩) hl p0
      have P1 := cell_grown (a := ⟨g, d * 3 + 1, none⟩) hl p1
      have P2 := cell_grown (a := ⟨g, d * 3 + 2, none⟩) hl p2
      have Q0 := cell_grown (a := ⟨g, c * 3, none⟩) hl q0
      have Q1 := cell_grown (a := ⟨g, c * 3 + 1, none⟩) hl q1
      have Q2 := cell_grown (a := ⟨g, c * 3 + 2, none⟩) hl q2
      have hb1 : (d : Int) < (n : Int) := by omega
      have hb2 : (c : Int) < (n : Int) := by omega
      have hltz : (i : Int) < (j : Int) := by omega
      have HC := Lib.hid fun W => cmp_grow (o (f d)) (o (f c)) W
      have HX := Lib.hid (show a ≤ c ∧ c < m ∧ c ≤ m ∧ c < M + m - 1 ∧ (∀ k, c < k → k < m → k < m ∧ m ≤ M + m - 1 - k ∧ M + m - 1 - k < M + m - 1 - c ∧ M + m - 1 - c < b) ∧ (∀ k, a ≤ k → k < c → c < m ∧ m ≤ M + m - 1 - c ∧ M + m - 1 - c < M + m - 1 - k ∧ M + m - 1 - k < b ∧ a ≤ k) from ⟨by omega, by omega, by omega, by omega, fun k h1 h2 => by omega, fun k h1 h2 => by omega⟩)
      have HD1 := Lib.hid hd1
      clear p0 p1 p2 q0 q1 q2 hl hD hM1 hM2 hc hd1
      have HD := Lib.hid hd
      clear hd
      by_cases hk : (o (f d)).at_ < (o (f c)).at_
      · have hz := cmpZ_lt hk
        have hz2 := Int.not_le.2 hz
        have HK := Lib.hid hk
        clear hk
        go_wp2_with fail
        have hwd : IntKind.i64.wrap (d : Int) = (d : Int) := IntWalk.i64_in _ (by omega)
        go_quiet_grown (first | (go_at_call 29; refine Calls.grown_of (HC.out _)))
        have hD1 := HD.out.below (below_grown wr nq osq)
        have hG1 := hG.trans (Below.grownN (below_grown wr nq osq) (some g))
        clear P0 P1 P2 Q0 Q1 Q2 hwd
        generalize grow (wr.drewN nq) osq = w2 at *
        go_wp2
        go_roundw
        case rel => exact ⟨i, c, rfl, by go_num, by omega, by omega, by omega, HL.out, (fun k h1 h2 => by
          by_cases e : k = c
          · rw [e, ← HD1.out]; exact HK.out
          · have hx := HX.out.2.2.2.2.1 k (by omega) h2
            have h5 : (o (f d)).at_ < (o (f c)).at_ := HK.out
            rw [HD1.out] at h5
            have t1 := (HT.out.left c k (by have := HX.out.1; omega) (by omega) hx.1).le
            have t2 := (HT.out.right (M + m - 1 - k) (M + m - 1 - c) hx.2.1 hx.2.2.1 hx.2.2.2).le
            have t1' : (o (f c)).at_ ≤ (o (f k)).at_ := t1
            have t2' : (o (f (M + m - 1 - k))).at_ ≤ (o (f (M + m - 1 - c))).at_ := t2
            show (o (f (M + m - 1 - k))).at_ < (o (f k)).at_
            omega), hD1, hG1⟩
        case measure => simp [intOf]; omega
      · have hz2 := Int.not_lt.1 (cmpZ_ge hk)
        have hz3 : decide (cmpZ (o (f d)).at_ (o (f c)).at_ < 0) = false := decide_eq_false (cmpZ_ge hk)
        have HK := Lib.hid (Int.not_lt.1 hk)
        clear hk
        go_wp2_with fail
        have hwd : IntKind.i64.wrap (d : Int) = (d : Int) := IntWalk.i64_in _ (by omega)
        go_quiet_grown (first | (go_at_call 29; refine Calls.grown_of (HC.out _)))
        have hD1 := HD.out.below (below_grown wr nq osq)
        have hG1 := hG.trans (Below.grownN (below_grown wr nq osq) (some g))
        clear P0 P1 P2 Q0 Q1 Q2 hwd
        generalize grow (wr.drewN nq) osq = w2 at *
        go_wp2
        go_roundw
        case rel => exact ⟨c + 1, j, by go_num, rfl, by omega, by omega, by omega, (fun k h1 h2 => by
          by_cases e : k = c
          · rw [e, ← HD1.out]; exact HK.out
          · have hx := HX.out.2.2.2.2.2 k h1 (by omega)
            have h5 : (o (f c)).at_ ≤ (o (f d)).at_ := HK.out
            rw [HD1.out] at h5
            have t1 := (HT.out.left k c hx.2.2.2.2 (by omega) hx.1).le
            have t2 := (HT.out.right (M + m - 1 - c) (M + m - 1 - k) hx.2.1 hx.2.2.1 hx.2.2.2.1).le
            have t1' : (o (f k)).at_ ≤ (o (f c)).at_ := t1
            have t2' : (o (f (M + m - 1 - c))).at_ ≤ (o (f (M + m - 1 - k))).at_ := t2
            show (o (f k)).at_ ≤ (o (f (M + m - 1 - k))).at_
            omega), HH.out, hD1, hG1⟩
        case measure => simp [intOf]; omega
    · obtain rfl : i = j := by omega
      have hltz : ¬ (i : Int) < (i : Int) := by omega
      obtain ⟨x1, x2, x3, x4, x5, x6, x7, x8, x9⟩ := HM.out i hai hjb HL.out HH.out
      clear HL HH HT HM
      have eE : (M : Int) + (m : Int) - (i : Int) = ((M + m - i : Nat) : Int) := by omega
      have hM1 := E1.out
      have hM2 := E2.out
      have HR := Lib.hid (show Moves f (rotR f i m (M + m - i)) a b from (rotR_moves f (by omega) (by omega)).mono x1 x6)
      have X7 := Lib.hid x7
      have X8 := Lib.hid x8
      have X9 := Lib.hid x9
      have RO := Lib.hid (fun (u1 : i < m) (u2 : m < M + m - i) => rotate_any g cap n i m (M + m - i) o f u1 u2 (by omega) hn hm wr hD)
      have RN := Lib.hid (fun (u : ¬ (i < m ∧ m < M + m - i)) => show rotR f i m (M + m - i) = f from (by
        by_cases u1 : i = m
        · rw [u1]; exact rotR_none_left f _ _
        · have u2 : M + m - i = m := by omega
          rw [u2]; exact rotR_none_right f _ _))
      have HBL := Lib.hid (show M - a < b - a ∧ b - M < b - a ∧ M ≤ n ∧ a ≤ M ∧ M ≤ b from by omega)
      clear x7 x8 x9
      generalize rotR f i m (M + m - i) = f1 at *
      generalize M + m - i = E at *
      have GG := Lib.hid hG
      have DD := Lib.hid hD
      clear hG hD E1 E2 E3 hM1 hM2
      by_cases c1 : i < m ∧ m < E
      · have g1 : (i : Int) < (m : Int) := by omega
        have g2 : (m : Int) < (E : Int) := by omega
        have RC := Lib.hid (RO.out c1.1 c1.2)
        clear RO RN c1
        go_wp2_with fail
        all_goals
          refine RC.out.mono ?_
          rintro e w1 ⟨⟨v1, rfl⟩, hD1, hG1⟩
          have DD1 := Lib.hid hD1
          have GG1 := Lib.hid (GG.out.trans hG1)
          clear hD1 hG1 DD GG
          by_cases c2 : a < i ∧ i < M
          · have k1 : (a : Int) < (i : Int) := by omega
            have k2 : (i : Int) < (M : Int) := by omega
            have RC := Lib.hid (IH.out a i M f1 w1 HBL.out.1 c2.1 c2.2 HBL.out.2.2.1 X7.out DD1.out)
            clear c2
            go_wp2_with fail
            all_goals
              refine RC.out.mono ?_
              rintro e w2 ⟨⟨v2, rfl⟩, f2, s2, m2, hD2, hG2⟩
              have S2 := Lib.hid s2
              have M2 := Lib.hid m2
              have DD2 := Lib.hid hD2
              have GG2 := Lib.hid (GG1.out.trans hG2)
              clear s2 m2 hD2 hG2 DD1 GG1
              have X8' := Lib.hid (X8.out.congr (g := f2) (fun k k1 k2 => M2.out.out k (by omega)) (by omega) (by omega))
              by_cases c3 : M < E ∧ E < b
              · have l1 : (M : Int) < (E : Int) := by omega
                have l2 : (E : Int) < (b : Int) := by omega
                have RC := Lib.hid (IH.out M E b f2 w2 HBL.out.2.1 c3.1 c3.2 hb X8'.out DD2.out)
                clear c3
                go_wp2_with fail
                all_goals
                  refine RC.out.mono ?_
                  rintro e w3 ⟨⟨v3, rfl⟩, f3, s3, m3, hD3, hG3⟩
                  go_wp2
                  all_goals
                    go_returns
                    have hf := sym_fin HR.out M2.out m3 HBL.out.2.2.2.1 HBL.out.2.2.2.2 S2.out s3 X9.out
                    exact ⟨⟨_, rfl⟩, f3, hf.1, hf.2, hD3, GG2.out.trans hG3⟩
              · have l1 : ¬ ((M : Int) < (E : Int) ∧ (E : Int) < (b : Int)) := by omega
                have s3 : Srt (keyO o) f2 M b := by
                  by_cases u : M = E
                  · have := X8'.out.right; rw [← u] at this; exact this
                  · have := X8'.out.left; rw [show E = b by omega] at this; exact this
                have S3 := Lib.hid s3
                clear s3 c3
                go_wp2
                all_goals
                  go_returns
                  have hf := sym_fin HR.out M2.out (Moves.refl f2 M b) HBL.out.2.2.2.1 HBL.out.2.2.2.2 S2.out S3.out X9.out
                  exact ⟨⟨_, rfl⟩, f2, hf.1, hf.2, DD2.out, GG2.out⟩
          · have k1 : ¬ ((a : Int) < (i : Int) ∧ (i : Int) < (M : Int)) := by omega
            have S2 := Lib.hid (show Srt (keyO o) f1 a M from (by
              by_cases u : a = i
              · have := X7.out.right; rw [← u] at this; exact this
              · have := X7.out.left; rw [show i = M by omega] at this; exact this))
            have M2 := Lib.hid (Moves.refl f1 a M)
            have DD2 := DD1
            have GG2 := GG1
            clear DD1 GG1 c2
            have X8' := Lib.hid (X8.out.congr (g := f1) (fun k k1 k2 => M2.out.out k (by omega)) (by omega) (by omega))
            by_cases c3 : M < E ∧ E < b
            · have l1 : (M : Int) < (E : Int) := by omega
              have l2 : (E : Int) < (b : Int) := by omega
              have RC := Lib.hid (IH.out M E b f1 w1 HBL.out.2.1 c3.1 c3.2 hb X8'.out DD2.out)
              clear c3
              go_wp2_with fail
              all_goals
                refine RC.out.mono ?_
                rintro e w3 ⟨⟨v3, rfl⟩, f3, s3, m3, hD3, hG3⟩
                go_wp2
                all_goals
                  go_returns
                  have hf := sym_fin HR.out M2.out m3 HBL.out.2.2.2.1 HBL.out.2.2.2.2 S2.out s3 X9.out
                  exact ⟨⟨_, rfl⟩, f3, hf.1, hf.2, hD3, GG2.out.trans hG3⟩
            · have l1 : ¬ ((M : Int) < (E : Int) ∧ (E : Int) < (b : Int)) := by omega
              have s3 : Srt (keyO o) f1 M b := by
                by_cases u : M = E
                · have := X8'.out.right; rw [← u] at this; exact this
                · have := X8'.out.left; rw [show E = b by omega] at this; exact this
              have S3 := Lib.hid s3
              clear s3 c3
              go_wp2
              all_goals
                go_returns
                have hf := sym_fin HR.out M2.out (Moves.refl f1 M b) HBL.out.2.2.2.1 HBL.out.2.2.2.2 S2.out S3.out X9.out
                exact ⟨⟨_, rfl⟩, f1, hf.1, hf.2, DD2.out, GG2.out⟩
      · have g1 : ¬ ((i : Int) < (m : Int) ∧ (m : Int) < (E : Int)) := by omega
        have g1d : (i : Int) < (m : Int) → ¬ (m : Int) < (E : Int) := by omega
        have DD1 := DD
        rw [← RN.out c1] at DD1
        have GG1 := GG
        clear RO RN c1 DD GG
        have w1 : World := wr
        by_cases c2 : a < i ∧ i < M
        · have k1 : (a : Int) < (i : Int) := by omega
          have k2 : (i : Int) < (M : Int) := by omega
          have RC := Lib.hid (IH.out a i M f1 wr HBL.out.1 c2.1 c2.2 HBL.out.2.2.1 X7.out DD1.out)
          clear c2
          go_wp2_with fail
          all_goals
            refine RC.out.mono ?_
            rintro e w2 ⟨⟨v2, rfl⟩, f2, s2, m2, hD2, hG2⟩
            have S2 := Lib.hid s2
            have M2 := Lib.hid m2
            have DD2 := Lib.hid hD2
            have GG2 := Lib.hid (GG1.out.trans hG2)
            clear s2 m2 hD2 hG2 DD1 GG1
            have X8' := Lib.hid (X8.out.congr (g := f2) (fun k k1 k2 => M2.out.out k (by omega)) (by omega) (by omega))
            by_cases c3 : M < E ∧ E < b
            · have l1 : (M : Int) < (E : Int) := by omega
              have l2 : (E : Int) < (b : Int) := by omega
              have RC := Lib.hid (IH.out M E b f2 w2 HBL.out.2.1 c3.1 c3.2 hb X8'.out DD2.out)
              clear c3
              go_wp2_with fail
              all_goals
                refine RC.out.mono ?_
                rintro e w3 ⟨⟨v3, rfl⟩, f3, s3, m3, hD3, hG3⟩
                go_wp2
                all_goals
                  go_returns
                  have hf := sym_fin HR.out M2.out m3 HBL.out.2.2.2.1 HBL.out.2.2.2.2 S2.out s3 X9.out
                  exact ⟨⟨_, rfl⟩, f3, hf.1, hf.2, hD3, GG2.out.trans hG3⟩
            · have l1 : ¬ ((M : Int) < (E : Int) ∧ (E : Int) < (b : Int)) := by omega
              have s3 : Srt (keyO o) f2 M b := by
                by_cases u : M = E
                · have := X8'.out.right; rw [← u] at this; exact this
                · have := X8'.out.left; rw [show E = b by omega] at this; exact this
              have S3 := Lib.hid s3
              clear s3 c3
              go_wp2
              all_goals
                go_returns
                have hf := sym_fin HR.out M2.out (Moves.refl f2 M b) HBL.out.2.2.2.1 HBL.out.2.2.2.2 S2.out S3.out X9.out
                exact ⟨⟨_, rfl⟩, f2, hf.1, hf.2, DD2.out, GG2.out⟩
        · have k1 : ¬ ((a : Int) < (i : Int) ∧ (i : Int) < (M : Int)) := by omega
          have S2 := Lib.hid (show Srt (keyO o) f1 a M from (by
            by_cases u : a = i
            · have := X7.out.right; rw [← u] at this; exact this
            · have := X7.out.left; rw [show i = M by omega] at this; exact this))
          have M2 := Lib.hid (Moves.refl f1 a M)
          have DD2 := DD1
          have GG2 := GG1
          clear DD1 GG1 c2
          have X8' := Lib.hid (X8.out.congr (g := f1) (fun k k1 k2 => M2.out.out k (by omega)) (by omega) (by omega))
          by_cases c3 : M < E ∧ E < b
          · have l1 : (M : Int) < (E : Int) := by omega
            have l2 : (E : Int) < (b : Int) := by omega
            have RC := Lib.hid (IH.out M E b f1 wr HBL.out.2.1 c3.1 c3.2 hb X8'.out DD2.out)
            clear c3
            go_wp2_with fail
            all_goals
              refine RC.out.mono ?_
              rintro e w3 ⟨⟨v3, rfl⟩, f3, s3, m3, hD3, hG3⟩
              go_wp2
              all_goals
                go_returns
                have hf := sym_fin HR.out M2.out m3 HBL.out.2.2.2.1 HBL.out.2.2.2.2 S2.out s3 X9.out
                exact ⟨⟨_, rfl⟩, f3, hf.1, hf.2, hD3, GG2.out.trans hG3⟩
          · have l1 : ¬ ((M : Int) < (E : Int) ∧ (E : Int) < (b : Int)) := by omega
            have s3 : Srt (keyO o) f1 M b := by
              by_cases u : M = E
              · have := X8'.out.right; rw [← u] at this; exact this
              · have := X8'.out.left; rw [show E = b by omega] at this; exact this
            have S3 := Lib.hid s3
            clear s3 c3
            go_wp2
            all_goals
              go_returns
              have hf := sym_fin HR.out M2.out (Moves.refl f1 M b) HBL.out.2.2.2.1 HBL.out.2.2.2.2 S2.out S3.out X9.out
              exact ⟨⟨_, rfl⟩, f1, hf.1, hf.2, DD2.out, GG2.out⟩

theorem sym_all (g cap n : Nat) (o : Nat → Di) (hn : n ≤ cap) (hm : n ≤ 1000) : ∀ (d a m b : Nat) (f : Nat → Nat) (w : World), b - a ≤ d → a < m → m < b → b ≤ n → Mrg (keyO o) f a m b → DR w g cap n o f → SymDoes g cap n o a m b f w := by
  intro d
  induction d with
  | zero => intro a m b f w h1 h2 h3; omega
  | succ d ih =>
    intro a m b f w h1 h2 h3 h4 h5 h6
    by_cases e1 : m = a + 1
    · subst e1
      exact sym_left g cap n a b o f (by omega) h4 hn hm h5 w h6
    · by_cases e2 : b = m + 1
      · subst e2
        exact sym_right g cap n a m o f (by omega) h4 hn hm h5 w h6
      · have IH : ∀ a' m' b' f' w', b' - a' < b - a → a' < m' → m' < b' → b' ≤ n → Mrg (keyO o) f' a' m' b' → DR w' g cap n o f' → SymDoes g cap n o a' m' b' f' w' := fun a' m' b' f' w' k1 k2 k3 k4 k5 k6 => ih a' m' b' f' w' (by omega) k2 k3 k4 k5 k6
        by_cases hc : (a + b) / 2 < m
        · refine sym_low g cap n a m b ((a + b) / 2) o f (by omega) (by omega) h4 hn hm (by omega) (by omega) hc IH h5 (fun s k1 k2 k3 k4 => ?_) w h6
          exact merge_mid h5 h2 h3 rfl (by rw [if_pos hc]; exact k1) (by rw [if_pos hc]; exact k2) (fun c c1 c2 => by rw [if_pos hc] at c1; exact Int.not_lt.2 (k3 c c1 c2)) (fun c c1 c2 => by rw [if_pos hc] at c2; exact k4 c c1 c2)
        · refine sym_high g cap n a m b ((a + b) / 2) o f (by omega) (by omega) h4 hn hm (by omega) (by omega) (by omega) IH h5 (fun s k1 k2 k3 k4 => ?_) w h6
          exact merge_mid h5 h2 h3 rfl (by rw [if_neg hc]; exact k1) (by rw [if_neg hc]; exact k2) (fun c c1 c2 => by rw [if_neg hc] at c1; exact Int.not_lt.2 (k3 c c1 c2)) (fun c c1 c2 => by rw [if_neg hc] at c2; exact k4 c c1 c2)
end Go.Proofs.YtgdnibdahldekabDoor
