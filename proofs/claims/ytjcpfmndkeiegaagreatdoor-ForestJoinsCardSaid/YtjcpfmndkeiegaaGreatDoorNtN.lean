/- The walk of nat.Gcd. -/
import Derived.Test.YtjcpfmndkeiegaaGreatDoorNtM
namespace Go.Proofs.YtjcpfmndkeiegaaGreatDoor
open Go.RowKit
set_option linter.unusedVariables false

theorem RdL.uniq {W : World} {a : Option Addr} {l l' : List Nat} (h : RdL W a l) (h' : RdL W a l') (hl : l.length = l'.length) : l = l' := by
  rcases h with ⟨rfl, rfl⟩ | ⟨g, cur, rfl, h2, h3⟩
  · exact (List.eq_nil_of_length_eq_zero (by simpa using hl.symm)).symm
  · rcases h' with ⟨he, _⟩ | ⟨g', cur', he, h2', h3'⟩
    · cases he
    · cases he
      have hc : cur = cur' := by
        have := (show W.heap[g]? = _ from h2).symm.trans (show W.heap[g]? = _ from h2')
        cases this
        rfl
      subst hc
      refine List.ext_getElem hl (fun i hi hi' => ?_)
      have := (h3 i hi).symm.trans (h3' i hi')
      simp only [uv, Option.some.injEq, Value.int.injEq, true_and] at this
      omega
/-- A value reads as one number alone. -/
theorem NatAt.uniq {W : World} {v : Value} {n m : Nat} (h : NatAt W v n) (h' : NatAt W v m) : n = m := by
  obtain ⟨a, c, rfl, h1⟩ := h
  obtain ⟨a', c', he, h1'⟩ := h'
  simp only [Value.agg.injEq, Array.mk.injEq, List.cons.injEq, and_true, Value.slice.injEq] at he
  obtain ⟨rfl, hs, rfl⟩ := he
  rw [← limbs_val n, ← limbs_val m, h1.uniq h1' hs]
open Classical in
/-- The number in a box. -/
noncomputable def natIn (W : World) (g : Nat) : Nat := if h : ∃ n s, W.cell? ⟨g, 0, none⟩ = some s ∧ NatAt W (.agg #[s]) n then Classical.choose h else 0
theorem natIn_eq {W : World} {g n : Nat} {s : Value} (hc : W.cell? ⟨g, 0, none⟩ = some s) (h : NatAt W (.agg #[s]) n) : natIn W g = n := by
  have hex : ∃ n s, W.cell? ⟨g, 0, none⟩ = some s ∧ NatAt W (.agg #[s]) n := ⟨n, s, hc, h⟩
  unfold natIn
  rw [dif_pos hex]
  obtain ⟨s', hc', h'⟩ := Classical.choose_spec hex
  rw [hc] at hc'
  cases hc'
  exact h'.uniq h
/-- The loop of Gcd. -/
def GcdL (w : World) (G B : Nat) (W : World) : Prop :=
  ∃ x y a c b d, BlkAt W w.heap.size 57 #[.slice a (szN x) c] ∧ BlkAt W (w.heap.size + 1) 57 #[.slice b (szN y) d] ∧ BlkAt W (w.heap.size + 1 + 1) 57 #[.slice none 0 0] ∧
    RdL W a (limbs x) ∧ RdL W b (limbs y) ∧ x.gcd y = G ∧ szN x ≤ B ∧ szN y ≤ B ∧ Below w.heap.size w W
theorem gcd_next (x y : Nat) : y.gcd (x % y) = x.gcd y := by
  rw [Nat.gcd_comm x y, Nat.gcd_rec y x, Nat.gcd_comm]
set_option maxRecDepth 20000 in
set_option maxHeartbeats 8000000 in
theorem gcd_any {va vb : Value} {x y : Nat} {w : World} (hx : NatAt w va x) (hy : NatAt w vb y) (hxs : szN x ≤ 1000000) (hys : szN y ≤ 1000000) :
    Calls Tryz.prog 114 #[va, vb] w fun e w' => ∃ v, e = .returned v ∧ NatAt w' v (x.gcd y) ∧ Below w.heap.size w w' := by
  obtain ⟨a, c, rfl, ha⟩ := hx
  obtain ⟨b, d, rfl, hb⟩ := hy
  obtain ⟨hbx, hB2, hz2⟩ := boxes_new w (.slice a (szN x) c) (.slice b (szN y) d)
  obtain ⟨W2, hW2⟩ : ∃ W2, box3 w (.slice a (szN x) c) (.slice b (szN y) d) = W2 := ⟨_, rfl⟩
  rw [hW2] at hbx hB2 hz2
  have H0 := Lib.hid (show GcdL w (x.gcd y) 1000000 W2 from ⟨x, y, a, c, b, d, hbx.1, hbx.2.1, hbx.2.2, ha.below hB2, hb.below hB2, rfl, hxs, hys, hB2⟩)
  unfold box3 at hW2
  clear ha hb hbx hB2 hz2 hxs hys
  go_enter Tryz.func114, Tryz.ntmps114
  go_wp2
  go_loopw [5] (fun _ W => GcdL w (x.gcd y) 1000000 W) (fun _ W => natIn W (w.heap.size + 1))
  case atStart => exact H0.out
  case round =>
    obtain ⟨p, q, a, c, b, d, b0, b1, b2, ha, hb, hg, hps, hqs, hB⟩ := hrel
    have HZ := Lib.hid (zero_any (show NatAt wr (.agg #[.slice b (szN q) d]) q from ⟨b, d, rfl, hb⟩))
    have HD := Lib.hid (fun (W : World) (h0 : 0 < q) (hW : Below wr.heap.size wr W) => divMod_any (show NatAt W (.agg #[.slice a (szN p) c]) p from ⟨a, c, rfl, ha.below hW⟩) (show NatAt W (.agg #[.slice b (szN q) d]) q from ⟨b, d, rfl, hb.below hW⟩) hps hqs h0)
    have hsq : szN q ≤ 1000000 := hqs
    have HB := Lib.hid hB
    have HG := Lib.hid hg
    have HA := Lib.hid ha
    have HBq := Lib.hid hb
    have HK0 := Lib.hid b0
    have HK1 := Lib.hid b1
    have HK2 := Lib.hid b2
    have c0 := b0.cell 0
    have c1 := b1.cell 0
    have HNat := Lib.hid (natIn_eq c1 (show NatAt wr (.agg #[.slice b (szN q) d]) q from ⟨b, d, rfl, hb⟩))
    have hl0 := b0.lt
    have hl1 := b1.lt
    have hl2 := b2.lt
    clear ha hb hg b0 b1 b2 hB
    by_cases hq : q = 0
    · rw [decide_eq_true hq] at HZ
      have HQ := Lib.hid hq
      obtain ⟨n, hn⟩ : ∃ n, szN p = n := ⟨_, rfl⟩
      have HN := Lib.hid hn
      obtain ⟨m, hm⟩ : ∃ m, szN q = m := ⟨_, rfl⟩
      rw [hn] at c0 HK0
      rw [hm] at c1 HZ
      clear hq HD hn hm hsq hps hqs
      go_wp2_with (go_at_call 95; refine HZ.out.mono ?_; clear HZ; rintro e w3 ⟨rfl, hB3⟩; have HB3 := Lib.hid hB3; have k0 := HK0.out.below hB3 hl0; have k2 := HK2.out.below hB3 hl2; have e0 := k0.cell 0; have e2 := k2.cell 0; have f2 := k2.frozen 0; have HK2 := Lib.hid k2; clear k0 k2 hB3)
      have hN3 : NatAt w3 (.agg #[.slice a n c]) (x.gcd y) := by
        rw [← HG.out, HQ.out, Nat.gcd_zero_right, ← HN.out]
        exact ⟨a, c, rfl, HA.out.below HB3.out⟩
      obtain ⟨g1, g2, g3⟩ := res_at HK2.out (by omega) (HB.out.trans (HB3.out.mono HB.out.size)) hN3
      exact bodyPost_ret (r_c rfl rfl g1) rfl ⟨_, rfl, g2, g3⟩
    · rw [decide_eq_false hq] at HZ
      obtain ⟨n, hn⟩ : ∃ n, szN p = n := ⟨_, rfl⟩
      have HN := Lib.hid hn
      obtain ⟨m, hm⟩ : ∃ m, szN q = m := ⟨_, rfl⟩
      have HM := Lib.hid hm
      rw [hn] at c0 HK0 HD hps
      rw [hm] at c1 HZ HK1 HD hqs
      have HQ := Lib.hid (show 0 < q by omega)
      clear hq hn hm hsq
      go_wp2_with (first
        | (go_at_call 95; refine HZ.out.mono ?_; clear HZ; rintro e w3 ⟨rfl, hB3⟩; have HB3 := Lib.hid hB3; have k0 := HK0.out.below hB3 hl0; have k1 := HK1.out.below hB3 hl1; have e0 := k0.cell 0; have e1 := k1.cell 0; have HD3 := Lib.hid (HD.out w3 HQ.out hB3); clear k0 k1 hB3 HD)
        | (go_at_call 115; refine HD3.out.mono ?_; clear HD3; rintro e w4 ⟨v1, v2, rfl, hN1, hN2, hB4⟩; obtain ⟨a1, c1', rfl, hr1⟩ := hN1; obtain ⟨a2, c2, rfl, hr2⟩ := hN2; have HR2 := Lib.hid hr2; have HB4 := Lib.hid (HB3.out.trans (hB4.mono HB3.out.size)); clear hr1 hr2 hB4))
      obtain ⟨W5, hW5⟩ : ∃ W5, (w4.alloc (.cells #[.slice a1 (szN (p / q)) c1'] 57)).alloc (.cells #[.slice a2 (szN (p % q)) c2] 57) = W5 := ⟨_, rfl⟩
      obtain ⟨b1, b2, hB5⟩ := box2_new w4 (.slice a1 (szN (p / q)) c1') (.slice a2 (szN (p % q)) c2)
      rw [hW5] at b1 b2 hB5 ⊢
      have hB25 := HB4.out.trans (hB5.mono HB4.out.size)
      have k0 := HK0.out.below hB25 hl0
      have k1 := HK1.out.below hB25 hl1
      have p1 := b2.cell 0
      have g0 := k0.cell 0
      have g1 := k1.cell 0
      have f0 := k0.frozen 0
      have f1 := k1.frozen 0
      have HK0' := Lib.hid k0
      have HK1' := Lib.hid k1
      have HK2' := Lib.hid (HK2.out.below hB25 hl2)
      have HN1 := Lib.hid (show NatAt W5 (.agg #[.slice b m d]) q from ⟨b, d, by rw [HM.out], HBq.out.below hB25⟩)
      have HN2 := Lib.hid (show NatAt W5 (.agg #[.slice a2 (szN (p % q)) c2]) (p % q) from ⟨a2, c2, rfl, HR2.out.below hB5⟩)
      have HW5 := Lib.hid (HB.out.trans (hB25.mono HB.out.size))
      have hsz := HB4.out.size
      clear hW5 b1 b2 hB5 hB25 k0 k1 c0 c1 e0 e1
      go_region
      go_wp2
      obtain ⟨k1, k2, k3, k4, k5⟩ := res_two HK0'.out HK1'.out (by omega) (by omega) (by omega) HW5.out HN1.out HN2.out
      have k6 := (HK2'.out.far (p := ⟨w.heap.size, 0, none⟩) (by simp; omega) (.slice b m d)).far (p := ⟨w.heap.size + 1, 0, none⟩) (by simp) (.slice a2 (szN (p % q)) c2)
      obtain ⟨b', d', he3, hr3⟩ := k3
      obtain ⟨b4, d4, he4, hr4⟩ := k4
      simp only [Value.agg.injEq, Array.mk.injEq, List.cons.injEq, and_true, Value.slice.injEq] at he3 he4
      obtain ⟨rfl, -, rfl⟩ := he3
      obtain ⟨rfl, -, rfl⟩ := he4
      have hlt : p % q < q := Nat.mod_lt _ HQ.out
      go_roundw
      case rel => exact ⟨q, p % q, b, d, a2, c2, (by rw [HM.out]; exact k1.drew), k2.drew, k6.drew, hr3.drew, hr4.drew, by rw [gcd_next]; exact HG.out, by rw [HM.out]; exact hqs, Nat.le_trans (szN_mono (Nat.le_of_lt hlt)) (by rw [HM.out]; exact hqs), k5.drew⟩
      case measure =>
        rw [HNat.out]
        have := natIn_eq (W := ((W5.setCell ⟨w.heap.size, 0, none⟩ (.slice b m d)).setCell ⟨w.heap.size + 1, 0, none⟩ (.slice a2 (szN (p % q)) c2)).drew) (g := w.heap.size + 1) (k2.drew.cell 0) ⟨a2, c2, rfl, hr4.drew⟩
        rw [this]
        exact hlt
end Go.Proofs.YtjcpfmndkeiegaaGreatDoor
