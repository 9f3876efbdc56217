/- The walks of the document's own Gcd, Make. The walk of the document's own Text. The walk of the document's own Parse. -/
import Derived.Test.YtjcpfmndkeiegaaGreatDoorRfAF
import Derived.Test.YtjcpfmndkeiegaaGreatDoorNaZ
import Derived.Test.YtjcpfmndkeiegaaGreatDoorNtAC
namespace Go.Proofs.YtjcpfmndkeiegaaGreatDoor.Rf
open Go.RowKit Go.Proofs.YtjcpfmndkeiegaaGreatDoor
set_option linter.unusedVariables false

theorem DgAt.uniq {W : World} {v : Value} {n m : Nat} (h : DgAt W v n) (h' : DgAt W v m) : n = m := by
  obtain ⟨a, c, rfl, -, h1, -⟩ := h
  obtain ⟨a', c', he, -, h2, -⟩ := h'
  simp only [Value.slice.injEq] at he
  obtain ⟨rfl, hs, rfl⟩ := he
  rw [← limbs_val n, ← limbs_val m]
  refine congrArg valL (List.ext_getElem hs fun i hi hi' => ?_)
  obtain ⟨x, e, -, hc⟩ := h1 i hi
  obtain ⟨x', e', -, hc'⟩ := h2 i hi'
  subst e
  cases e'
  rw [hc] at hc'
  simp only [Option.some.injEq, Value.int.injEq, true_and] at hc'
  omega
open Classical in
/-- The number that a value reads as. -/
noncomputable def dgIn (W : World) (v : Value) : Nat := if h : ∃ n, DgAt W v n then Classical.choose h else 0
theorem dgIn_eq {W : World} {v : Value} {n : Nat} (h : DgAt W v n) : dgIn W v = n := by
  have hex : ∃ n, DgAt W v n := ⟨n, h⟩
  unfold dgIn
  rw [dif_pos hex]
  exact (Classical.choose_spec hex).uniq h
theorem gcd_next (x y : Nat) : y.gcd (x % y) = x.gcd y := by
  rw [Nat.gcd_comm x y, Nat.gcd_rec y x, Nat.gcd_comm]
/-- The loop of Gcd. -/
def GcdL (G M : Nat) (w : World) (va vb : Value) (W : World) : Prop := ∃ x y, DgAt W va x ∧ DgAt W vb y ∧ Hid (x.gcd y = G) ∧ szN x ≤ M ∧ szN y ≤ M ∧ Below w.heap.size w W
set_option maxRecDepth 100000 in
set_option maxHeartbeats 8000000 in
theorem gcd_any {w : World} {va vb : Value} {x y : Nat} (hx : DgAt w va x) (hy : DgAt w vb y) (hxs : szN x ≤ 1000000) (hys : szN y ≤ 1000000) :
    Calls Tryz.prog 71 #[va, vb] w fun e w' => ∃ v, e = .returned v ∧ DgAt w' v (x.gcd y) ∧ Below w.heap.size w w' := by
  have H0 := Lib.hid (show GcdL (x.gcd y) 1000000 w va vb w from ⟨x, y, hx, hy, Lib.hid rfl, hxs, hys, Below.refl _ _⟩)
  clear hx hy hxs hys
  go_enter Tryz.func71, Tryz.ntmps71
  go_wp2
  go_loopw [0, 1] (fun a b W => GcdL (x.gcd y) 1000000 w a b W) (fun a b W => dgIn W b)
  case atStart => exact H0.out
  case round =>
    obtain ⟨p, q, ha, hb, hg, hps, hqs, hB⟩ := hrel
    have HNat := Lib.hid (dgIn_eq hb)
    have HB := Lib.hid hB
    have HAq := Lib.hid ha
    have HBq := Lib.hid hb
    have HPs := Lib.hid hps
    have HQs := Lib.hid hqs
    obtain ⟨a, c, rfl, hc, har, -⟩ := ha
    obtain ⟨b, d, rfl, hd, hbr, -⟩ := hb
    by_cases hq : 0 < q
    · have HD := Lib.hid (divMod_any (c := c) har (limbs_len p) (limbs_lim p) (limbs_val p) hbr (limbs_len q) hd (limbs_lim q) (limbs_val q) hq hps hqs)
      have hsq : 0 < szN q := szN_pos (by omega)
      obtain ⟨m, hm⟩ : ∃ m, szN q = m := ⟨_, rfl⟩
      have HM := Lib.hid hm
      have HQ := Lib.hid hq
      rw [hm] at HD hsq HNat HBq ⊢
      have hmI : (0 : Int) < (m : Int) := by omega
      clear hm hq hc har hd hbr hB hps hqs hsq
      go_wp2_with fail
      refine HD.out.mono ?_
      rintro e w3 ⟨v1, v2, rfl, -, hN2, hB3⟩
      have HN2 := Lib.hid hN2.at
      have HB3 := Lib.hid hB3
      clear hN2 hB3 HD
      go_wp2
      refine ⟨⟨q, p % q, HBq.out.below HB3.out, HN2.out, Lib.hid (by rw [gcd_next]; exact hg.out), HQs.out, Nat.le_trans (szN_mono (Nat.mod_le _ _)) HPs.out, HB.out.trans (HB3.out.mono HB.out.size)⟩, ?_⟩
      rw [dgIn_eq HN2.out, HNat.out]
      exact Nat.mod_lt _ HQ.out
    · obtain rfl : q = 0 := by omega
      have hs0 : szN 0 = 0 := szN_zero
      rw [hs0] at HBq HNat ⊢
      have HG := Lib.hid (show p = x.gcd y by have := hg.out; rwa [Nat.gcd_zero_right] at this)
      clear hs0 hc har hd hbr hB hps hqs hq
      go_wp2
      go_ret
      exact ⟨_, rfl, by rw [← HG.out]; exact HAq.out, HB.out⟩
/-- A fraction of the document's own, as it lies. -/
def RefAt (w : World) (v : Value) (q : Rat) : Prop := ∃ va vb, v = .agg #[.bool (negQ q), va, vb] ∧ DgAt w va (numQ q) ∧ DgAt w vb q.den
def RefNew (B : Nat) (w : World) (v : Value) (q : Rat) : Prop := ∃ va vb, v = .agg #[.bool (negQ q), va, vb] ∧ DgNew B w va (numQ q) ∧ DgNew B w vb q.den
theorem RefAt.below {w w' : World} {v : Value} {q : Rat} (h : RefAt w v q) (hB : Below w.heap.size w w') : RefAt w' v q := by
  obtain ⟨va, vb, h1, h2, h3⟩ := h
  exact ⟨va, vb, h1, h2.below hB, h3.below hB⟩
theorem RefNew.at {B : Nat} {w : World} {v : Value} {q : Rat} (h : RefNew B w v q) : RefAt w v q := by
  obtain ⟨va, vb, h1, h2, h3⟩ := h
  exact ⟨va, vb, h1, h2.at, h3.at⟩
theorem RefNew.below {B : Nat} {w w' : World} {v : Value} {q : Rat} (h : RefNew B w v q) (hB : Below w.heap.size w w') : RefNew B w' v q := by
  obtain ⟨va, vb, h1, h2, h3⟩ := h
  exact ⟨va, vb, h1, h2.below hB, h3.below hB⟩
theorem RefNew.mono {B B' : Nat} {w : World} {v : Value} {q : Rat} (h : RefNew B w v q) (hb : B' ≤ B) : RefNew B' w v q := by
  obtain ⟨va, vb, h1, h2, h3⟩ := h
  exact ⟨va, vb, h1, h2.mono hb, h3.mono hb⟩
theorem aggRef : AggT Tryz.prog 33 3 := ⟨_, Tryz.underlying33, rfl, by kernel_rfl⟩
abbrev ref0 : Obj := .cells #[.bool false, .slice none 0 0, .slice none 0 0] 33
/-- A result's cell takes a fraction. -/
theorem res_ref {w W : World} {base g : Nat} {cs : Array Value} {va vb : Value} {q : Rat} (hb : BlkAt W g 33 cs) (hs : cs.size = 3) (hg : base ≤ g) (h : Below base w W) (hN : RefNew (g + 1) W (.agg #[.bool (negQ q), va, vb]) q) :
    BlkAt (((W.setCell ⟨g, 0, none⟩ (.bool (negQ q))).setCell ⟨g, 1, none⟩ va).setCell ⟨g, 2, none⟩ vb) g 33 #[.bool (negQ q), va, vb] ∧
      RefNew (g + 1) (((W.setCell ⟨g, 0, none⟩ (.bool (negQ q))).setCell ⟨g, 1, none⟩ va).setCell ⟨g, 2, none⟩ vb) (.agg #[.bool (negQ q), va, vb]) q ∧ Below base w (((W.setCell ⟨g, 0, none⟩ (.bool (negQ q))).setCell ⟨g, 1, none⟩ va).setCell ⟨g, 2, none⟩ vb) := by
  have h2 := ((hb.set 0 (.bool (negQ q))).set 1 va).set 2 vb
  have hcs : ((cs.setIfInBounds 0 (.bool (negQ q))).setIfInBounds 1 va).setIfInBounds 2 vb = #[.bool (negQ q), va, vb] := by
    obtain ⟨l⟩ := cs
    match l, hs with
    | [a, b, c], _ => rfl
  rw [hcs] at h2
  obtain ⟨va', vb', he, h3, h4⟩ := hN
  simp only [Value.agg.injEq, Array.mk.injEq, List.cons.injEq, and_true, true_and] at he
  obtain ⟨rfl, rfl⟩ := he
  exact ⟨h2, ⟨va, vb, rfl, ((h3.far (Nat.lt_succ_self g) _).far (Nat.lt_succ_self g) _).far (Nat.lt_succ_self g) _, ((h4.far (Nat.lt_succ_self g) _).far (Nat.lt_succ_self g) _).far (Nat.lt_succ_self g) _⟩,
    ((h.setCell (p := ⟨g, 0, none⟩) hg _).setCell (p := ⟨g, 1, none⟩) hg _).setCell (p := ⟨g, 2, none⟩) hg _⟩
theorem lowQ_all {neg : Bool} {n d : Nat} (hd : d ≠ 0) : numQ (lowQ neg n d) = n / n.gcd d ∧ (lowQ neg n d).den = d / n.gcd d ∧ negQ (lowQ neg n d) = (neg && decide (0 < szN (n / n.gcd d))) := by
  by_cases hn : n = 0
  · subst hn
    rw [lowQ_zero, Nat.gcd_zero_left, Nat.zero_div, Nat.div_self (Nat.pos_of_ne_zero hd), szN_zero]
    exact ⟨rfl, rfl, by simp [negQ]⟩
  · obtain ⟨z1, -, z3, z4⟩ := lowQ_parts (neg := neg) hn hd
    have h1 : 0 < szN (n / n.gcd d) := szN_pos (by
      have := Nat.div_pos (Nat.le_of_dvd (Nat.pos_of_ne_zero hn) (Nat.gcd_dvd_left n d)) (Nat.gcd_pos_of_pos_left d (Nat.pos_of_ne_zero hn))
      omega)
    rw [z1, z3, z4, decide_eq_true h1, Bool.and_true]
    exact ⟨rfl, rfl, rfl⟩
set_option maxRecDepth 100000 in
set_option maxHeartbeats 8000000 in
theorem make_any2 {w : World} {va vb : Value} {n d : Nat} (neg : Bool) (hx : DgAt w va n) (hy : DgAt w vb d) (hxs : szN n ≤ 1000000) (hys : szN d ≤ 1000000) (hd : d ≠ 0) :
    Calls Tryz.prog 23 #[.bool neg, va, vb] w fun e w' => ∃ v, e = .returned v ∧ RefNew (w.heap.size + 1) w' v (lowQ neg n d) ∧ Below w.heap.size w w' := by
  obtain ⟨W1, hW1⟩ : ∃ W1, w.alloc ref0 = W1 := ⟨_, rfl⟩
  have hB1 : Below w.heap.size w W1 := by rw [← hW1]; exact (Below.refl _ w).alloc (Nat.le_refl _) _
  have k1 : BlkAt W1 w.heap.size 33 #[.bool false, .slice none 0 0, .slice none 0 0] := by rw [← hW1]; exact BlkAt.new w _ _
  have hz1 : W1.heap.size = w.heap.size + 1 := by rw [← hW1]; simp
  have hx1 := hx.below hB1
  have hy1 := hy.below hB1
  have HX := Lib.hid hx1
  have HY := Lib.hid hy1
  obtain ⟨a, c, rfl, hc, har, -⟩ := hx1
  obtain ⟨b, e, rfl, he, hbr, -⟩ := hy1
  have HT1 := Lib.hid (trim_any har (limbs_len n) hc (limbs_lim n) (by omega))
  have HT2 := Lib.hid (trim_any hbr (limbs_len d) he (limbs_lim d) (by omega))
  rw [limbs_val] at HT1 HT2
  have hg1 : n.gcd d ≤ d := Nat.gcd_le_right n (by omega)
  have hg0 : 0 < n.gcd d := Nat.gcd_pos_of_pos_right _ (by omega)
  have HGc := Lib.hid (gcd_any HX.out HY.out hxs hys)
  obtain ⟨z1, z2, z3⟩ := lowQ_all (neg := neg) (n := n) hd
  obtain ⟨g, hg⟩ : ∃ g, n.gcd d = g := ⟨_, rfl⟩
  rw [hg] at HGc hg1 hg0 z1 z2 z3
  have HGs := Lib.hid (show szN g ≤ 1000000 from Nat.le_trans (szN_mono hg1) hys)
  have HG0 := Lib.hid hg0
  have HXs := Lib.hid hxs
  have HYs := Lib.hid hys
  have HZ1 := Lib.hid z1
  have HZ2 := Lib.hid z2
  have HZ3 := Lib.hid z3
  have HK1 := Lib.hid k1
  have HB1 := Lib.hid hB1
  have HSz1 := Lib.hid hz1
  clear hx hy har hbr hc he hxs hys hd hg1 hg0 hg z1 z2 z3 k1 hB1 hz1
  go_enter Tryz.func23, Tryz.ntmps23
  go_wp2_with fail
  refine HT1.out.mono ?_
  rintro e1 w2 ⟨rfl, rfl⟩
  go_wp2_with fail
  refine HT2.out.mono ?_
  rintro e1 w2 ⟨rfl, rfl⟩
  clear HT1 HT2
  go_wp2_with fail
  refine HGc.out.mono ?_
  rintro e1 w2 ⟨vg, rfl, hNg, hB2⟩
  have HX2 := Lib.hid (HX.out.below hB2)
  have HY2 := Lib.hid (HY.out.below hB2)
  have HNg := Lib.hid hNg
  have HB2 := Lib.hid hB2
  obtain ⟨ga, gc, rfl, hgc, hgr, -⟩ := hNg
  obtain ⟨a', c', hae, hac, har, -⟩ := HX2.out
  simp only [Value.slice.injEq] at hae
  obtain ⟨rfl, -, rfl⟩ := hae
  have HD1 := Lib.hid (divMod_any (c := c) har (limbs_len n) (limbs_lim n) (limbs_val n) hgr (limbs_len g) hgc (limbs_lim g) (limbs_val g) HG0.out HXs.out HGs.out)
  clear hac har hgc hgr hB2 HGc
  go_wp2_with fail
  refine HD1.out.mono ?_
  rintro e1 w3 ⟨v1, v2, rfl, hN1, -, hB3⟩
  have HN1 := Lib.hid hN1
  obtain ⟨ga', gc', hge, hgc, hgr, -⟩ := HNg.out
  simp only [Value.slice.injEq] at hge
  obtain ⟨rfl, -, rfl⟩ := hge
  obtain ⟨b', d', hbe, hbc, hbr, -⟩ := HY2.out
  simp only [Value.slice.injEq] at hbe
  obtain ⟨rfl, -, rfl⟩ := hbe
  have HD2 := Lib.hid (divMod_any (c := e) (hbr.below hB3) (limbs_len d) (limbs_lim d) (limbs_val d) (hgr.below hB3) (limbs_len g) hgc (limbs_lim g) (limbs_val g) HG0.out HYs.out HGs.out)
  have HB3 := Lib.hid (HB2.out.trans (hB3.mono HB2.out.size))
  clear hN1 hgc hgr hbc hbr hB3 HD1
  go_wp2_with fail
  refine HD2.out.mono ?_
  rintro e1 w4 ⟨v3, v4, rfl, hN3, -, hB4⟩
  have HN3 := Lib.hid (hN3.mono (show w.heap.size + 1 ≤ w3.heap.size by have := HB3.out.size; have := HSz1.out; omega))
  have HN4 := Lib.hid ((HN1.out.mono (show w.heap.size + 1 ≤ w2.heap.size by have := HB2.out.size; have := HSz1.out; omega)).below hB4)
  have HB4 := Lib.hid (HB3.out.trans (hB4.mono HB3.out.size))
  have k4 := HK1.out.below HB4.out HK1.out.lt
  have HK4 := Lib.hid k4
  have f0 := k4.frozen 0
  have f1 := k4.frozen 1
  have f2 := k4.frozen 2
  have e0 := k4.cell 0
  have e1 := k4.cell 1
  have e2 := k4.cell 2
  obtain ⟨na, nc, hne, -⟩ := HN1.out
  subst hne
  obtain ⟨q, hq⟩ : ∃ q, lowQ neg n d = q := ⟨_, rfl⟩
  rw [hq] at HZ1 HZ2 HZ3
  have HQe := Lib.hid hq
  have HNq : RefNew (w.heap.size + 1) w4 (.agg #[.bool (negQ q), .slice na (szN (n / g)) nc, v3]) q :=
    ⟨_, _, rfl, by rw [HZ1.out]; exact HN4.out, by rw [HZ2.out]; exact HN3.out⟩
  have HNQ := Lib.hid (res_ref HK4.out rfl (Nat.le_refl _) (HB1.out.trans (HB4.out.mono HB1.out.size)) HNq)
  have HN3v := Lib.hid hN3
  obtain ⟨nb, nd, hnb, -⟩ := hN3
  subst hnb
  obtain ⟨s, hs⟩ : ∃ s, szN (n / g) = s := ⟨_, rfl⟩
  rw [hs] at HZ3 HNQ ⊢
  rw [HZ3.out] at HNQ
  obtain ⟨s2, hs2⟩ : ∃ s2, szN (d / g) = s2 := ⟨_, rfl⟩
  rw [hs2] at HNQ ⊢
  clear HNq hB4 HN1 HN3 HN4 HN3v HD2 hs hs2 hq HZ3
  by_cases hs0 : 0 < s
  · have hs0I : (0 : Int) < (s : Int) := by omega
    rw [decide_eq_true hs0, Bool.and_true] at HNQ
    have hsd : decide (0 < s) = true := decide_eq_true hs0
    clear hs0
    cases neg
    all_goals
      go_wp2
      exact bodyPost_ret (r_c rfl rfl (aggRef.load rfl HNQ.out.1)) rfl ⟨_, rfl, by rw [HQe.out]; exact HNQ.out.2.1, HNQ.out.2.2⟩
  · obtain rfl : s = 0 := by omega
    rw [decide_eq_false hs0, Bool.and_false] at HNQ
    clear hs0
    cases neg
    all_goals
      go_wp2
      exact bodyPost_ret (r_c rfl rfl (aggRef.load rfl HNQ.out.1)) rfl ⟨_, rfl, by rw [HQe.out]; exact HNQ.out.2.1, HNQ.out.2.2⟩
end Go.Proofs.YtjcpfmndkeiegaaGreatDoor.Rf
namespace Go.Proofs.YtjcpfmndkeiegaaGreatDoor.Rf
open Go.RowKit Go.Proofs.YtjcpfmndkeiegaaGreatDoor
set_option linter.unusedVariables false

theorem limbs_at (x : Nat) : ∀ i, (limbs x).getD i 0 = x / 10000 ^ i % 10000 := by
  induction x using Nat.strongRecOn with
  | _ x ih =>
    intro i
    by_cases h : x = 0
    · subst h; rw [limbs_zero]; simp
    · rw [limbs_pos h]
      cases i with
      | zero => simp
      | succ i =>
        have := ih (x / 10000) (by omega) i
        rw [List.getD_cons_succ, this, Nat.div_div_eq_div_mul, Nat.pow_succ, Nat.mul_comm 10000]
/-- A number, its digits from some place on, and those below. -/
def TxS (x t : Nat) (S : List UInt8) : Prop := decS x = decS (x / 10 ^ t) ++ S
theorem txS_zero (x : Nat) : TxS x 0 [] := by unfold TxS; simp
theorem txS_next {x t : Nat} {S : List UInt8} (h : TxS x t S) (hne : x / 10 ^ t ≠ 0) : TxS x (t + 1) (UInt8.ofNat (48 + x / 10 ^ t % 10) :: S) := by
  unfold TxS at *
  rw [h, decS_pos hne, Nat.pow_succ, Nat.div_div_eq_div_mul, List.append_assoc]
  rfl
theorem txS_end {x t : Nat} {S : List UInt8} (h : TxS x t S) (h0 : x / 10 ^ t = 0) : decS x = S := by
  unfold TxS at h
  rw [h, h0, decS_zero]; rfl
theorem pow4 (i : Nat) : 10000 ^ i = 10 ^ (4 * i) := by rw [Nat.pow_mul]
/-- The digits of one group. -/
theorem grp_dig {x i k : Nat} (hk : k < 4) : x / 10000 ^ i % 10000 / 10 ^ k % 10 = x / 10 ^ (4 * i + k) % 10 := by
  rw [pow4, Nat.pow_add, ← Nat.div_div_eq_div_mul]
  generalize x / 10 ^ (4 * i) = y
  match k, hk with
  | 0, _ => omega
  | 1, _ => omega
  | 2, _ => omega
  | 3, _ => omega
theorem grp_next (a k : Nat) : a / 10 ^ k / 10 = a / 10 ^ (k + 1) := by rw [Nat.pow_succ, Nat.div_div_eq_div_mul]
/-- The highest group. -/
theorem grp_top {x i k : Nat} (h : szN x ≤ i + 1) : x / 10000 ^ i % 10000 / 10 ^ k = x / 10 ^ (4 * i + k) := by
  have h1 : x / 10000 ^ i < 10000 := by
    have h2 := szN_lt x
    have h3 : 10000 ^ szN x ≤ 10000 ^ (i + 1) := Nat.pow_le_pow_right (by decide) h
    rw [Nat.pow_succ] at h3
    rw [Nat.div_lt_iff_lt_mul (Nat.pow_pos (by decide))]
    rw [Nat.mul_comm]; omega
  rw [Nat.mod_eq_of_lt h1, pow4, Nat.div_div_eq_div_mul, ← Nat.pow_add]
/-- Below the highest group a digit stands ahead. -/
theorem grp_mid {x i k : Nat} (h : i + 1 < szN x) (hk : k ≤ 4) : x / 10 ^ (4 * i + k) ≠ 0 := by
  have h0 : x ≠ 0 := by intro e; subst e; rw [szN_zero] at h; omega
  have h1 := szN_ge h0
  have h2 : 10 ^ (4 * i + k) ≤ 10000 ^ (szN x - 1) := by
    rw [pow4]
    exact Nat.pow_le_pow_right (by decide) (by omega)
  intro e
  rw [Nat.div_eq_zero_iff] at e
  rcases e with e | e
  · have := Nat.pow_pos (n := 4 * i + k) (show 0 < 10 by decide); omega
  · omega
theorem str_cons (e : Nat) (S : List UInt8) : Value.string (({ data := #[48 + UInt8.ofNat e] } : ByteArray) ++ { data := S.toArray }) = str (UInt8.ofNat (48 + e) :: S) := by
  refine congrArg Value.string (ByteArray.ext ?_)
  simp [UInt8.ofNat_add]
/-- The outer loop of Text. -/
def TextO (x n : Nat) (w : World) (s p : Value) (W : World) : Prop :=
  ∃ (i : Nat) (S : List UInt8), p = .int .i64 (i : Nat) ∧ s = str S ∧ i ≤ n ∧ S.length ≤ 4 * i ∧ (i < n → TxS x (4 * i) S) ∧ (i = n → decS x = S) ∧ Below w.heap.size w W
/-- The inner loop of Text. -/
def TextI (x i a : Nat) (w : World) (s v p : Value) (W : World) : Prop :=
  ∃ (k : Nat) (S : List UInt8), p = .int .i64 (k : Nat) ∧ s = str S ∧ v = .int .i64 ((a / 10 ^ k : Nat) : Int) ∧ k ≤ 4 ∧ S.length ≤ 4 * i + k ∧ TxS x (4 * i + k) S ∧ Below w.heap.size w W
set_option maxRecDepth 100000 in
set_option maxHeartbeats 8000000 in
theorem text_any {w : World} {va : Value} {x : Nat} (hx : DgAt w va x) (hxs : szN x ≤ 1000000) :
    Calls Tryz.prog 73 #[va] w fun e w' => e = .returned (str (textN x)) ∧ Below w.heap.size w w' := by
  obtain ⟨a, c, rfl, hc, har, -⟩ := hx
  have HT := Lib.hid (trim_any har (limbs_len x) hc (limbs_lim x) (by omega))
  rw [limbs_val] at HT
  by_cases h0 : x = 0
  · subst h0
    rw [szN_zero] at HT ⊢
    clear har hc hxs
    go_enter Tryz.func73, Tryz.ntmps73
    go_wp2_with fail
    refine HT.out.mono ?_
    rintro e w2 ⟨rfl, rfl⟩
    go_wp2
    go_ret
    exact ⟨rfl, Below.refl _ _⟩
  · have hp := szN_pos h0
    have HTx := Lib.hid (show textN x = decS x by unfold textN; rw [if_neg h0])
    rw [HTx.out]
    obtain ⟨n, hn⟩ : ∃ n, szN x = n := ⟨_, rfl⟩
    rw [hn] at HT hp hxs hc ⊢
    have HN := Lib.hid hn
    have HR := Lib.hid har
    have hnI : (0 : Int) < (n : Int) := by omega
    have hne : ((n : Int) == 0) = false := beq_eq_false_iff_ne.2 (by omega)
    have H0 := Lib.hid (show TextO x n w (str []) (.int .i64 0) w from ⟨0, [], rfl, rfl, Nat.zero_le _, by simp, fun _ => txS_zero x, fun h => by omega, Below.refl _ _⟩)
    have hnb : (n : Int) ≤ 1000000 := by omega
    clear har hn h0
    go_enter Tryz.func73, Tryz.ntmps73
    go_wp2_with fail
    refine HT.out.mono ?_
    rintro e w2 ⟨rfl, rfl⟩
    clear HT
    go_wp2
    go_loopw [3, 4] (fun s p W => TextO x n w s p W) (fun s p W => n - (intOf p).toNat)
    case atStart => exact H0.out
    case round =>
      obtain ⟨i, S, rfl, rfl, hi, hSl, hS1, hS2, hB⟩ := hrel
      have HB := Lib.hid hB
      have HS1 := Lib.hid hS1
      have HS2 := Lib.hid hS2
      clear hB hS1 hS2
      by_cases hlt : i < n
      · obtain ⟨u, rfl, hub, huc⟩ := (HR.out.below HB.out).at (i := i) (by rw [limbs_len, HN.out]; exact hlt)
        rw [limbs_at] at huc
        obtain ⟨av, hav⟩ : ∃ av, x / 10000 ^ i % 10000 = av := ⟨_, rfl⟩
        have hab : av < 10000 := by rw [← hav]; exact Nat.mod_lt _ (by decide)
        rw [hav] at huc
        have HA := Lib.hid hav
        have HI := Lib.hid (show TextI x i av w (str S) (.int .i64 (av : Int)) (.int .i64 0) wr from ⟨0, S, rfl, rfl, by simp, by omega, by omega, HS1.out hlt, HB.out⟩)
        have haI : (av : Int) ≤ 9999 := by omega
        have hiI : (i : Int) < (n : Int) := by omega
        clear hub hav
        go_wp2
        go_loopw [3, 5, 6] (fun s v p W => TextI x i av w s v p W) (fun s v p W => 4 - (intOf p).toNat)
        case atStart => exact HI.out
        case round =>
          obtain ⟨k, S2, rfl, rfl, rfl, hk, hSl2, hS, hB2⟩ := hrel
          have HB2 := Lib.hid hB2
          have HS := Lib.hid hS
          clear hB2 hS
          by_cases hgo : k < 4 ∧ (i + 1 < n ∨ 0 < av / 10 ^ k)
          · obtain ⟨hk4, hgo⟩ := hgo
            obtain ⟨v, hv⟩ : ∃ v, av / 10 ^ k = v := ⟨_, rfl⟩
            have hvb : v ≤ 9999 := by rw [← hv]; exact Nat.le_trans (Nat.div_le_self _ _) (by omega)
            have HV := Lib.hid hv
            rw [hv] at hgo ⊢
            obtain ⟨e, he⟩ : ∃ e, v % 10 = e := ⟨_, rfl⟩
            have heI : (v : Int) % 10 = (e : Int) := by omega
            have he9 : (e : Int) ≤ 9 := by omega
            have hvI : (v : Int) ≤ 9999 := by omega
            have HE := Lib.hid he
            have hcv : (convert 145 9 (.slice (some ⟨wr.heap.size, 0, none⟩) 1 1)).run Tryz.prog (wr.alloc (.cells #[.int .u8 (48 + (e : Int))] 5)) = .ok (str [UInt8.ofNat (48 + e)]) (wr.alloc (.cells #[.int .u8 (48 + (e : Int))] 5)) := by
              refine run_convert_bytes_back (wr.alloc (.cells #[.int .u8 (48 + (e : Int))] 5)) 145 9 5 ⟨wr.heap.size, 0, none⟩ 1 [UInt8.ofNat (48 + e)] Tryz.underlying145 Tryz.underlying5 Tryz.underlying9 ?_
              intro j hj
              obtain rfl : j = 0 := by simpa using hj
              have := (BlkAt.new wr 5 #[.int .u8 (48 + (e : Int))]).cell 0
              simp only [Addr.add]
              rw [show (48 + (e : Int)) = (((UInt8.ofNat (48 + e)).toNat : Nat) : Int) by rw [UInt8.toNat_ofNat']; omega] at *
              simp
            have hk4I : (k : Int) < 4 := by omega
            have hSz : S2.length ≤ 4000004 := by omega
            clear hv he
            rcases hgo with hgo | hgo
            · have hgI : (i : Int) + 1 < (n : Int) := by omega
              have HNe := Lib.hid (show x / 10 ^ (4 * i + k) ≠ 0 from grp_mid (by rw [HN.out]; exact hgo) hk)
              clear hgo
              go_wp2
              refine ⟨⟨k + 1, _ :: S2, by go_num, str_cons e S2, congrArg (Value.int .i64) (by rw [← grp_next, HV.out]; omega), by omega, by simp; omega, ?_, HB2.out.alloc HB2.out.size _⟩, by simp only [intOf]; omega⟩
              have := txS_next HS.out HNe.out
              rw [← grp_dig hk4, HA.out, HV.out, HE.out] at this
              exact this
            · by_cases hmid : i + 1 < n
              · have hgI : (i : Int) + 1 < (n : Int) := by omega
                have HNe := Lib.hid (show x / 10 ^ (4 * i + k) ≠ 0 from grp_mid (by rw [HN.out]; exact hmid) hk)
                clear hgo hmid
                go_wp2
                refine ⟨⟨k + 1, _ :: S2, by go_num, str_cons e S2, congrArg (Value.int .i64) (by rw [← grp_next, HV.out]; omega), by omega, by simp; omega, ?_, HB2.out.alloc HB2.out.size _⟩, by simp only [intOf]; omega⟩
                have := txS_next HS.out HNe.out
                rw [← grp_dig hk4, HA.out, HV.out, HE.out] at this
                exact this
              · have hgI : (n : Int) ≤ (i : Int) + 1 := by omega
                have hvI0 : (0 : Int) < (v : Int) := by omega
                have HNe := Lib.hid (show x / 10 ^ (4 * i + k) ≠ 0 by rw [← grp_top (by rw [HN.out]; omega), HA.out, HV.out]; omega)
                clear hgo hmid
                go_wp2
                refine ⟨⟨k + 1, _ :: S2, by go_num, str_cons e S2, congrArg (Value.int .i64) (by rw [← grp_next, HV.out]; omega), by omega, by simp; omega, ?_, HB2.out.alloc HB2.out.size _⟩, by simp only [intOf]; omega⟩
                have := txS_next HS.out HNe.out
                rw [← grp_dig hk4, HA.out, HV.out, HE.out] at this
                exact this
          · by_cases hk4 : k < 4
            · have hni : n ≤ i + 1 := Nat.le_of_not_lt fun h => hgo ⟨hk4, .inl h⟩
              have hv0 : av / 10 ^ k = 0 := Nat.eq_zero_of_not_pos fun h => hgo ⟨hk4, .inr h⟩
              rw [hv0]
              have HE := Lib.hid (show decS x = S2 from txS_end HS.out (by rw [← grp_top (by rw [HN.out]; exact hni), HA.out, hv0]))
              have hk4I : (k : Int) < 4 := by omega
              have hniI : (n : Int) ≤ (i : Int) + 1 := by omega
              clear hgo hv0
              go_wp2
              exact ⟨⟨i + 1, S2, by go_num, rfl, by omega, by omega, fun h => by omega, fun _ => HE.out, HB2.out⟩, by simp only [intOf]; omega⟩
            · obtain rfl : k = 4 := by omega
              have hk4I : (4 : Int) ≤ ((4 : Nat) : Int) := by omega
              have HE := Lib.hid (show i + 1 = n → decS x = S2 from fun h => txS_end HS.out (by rw [← grp_top (by rw [HN.out]; omega), HA.out]; omega))
              obtain ⟨v, hv⟩ : ∃ v, av / 10 ^ 4 = v := ⟨_, rfl⟩
              rw [hv]
              clear hgo hv
              go_wp2
              exact ⟨⟨i + 1, S2, by go_num, rfl, by omega, by omega, fun _ => by have := HS.out; rwa [show 4 * i + 4 = 4 * (i + 1) by omega] at this, HE.out, HB2.out⟩, by simp only [intOf]; omega⟩
      · obtain rfl : i = n := by omega
        have HE := Lib.hid (HS2.out rfl)
        go_wp2
        go_ret
        exact ⟨by rw [HE.out]; rfl, HB.out⟩
end Go.Proofs.YtjcpfmndkeiegaaGreatDoor.Rf
namespace Go.Proofs.YtjcpfmndkeiegaaGreatDoor.Rf
open Go.RowKit Go.Proofs.YtjcpfmndkeiegaaGreatDoor
set_option linter.unusedVariables false

theorem numV_app (a b : List UInt8) : numV (a ++ b) = numV a * 10 ^ b.length + numV b := by
  refine snoc_ind (P := fun b => numV (a ++ b) = numV a * 10 ^ b.length + numV b) ?_ ?_ b
  · simp [numV]
  · intro l c ih
    rw [← List.append_assoc, numV_snoc, ih, numV_snoc, List.length_append, List.length_singleton, Nat.pow_succ]
    generalize 10 ^ l.length = P
    grind
theorem all_drop {l : List UInt8} (h : l.all isDig = true) (a b : Nat) : ((l.take b).drop a).all isDig = true := by
  rw [List.all_eq_true] at *
  exact fun x hx => h x (List.mem_of_mem_take (List.mem_of_mem_drop hx))
/-- The digits of one group, so far. -/
def grpV (l : List UInt8) (a b : Nat) : Nat := numV ((l.take b).drop a)
theorem grpV_self (l : List UInt8) (a : Nat) : grpV l a a = 0 := by
  unfold grpV; rw [List.drop_of_length_le (by rw [List.length_take]; omega)]; rfl
theorem grpV_next {l : List UInt8} {a k : Nat} (hk : k < l.length) (ha : a ≤ k) : grpV l a (k + 1) = grpV l a k * 10 + (l[k].toNat - 48) := by
  unfold grpV
  rw [List.take_succ_eq_append_getElem hk, List.drop_append_of_le_length (by rw [List.length_take]; omega), numV_snoc]
theorem grpV_lt {l : List UInt8} (h : l.all isDig = true) {a b : Nat} (hb : b ≤ a + 4) : grpV l a b < 10000 := by
  have h1 := numV_lt _ (all_drop h a b)
  have h2 : ((l.take b).drop a).length ≤ 4 := by rw [List.length_drop, List.length_take]; omega
  exact Nat.lt_of_lt_of_le h1 (Nat.pow_le_pow_right (by decide) h2)
theorem grpV_take {l : List UInt8} {a b : Nat} (hab : a ≤ b) (hb : b ≤ l.length) : numV (l.take b) = numV (l.take a) * 10 ^ (b - a) + grpV l a b := by
  have e : l.take b = l.take a ++ (l.take b).drop a := by
    conv => lhs; rw [← List.take_append_drop a (l.take b), List.take_take, Nat.min_eq_left hab]
  have := numV_app (l.take a) ((l.take b).drop a)
  rw [← e, List.length_drop, List.length_take, Nat.min_eq_left hb] at this
  exact this
theorem code_ne {l : List UInt8} (h : numT l = false) : parseC l = 3 ∧ parseV l = 0 := by
  have h1 : parseC l = 3 := by unfold parseC; rw [h]; rfl
  exact ⟨h1, by unfold parseV; rw [h1]; rfl⟩
theorem code_long {l : List UInt8} (h : numT l = true) (hl : 1200 < l.length) : parseC l = 2 ∧ parseV l = 0 := by
  have h1 : parseC l = 2 := by unfold parseC; rw [if_pos h, if_pos hl]
  exact ⟨h1, by unfold parseV; rw [h1]; rfl⟩
theorem code_ok {l : List UInt8} (h : numT l = true) (hl : l.length ≤ 1200) : parseC l = 0 ∧ parseV l = numV l := by
  have h1 : parseC l = 0 := by unfold parseC; rw [if_pos h, if_neg (by omega)]
  exact ⟨h1, by unfold parseV; rw [if_pos h1]⟩
theorem DgNew.zero (B : Nat) (w : World) : DgNew B w (.slice none 0 0) 0 :=
  ⟨none, 0, by rw [szN_zero], by rw [szN_zero]; omega, by rw [limbs_zero]; exact RdD.nil _ _, (fun x e => by cases e), fun _ => rfl⟩
/-- The loop over the groups. -/
def ParO (l : List UInt8) (w : World) (v p : Value) (W : World) : Prop :=
  ∃ (z : Int) (D : List Nat), p = .int .i64 z ∧ z ≤ l.length ∧ -4 ≤ z ∧ Lim D ∧ D.length ≤ l.length ∧ (0 < z → D.length + z.toNat ≤ l.length) ∧ Hid (valL D + 10000 ^ D.length * numV (l.take z.toNat) = numV l) ∧ OwnD W w.heap.size v D ∧ Below w.heap.size w W
/-- The loop over one group's digits. -/
def ParI (l : List UInt8) (P E : Nat) (v p : Value) : Prop := ∃ k : Nat, p = .int .i64 (k : Nat) ∧ v = .int .i64 (grpV l P k : Nat) ∧ P ≤ k ∧ k ≤ E
theorem par_step {D : List Nat} {T E P g : Nat} {l : List UInt8} (h : valL D + 10000 ^ D.length * numV (l.take E) = T) (hE : E ≤ l.length) (hP : P = E - 4) (hg : grpV l P E = g) :
    valL (D ++ [g]) + 10000 ^ (D ++ [g]).length * numV (l.take P) = T := by
  have h1 := grpV_take (l := l) (a := P) (b := E) (by omega) hE
  rw [hg] at h1
  rw [valL_snoc, List.length_append, List.length_singleton, Nat.pow_succ, ← h]
  by_cases h4 : 4 ≤ E
  · rw [show E - P = 4 by omega] at h1
    rw [h1]
    generalize 10000 ^ D.length = Q
    generalize numV (l.take P) = y
    grind
  · have hp0 : P = 0 := by omega
    subst hp0
    have h0 : numV (l.take 0) = 0 := by simp [numV]
    rw [h0] at h1 ⊢
    rw [h1]
    generalize 10000 ^ D.length = Q
    grind
set_option maxRecDepth 100000 in
set_option maxHeartbeats 16000000 in
theorem parse_any (s : ByteArray) (hs : s.size ≤ 1000000) (w : World) :
    Calls Tryz.prog 22 #[.string s] w fun e w' => ∃ v, e = .returned (.tuple #[v, .int .i64 (parseC s.data.toList : Nat)]) ∧ DgNew w.heap.size w' v (parseV s.data.toList) ∧ Below w.heap.size w w' := by
  by_cases h0 : s.size = 0
  · obtain rfl : s = ⟨#[]⟩ := by obtain ⟨⟨x⟩⟩ := s; simp [ByteArray.size] at h0; rw [h0]
    clear h0
    obtain ⟨e1, e2⟩ := code_ne (l := []) (by decide)
    rw [show (⟨#[]⟩ : ByteArray).data.toList = [] from rfl, e1, e2]
    have HZ := Lib.hid (DgNew.zero w.heap.size w)
    clear e1 e2
    go_enter Tryz.func22, Tryz.ntmps22
    go_wp2
    go_ret2
    exact ⟨_, rfl, HZ.out, Below.refl _ _⟩
  have h1 : 0 < s.size := by omega
  have hem : s.toList.isEmpty = false := by
    rw [ByteArray.toList_eq]
    obtain ⟨⟨x⟩⟩ := s
    cases x with
    | nil => simp [ByteArray.size] at h1
    | cons c t => rfl
  have hem2 : (s.toList == []) = false := by
    rw [ByteArray.toList_eq]
    obtain ⟨⟨x⟩⟩ := s
    cases x with
    | nil => simp [ByteArray.size] at h1
    | cons c t => rfl
  have hL : s.data.toList.length = s.size := by simp
  have hhd : s.data.toList.head? = some s[0] := by
    obtain ⟨⟨x⟩⟩ := s
    cases x with
    | nil => simp [ByteArray.size] at h1
    | cons c t => rfl
  by_cases h48 : s[0].toNat = 48 ∧ 1 < s.size
  · obtain ⟨ha, hb⟩ := h48
    obtain ⟨e1, e2⟩ := code_ne (l := s.data.toList) (by
      unfold numT
      have h2 : decide (s.data.toList.head? ≠ some 48) = false := by
        rw [hhd]; simp; exact UInt8.toNat_inj.1 (by simpa using ha)
      have h3 : decide (s.data.toList = [48]) = false := decide_eq_false (fun e => by rw [e] at hL; simp at hL; omega)
      rw [h2, h3]; simp)
    rw [e1, e2]
    have HZ := Lib.hid (DgNew.zero w.heap.size w)
    have hz : ((s[0].toNat : Int) == 48) = true := beq_iff_eq.2 (by omega)
    have hbI : (1 : Int) < (s.size : Int) := by omega
    clear e1 e2 h0 hL hhd ha hb
    go_enter Tryz.func22, Tryz.ntmps22
    go_wp2
    go_ret2
    exact ⟨_, rfl, HZ.out, Below.refl _ _⟩
  have HNt := Lib.hid (show s.data.toList.all isDig = true → numT s.data.toList = true from fun hall => by
    unfold numT
    rw [hall, Bool.true_and]
    by_cases hh : s[0].toNat = 48
    · have h2 : s.size = 1 := by omega
      have : s.data.toList = [48] := by
        obtain ⟨⟨x⟩⟩ := s
        match x, h2 with
        | [c], _ =>
          show [c] = [48]
          have : c = 48 := UInt8.toNat_inj.1 (show c.toNat = (48 : UInt8).toNat from hh)
          rw [this]
      simp [this]
    · have h2 : decide (s.data.toList ≠ []) = true := by
        rw [decide_eq_true_iff]; intro e; rw [e] at hL; simp at hL; omega
      have h3 : decide (s.data.toList.head? ≠ some 48) = true := by
        rw [decide_eq_true_iff, hhd]; intro e; apply hh; rw [Option.some.inj e]; rfl
      rw [h2, h3]; simp)
  have HGet := Lib.hid (show ∀ k (h : k < s.size), s.data.toList[k]? = some s[k] from fun k h => by rw [List.getElem?_eq_getElem (by simpa using h)]; rfl)
  have HLl := Lib.hid hL
  have HW0 := Lib.hid (show Below w.heap.size w w from Below.refl _ _)
  have hpre : ((s[0].toNat : Int) == 48) = false ∨ (((s[0].toNat : Int) == 48) = true ∧ (s.size : Int) ≤ 1) := by
    by_cases hh : s[0].toNat = 48
    · exact .inr ⟨beq_iff_eq.2 (by omega), by omega⟩
    · exact .inl (beq_eq_false_iff_ne.2 (by omega))
  clear h0 h48 hhd hL
  rcases hpre with hp1 | ⟨hp1, hp2⟩
  all_goals
    go_enter Tryz.func22, Tryz.ntmps22
    go_wp2
    clear hp1 hem hem2
    try clear hp2
    go_loopw [5] (fun p W => ∃ k : Nat, p = .int .i64 k ∧ k ≤ s.size ∧ Hid ((s.data.toList.take k).all isDig = true) ∧ Below w.heap.size w W) (fun p W => s.size - (intOf p).toNat)
    case atStart => exact ⟨0, rfl, Nat.zero_le _, Lib.hid (by simp), Below.refl _ _⟩
    case round =>
      obtain ⟨k, rfl, hk, HA, hB⟩ := hrel
      have HB := Lib.hid hB
      clear hB
      by_cases hlt : k < s.size
      · by_cases hd : isDig s[k] = true
        · have hd2 : 48 ≤ s[k].toNat ∧ s[k].toNat ≤ 57 := by simpa [isDig] using hd
          have HN := Lib.hid (show (s.data.toList.take (k + 1)).all isDig = true by
            rw [List.take_add_one, List.all_append, HA.out, HGet.out k hlt]; simpa using hd)
          have h1 : (48 : Int) ≤ (s[k].toNat : Int) := by omega
          have h2 : (s[k].toNat : Int) ≤ 57 := by omega
          clear hd hd2
          go_wp2
          exact ⟨⟨k + 1, by go_num, by omega, HN, HB.out⟩, by simp only [intOf]; omega⟩
        · obtain ⟨e1, e2⟩ := code_ne (numT_not (HGet.out k hlt) (by simpa using hd))
          have E1 := Lib.hid e1
          have HZ := Lib.hid (show DgNew w.heap.size wr (.slice none 0 0) (parseV s.data.toList) by rw [e2]; exact DgNew.zero _ _)
          have hd2 : ¬ (48 ≤ s[k].toNat ∧ s[k].toNat ≤ 57) := by simpa [isDig] using hd
          clear hd e1 e2
          by_cases h1 : s[k].toNat < 48
          · have h2 : (s[k].toNat : Int) < 48 := by omega
            clear hd2 h1
            go_wp2
            go_ret2
            exact ⟨_, by rw [E1.out]; rfl, HZ.out, HB.out⟩
          · have h2 : (48 : Int) ≤ (s[k].toNat : Int) := by omega
            have h3 : (57 : Int) < (s[k].toNat : Int) := by omega
            clear hd2 h1
            go_wp2
            go_ret2
            exact ⟨_, by rw [E1.out]; rfl, HZ.out, HB.out⟩
      · obtain rfl : k = s.size := by omega
        have hall : s.data.toList.all isDig = true := by
          have := HA.out
          rwa [List.take_of_length_le (by simp)] at this
        have hnt := HNt.out hall
        have HAll := Lib.hid hall
        clear hall HA
        by_cases hlong : 1200 < s.size
        · obtain ⟨e1, e2⟩ := code_long hnt (by rw [HLl.out]; exact hlong)
          have E1 := Lib.hid e1
          have HZ := Lib.hid (show DgNew w.heap.size wr (.slice none 0 0) (parseV s.data.toList) by rw [e2]; exact DgNew.zero _ _)
          have hlI : (1200 : Int) < (s.size : Int) := by omega
          clear e1 e2 hnt
          go_wp2
          go_ret2
          exact ⟨_, by rw [E1.out]; rfl, HZ.out, HB.out⟩
        · obtain ⟨e1, e2⟩ := code_ok hnt (by rw [HLl.out]; omega)
          have E1 := Lib.hid e1
          have E2 := Lib.hid e2
          have hlI : (s.size : Int) ≤ 1200 := by omega
          have HI := Lib.hid (show ParO s.data.toList w (.slice none 0 0) (.int .i64 (s.size : Int)) wr from ⟨_, [], rfl, by rw [HLl.out]; exact Int.le_refl _, by omega, Lim.nil, Nat.zero_le _, fun _ => by rw [HLl.out]; simp, Lib.hid (by rw [show ((s.size : Int)).toNat = s.size by omega, List.take_of_length_le (by rw [HLl.out]; exact Nat.le_refl _)]; simp [valL]), OwnD.nil _ _, HB.out⟩)
          clear e1 e2 hnt
          go_wp2
          go_loopw [4, 6] (fun v p W => ParO s.data.toList w v p W) (fun v p W => (intOf p).toNat)
          case atStart => exact HI.out
          case round =>
            obtain ⟨z, D, rfl, hz1, hz2, hD, hDl, hDz, hv, ho, hBl⟩ := hrel
            rw [HLl.out] at hz1 hDl hDz
            have HBl := Lib.hid hBl
            have HO := Lib.hid ho
            have hol := ho
            unfold OwnD at hol
            obtain ⟨va, vc, rfl⟩ := ownsRow_slice' hol
            have HOl := Lib.hid hol
            by_cases hz : 0 < z
            · obtain ⟨E, rfl⟩ : ∃ E : Nat, z = E := ⟨z.toNat, by omega⟩
              rw [Int.toNat_natCast] at hv hDz
              obtain ⟨P, hP⟩ : ∃ P, E - 4 = P := ⟨_, rfl⟩
              have hmx : max ((E : Int) - 4) 0 = (P : Int) := by omega
              have HP := Lib.hid hP
              have HV := Lib.hid hv.out
              have HDz := Lib.hid (hDz hz)
              have HD := Lib.hid hD
              have hPE : P ≤ E := by omega
              have hP4 : E ≤ P + 4 := by omega
              have hEl : E ≤ s.size := by omega
              have hcase : (4 < (E : Int) ∧ (E : Int) - 4 = (P : Int) ∧ 0 < (P : Int)) ∨ ((E : Int) < 4 ∧ P = 0) ∨ (E = 4 ∧ P = 0) := by omega
              clear hP hv hDz hD ho hol hBl hmx
              rcases hcase with ⟨hc1, hc2, hc3⟩ | ⟨hc1, rfl⟩ | ⟨rfl, rfl⟩
              · have HC2 := Lib.hid hc2
                go_wp2
                all_goals
                  go_loop [7, 8] (fun v p => ParI s.data.toList P E v p) (fun v p => E - (intOf p).toNat)
                  case atStart => exact ⟨P, rfl, by rw [grpV_self]; rfl, Nat.le_refl _, by omega⟩
                  case round =>
                    obtain ⟨k, rfl, rfl, hk1, hk2⟩ := hrel
                    by_cases hlt : k < E
                    · have hks : k < s.size := by omega
                      have hdg := HAll.out
                      rw [List.all_eq_true] at hdg
                      have hd := hdg s[k] (by rw [List.mem_iff_getElem?]; exact ⟨k, HGet.out k hks⟩)
                      have hd2 : 48 ≤ s[k].toNat ∧ s[k].toNat ≤ 57 := by simpa [isDig] using hd
                      have hge : s.data.toList[k]'(by simpa using hks) = s[k] := by
                        have := HGet.out k hks
                        rw [List.getElem?_eq_getElem (by simpa using hks)] at this
                        exact Option.some.inj this
                      have hnx := grpV_next (l := s.data.toList) (a := P) (k := k) (by simpa using hks) hk1
                      rw [hge] at hnx
                      have hgl := grpV_lt HAll.out (a := P) (b := k) (by omega)
                      have HNx := Lib.hid hnx
                      obtain ⟨g, hg⟩ : ∃ g, grpV s.data.toList P k = g := ⟨_, rfl⟩
                      rw [hg] at hgl HNx ⊢
                      have hgI : (g : Int) ≤ 9999 := by omega
                      have h1 : (48 : Int) ≤ (s[k].toNat : Int) := by omega
                      have h2 : (s[k].toNat : Int) ≤ 57 := by omega
                      have hkI : (k : Int) < (E : Int) := by omega
                      have hksI : (k : Int) < (s.size : Int) := by omega
                      clear hdg hd hge hnx hg hgl
                      go_wp2
                      exact ⟨⟨k + 1, by go_num, congrArg (Value.int .i64) (by rw [HNx.out]; omega), by omega, by omega⟩, by simp only [intOf]; omega⟩
                    · have hgl := grpV_lt HAll.out (a := P) (b := k) (by omega)
                      have hkE : k = E := by omega
                      obtain ⟨g, hg⟩ : ∃ g, grpV s.data.toList P k = g := ⟨_, rfl⟩
                      have HSt := Lib.hid (par_step (P := P) (E := E) (g := g) HV.out (by rw [HLl.out]; omega) (by omega) (by rw [← hkE]; exact hg))
                      rw [hg] at hgl ⊢
                      have HDn := Lib.hid (HD.out.append (Lim.cons hgl Lim.nil))
                      have hEk : (E : Int) ≤ (k : Int) := by omega
                      have HBy := Lib.hid (show (D.length + 1) * 8 ≤ 140737488355328 by omega)
                      clear hg hgl hkE
                      go_wp2_with (at_builtin; refine wpList_app _ rfl _ _ _ _ _ _ slD rfl w.heap.size w (HBl.out.alloc HBl.out.size _) (by have := HBl.out.size; rw [World.size_alloc]; omega) _ _ _ rfl (HOl.out.alloc _) ⟨wr.heap.size, 0, none⟩ #[.int .i64 (g : Int)].toList rfl rfl (news_blk (BlkAt.new wr 3 #[.int .i64 (g : Int)])) (by intro u hu; simp at hu; subst hu; rfl) HBy.out ?_; intro v6 w6 ho6 hB6 hb6 hg6)
                      all_goals
                        have ho7 : OwnD w6 w.heap.size v6 (D ++ [g]) := by unfold OwnD; rw [List.length_append, List.map_append]; exact ho6
                        refine ⟨⟨_, D ++ [g], rfl, by rw [HLl.out]; omega, by omega, HDn.out, by rw [HLl.out, List.length_append]; have := HDz.out; simp; omega, fun h => by rw [HLl.out, List.length_append]; have := HDz.out; simp; omega, Lib.hid (by have := HSt.out; first | rwa [Int.toNat_natCast] | rwa [show ((E : Int) - 4).toNat = P by have := HC2.out; omega]), ho7, hB6⟩, by simp only [intOf]; omega⟩
              · go_wp2
                all_goals
                  go_loop [7, 8] (fun v p => ParI s.data.toList 0 E v p) (fun v p => E - (intOf p).toNat)
                  case atStart => exact ⟨0, rfl, by rw [grpV_self]; rfl, Nat.le_refl _, by omega⟩
                  case round =>
                    obtain ⟨k, rfl, rfl, hk1, hk2⟩ := hrel
                    by_cases hlt : k < E
                    · have hks : k < s.size := by omega
                      have hdg := HAll.out
                      rw [List.all_eq_true] at hdg
                      have hd := hdg s[k] (by rw [List.mem_iff_getElem?]; exact ⟨k, HGet.out k hks⟩)
                      have hd2 : 48 ≤ s[k].toNat ∧ s[k].toNat ≤ 57 := by simpa [isDig] using hd
                      have hge : s.data.toList[k]'(by simpa using hks) = s[k] := by
                        have := HGet.out k hks
                        rw [List.getElem?_eq_getElem (by simpa using hks)] at this
                        exact Option.some.inj this
                      have hnx := grpV_next (l := s.data.toList) (a := 0) (k := k) (by simpa using hks) hk1
                      rw [hge] at hnx
                      have hgl := grpV_lt HAll.out (a := 0) (b := k) (by omega)
                      have HNx := Lib.hid hnx
                      obtain ⟨g, hg⟩ : ∃ g, grpV s.data.toList 0 k = g := ⟨_, rfl⟩
                      rw [hg] at hgl HNx ⊢
                      have hgI : (g : Int) ≤ 9999 := by omega
                      have h1 : (48 : Int) ≤ (s[k].toNat : Int) := by omega
                      have h2 : (s[k].toNat : Int) ≤ 57 := by omega
                      have hkI : (k : Int) < (E : Int) := by omega
                      have hksI : (k : Int) < (s.size : Int) := by omega
                      clear hdg hd hge hnx hg hgl
                      go_wp2
                      exact ⟨⟨k + 1, by go_num, congrArg (Value.int .i64) (by rw [HNx.out]; omega), by omega, by omega⟩, by simp only [intOf]; omega⟩
                    · have hgl := grpV_lt HAll.out (a := 0) (b := k) (by omega)
                      have hkE : k = E := by omega
                      obtain ⟨g, hg⟩ : ∃ g, grpV s.data.toList 0 k = g := ⟨_, rfl⟩
                      have HSt := Lib.hid (par_step (P := 0) (E := E) (g := g) HV.out (by rw [HLl.out]; omega) (by omega) (by rw [← hkE]; exact hg))
                      rw [hg] at hgl ⊢
                      have HDn := Lib.hid (HD.out.append (Lim.cons hgl Lim.nil))
                      have hEk : (E : Int) ≤ (k : Int) := by omega
                      have HBy := Lib.hid (show (D.length + 1) * 8 ≤ 140737488355328 by omega)
                      clear hg hgl hkE
                      go_wp2_with (at_builtin; refine wpList_app _ rfl _ _ _ _ _ _ slD rfl w.heap.size w (HBl.out.alloc HBl.out.size _) (by have := HBl.out.size; rw [World.size_alloc]; omega) _ _ _ rfl (HOl.out.alloc _) ⟨wr.heap.size, 0, none⟩ #[.int .i64 (g : Int)].toList rfl rfl (news_blk (BlkAt.new wr 3 #[.int .i64 (g : Int)])) (by intro u hu; simp at hu; subst hu; rfl) HBy.out ?_; intro v6 w6 ho6 hB6 hb6 hg6)
                      all_goals
                        have ho7 : OwnD w6 w.heap.size v6 (D ++ [g]) := by unfold OwnD; rw [List.length_append, List.map_append]; exact ho6
                        refine ⟨⟨_, D ++ [g], rfl, by rw [HLl.out]; omega, by omega, HDn.out, by rw [HLl.out, List.length_append]; have := HDz.out; simp; omega, fun h => by rw [HLl.out, List.length_append]; have := HDz.out; simp; omega, Lib.hid (by have := HSt.out; rwa [show ((E : Int) - 4).toNat = 0 by omega]), ho7, hB6⟩, by simp only [intOf]; omega⟩
              · go_wp2
                all_goals
                  go_loop [7, 8] (fun v p => ParI s.data.toList 0 4 v p) (fun v p => 4 - (intOf p).toNat)
                  case atStart => exact ⟨0, rfl, by rw [grpV_self]; rfl, Nat.le_refl _, by omega⟩
                  case round =>
                    obtain ⟨k, rfl, rfl, hk1, hk2⟩ := hrel
                    by_cases hlt : k < 4
                    · have hks : k < s.size := by omega
                      have hdg := HAll.out
                      rw [List.all_eq_true] at hdg
                      have hd := hdg s[k] (by rw [List.mem_iff_getElem?]; exact ⟨k, HGet.out k hks⟩)
                      have hd2 : 48 ≤ s[k].toNat ∧ s[k].toNat ≤ 57 := by simpa [isDig] using hd
                      have hge : s.data.toList[k]'(by simpa using hks) = s[k] := by
                        have := HGet.out k hks
                        rw [List.getElem?_eq_getElem (by simpa using hks)] at this
                        exact Option.some.inj this
                      have hnx := grpV_next (l := s.data.toList) (a := 0) (k := k) (by simpa using hks) hk1
                      rw [hge] at hnx
                      have hgl := grpV_lt HAll.out (a := 0) (b := k) (by omega)
                      have HNx := Lib.hid hnx
                      obtain ⟨g, hg⟩ : ∃ g, grpV s.data.toList 0 k = g := ⟨_, rfl⟩
                      rw [hg] at hgl HNx ⊢
                      have hgI : (g : Int) ≤ 9999 := by omega
                      have h1 : (48 : Int) ≤ (s[k].toNat : Int) := by omega
                      have h2 : (s[k].toNat : Int) ≤ 57 := by omega
                      have hkI : (k : Int) < (4 : Int) := by omega
                      have hksI : (k : Int) < (s.size : Int) := by omega
                      clear hdg hd hge hnx hg hgl
                      go_wp2
                      exact ⟨⟨k + 1, by go_num, congrArg (Value.int .i64) (by rw [HNx.out]; omega), by omega, by omega⟩, by simp only [intOf]; omega⟩
                    · have hgl := grpV_lt HAll.out (a := 0) (b := k) (by omega)
                      have hkE : k = 4 := by omega
                      obtain ⟨g, hg⟩ : ∃ g, grpV s.data.toList 0 k = g := ⟨_, rfl⟩
                      have HSt := Lib.hid (par_step (P := 0) (E := 4) (g := g) HV.out (by rw [HLl.out]; omega) (by omega) (by rw [← hkE]; exact hg))
                      rw [hg] at hgl ⊢
                      have HDn := Lib.hid (HD.out.append (Lim.cons hgl Lim.nil))
                      have hEk : (4 : Int) ≤ (k : Int) := by omega
                      have HBy := Lib.hid (show (D.length + 1) * 8 ≤ 140737488355328 by omega)
                      clear hg hgl hkE
                      go_wp2_with (at_builtin; refine wpList_app _ rfl _ _ _ _ _ _ slD rfl w.heap.size w (HBl.out.alloc HBl.out.size _) (by have := HBl.out.size; rw [World.size_alloc]; omega) _ _ _ rfl (HOl.out.alloc _) ⟨wr.heap.size, 0, none⟩ #[.int .i64 (g : Int)].toList rfl rfl (news_blk (BlkAt.new wr 3 #[.int .i64 (g : Int)])) (by intro u hu; simp at hu; subst hu; rfl) HBy.out ?_; intro v6 w6 ho6 hB6 hb6 hg6)
                      all_goals
                        have ho7 : OwnD w6 w.heap.size v6 (D ++ [g]) := by unfold OwnD; rw [List.length_append, List.map_append]; exact ho6
                        refine ⟨⟨_, D ++ [g], rfl, by rw [HLl.out]; omega, by omega, HDn.out, by rw [HLl.out, List.length_append]; have := HDz.out; simp only [List.length_singleton]; omega, fun h => by rw [HLl.out, List.length_append]; have := HDz.out; simp only [List.length_singleton]; omega, Lib.hid (by have := HSt.out; rwa [show (0 : Int).toNat = 0 by omega]), ho7, hB6⟩, by simp only [intOf]; omega⟩
            · have hzI : z ≤ 0 := by omega
              have hz0 : z.toNat = 0 := by omega
              rw [hz0] at hv
              have he : valL D = parseV s.data.toList := by
                have := hv.out
                rw [List.take_zero, show numV [] = 0 from rfl, Nat.mul_zero, Nat.add_zero] at this
                rw [E2.out]; exact this
              obtain ⟨va', vc', hve, hvl, hvr, hvb, hvn⟩ := OwnD.rd ho
              simp only [Value.slice.injEq] at hve
              obtain ⟨rfl, -, rfl⟩ := hve
              have HT := Lib.hid (trim_any hvr rfl hvl hD (by omega))
              obtain ⟨hs1, hs2⟩ := trim_dg hvr rfl hvl hD
              rw [he] at HT hs1 hs2
              have HN := Lib.hid (show DgNew w.heap.size wr (.slice va (szN (parseV s.data.toList)) vc) (parseV s.data.toList) from ⟨va, vc, rfl, Nat.le_trans hs1 hvl, hs2, hvb, hvn⟩)
              clear he hvr hs2 hvb hvn ho hol hv hBl hz0 hz
              go_wp2_with fail
              refine HT.out.mono ?_
              rintro e w6 ⟨rfl, rfl⟩
              go_wp2
              go_ret2
              exact ⟨_, by rw [E1.out]; rfl, HN.out, HBl.out⟩
end Go.Proofs.YtjcpfmndkeiegaaGreatDoor.Rf
