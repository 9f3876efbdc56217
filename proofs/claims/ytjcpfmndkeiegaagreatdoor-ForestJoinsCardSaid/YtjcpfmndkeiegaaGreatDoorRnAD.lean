/- The walk of the document's own Add. The walks of the document's own RatMul, RatDiv. The walks of the document's own RatAdd, RatCmp, Int. The walks of the document's own RatCmp, Int. -/
import Derived.Test.YtjcpfmndkeiegaaGreatDoorRfAF
import Derived.Test.YtjcpfmndkeiegaaGreatDoorRfGI
import Derived.Test.YtjcpfmndkeiegaaGreatDoorRtCD
import Derived.Deep.RegionHeld3
import Derived.Deep.RegionHeldLaw
import Derived.Test.YtjcpfmndkeiegaaGreatDoorFoE
import Derived.Test.YtjcpfmndkeiegaaGreatDoorRtFH
namespace Go.Proofs.YtjcpfmndkeiegaaGreatDoor.Rf
open Go.RowKit Go.Proofs.YtjcpfmndkeiegaaGreatDoor
set_option linter.unusedVariables false

/-- The loop of Add. -/
def AddL (la lb : List Nat) (N T : Nat) (w : World) (v t p : Value) (W : World) : Prop :=
  ∃ k D cy, p = .int .i64 (k : Nat) ∧ t = .int .i64 (cy : Nat) ∧ k ≤ N + 1 ∧ (N < k → cy = 0) ∧ D.length = k ∧ Lim D ∧ cy ≤ 1 ∧ Hid (valL D + 10000 ^ k * (cy + valL (la.drop k) + valL (lb.drop k)) = T) ∧ OwnD W w.heap.size v D ∧ Below w.heap.size w W
theorem add_end {D la lb : List Nat} {k T cy : Nat} (ha : la.length ≤ k) (hb : lb.length ≤ k) (h0 : cy = 0) (h : valL D + 10000 ^ k * (cy + valL (la.drop k) + valL (lb.drop k)) = T) : valL D = T := by
  rw [List.drop_of_length_le ha, List.drop_of_length_le hb, h0, valL] at h
  simpa using h
set_option maxRecDepth 100000 in
set_option maxHeartbeats 8000000 in
theorem add_any {w : World} {a b : Option Addr} {n m c d x y : Nat} {la lb : List Nat} (ha : RdD w a la) (hla : la.length = n) (hda : Lim la) (hxa : valL la = x) (hb : RdD w b lb) (hlb : lb.length = m) (hdb : Lim lb) (hxb : valL lb = y)
    (hlim : n ≤ 10000000) (hlim2 : m ≤ 10000000) :
    Calls Tryz.prog 77 #[.slice a n c, .slice b m d] w fun e w' => ∃ v, e = .returned v ∧ DgNew w.heap.size w' v (x + y) ∧ Below w.heap.size w w' := by
  have HA := Lib.hid ha
  have HLa := Lib.hid hla
  have HDa := Lib.hid hda
  have HB := Lib.hid hb
  have HLb := Lib.hid hlb
  have HDb := Lib.hid hdb
  obtain ⟨N, hN1, hN2, hN3⟩ : ∃ N, n ≤ N ∧ m ≤ N ∧ N ≤ 10000000 := ⟨max n m, Nat.le_max_left .., Nat.le_max_right .., by omega⟩
  have H0 := Lib.hid (show AddL la lb N (x + y) w (.slice none 0 0) (.int .i64 0) (.int .i64 0) w from ⟨0, [], 0, rfl, rfl, Nat.zero_le _, fun _ => rfl, rfl, Lim.nil, by omega, Lib.hid (by simp [valL]; omega), OwnD.nil w _, Below.refl _ _⟩)
  clear ha hla hda hxa hb hlb hdb hxb
  go_enter Tryz.func77, Tryz.ntmps77
  go_wp2
  go_loopw [5, 6, 7] (fun v t p W => AddL la lb N (x + y) w v t p W) (fun v t p W => N + 2 - (intOf p).toNat)
  case atStart => exact H0.out
  case round =>
    obtain ⟨k, D, cy, rfl, rfl, hk, hkc, hDl, hD, hcy, hv, ho, hBl⟩ := hrel
    have HBl := Lib.hid hBl
    have hol := ho
    unfold OwnD at hol
    rw [hDl] at hol
    obtain ⟨va, vc, rfl⟩ := ownsRow_slice' hol
    have HO := Lib.hid hol
    have HD := Lib.hid hD
    have HDl := Lib.hid hDl
    have hcyI : (cy : Int) ≤ 1 := by omega
    have hkI : (k : Int) ≤ 10000001 := by omega
    by_cases hgo : k < n ∨ k < m ∨ 0 < cy
    · have hvv := hv.out
      rw [valL_step la k, valL_step lb k] at hvv
      have hpb := HDa.out.getD k
      have hqb := HDb.out.getD k
      have hp0 : n ≤ k → la.getD k 0 = 0 := fun h => by rw [List.getD, List.getElem?_eq_none (by rw [HLa.out]; exact h)]; rfl
      have hq0 : m ≤ k → lb.getD k 0 = 0 := fun h => by rw [List.getD, List.getElem?_eq_none (by rw [HLb.out]; exact h)]; rfl
      have hua := fun h => (HA.out.below HBl.out).at (i := k) (by rw [HLa.out]; exact h)
      have hub := fun h => (HB.out.below HBl.out).at (i := k) (by rw [HLb.out]; exact h)
      obtain ⟨p, hp⟩ : ∃ p, la.getD k 0 = p := ⟨_, rfl⟩
      obtain ⟨q, hq⟩ : ∃ q, lb.getD k 0 = q := ⟨_, rfl⟩
      rw [hp] at hvv hpb hp0 hua
      rw [hq] at hvv hqb hq0 hub
      have hpI : (p : Int) ≤ 9999 := by omega
      have hqI : (q : Int) ≤ 9999 := by omega
      obtain ⟨S, hS⟩ : ∃ S, cy + p + q = S := ⟨_, rfl⟩
      have HS := Lib.hid (add_step hDl hvv)
      have HDn := Lib.hid (show Lim (D ++ [S % 10000]) from hD.append (Lim.cons (Nat.mod_lt _ (by decide)) Lim.nil))
      have HC1 := Lib.hid (show S / 10000 ≤ 1 by omega)
      have HCe := Lib.hid (show N < k + 1 → S / 10000 = 0 from fun h => by
        have := hp0 (by omega); have := hq0 (by omega); omega)
      have hkN : k ≤ N := by
        rcases hgo with h | h | h
        · omega
        · omega
        · exact Nat.le_of_not_lt fun h' => by have := hkc h'; omega
      rw [hS] at HS
      have HCv := Lib.hid (show (Value.int .i64 ((S : Int) / 10000)) = .int .i64 ((S / 10000 : Nat) : Int) from congrArg (Value.int .i64) (by omega))
      have hSb : (S : Int) ≤ 20000 := by omega
      have hS0 : (0 : Int) ≤ (S : Int) := by omega
      clear hv hvv hp hq hpb hqb hD hDl ho hol hBl hkc
      by_cases hkn : k < n
      · obtain ⟨u, rfl, hub1, huc⟩ := hua hkn
        by_cases hkm : k < m
        · obtain ⟨t, rfl, htb, htc⟩ := hub hkm
          have hSI : (cy : Int) + (p : Int) + (q : Int) = (S : Int) := by omega
          clear hua hub hp0 hq0 hS hgo
          go_wp2_with (at_builtin; refine wpList_app _ rfl _ _ _ _ _ _ slD rfl w.heap.size w (HBl.out.alloc HBl.out.size _) (by have := HBl.out.size; rw [World.size_alloc]; omega) _ _ _ rfl (HO.out.alloc _) ⟨wr.heap.size, 0, none⟩ #[.int .i64 ((S : Int) % 10000)].toList rfl rfl (news_blk (BlkAt.new wr 3 #[.int .i64 ((S : Int) % 10000)])) (by intro u hu; simp at hu; subst hu; rfl) (by omega) ?_; intro v6 w6 ho6 hB6 hb6 hg6)
          have ho7 : OwnD w6 w.heap.size v6 (D ++ [S % 10000]) := by unfold OwnD; rw [List.length_append, HDl.out, List.map_append]; exact ho6
          exact ⟨⟨k + 1, D ++ [S % 10000], S / 10000, by go_num, HCv.out, by omega, HCe.out, by rw [List.length_append, HDl.out]; rfl, HDn.out, HC1.out, HS, ho7, hB6⟩, by simp only [intOf]; omega⟩
        · obtain rfl : q = 0 := hq0 (Nat.le_of_not_lt hkm)
          have hSI : (cy : Int) + (p : Int) = (S : Int) := by omega
          clear hua hub hp0 hq0 hS hgo
          go_wp2_with (at_builtin; refine wpList_app _ rfl _ _ _ _ _ _ slD rfl w.heap.size w (HBl.out.alloc HBl.out.size _) (by have := HBl.out.size; rw [World.size_alloc]; omega) _ _ _ rfl (HO.out.alloc _) ⟨wr.heap.size, 0, none⟩ #[.int .i64 ((S : Int) % 10000)].toList rfl rfl (news_blk (BlkAt.new wr 3 #[.int .i64 ((S : Int) % 10000)])) (by intro u hu; simp at hu; subst hu; rfl) (by omega) ?_; intro v6 w6 ho6 hB6 hb6 hg6)
          have ho7 : OwnD w6 w.heap.size v6 (D ++ [S % 10000]) := by unfold OwnD; rw [List.length_append, HDl.out, List.map_append]; exact ho6
          exact ⟨⟨k + 1, D ++ [S % 10000], S / 10000, by go_num, HCv.out, by omega, HCe.out, by rw [List.length_append, HDl.out]; rfl, HDn.out, HC1.out, HS, ho7, hB6⟩, by simp only [intOf]; omega⟩
      · obtain rfl : p = 0 := hp0 (Nat.le_of_not_lt hkn)
        by_cases hkm : k < m
        · obtain ⟨t, rfl, htb, htc⟩ := hub hkm
          have hSI : (cy : Int) + (q : Int) = (S : Int) := by omega
          clear hua hub hp0 hq0 hS hgo
          go_wp2_with (at_builtin; refine wpList_app _ rfl _ _ _ _ _ _ slD rfl w.heap.size w (HBl.out.alloc HBl.out.size _) (by have := HBl.out.size; rw [World.size_alloc]; omega) _ _ _ rfl (HO.out.alloc _) ⟨wr.heap.size, 0, none⟩ #[.int .i64 ((S : Int) % 10000)].toList rfl rfl (news_blk (BlkAt.new wr 3 #[.int .i64 ((S : Int) % 10000)])) (by intro u hu; simp at hu; subst hu; rfl) (by omega) ?_; intro v6 w6 ho6 hB6 hb6 hg6)
          have ho7 : OwnD w6 w.heap.size v6 (D ++ [S % 10000]) := by unfold OwnD; rw [List.length_append, HDl.out, List.map_append]; exact ho6
          exact ⟨⟨k + 1, D ++ [S % 10000], S / 10000, by go_num, HCv.out, by omega, HCe.out, by rw [List.length_append, HDl.out]; rfl, HDn.out, HC1.out, HS, ho7, hB6⟩, by simp only [intOf]; omega⟩
        · obtain rfl : q = 0 := hq0 (Nat.le_of_not_lt hkm)
          clear hua hub
          have hcp : 0 < cy := by omega
          have hSI : (cy : Int) = (S : Int) := by omega
          obtain rfl : cy = S := by omega
          have hcp2 : (0 : Int) < (cy : Int) := by omega
          clear hp0 hq0 hS hgo hSI
          go_wp2_with (at_builtin; refine wpList_app _ rfl _ _ _ _ _ _ slD rfl w.heap.size w (HBl.out.alloc HBl.out.size _) (by have := HBl.out.size; rw [World.size_alloc]; omega) _ _ _ rfl (HO.out.alloc _) ⟨wr.heap.size, 0, none⟩ #[.int .i64 ((cy : Int) % 10000)].toList rfl rfl (news_blk (BlkAt.new wr 3 #[.int .i64 ((cy : Int) % 10000)])) (by intro u hu; simp at hu; subst hu; rfl) (by omega) ?_; intro v6 w6 ho6 hB6 hb6 hg6)
          have ho7 : OwnD w6 w.heap.size v6 (D ++ [cy % 10000]) := by unfold OwnD; rw [List.length_append, HDl.out, List.map_append]; exact ho6
          exact ⟨⟨k + 1, D ++ [cy % 10000], cy / 10000, by go_num, HCv.out, by omega, HCe.out, by rw [List.length_append, HDl.out]; rfl, HDn.out, HC1.out, HS, ho7, hB6⟩, by simp only [intOf]; omega⟩
    · have hkn : n ≤ k := by omega
      have hkm : m ≤ k := by omega
      obtain rfl : cy = 0 := by omega
      have he : valL D = x + y := add_end (la := la) (lb := lb) (k := k) (cy := 0) (by rw [HLa.out]; exact hkn) (by rw [HLb.out]; exact hkm) rfl hv.out
      obtain ⟨va', vc', hve, hvl, hvr, hvb, hvn⟩ := OwnD.rd ho
      rw [hDl] at hve
      simp only [Value.slice.injEq] at hve
      obtain ⟨rfl, -, rfl⟩ := hve
      rw [HDl.out] at hvl
      have HT := Lib.hid (trim_any hvr hDl hvl hD (by omega))
      obtain ⟨hs1, hs2⟩ := trim_dg hvr hDl hvl hD
      rw [he] at HT hs1 hs2
      have HN := Lib.hid (show DgNew w.heap.size wr (.slice va (szN (x + y)) vc) (x + y) from ⟨va, vc, rfl, Nat.le_trans hs1 hvl, hs2, hvb, hvn⟩)
      clear he hvr hs2 hvb hvn ho hol hDl hD hv hBl
      go_wp2_with fail
      refine HT.out.mono ?_
      rintro e w6 ⟨rfl, rfl⟩
      go_wp2
      go_ret
      exact ⟨_, rfl, HN.out, HBl.out⟩
end Go.Proofs.YtjcpfmndkeiegaaGreatDoor.Rf
namespace Go.Proofs.YtjcpfmndkeiegaaGreatDoor.Rf
open Go.RowKit Go.Proofs.YtjcpfmndkeiegaaGreatDoor
set_option linter.unusedVariables false

theorem mulD {w : World} {va vb : Value} {x y : Nat} (hx : DgAt w va x) (hy : DgAt w vb y) (h1 : szN x ≤ 10000000) (h2 : szN y ≤ 10000000) :
    Calls Tryz.prog 76 #[va, vb] w fun e w' => ∃ v, e = .returned v ∧ DgNew w.heap.size w' v (x * y) ∧ Below w.heap.size w w' := by
  obtain ⟨a, c, rfl, hc, ha, -⟩ := hx
  obtain ⟨b, d, rfl, hd, hb, -⟩ := hy
  exact mul_any ha (limbs_len x) (limbs_lim x) (limbs_val x) hb (limbs_len y) (limbs_lim y) (limbs_val y) h1 h2
theorem addD {w : World} {va vb : Value} {x y : Nat} (hx : DgAt w va x) (hy : DgAt w vb y) (h1 : szN x ≤ 10000000) (h2 : szN y ≤ 10000000) :
    Calls Tryz.prog 77 #[va, vb] w fun e w' => ∃ v, e = .returned v ∧ DgNew w.heap.size w' v (x + y) ∧ Below w.heap.size w w' := by
  obtain ⟨a, c, rfl, hc, ha, -⟩ := hx
  obtain ⟨b, d, rfl, hd, hb, -⟩ := hy
  exact add_any ha (limbs_len x) (limbs_lim x) (limbs_val x) hb (limbs_len y) (limbs_lim y) (limbs_val y) h1 h2
theorem subD {w : World} {va vb : Value} {x y : Nat} (hx : DgAt w va x) (hy : DgAt w vb y) (hyx : y ≤ x) (h1 : szN x ≤ 10000000) (h2 : szN y ≤ 10000000) :
    Calls Tryz.prog 78 #[va, vb] w fun e w' => ∃ v, e = .returned v ∧ DgNew w.heap.size w' v (x - y) ∧ Below w.heap.size w w' := by
  obtain ⟨a, c, rfl, hc, ha, -⟩ := hx
  obtain ⟨b, d, rfl, hd, hb, -⟩ := hy
  exact sub_any ha (limbs_len x) (limbs_lim x) (limbs_val x) hb (limbs_len y) (limbs_lim y) (limbs_val y) hyx h1 h2
theorem refs_new (w : World) (ca cb cc : Array Value) (W : World) (h : ((w.alloc (.cells ca 33)).alloc (.cells cb 33)).alloc (.cells cc 33) = W) : BlkAt W w.heap.size 33 ca ∧ BlkAt W (w.heap.size + 1) 33 cb ∧ BlkAt W (w.heap.size + 1 + 1) 33 cc ∧ Below w.heap.size w W := by
  subst h
  refine ⟨((BlkAt.new w _ _).alloc _).alloc _, ?_, ?_, (((Below.refl _ w).alloc (Nat.le_refl _) _).alloc (by simp) _).alloc (by simp; omega) _⟩
  · have := (BlkAt.new (w.alloc (.cells ca 33)) 33 cb).alloc (.cells cc 33)
    rwa [World.size_alloc] at this
  · have := BlkAt.new ((w.alloc (.cells ca 33)).alloc (.cells cb 33)) 33 cc
    rwa [World.size_alloc, World.size_alloc] at this
theorem ref_cells {w W : World} {x0 x1 x2 y0 y1 y2 : Value} (h1 : BlkAt W w.heap.size 33 #[x0, x1, x2]) (h2 : BlkAt W (w.heap.size + 1) 33 #[y0, y1, y2]) : RatCells w W x0 x1 x2 y0 y1 y2 :=
  ⟨h1.cell 0, h1.cell 1, h1.cell 2, h2.cell 0, h2.cell 1, h2.cell 2⟩
set_option maxRecDepth 100000 in
set_option maxHeartbeats 8000000 in
theorem refMul_any {va vb : Value} {x y : Rat} {w : World} (hx : RefAt w va x) (hy : RefAt w vb y) (h1 : szN (numQ x) ≤ 400000) (h2 : szN x.den ≤ 400000) (h3 : szN (numQ y) ≤ 400000) (h4 : szN y.den ≤ 400000) :
    Calls Tryz.prog 28 #[va, vb] w fun e w' => ∃ v, e = .returned v ∧ RefNew (w.heap.size + 1) w' v (x * y) ∧ Below w.heap.size w w' := by
  obtain ⟨u1, u2, rfl, hxn, hxd⟩ := hx
  obtain ⟨u3, u4, rfl, hyn, hyd⟩ := hy
  have HXN := Lib.hid hxn
  have HXD := Lib.hid hxd
  have HYN := Lib.hid hyn
  have HYD := Lib.hid hyd
  obtain ⟨a, c, rfl, -⟩ := hxn
  obtain ⟨b, d, rfl, -⟩ := hxd
  obtain ⟨a', c', rfl, -⟩ := hyn
  obtain ⟨b', d', rfl, -⟩ := hyd
  obtain ⟨x0, hx0⟩ : ∃ x0, negQ x = x0 := ⟨_, rfl⟩
  obtain ⟨n1, hn1⟩ : ∃ n, szN (numQ x) = n := ⟨_, rfl⟩
  obtain ⟨n2, hn2⟩ : ∃ n, szN x.den = n := ⟨_, rfl⟩
  obtain ⟨y0, hy0⟩ : ∃ x0, negQ y = x0 := ⟨_, rfl⟩
  obtain ⟨m1, hm1⟩ : ∃ n, szN (numQ y) = n := ⟨_, rfl⟩
  obtain ⟨m2, hm2⟩ : ∃ n, szN y.den = n := ⟨_, rfl⟩
  have HS1 := Lib.hid h1
  have HS2 := Lib.hid h2
  have HS3 := Lib.hid h3
  have HS4 := Lib.hid h4
  have HMQ := Lib.hid (show lowQ (x0 != y0) (numQ x * numQ y) (x.den * y.den) = x * y by rw [← hx0, ← hy0]; exact mulQ x y)
  have HNz := Lib.hid (show x.den * y.den ≠ 0 from Nat.mul_ne_zero x.den_nz y.den_nz)
  rw [hn1] at HXN
  rw [hn2] at HXD
  rw [hm1] at HYN
  rw [hm2] at HYD
  rw [hx0, hn1, hn2, hy0, hm1, hm2]
  obtain ⟨W2, hW2⟩ : ∃ W2, ((w.alloc (.cells #[.bool x0, .slice a n1 c, .slice b n2 d] 33)).alloc (.cells #[.bool y0, .slice a' m1 c', .slice b' m2 d'] 33)).alloc (.cells #[.bool false, .slice none 0 0, .slice none 0 0] 33) = W2 := ⟨_, rfl⟩
  obtain ⟨b0, b1, b2, hB2⟩ := refs_new w _ _ _ W2 hW2
  have HK0 := Lib.hid b0
  have HK1 := Lib.hid b1
  have HK2 := Lib.hid b2
  have HB2 := Lib.hid hB2
  obtain ⟨q0, q1, q2, q3, q4, q5⟩ := ref_cells b0 b1
  clear b0 b1 b2 hB2 hx0 hn1 hn2 hy0 hm1 hm2 h1 h2 h3 h4
  have hne1 : w.heap.size ≠ w.heap.size + 1 + 1 := by omega
  have hne2 : w.heap.size ≠ w.heap.size + 1 + 1 + 1 := by omega
  have hne3 : w.heap.size + 1 + 1 ≠ w.heap.size := by omega
  have hne4 : w.heap.size + 1 + 1 + 1 ≠ w.heap.size := by omega
  go_enter Tryz.func28, Tryz.ntmps28
  go_wp2_with fail
  clear hW2
  go_region_held3 (fun W => W.cell? ⟨w.heap.size, 0, none⟩ = some (.bool x0) ∧ W.cell? ⟨w.heap.size, 1, none⟩ = some (.slice a n1 c) ∧ W.cell? ⟨w.heap.size, 2, none⟩ = some (.slice b n2 d) ∧ W.cell? ⟨w.heap.size + 1, 0, none⟩ = some (.bool y0) ∧ W.cell? ⟨w.heap.size + 1, 1, none⟩ = some (.slice a' m1 c') ∧ W.cell? ⟨w.heap.size + 1, 2, none⟩ = some (.slice b' m2 d')) (go_keep)
    (first
      | (go_at_call 76; refine (mulD (HXN.out.below HB2.out.drew) (HYN.out.below HB2.out.drew) (Nat.le_trans HS1.out (by decide)) (Nat.le_trans HS3.out (by decide))).mono ?_; rintro e w3 ⟨v3, rfl, hN3, hB3⟩; replace hB3 : Below W2.heap.size W2 w3 := ((Below.refl _ W2).drew).trans hB3; replace hN3 := hN3.at; have HV3 := Lib.hid hN3; obtain ⟨a3, c3, rfl, -⟩ := hN3; have HB3 := Lib.hid hB3; obtain ⟨q0, q1, q2, q3, q4, q5⟩ := ref_cells (HK0.out.below HB3.out HK0.out.lt) (HK1.out.below HB3.out HK1.out.lt); have HW3 := Lib.hid (HB2.out.trans (HB3.out.mono HB2.out.size)); have HM3 := Lib.hid (mulD (HXD.out.below HW3.out) (HYD.out.below HW3.out) (Nat.le_trans HS2.out (by decide)) (Nat.le_trans HS4.out (by decide))); clear HXN HXD HYN HYD hB3)
      | (go_at_call 76; refine HM3.out.mono ?_; rintro e w6 ⟨v6, rfl, hN6, hB6⟩; replace hN6 := hN6.at; have HV6 := Lib.hid hN6; obtain ⟨a6, c6, rfl, -⟩ := hN6; have HB6 := Lib.hid (HB3.out.trans (hB6.mono HB3.out.size)); obtain ⟨q0, q1, q2, q3, q4, q5⟩ := ref_cells (HK0.out.below HB6.out HK0.out.lt) (HK1.out.below HB6.out HK1.out.lt); have HW6 := Lib.hid (HB2.out.trans (HB6.out.mono HB2.out.size)); replace HV3 := Lib.hid (HV3.out.below hB6); have HL6 := Lib.hid (make_any2 (x0 != y0) HV3.out HV6.out (Nat.le_trans (szN_mul _ _) (by have := HS1.out; have := HS2.out; have := HS3.out; have := HS4.out; omega)) (Nat.le_trans (szN_mul _ _) (by have := HS1.out; have := HS2.out; have := HS3.out; have := HS4.out; omega)) HNz.out); rw [HMQ.out] at HL6; clear HM3; clear hB6)
      | (go_at_call 23; refine HL6.out.mono ?_; rintro e w7 ⟨v7, rfl, hN7, hB7⟩; obtain ⟨v1, v2, rfl, hn1, hn2⟩ := hN7; have hn1' := hn1; have hn2' := hn2; obtain ⟨a7, c7, rfl, -⟩ := hn1'; obtain ⟨b7, d7, rfl, -⟩ := hn2'; have HN1 := Lib.hid hn1; have HN2 := Lib.hid hn2; have HB7 := Lib.hid (HB6.out.trans (hB7.mono HB6.out.size)); have HZ6 := Lib.hid HW6.out.size; obtain ⟨q0, q1, q2, q3, q4, q5⟩ := ref_cells (HK0.out.below HB7.out HK0.out.lt) (HK1.out.below HB7.out HK1.out.lt); have HW7 := Lib.hid (HB2.out.trans (HB7.out.mono HB2.out.size)); have HL2 := Lib.hid (show w.heap.size + 1 + 1 + 1 ≤ w6.heap.size from (HK2.out.below HB6.out HK2.out.lt).lt); have r2 := HK2.out.below HB7.out HK2.out.lt; have s0 := r2.cell 0; have s1 := r2.cell 1; have s2 := r2.cell 2; have t0 := r2.frozen 0; have t1 := r2.frozen 1; have t2 := r2.frozen 2; have HR2 := Lib.hid r2; clear r2 HL6; clear hB7 hn1 hn2))
  go_wp2
  obtain ⟨r1, r2, r3⟩ := res_ref HR2.out rfl (by omega) HW7.out (show RefNew (w.heap.size + 1 + 1 + 1) w7 _ _ from RefNew.mono ⟨_, _, rfl, HN1.out, HN2.out⟩ (by have := HL2.out; omega))
  exact bodyPost_ret (r_c rfl rfl (aggRef.load rfl r1)) rfl ⟨_, rfl, RefNew.mono r2 (by omega), r3⟩
set_option maxRecDepth 100000 in
set_option maxHeartbeats 8000000 in
theorem refDiv_any {va vb : Value} {x y : Rat} {w : World} (hx : RefAt w va x) (hy : RefAt w vb y) (h1 : szN (numQ x) ≤ 400000) (h2 : szN x.den ≤ 400000) (h3 : szN (numQ y) ≤ 400000) (h4 : szN y.den ≤ 400000) (hy0' : y ≠ 0) :
    Calls Tryz.prog 30 #[va, vb] w fun e w' => ∃ v, e = .returned v ∧ RefNew (w.heap.size + 1) w' v (x / y) ∧ Below w.heap.size w w' := by
  obtain ⟨u1, u2, rfl, hxn, hxd⟩ := hx
  obtain ⟨u3, u4, rfl, hyn, hyd⟩ := hy
  have HXN := Lib.hid hxn
  have HXD := Lib.hid hxd
  have HYN := Lib.hid hyn
  have HYD := Lib.hid hyd
  obtain ⟨a, c, rfl, -⟩ := hxn
  obtain ⟨b, d, rfl, -⟩ := hxd
  obtain ⟨a', c', rfl, -⟩ := hyn
  obtain ⟨b', d', rfl, -⟩ := hyd
  obtain ⟨x0, hx0⟩ : ∃ x0, negQ x = x0 := ⟨_, rfl⟩
  obtain ⟨n1, hn1⟩ : ∃ n, szN (numQ x) = n := ⟨_, rfl⟩
  obtain ⟨n2, hn2⟩ : ∃ n, szN x.den = n := ⟨_, rfl⟩
  obtain ⟨y0, hy0⟩ : ∃ x0, negQ y = x0 := ⟨_, rfl⟩
  obtain ⟨m1, hm1⟩ : ∃ n, szN (numQ y) = n := ⟨_, rfl⟩
  obtain ⟨m2, hm2⟩ : ∃ n, szN y.den = n := ⟨_, rfl⟩
  have HS1 := Lib.hid h1
  have HS2 := Lib.hid h2
  have HS3 := Lib.hid h3
  have HS4 := Lib.hid h4
  have HMQ := Lib.hid (show lowQ (x0 != y0) (numQ x * y.den) (x.den * numQ y) = x / y by rw [← hx0, ← hy0]; exact divQ hy0')
  have HNz := Lib.hid (show x.den * numQ y ≠ 0 from Nat.mul_ne_zero x.den_nz (fun h => hy0' (numQ_zero.1 h)))
  rw [hn1] at HXN
  rw [hn2] at HXD
  rw [hm1] at HYN
  rw [hm2] at HYD
  rw [hx0, hn1, hn2, hy0, hm1, hm2]
  obtain ⟨W2, hW2⟩ : ∃ W2, ((w.alloc (.cells #[.bool x0, .slice a n1 c, .slice b n2 d] 33)).alloc (.cells #[.bool y0, .slice a' m1 c', .slice b' m2 d'] 33)).alloc (.cells #[.bool false, .slice none 0 0, .slice none 0 0] 33) = W2 := ⟨_, rfl⟩
  obtain ⟨b0, b1, b2, hB2⟩ := refs_new w _ _ _ W2 hW2
  have HK0 := Lib.hid b0
  have HK1 := Lib.hid b1
  have HK2 := Lib.hid b2
  have HB2 := Lib.hid hB2
  obtain ⟨q0, q1, q2, q3, q4, q5⟩ := ref_cells b0 b1
  clear b0 b1 b2 hB2 hx0 hn1 hn2 hy0 hm1 hm2 h1 h2 h3 h4
  have hne1 : w.heap.size ≠ w.heap.size + 1 + 1 := by omega
  have hne2 : w.heap.size ≠ w.heap.size + 1 + 1 + 1 := by omega
  have hne3 : w.heap.size + 1 + 1 ≠ w.heap.size := by omega
  have hne4 : w.heap.size + 1 + 1 + 1 ≠ w.heap.size := by omega
  go_enter Tryz.func30, Tryz.ntmps30
  go_wp2_with fail
  clear hW2
  go_region_held3 (fun W => W.cell? ⟨w.heap.size, 0, none⟩ = some (.bool x0) ∧ W.cell? ⟨w.heap.size, 1, none⟩ = some (.slice a n1 c) ∧ W.cell? ⟨w.heap.size, 2, none⟩ = some (.slice b n2 d) ∧ W.cell? ⟨w.heap.size + 1, 0, none⟩ = some (.bool y0) ∧ W.cell? ⟨w.heap.size + 1, 1, none⟩ = some (.slice a' m1 c') ∧ W.cell? ⟨w.heap.size + 1, 2, none⟩ = some (.slice b' m2 d')) (go_keep)
    (first
      | (go_at_call 76; refine (mulD (HXN.out.below HB2.out.drew) (HYD.out.below HB2.out.drew) (Nat.le_trans HS1.out (by decide)) (Nat.le_trans HS4.out (by decide))).mono ?_; rintro e w3 ⟨v3, rfl, hN3, hB3⟩; replace hB3 : Below W2.heap.size W2 w3 := ((Below.refl _ W2).drew).trans hB3; replace hN3 := hN3.at; have HV3 := Lib.hid hN3; obtain ⟨a3, c3, rfl, -⟩ := hN3; have HB3 := Lib.hid hB3; obtain ⟨q0, q1, q2, q3, q4, q5⟩ := ref_cells (HK0.out.below HB3.out HK0.out.lt) (HK1.out.below HB3.out HK1.out.lt); have HW3 := Lib.hid (HB2.out.trans (HB3.out.mono HB2.out.size)); have HM3 := Lib.hid (mulD (HXD.out.below HW3.out) (HYN.out.below HW3.out) (Nat.le_trans HS2.out (by decide)) (Nat.le_trans HS3.out (by decide))); clear HXN HXD HYN HYD hB3)
      | (go_at_call 76; refine HM3.out.mono ?_; rintro e w6 ⟨v6, rfl, hN6, hB6⟩; replace hN6 := hN6.at; have HV6 := Lib.hid hN6; obtain ⟨a6, c6, rfl, -⟩ := hN6; have HB6 := Lib.hid (HB3.out.trans (hB6.mono HB3.out.size)); obtain ⟨q0, q1, q2, q3, q4, q5⟩ := ref_cells (HK0.out.below HB6.out HK0.out.lt) (HK1.out.below HB6.out HK1.out.lt); have HW6 := Lib.hid (HB2.out.trans (HB6.out.mono HB2.out.size)); replace HV3 := Lib.hid (HV3.out.below hB6); have HL6 := Lib.hid (make_any2 (x0 != y0) HV3.out HV6.out (Nat.le_trans (szN_mul _ _) (by have := HS1.out; have := HS2.out; have := HS3.out; have := HS4.out; omega)) (Nat.le_trans (szN_mul _ _) (by have := HS1.out; have := HS2.out; have := HS3.out; have := HS4.out; omega)) HNz.out); rw [HMQ.out] at HL6; clear HM3; clear hB6)
      | (go_at_call 23; refine HL6.out.mono ?_; rintro e w7 ⟨v7, rfl, hN7, hB7⟩; obtain ⟨v1, v2, rfl, hn1, hn2⟩ := hN7; have hn1' := hn1; have hn2' := hn2; obtain ⟨a7, c7, rfl, -⟩ := hn1'; obtain ⟨b7, d7, rfl, -⟩ := hn2'; have HN1 := Lib.hid hn1; have HN2 := Lib.hid hn2; have HB7 := Lib.hid (HB6.out.trans (hB7.mono HB6.out.size)); have HZ6 := Lib.hid HW6.out.size; obtain ⟨q0, q1, q2, q3, q4, q5⟩ := ref_cells (HK0.out.below HB7.out HK0.out.lt) (HK1.out.below HB7.out HK1.out.lt); have HW7 := Lib.hid (HB2.out.trans (HB7.out.mono HB2.out.size)); have HL2 := Lib.hid (show w.heap.size + 1 + 1 + 1 ≤ w6.heap.size from (HK2.out.below HB6.out HK2.out.lt).lt); have r2 := HK2.out.below HB7.out HK2.out.lt; have s0 := r2.cell 0; have s1 := r2.cell 1; have s2 := r2.cell 2; have t0 := r2.frozen 0; have t1 := r2.frozen 1; have t2 := r2.frozen 2; have HR2 := Lib.hid r2; clear r2 HL6; clear hB7 hn1 hn2))
  go_wp2
  obtain ⟨r1, r2, r3⟩ := res_ref HR2.out rfl (by omega) HW7.out (show RefNew (w.heap.size + 1 + 1 + 1) w7 _ _ from RefNew.mono ⟨_, _, rfl, HN1.out, HN2.out⟩ (by have := HL2.out; omega))
  exact bodyPost_ret (r_c rfl rfl (aggRef.load rfl r1)) rfl ⟨_, rfl, RefNew.mono r2 (by omega), r3⟩
end Go.Proofs.YtjcpfmndkeiegaaGreatDoor.Rf
namespace Go.Proofs.YtjcpfmndkeiegaaGreatDoor.Rf
open Go.RowKit Go.Proofs.YtjcpfmndkeiegaaGreatDoor
set_option linter.unusedVariables false

theorem cmpD {w : World} {va vb : Value} {x y : Nat} (hx : DgAt w va x) (hy : DgAt w vb y) (h1 : szN x ≤ 10000000) (h2 : szN y ≤ 10000000) :
    Calls Tryz.prog 74 #[va, vb] w fun e w' => e = .returned (.int .i64 (cmpN x y)) ∧ Below w.heap.size w w' := by
  obtain ⟨a, c, rfl, hc, ha, -⟩ := hx
  obtain ⟨b, d, rfl, hd, hb, -⟩ := hy
  exact cmp_any ha (limbs_len x) hc (limbs_lim x) (limbs_val x) hb (limbs_len y) hd (limbs_lim y) (limbs_val y) (by omega) (by omega)
set_option maxRecDepth 100000 in
set_option maxHeartbeats 8000000 in
theorem refAdd_any {va vb : Value} {x y : Rat} {w : World} (hx : RefAt w va x) (hy : RefAt w vb y) (h1 : szN (numQ x) ≤ 400000) (h2 : szN x.den ≤ 400000) (h3 : szN (numQ y) ≤ 400000) (h4 : szN y.den ≤ 400000) :
    Calls Tryz.prog 27 #[va, vb] w fun e w' => ∃ v, e = .returned v ∧ RefNew (w.heap.size + 1) w' v (x + y) ∧ Below w.heap.size w w' := by
  obtain ⟨u1, u2, rfl, hxn, hxd⟩ := hx
  obtain ⟨u3, u4, rfl, hyn, hyd⟩ := hy
  have HXN := Lib.hid hxn
  have HXD := Lib.hid hxd
  have HYN := Lib.hid hyn
  have HYD := Lib.hid hyd
  obtain ⟨a, c, rfl, -⟩ := hxn
  obtain ⟨b, d, rfl, -⟩ := hxd
  obtain ⟨a', c', rfl, -⟩ := hyn
  obtain ⟨b', d', rfl, -⟩ := hyd
  obtain ⟨x0, hx0⟩ : ∃ x0, negQ x = x0 := ⟨_, rfl⟩
  obtain ⟨n1, hn1⟩ : ∃ n, szN (numQ x) = n := ⟨_, rfl⟩
  obtain ⟨n2, hn2⟩ : ∃ n, szN x.den = n := ⟨_, rfl⟩
  obtain ⟨y0, hy0⟩ : ∃ x0, negQ y = x0 := ⟨_, rfl⟩
  obtain ⟨m1, hm1⟩ : ∃ n, szN (numQ y) = n := ⟨_, rfl⟩
  obtain ⟨m2, hm2⟩ : ∃ n, szN y.den = n := ⟨_, rfl⟩
  have HS1 := Lib.hid h1
  have HS2 := Lib.hid h2
  have HS3 := Lib.hid h3
  have HS4 := Lib.hid h4
  have HX0 := Lib.hid hx0
  have HY0 := Lib.hid hy0
  rw [hn1] at HXN
  rw [hn2] at HXD
  rw [hm1] at HYN
  rw [hm2] at HYD
  rw [hx0, hn1, hn2, hy0, hm1, hm2]
  obtain ⟨W2, hW2⟩ : ∃ W2, ((w.alloc (.cells #[.bool x0, .slice a n1 c, .slice b n2 d] 33)).alloc (.cells #[.bool y0, .slice a' m1 c', .slice b' m2 d'] 33)).alloc (.cells #[.bool false, .slice none 0 0, .slice none 0 0] 33) = W2 := ⟨_, rfl⟩
  obtain ⟨b0, b1, b2, hB2⟩ := refs_new w _ _ _ W2 hW2
  have HK0 := Lib.hid b0
  have HK1 := Lib.hid b1
  have HK2 := Lib.hid b2
  have HB2 := Lib.hid hB2
  obtain ⟨q0, q1, q2, q3, q4, q5⟩ := ref_cells b0 b1
  clear b0 b1 b2 hB2 hx0 hn1 hn2 hy0 hm1 hm2 h1 h2 h3 h4
  have hne1 : w.heap.size ≠ w.heap.size + 1 + 1 := by omega
  have hne2 : w.heap.size ≠ w.heap.size + 1 + 1 + 1 := by omega
  have hne3 : w.heap.size + 1 + 1 ≠ w.heap.size := by omega
  have hne4 : w.heap.size + 1 + 1 + 1 ≠ w.heap.size := by omega
  go_enter Tryz.func27, Tryz.ntmps27
  go_wp2_with fail
  clear hW2
  have HNz := Lib.hid (show x.den * y.den ≠ 0 from Nat.mul_ne_zero x.den_nz y.den_nz)
  go_region_held3 (fun W => W.cell? ⟨w.heap.size, 0, none⟩ = some (.bool x0) ∧ W.cell? ⟨w.heap.size, 1, none⟩ = some (.slice a n1 c) ∧ W.cell? ⟨w.heap.size, 2, none⟩ = some (.slice b n2 d) ∧ W.cell? ⟨w.heap.size + 1, 0, none⟩ = some (.bool y0) ∧ W.cell? ⟨w.heap.size + 1, 1, none⟩ = some (.slice a' m1 c') ∧ W.cell? ⟨w.heap.size + 1, 2, none⟩ = some (.slice b' m2 d')) (go_keep)
    (first
      | (go_at_call 76; refine (mulD (HXN.out.below HB2.out.drew) (HYD.out.below HB2.out.drew) (Nat.le_trans HS1.out (by decide)) (Nat.le_trans HS4.out (by decide))).mono ?_; rintro e w3 ⟨v3, rfl, hN3, hB3⟩; replace hB3 : Below W2.heap.size W2 w3 := ((Below.refl _ W2).drew).trans hB3; replace hN3 := hN3.at; have HV3 := Lib.hid hN3; obtain ⟨a3, c3, rfl, -⟩ := hN3; have HB3 := Lib.hid hB3; obtain ⟨q0, q1, q2, q3, q4, q5⟩ := ref_cells (HK0.out.below HB3.out HK0.out.lt) (HK1.out.below HB3.out HK1.out.lt); have HW3 := Lib.hid (HB2.out.trans (HB3.out.mono HB2.out.size)); have HM3 := Lib.hid (mulD (HYN.out.below HW3.out) (HXD.out.below HW3.out) (Nat.le_trans HS3.out (by decide)) (Nat.le_trans HS2.out (by decide))); clear HXN HYN hB3)
      | (go_at_call 76; refine HM3.out.mono ?_; rintro e w6 ⟨v6, rfl, hN6, hB6⟩; replace hN6 := hN6.at; have HV6 := Lib.hid hN6; obtain ⟨a6, c6, rfl, -⟩ := hN6; have HB6 := Lib.hid (HB3.out.trans (hB6.mono HB3.out.size)); obtain ⟨q0, q1, q2, q3, q4, q5⟩ := ref_cells (HK0.out.below HB6.out HK0.out.lt) (HK1.out.below HB6.out HK1.out.lt); have HW6 := Lib.hid (HB2.out.trans (HB6.out.mono HB2.out.size)); replace HV3 := Lib.hid (HV3.out.below hB6); have HM6 := Lib.hid (mulD (HXD.out.below HW6.out) (HYD.out.below HW6.out) (Nat.le_trans HS2.out (by decide)) (Nat.le_trans HS4.out (by decide))); clear HM3 HXD HYD; clear hB6)
      | (go_at_call 76; refine HM6.out.mono ?_; rintro e w9 ⟨v7, rfl, hN7, hB7⟩; replace hN7 := hN7.at; have HV7 := Lib.hid hN7; obtain ⟨a7, c7, rfl, -⟩ := hN7; have HB9 := Lib.hid (HB6.out.trans (hB7.mono HB6.out.size)); obtain ⟨q0, q1, q2, q3, q4, q5⟩ := ref_cells (HK0.out.below HB9.out HK0.out.lt) (HK1.out.below HB9.out HK1.out.lt); have HW9 := Lib.hid (HB2.out.trans (HB9.out.mono HB2.out.size)); replace HV3 := Lib.hid (HV3.out.below hB7); replace HV6 := Lib.hid (HV6.out.below hB7); clear HM6; clear hB7))
  have HSx := Lib.hid (show szN (numQ x * y.den) ≤ 800000 from Nat.le_trans (szN_mul _ _) (by have := HS1.out; have := HS4.out; omega))
  have HSy := Lib.hid (show szN (numQ y * x.den) ≤ 800000 from Nat.le_trans (szN_mul _ _) (by have := HS3.out; have := HS2.out; omega))
  have HSd := Lib.hid (show szN (x.den * y.den) ≤ 800000 from Nat.le_trans (szN_mul _ _) (by have := HS2.out; have := HS4.out; omega))
  obtain ⟨nx, hnx⟩ : ∃ nx, numQ x * y.den = nx := ⟨_, rfl⟩
  obtain ⟨ny, hny⟩ : ∃ ny, numQ y * x.den = ny := ⟨_, rfl⟩
  obtain ⟨dd, hdd⟩ : ∃ dd, x.den * y.den = dd := ⟨_, rfl⟩
  rw [hnx] at HV3 HSx
  rw [hny] at HV6 HSy
  rw [hdd] at HV7 HSd HNz
  try rw [hnx]
  try rw [hny]
  try rw [hdd]
  have HNx := Lib.hid hnx
  have HNy := Lib.hid hny
  have HDd := Lib.hid hdd
  clear hnx hny hdd
  by_cases hs : x0 = y0
  · subst hs
    have HMQ := Lib.hid (show lowQ x0 (nx + ny) dd = x + y by rw [← HX0.out, ← HNx.out, ← HNy.out, ← HDd.out]; exact addQ_same (by rw [HX0.out, HY0.out]))
    have HF9 := Lib.hid (fun (W : World) (hW : Below w9.heap.size w9 W) => addD (HV3.out.below hW) (HV6.out.below hW) (by have := HSx.out; omega) (by have := HSy.out; omega))
    have HSs := Lib.hid (show szN (nx + ny) ≤ 800001 from Nat.le_trans (szN_add _ _) (by have := HSx.out; have := HSy.out; omega))
    go_wp2_with fail
    go_region_held3 (fun W => W.cell? ⟨w.heap.size, 0, none⟩ = some (.bool x0) ∧ W.cell? ⟨w.heap.size + 1, 0, none⟩ = some (.bool x0)) (go_keep)
        (first
          | (go_at_call 77; refine (HF9.out _ (by first | exact Below.refl _ _ | exact (Below.refl _ _).drew)).mono ?_; clear HF9; rintro e wa ⟨va, rfl, hNa, hBa⟩; replace hBa : Below w9.heap.size w9 wa := (by first | exact hBa | exact ((Below.refl _ w9).drew).trans hBa); replace hNa := hNa.at; have HVa := Lib.hid hNa; obtain ⟨aa, ca, rfl, -⟩ := hNa; have HBa := Lib.hid (HB9.out.trans (hBa.mono HB9.out.size)); have q0 := (HK0.out.below HBa.out HK0.out.lt).cell 0; have q3 := (HK1.out.below HBa.out HK1.out.lt).cell 0; have HWa := Lib.hid (HB2.out.trans (HBa.out.mono HB2.out.size)); have HLa := Lib.hid (make_any2 x0 HVa.out (HV7.out.below hBa) (by have := HSx.out; have := HSy.out; have := HSs.out; omega) (by have := HSd.out; omega) HNz.out); rw [HMQ.out] at HLa; clear hBa)
          | (go_at_call 23; refine HLa.out.mono ?_; clear HLa; rintro e wb ⟨vb, rfl, hNb, hBb⟩; obtain ⟨v1, v2, rfl, hn1, hn2⟩ := hNb; have hn1' := hn1; have hn2' := hn2; obtain ⟨a8, c8, rfl, -⟩ := hn1'; obtain ⟨b8, d8, rfl, -⟩ := hn2'; have HN1 := Lib.hid hn1; have HN2 := Lib.hid hn2; have HBb := Lib.hid (HBa.out.trans (hBb.mono HBa.out.size)); have q0 := (HK0.out.below HBb.out HK0.out.lt).cell 0; have q3 := (HK1.out.below HBb.out HK1.out.lt).cell 0; have HWb := Lib.hid (HB2.out.trans (HBb.out.mono HB2.out.size)); have HL2 := Lib.hid (show w.heap.size + 1 + 1 + 1 ≤ wa.heap.size from (HK2.out.below HBa.out HK2.out.lt).lt); have r2 := HK2.out.below HBb.out HK2.out.lt; have s0 := r2.cell 0; have s1 := r2.cell 1; have s2 := r2.cell 2; have t0 := r2.frozen 0; have t1 := r2.frozen 1; have t2 := r2.frozen 2; have HR2 := Lib.hid r2; clear r2; clear hBb hn1 hn2))
    go_wp2
    obtain ⟨r1, r2, r3⟩ := res_ref HR2.out rfl (by omega) HWb.out (show RefNew (w.heap.size + 1 + 1 + 1) wb _ _ from RefNew.mono ⟨_, _, rfl, HN1.out, HN2.out⟩ (by have := HL2.out; omega))
    exact bodyPost_ret (r_c rfl rfl (aggRef.load rfl r1)) rfl ⟨_, rfl, RefNew.mono r2 (by omega), r3⟩
  · have hs' : (x0 == y0) = false := beq_eq_false_iff_ne.2 hs
    have HNe := Lib.hid hs
    clear hs
    have HC9 := Lib.hid (cmpD HV3.out HV6.out (by have := HSx.out; omega) (by have := HSy.out; omega))
    go_wp2_with fail
    refine HC9.out.mono ?_
    clear HC9
    rintro e wc ⟨rfl, hBc⟩
    replace HV3 := Lib.hid (HV3.out.below hBc)
    replace HV6 := Lib.hid (HV6.out.below hBc)
    replace HV7 := Lib.hid (HV7.out.below hBc)
    have HBc := Lib.hid (HB9.out.trans (hBc.mono HB9.out.size))
    have q0 := (HK0.out.below HBc.out HK0.out.lt).cell 0
    have q3 := (HK1.out.below HBc.out HK1.out.lt).cell 0
    clear hBc
    by_cases hle : ny ≤ nx
    · have hz0 : 0 ≤ cmpN nx ny := by unfold cmpN; rw [if_neg (by omega)]; split <;> omega
      obtain ⟨z, hz⟩ : ∃ z, cmpN nx ny = z := ⟨_, rfl⟩
      rw [hz] at hz0 ⊢
      have HMQ := Lib.hid (show lowQ x0 (nx - ny) dd = x + y by rw [← HX0.out, ← HNx.out, ← HNy.out, ← HDd.out]; exact addQ_ge (by rw [HX0.out, HY0.out]; exact HNe.out) (by rw [HNx.out, HNy.out]; exact hle))
      have HFc := Lib.hid (fun (W : World) (hW : Below wc.heap.size wc W) => subD (HV3.out.below hW) (HV6.out.below hW) hle (by have := HSx.out; omega) (by have := HSy.out; omega))
      have HSs := Lib.hid (show szN (nx - ny) ≤ 800001 from Nat.le_trans (szN_mono (Nat.sub_le _ _)) (by have := HSx.out; omega))
      clear hz hle
      go_wp2_with fail
      go_region_held3 (fun W => W.cell? ⟨w.heap.size, 0, none⟩ = some (.bool x0) ∧ W.cell? ⟨w.heap.size + 1, 0, none⟩ = some (.bool y0)) (go_keep)
        (first
          | (go_at_call 78; refine (HFc.out _ (by first | exact Below.refl _ _ | exact (Below.refl _ _).drew)).mono ?_; clear HFc; rintro e wa ⟨va, rfl, hNa, hBa⟩; replace hBa : Below wc.heap.size wc wa := (by first | exact hBa | exact ((Below.refl _ wc).drew).trans hBa); replace hNa := hNa.at; have HVa := Lib.hid hNa; obtain ⟨aa, ca, rfl, -⟩ := hNa; have HBa := Lib.hid (HBc.out.trans (hBa.mono HBc.out.size)); have q0 := (HK0.out.below HBa.out HK0.out.lt).cell 0; have q3 := (HK1.out.below HBa.out HK1.out.lt).cell 0; have HWa := Lib.hid (HB2.out.trans (HBa.out.mono HB2.out.size)); have HLa := Lib.hid (make_any2 x0 HVa.out (HV7.out.below hBa) (by have := HSx.out; have := HSy.out; have := HSs.out; omega) (by have := HSd.out; omega) HNz.out); rw [HMQ.out] at HLa; clear hBa)
          | (go_at_call 23; refine HLa.out.mono ?_; clear HLa; rintro e wb ⟨vb, rfl, hNb, hBb⟩; obtain ⟨v1, v2, rfl, hn1, hn2⟩ := hNb; have hn1' := hn1; have hn2' := hn2; obtain ⟨a8, c8, rfl, -⟩ := hn1'; obtain ⟨b8, d8, rfl, -⟩ := hn2'; have HN1 := Lib.hid hn1; have HN2 := Lib.hid hn2; have HBb := Lib.hid (HBa.out.trans (hBb.mono HBa.out.size)); have q0 := (HK0.out.below HBb.out HK0.out.lt).cell 0; have q3 := (HK1.out.below HBb.out HK1.out.lt).cell 0; have HWb := Lib.hid (HB2.out.trans (HBb.out.mono HB2.out.size)); have HL2 := Lib.hid (show w.heap.size + 1 + 1 + 1 ≤ wa.heap.size from (HK2.out.below HBa.out HK2.out.lt).lt); have r2 := HK2.out.below HBb.out HK2.out.lt; have s0 := r2.cell 0; have s1 := r2.cell 1; have s2 := r2.cell 2; have t0 := r2.frozen 0; have t1 := r2.frozen 1; have t2 := r2.frozen 2; have HR2 := Lib.hid r2; clear r2; clear hBb hn1 hn2))
      go_wp2
      obtain ⟨r1, r2, r3⟩ := res_ref HR2.out rfl (by omega) HWb.out (show RefNew (w.heap.size + 1 + 1 + 1) wb _ _ from RefNew.mono ⟨_, _, rfl, HN1.out, HN2.out⟩ (by have := HL2.out; omega))
      exact bodyPost_ret (r_c rfl rfl (aggRef.load rfl r1)) rfl ⟨_, rfl, RefNew.mono r2 (by omega), r3⟩
    · have hz0 : cmpN nx ny < 0 := by unfold cmpN; rw [if_pos (by omega)]; decide
      obtain ⟨z, hz⟩ : ∃ z, cmpN nx ny = z := ⟨_, rfl⟩
      rw [hz] at hz0 ⊢
      have hle2 : nx ≤ ny := by omega
      have HMQ := Lib.hid (show lowQ y0 (ny - nx) dd = x + y by rw [← HY0.out, ← HNx.out, ← HNy.out, ← HDd.out]; exact addQ_lt (by rw [HX0.out, HY0.out]; exact HNe.out) (by rw [HNx.out, HNy.out]; exact hle2))
      have HFc := Lib.hid (fun (W : World) (hW : Below wc.heap.size wc W) => subD (HV6.out.below hW) (HV3.out.below hW) hle2 (by have := HSy.out; omega) (by have := HSx.out; omega))
      have HSs := Lib.hid (show szN (ny - nx) ≤ 800001 from Nat.le_trans (szN_mono (Nat.sub_le _ _)) (by have := HSy.out; omega))
      clear hz hle hle2
      go_wp2_with fail
      go_region_held3 (fun W => W.cell? ⟨w.heap.size, 0, none⟩ = some (.bool x0) ∧ W.cell? ⟨w.heap.size + 1, 0, none⟩ = some (.bool y0)) (go_keep)
        (first
          | (go_at_call 78; refine (HFc.out _ (by first | exact Below.refl _ _ | exact (Below.refl _ _).drew)).mono ?_; clear HFc; rintro e wa ⟨va, rfl, hNa, hBa⟩; replace hBa : Below wc.heap.size wc wa := (by first | exact hBa | exact ((Below.refl _ wc).drew).trans hBa); replace hNa := hNa.at; have HVa := Lib.hid hNa; obtain ⟨aa, ca, rfl, -⟩ := hNa; have HBa := Lib.hid (HBc.out.trans (hBa.mono HBc.out.size)); have q0 := (HK0.out.below HBa.out HK0.out.lt).cell 0; have q3 := (HK1.out.below HBa.out HK1.out.lt).cell 0; have HWa := Lib.hid (HB2.out.trans (HBa.out.mono HB2.out.size)); have HLa := Lib.hid (make_any2 y0 HVa.out (HV7.out.below hBa) (by have := HSx.out; have := HSy.out; have := HSs.out; omega) (by have := HSd.out; omega) HNz.out); rw [HMQ.out] at HLa; clear hBa)
          | (go_at_call 23; refine HLa.out.mono ?_; clear HLa; rintro e wb ⟨vb, rfl, hNb, hBb⟩; obtain ⟨v1, v2, rfl, hn1, hn2⟩ := hNb; have hn1' := hn1; have hn2' := hn2; obtain ⟨a8, c8, rfl, -⟩ := hn1'; obtain ⟨b8, d8, rfl, -⟩ := hn2'; have HN1 := Lib.hid hn1; have HN2 := Lib.hid hn2; have HBb := Lib.hid (HBa.out.trans (hBb.mono HBa.out.size)); have q0 := (HK0.out.below HBb.out HK0.out.lt).cell 0; have q3 := (HK1.out.below HBb.out HK1.out.lt).cell 0; have HWb := Lib.hid (HB2.out.trans (HBb.out.mono HB2.out.size)); have HL2 := Lib.hid (show w.heap.size + 1 + 1 + 1 ≤ wa.heap.size from (HK2.out.below HBa.out HK2.out.lt).lt); have r2 := HK2.out.below HBb.out HK2.out.lt; have s0 := r2.cell 0; have s1 := r2.cell 1; have s2 := r2.cell 2; have t0 := r2.frozen 0; have t1 := r2.frozen 1; have t2 := r2.frozen 2; have HR2 := Lib.hid r2; clear r2; clear hBb hn1 hn2))
      go_wp2
      obtain ⟨r1, r2, r3⟩ := res_ref HR2.out rfl (by omega) HWb.out (show RefNew (w.heap.size + 1 + 1 + 1) wb _ _ from RefNew.mono ⟨_, _, rfl, HN1.out, HN2.out⟩ (by have := HL2.out; omega))
      exact bodyPost_ret (r_c rfl rfl (aggRef.load rfl r1)) rfl ⟨_, rfl, RefNew.mono r2 (by omega), r3⟩
end Go.Proofs.YtjcpfmndkeiegaaGreatDoor.Rf
namespace Go.Proofs.YtjcpfmndkeiegaaGreatDoor.Rf
open Go.RowKit Go.Proofs.YtjcpfmndkeiegaaGreatDoor
set_option linter.unusedVariables false

theorem cmpD2 {w : World} {va vb : Value} {x y : Nat} (hx : DgAt w va x) (hy : DgAt w vb y) (h1 : szN x ≤ 10000000) (h2 : szN y ≤ 10000000) :
    Calls Tryz.prog 74 #[va, vb] w fun e w' => e = .returned (.int .i64 (cmpN x y)) ∧ Below w.heap.size w w' := by
  obtain ⟨a, c, rfl, hc, ha, -⟩ := hx
  obtain ⟨b, d, rfl, hd, hb, -⟩ := hy
  exact cmp_any ha (limbs_len x) hc (limbs_lim x) (limbs_val x) hb (limbs_len y) hd (limbs_lim y) (limbs_val y) (by omega) (by omega)
theorem cmpQ_same {x y : Rat} {s : Bool} (hx : negQ x = s) (hy : negQ y = s) : cmpQ x y = if s then -cmpN (numQ x * y.den) (numQ y * x.den) else cmpN (numQ x * y.den) (numQ y * x.den) := by
  rw [cmpQ_cases, hx, hy]
  cases s with
  | false => simp; rfl
  | true =>
    simp only [and_self, if_true]
    show cmpN (numQ y * x.den) (numQ x * y.den) = _
    unfold cmpN
    by_cases h1 : numQ y * x.den < numQ x * y.den
    · rw [if_pos h1, if_neg (by omega), if_pos h1]
    · rw [if_neg h1]
      by_cases h2 : numQ x * y.den < numQ y * x.den
      · rw [if_pos h2, if_pos h2]; rfl
      · rw [if_neg h2, if_neg h2, if_neg h1]; rfl
theorem cmpQ_other {x y : Rat} (h : negQ x ≠ negQ y) : cmpQ x y = if negQ x then -1 else 1 := by
  rw [cmpQ_cases]
  cases hx : negQ x <;> cases hy : negQ y <;> simp_all
set_option maxRecDepth 100000 in
set_option maxHeartbeats 8000000 in
theorem refCmp_any {va vb : Value} {x y : Rat} {w : World} (hx : RefAt w va x) (hy : RefAt w vb y) (h1 : szN (numQ x) ≤ 400000) (h2 : szN x.den ≤ 400000) (h3 : szN (numQ y) ≤ 400000) (h4 : szN y.den ≤ 400000) :
    Calls Tryz.prog 29 #[va, vb] w fun e w' => e = .returned (.int .i64 (cmpQ x y)) ∧ Below w.heap.size w w' := by
  obtain ⟨u1, u2, rfl, hxn, hxd⟩ := hx
  obtain ⟨u3, u4, rfl, hyn, hyd⟩ := hy
  have HXN := Lib.hid hxn
  have HXD := Lib.hid hxd
  have HYN := Lib.hid hyn
  have HYD := Lib.hid hyd
  obtain ⟨a, c, rfl, -⟩ := hxn
  obtain ⟨b, d, rfl, -⟩ := hxd
  obtain ⟨a', c', rfl, -⟩ := hyn
  obtain ⟨b', d', rfl, -⟩ := hyd
  obtain ⟨x0, hx0⟩ : ∃ x0, negQ x = x0 := ⟨_, rfl⟩
  obtain ⟨n1, hn1⟩ : ∃ n, szN (numQ x) = n := ⟨_, rfl⟩
  obtain ⟨n2, hn2⟩ : ∃ n, szN x.den = n := ⟨_, rfl⟩
  obtain ⟨y0, hy0⟩ : ∃ x0, negQ y = x0 := ⟨_, rfl⟩
  obtain ⟨m1, hm1⟩ : ∃ n, szN (numQ y) = n := ⟨_, rfl⟩
  obtain ⟨m2, hm2⟩ : ∃ n, szN y.den = n := ⟨_, rfl⟩
  have HS1 := Lib.hid h1
  have HS2 := Lib.hid h2
  have HS3 := Lib.hid h3
  have HS4 := Lib.hid h4
  have HX0 := Lib.hid hx0
  have HY0 := Lib.hid hy0
  rw [hn1] at HXN
  rw [hn2] at HXD
  rw [hm1] at HYN
  rw [hm2] at HYD
  rw [hx0, hn1, hn2, hy0, hm1, hm2]
  obtain ⟨W2, hW2⟩ : ∃ W2, (w.alloc (.cells #[.bool x0, .slice a n1 c, .slice b n2 d] 33)).alloc (.cells #[.bool y0, .slice a' m1 c', .slice b' m2 d'] 33) = W2 := ⟨_, rfl⟩
  have b0 : BlkAt W2 w.heap.size 33 #[.bool x0, .slice a n1 c, .slice b n2 d] := by rw [← hW2]; exact (BlkAt.new w _ _).alloc _
  have b1 : BlkAt W2 (w.heap.size + 1) 33 #[.bool y0, .slice a' m1 c', .slice b' m2 d'] := by
    rw [← hW2]
    have := BlkAt.new (w.alloc (.cells #[.bool x0, .slice a n1 c, .slice b n2 d] 33)) 33 #[.bool y0, .slice a' m1 c', .slice b' m2 d']
    rwa [World.size_alloc] at this
  have hB2 : Below w.heap.size w W2 := by rw [← hW2]; exact ((Below.refl _ w).alloc (Nat.le_refl _) _).alloc (by simp) _
  have HK0 := Lib.hid b0
  have HK1 := Lib.hid b1
  have HB2 := Lib.hid hB2
  obtain ⟨q0, q1, q2, q3, q4, q5⟩ := ref_cells b0 b1
  clear b0 b1 hB2 hx0 hn1 hn2 hy0 hm1 hm2 h1 h2 h3 h4
  by_cases hs : x0 = y0
  · subst hs
    have HQ := Lib.hid (cmpQ_same HX0.out HY0.out)
    have HSx := Lib.hid (show szN (numQ x * y.den) ≤ 800000 from Nat.le_trans (szN_mul _ _) (by have := HS1.out; have := HS4.out; omega))
    have HSy := Lib.hid (show szN (numQ y * x.den) ≤ 800000 from Nat.le_trans (szN_mul _ _) (by have := HS3.out; have := HS2.out; omega))
    obtain ⟨z, hz⟩ : ∃ z, cmpQ x y = z := ⟨_, rfl⟩
    rw [hz] at HQ ⊢
    clear hz
    go_enter Tryz.func29, Tryz.ntmps29
    go_wp2_with fail
    clear hW2
    go_region_held3 (fun W => W.cell? ⟨w.heap.size, 0, none⟩ = some (.bool x0) ∧ W.cell? ⟨w.heap.size, 1, none⟩ = some (.slice a n1 c) ∧ W.cell? ⟨w.heap.size, 2, none⟩ = some (.slice b n2 d) ∧ W.cell? ⟨w.heap.size + 1, 0, none⟩ = some (.bool x0) ∧ W.cell? ⟨w.heap.size + 1, 1, none⟩ = some (.slice a' m1 c') ∧ W.cell? ⟨w.heap.size + 1, 2, none⟩ = some (.slice b' m2 d')) (go_keep)
      (first
        | (go_at_call 76; refine (mulD (HXN.out.below HB2.out.drew) (HYD.out.below HB2.out.drew) (Nat.le_trans HS1.out (by decide)) (Nat.le_trans HS4.out (by decide))).mono ?_; rintro e w3 ⟨v3, rfl, hN3, hB3⟩; replace hB3 : Below W2.heap.size W2 w3 := ((Below.refl _ W2).drew).trans hB3; replace hN3 := hN3.at; have HV3 := Lib.hid hN3; obtain ⟨a3, c3, rfl, -⟩ := hN3; have HB3 := Lib.hid hB3; obtain ⟨q0, q1, q2, q3, q4, q5⟩ := ref_cells (HK0.out.below HB3.out HK0.out.lt) (HK1.out.below HB3.out HK1.out.lt); have HW3 := Lib.hid (HB2.out.trans (HB3.out.mono HB2.out.size)); have HM3 := Lib.hid (mulD (HYN.out.below HW3.out) (HXD.out.below HW3.out) (Nat.le_trans HS3.out (by decide)) (Nat.le_trans HS2.out (by decide))); clear HXN HYN HXD HYD hB3)
        | (go_at_call 76; refine HM3.out.mono ?_; rintro e w6 ⟨v6, rfl, hN6, hB6⟩; replace hN6 := hN6.at; have HV6 := Lib.hid hN6; obtain ⟨a6, c6, rfl, -⟩ := hN6; have HB6 := Lib.hid (HB3.out.trans (hB6.mono HB3.out.size)); obtain ⟨q0, q1, q2, q3, q4, q5⟩ := ref_cells (HK0.out.below HB6.out HK0.out.lt) (HK1.out.below HB6.out HK1.out.lt); have HW6 := Lib.hid (HB2.out.trans (HB6.out.mono HB2.out.size)); replace HV3 := Lib.hid (HV3.out.below hB6); have HC6 := Lib.hid (cmpD2 HV3.out HV6.out (by have := HSx.out; omega) (by have := HSy.out; omega)); clear HM3; clear hB6)
        | (go_at_call 74; refine HC6.out.mono ?_; rintro e w7 ⟨rfl, hB7⟩; have HB7 := Lib.hid (HB6.out.trans (hB7.mono HB6.out.size)); obtain ⟨q0, q1, q2, q3, q4, q5⟩ := ref_cells (HK0.out.below HB7.out HK0.out.lt) (HK1.out.below HB7.out HK1.out.lt); have HW7 := Lib.hid (HB2.out.trans (HB7.out.mono HB2.out.size)); clear HC6; clear hB7))
    obtain ⟨g, hg⟩ : ∃ g, cmpN (numQ x * y.den) (numQ y * x.den) = g := ⟨_, rfl⟩
    rw [hg] at HQ ⊢
    have hgb : -1 ≤ g ∧ g ≤ 1 := by rw [← hg]; unfold cmpN; split; decide; split <;> decide
    obtain ⟨hg1, hg2⟩ := hgb
    clear hg
    cases x0
    · go_wp2
      go_ret
      exact ⟨by rw [HQ.out]; rfl, HW7.out⟩
    · go_wp2
      go_ret
      exact ⟨by rw [HQ.out]; rfl, HW7.out⟩
  · have HQ := Lib.hid (cmpQ_other (x := x) (y := y) (by rw [HX0.out, HY0.out]; exact hs))
    rw [HX0.out] at HQ
    obtain rfl : y0 = !x0 := by cases x0 <;> cases y0 <;> simp_all
    rw [HQ.out]
    clear hs HQ
    go_enter Tryz.func29, Tryz.ntmps29
    cases x0
    · go_wp2
      go_ret
      exact ⟨rfl, by have := HB2.out; rw [← hW2] at this; exact this⟩
    · go_wp2
      go_ret
      exact ⟨rfl, by have := HB2.out; rw [← hW2] at this; exact this⟩
theorem limbs_small {n : Nat} (h : n < 10000) : limbs n = if n = 0 then [] else [n] := by
  by_cases h0 : n = 0
  · subst h0; rw [limbs_zero]; rfl
  · rw [limbs_pos h0, if_neg h0, Nat.div_eq_of_lt h, limbs_zero, Nat.mod_eq_of_lt h]
theorem OwnD.new {w : World} {base n : Nat} {v : Value} (h : OwnD w base v (limbs n)) : DgNew base w v n := by
  obtain ⟨a, c, rfl, h1, h2, h3, h4⟩ := h.rd
  exact ⟨a, c, rfl, h1, h2, h3, h4⟩
/-- The loop of Of. -/
def OfL (n : Nat) (w : World) (v r : Value) (W : World) : Prop := ∃ k D, r = .int .u64 (k : Nat) ∧ (k = n ∧ D = [] ∨ k = 0 ∧ 0 < n ∧ D = [n]) ∧ OwnD W w.heap.size v D ∧ Below w.heap.size w W
set_option maxRecDepth 100000 in
set_option maxHeartbeats 8000000 in
theorem of_any {n : Nat} (hn : n < 10000) (w : World) :
    Calls Tryz.prog 75 #[.int .u64 (n : Nat)] w fun e w' => ∃ v, e = .returned v ∧ DgNew w.heap.size w' v n ∧ Below w.heap.size w w' := by
  have hnI : (n : Int) ≤ 9999 := by omega
  go_enter Tryz.func75, Tryz.ntmps75
  go_wp2
  go_loopw [0, 3] (fun r v W => OfL n w v r W) (fun r v W => (intOf r).toNat)
  case atStart => exact ⟨n, [], rfl, .inl ⟨rfl, rfl⟩, OwnD.nil w _, Below.refl _ _⟩
  case round =>
    obtain ⟨k, D, rfl, hd, ho, hB⟩ := hrel
    have HBl := Lib.hid hB
    by_cases hk : k = 0
    · subst hk
      have hl : D = limbs n := by
        rw [limbs_small hn]
        rcases hd with ⟨rfl, rfl⟩ | ⟨-, h, rfl⟩
        · rfl
        · rw [if_neg (by omega)]
      rw [hl] at ho
      have HN := Lib.hid (OwnD.new ho)
      clear ho hd hl hB
      go_wp2
      go_ret
      exact ⟨_, rfl, HN.out, HBl.out⟩
    · obtain ⟨rfl, rfl⟩ : k = n ∧ D = [] := by
        rcases hd with ⟨h, h'⟩ | ⟨h, -⟩
        · exact ⟨h, h'⟩
        · omega
      have hol := ho
      unfold OwnD at hol
      obtain ⟨l, hl⟩ : ∃ l, ([] : List Nat).length = l := ⟨_, rfl⟩
      rw [hl] at hol
      obtain ⟨va, vc, rfl⟩ := ownsRow_slice' hol
      have HO := Lib.hid hol
      have HL := Lib.hid hl
      have hl5 : l ≤ 5 := by rw [← hl]; decide
      clear hl
      have hk0 : (0 : Int) < (k : Int) := by omega
      have hm : (k : Int) % 10000 = (k : Int) := by omega
      have hq : (k : Int) / 10000 = 0 := by omega
      have hkp : 0 < k := by omega
      clear ho hol hd hB hk
      go_wp2_with (at_builtin; refine wpList_app _ rfl _ _ _ _ _ _ slD rfl w.heap.size w (HBl.out.alloc HBl.out.size _) (by have := HBl.out.size; rw [World.size_alloc]; omega) _ _ _ rfl (HO.out.alloc _) ⟨wr.heap.size, 0, none⟩ #[.int .i64 (k : Int)].toList rfl rfl (news_blk (BlkAt.new wr 3 #[.int .i64 (k : Int)])) (by intro u hu; simp at hu; subst hu; rfl) (by omega) ?_; intro v6 w6 ho6 hB6 hb6 hg6)
      rw [← HL.out] at ho6
      exact ⟨⟨0, [k], rfl, .inr ⟨rfl, hkp, rfl⟩, ho6, hB6⟩, by simp only [intOf]; omega⟩
set_option maxRecDepth 100000 in
set_option maxHeartbeats 8000000 in
theorem refInt_any {n : Nat} (hn : n < 10000) (w : World) :
    Calls Tryz.prog 26 #[.int .i64 (n : Nat)] w fun e w' => ∃ v, e = .returned v ∧ RefNew (w.heap.size + 1) w' v ((n : Int) : Rat) ∧ Below w.heap.size w w' := by
  have hnI : (n : Int) ≤ 9999 := by omega
  have HMQ := Lib.hid (show lowQ false n 1 = ((n : Int) : Rat) by
    have := ofQ (n : Int)
    rw [decide_eq_false (by omega), Int.natAbs_natCast] at this
    exact this)
  obtain ⟨q, hq⟩ : ∃ q, ((n : Int) : Rat) = q := ⟨_, rfl⟩
  rw [hq] at HMQ ⊢
  clear hq
  obtain ⟨W1, hW1⟩ : ∃ W1, w.alloc ref0 = W1 := ⟨_, rfl⟩
  have hB1 : Below w.heap.size w W1 := by rw [← hW1]; exact (Below.refl _ w).alloc (Nat.le_refl _) _
  have k1 : BlkAt W1 w.heap.size 33 #[.bool false, .slice none 0 0, .slice none 0 0] := by rw [← hW1]; exact BlkAt.new w _ _
  have HK1 := Lib.hid k1
  have HB1 := Lib.hid hB1
  have HO := Lib.hid (fun W => of_any hn W)
  have HNs := Lib.hid (show szN n ≤ 1 from szN_small hn)
  clear k1 hB1 hn
  go_enter Tryz.func26, Tryz.ntmps26
  go_wp2_with fail
  refine (HO.out _).mono ?_
  clear HO
  rintro e w3 ⟨v3, rfl, hN3, hB3⟩
  replace hN3 := hN3.at
  have HV3 := Lib.hid hN3
  obtain ⟨a3, c3, rfl, -⟩ := hN3
  have HB3 := Lib.hid (HB1.out.trans (hB3.mono HB1.out.size))
  have HK3 := Lib.hid (HK1.out.below hB3 HK1.out.lt)
  have e1 : limbs 1 = [1] := by rw [limbs_small (by decide)]; rfl
  have e2 : szN 1 = 1 := by rw [← limbs_len, e1]; rfl
  have HV4 := Lib.hid (show DgAt (w3.alloc (.cells #[.int .i64 (1 : Nat)] 3)) (.slice (some ⟨w3.heap.size, 0, none⟩) 1 1) 1 from ⟨_, 1, by rw [e2], by rw [e2]; exact Nat.le_refl _, by rw [e1]; exact RdD.one w3 1, fun h => by cases h⟩)
  obtain ⟨W4, hW4⟩ : ∃ W4, w3.alloc (.cells #[.int .i64 (1 : Nat)] 3) = W4 := ⟨_, rfl⟩
  have hB34 : Below w3.heap.size w3 W4 := by rw [← hW4]; exact (Below.refl _ w3).alloc (Nat.le_refl _) _
  rw [hW4] at HV4
  have HMk := Lib.hid (make_any2 false (HV3.out.below hB34) HV4.out (by have := HNs.out; omega) (by rw [e2]; decide) (by decide))
  rw [HMQ.out] at HMk
  have HB4 := Lib.hid (HB3.out.trans (hB34.mono HB3.out.size))
  have HK4 := Lib.hid (HK3.out.below hB34 HK3.out.lt)
  have HL2 := Lib.hid (show w.heap.size + 1 ≤ W4.heap.size from HK4.out.lt)
  clear hB3 hB34 e1 e2 hW1
  go_wp2_with fail
  rw [show (w3.alloc (.cells #[.int .i64 1] 3)) = W4 from hW4]
  refine HMk.out.mono ?_
  clear HMk
  rintro e w7 ⟨v7, rfl, hN7, hB7⟩
  obtain ⟨v1, v2, rfl, hn1, hn2⟩ := hN7
  have hn1' := hn1
  have hn2' := hn2
  obtain ⟨a7, c7, rfl, -⟩ := hn1'
  obtain ⟨b7, d7, rfl, -⟩ := hn2'
  have HN1 := Lib.hid hn1
  have HN2 := Lib.hid hn2
  have HB7 := Lib.hid (HB4.out.trans (hB7.mono HB4.out.size))
  have r2 := HK4.out.below hB7 HK4.out.lt
  have s0 := r2.cell 0
  have s1 := r2.cell 1
  have s2 := r2.cell 2
  have t0 := r2.frozen 0
  have t1 := r2.frozen 1
  have t2 := r2.frozen 2
  have HR2 := Lib.hid r2
  clear r2 hB7 hn1 hn2 hW4
  go_wp2
  obtain ⟨r1, r2, r3⟩ := res_ref HR2.out rfl (Nat.le_refl _) HB7.out (show RefNew (w.heap.size + 1) w7 _ _ from RefNew.mono ⟨_, _, rfl, HN1.out, HN2.out⟩ (by have := HL2.out; omega))
  exact bodyPost_ret (r_c rfl rfl (aggRef.load rfl r1)) rfl ⟨_, rfl, r2, r3⟩
end Go.Proofs.YtjcpfmndkeiegaaGreatDoor.Rf
