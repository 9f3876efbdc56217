/- The walks of nat.Add, nat.Sub. -/
import Derived.Test.YtjcpfmndkeiegaaGreatDoorNtD
import Derived.Test.YtjcpfmndkeiegaaGreatDoorShelf
namespace Go.Proofs.YtjcpfmndkeiegaaGreatDoor
open Go.RowKit
set_option linter.unusedVariables false

theorem infoU : (Tryz.prog.info? 133).map (fun i => (i.zero, i.size, i.bytes)) = some (some (.int .u32 0), 1, 4) := by kernel_rfl
theorem clone_any {w : World} {a : Option Addr} {l : List Nat} {c : Nat} (h : RdL w a l) (hn : l.length ≤ 1000000000) :
    Calls Tryz.prog 106 #[.slice a l.length c] w fun e w' => ∃ v, e = .returned v ∧ OwnL w' w.heap.size v l ∧ Below w.heap.size w w' := by
  rcases h with ⟨rfl, rfl⟩ | ⟨g, cur, rfl, hb, hc⟩
  · refine (Tryz.slices_Clone_nil _ _ w).mono ?_
    rintro e w' ⟨rfl, rfl⟩
    exact ⟨_, rfl, OwnL.nil _ _, Below.refl _ _⟩
  · obtain ⟨i0, hi, hz0, hz1, hz2⟩ := info_parts infoU
    refine (Tryz.slices_Clone i0 _ 1 4 hi hz0 hz1 hz2 rfl (by omega) (by intro w; kernel_rfl) g 0 l.length c (l.map uv) w (by simp) (by unfold maxLen; omega) (by omega) ?_ ?_).mono ?_
    · intro j u hj
      rw [List.getElem?_map] at hj
      cases hl : l[j]? with
      | none => rw [hl] at hj; cases hj
      | some x =>
        rw [hl] at hj
        obtain ⟨h1, h2⟩ := List.getElem?_eq_some_iff.1 hl
        have := hc j h1
        rw [Nat.zero_add, hb.cell j, this, h2]
        exact hj
    · intro u hu
      obtain ⟨x, _, rfl⟩ := List.mem_map.1 hu
      rfl
    · rintro e w' ⟨v, rfl, ho, _, hB⟩
      exact ⟨v, rfl, ho, hB⟩

/-- The store of a result that is a number. -/
theorem res_at {w W : World} {base g : Nat} {x0 : Value} {a : Option Addr} {s c n : Nat} (hb : BlkAt W g 57 #[x0]) (hg : base ≤ g) (h : Below base w W) (hN : NatAt W (.agg #[.slice a s c]) n) :
    (loadVar 57 ⟨g, 0, none⟩).run Tryz.prog (W.setCell ⟨g, 0, none⟩ (.slice a s c)) = .ok (.agg #[.slice a s c]) (W.setCell ⟨g, 0, none⟩ (.slice a s c)) ∧
      NatAt (W.setCell ⟨g, 0, none⟩ (.slice a s c)) (.agg #[.slice a s c]) n ∧ Below base w (W.setCell ⟨g, 0, none⟩ (.slice a s c)) :=
  ⟨aggNat.load rfl (hb.set 0 (.slice a s c)), hN.keep (KeepT.blk hb (by decide) (grow_set W g 0 _)), h.setCell (p := ⟨g, 0, none⟩) hg _⟩
/-- Two boxes of numbers and a result's cell. -/
def Boxes (w W : World) (va vb : Value) : Prop := BlkAt W w.heap.size 57 #[va] ∧ BlkAt W (w.heap.size + 1) 57 #[vb] ∧ BlkAt W (w.heap.size + 1 + 1) 57 #[.slice none 0 0]
abbrev box3 (w : World) (va vb : Value) : World := ((w.alloc (.cells #[va] 57)).alloc (.cells #[vb] 57)).alloc nat0
theorem boxes_new (w : World) (va vb : Value) : Boxes w (box3 w va vb) va vb ∧ Below w.heap.size w (box3 w va vb) ∧ (box3 w va vb).heap.size = w.heap.size + 3 := by
  refine ⟨⟨((BlkAt.new w _ _).alloc _).alloc _, ?_, ?_⟩, (((Below.refl _ w).alloc (Nat.le_refl _) _).alloc (by simp) _).alloc (by simp; omega) _, by simp [box3]⟩
  · have := (BlkAt.new (w.alloc (.cells #[va] 57)) 57 #[vb]).alloc nat0
    simpa using this
  · have := BlkAt.new ((w.alloc (.cells #[va] 57)).alloc (.cells #[vb] 57)) 57 #[.slice none 0 0]
    simpa using this
theorem Boxes.below {w W W' : World} {va vb : Value} (h : Boxes w W va vb) (hB : Below W.heap.size W W') : Boxes w W' va vb :=
  ⟨h.1.below hB h.1.lt, h.2.1.below hB h.2.1.lt, h.2.2.below hB h.2.2.lt⟩

/-- The loop of Add. -/
def AddL (y T : Nat) (w : World) (base : Nat) (L : List Nat) (v c p : Value) (W : World) : Prop :=
  ∃ k D cy, p = .int .i64 (k : Nat) ∧ c = .int .u64 (cy : Nat) ∧ k ≤ L.length ∧ D.length = k ∧ Lim D ∧ cy ≤ 1 ∧ valL D + 4294967296 ^ k * (cy + valL (L.drop k) + valL ((limbs y).drop k)) = T ∧ OwnL W base v (D ++ L.drop k) ∧ Below base w W
set_option maxRecDepth 20000 in
set_option maxHeartbeats 8000000 in
/-- Add, the longer number first. -/
theorem add_long {va vb : Value} {x y : Nat} {w : World} (hx : NatAt w va x) (hy : NatAt w vb y) (hxs : szN x ≤ 1000000) (hle : szN y ≤ szN x) :
    Calls Tryz.prog 117 #[va, vb] w fun e w' => ∃ v, e = .returned v ∧ NatAt w' v (x + y) ∧ Below w.heap.size w w' := by
  obtain ⟨a, c, rfl, ha⟩ := hx
  obtain ⟨b, d, rfl, hb⟩ := hy
  obtain ⟨n, hn⟩ : ∃ n, szN x = n := ⟨_, rfl⟩
  obtain ⟨m, hm⟩ : ∃ m, szN y = m := ⟨_, rfl⟩
  rw [hn] at hxs hle ⊢
  rw [hm] at hle ⊢
  obtain ⟨W2, hW2⟩ : ∃ W2, ((w.alloc (.cells #[.slice a n c] 57)).alloc (.cells #[.slice b m d] 57)).alloc (.cells #[.slice none 0 0] 57) = W2 := ⟨_, rfl⟩
  obtain ⟨hbx, hB2, hz2⟩ := boxes_new w (.slice a n c) (.slice b m d)
  rw [show box3 w (.slice a n c) (.slice b m d) = W2 from hW2] at hbx hB2 hz2
  have HC := Lib.hid (clone_any (c := c) (ha.below hB2) (by rw [limbs_len]; omega))
  rw [limbs_len, hn] at HC
  have HBx := Lib.hid hbx
  have HB2 := Lib.hid hB2
  have HBR := Lib.hid (hb.below hB2)
  have HN := Lib.hid hn
  have HM := Lib.hid hm
  have d0 := hbx.1.cell 0
  have d1 := hbx.2.1.cell 0
  have HZ2 := Lib.hid hz2
  clear ha hb hbx hB2 hz2 hn hm
  go_enter Tryz.func117, Tryz.ntmps117
  go_wp2
  go_step3
  go_wp2_with (first
    | (go_at_call 106; refine HC.out.mono ?_; rintro e w3 ⟨v, rfl, ho3, hB3⟩; have HO3 := Lib.hid (show w3.ownsRow W2.heap.size 133 1 v (limbs x).length ((limbs x).map uv) from ho3); have HB3 := Lib.hid hB3; have hz3 := hB3.size; clear hB3 ho3)
    | (at_builtin; refine wpList_app _ rfl _ _ _ _ _ _ slU rfl W2.heap.size W2 (HB3.out.alloc hz3 _) (by simp; omega) _ _ _ rfl (HO3.out.alloc _) ⟨w3.heap.size, 0, none⟩ [.int .u32 0] rfl rfl (cell_one_new _ _ _) (by simp [Value.oneCell']) (by rw [limbs_len, HN.out]; omega) ?_; intro v' w4 ho4 hB4 hb4 _))
  have ho5 : OwnL w4 W2.heap.size v' (limbs x ++ [0]) := by unfold OwnL; simpa [uv] using ho4
  have hL5 : Lim (limbs x ++ [0]) := (limbs_lim x).append (Lim.cons (by omega) Lim.nil)
  have hl5 : (limbs x ++ [0]).length = n + 1 := by rw [List.length_append, limbs_len, HN.out]; rfl
  have hv5 : valL (limbs x ++ [0]) = x := by rw [valL_append, limbs_val]; simp [valL]
  obtain ⟨L, hL⟩ : ∃ L, limbs x ++ [0] = L := ⟨_, rfl⟩
  rw [hL] at ho5 hL5 hl5 hv5
  obtain ⟨va4, vc4, rfl, hc4, _⟩ := ho5.rd
  have H0 := Lib.hid (show AddL y (x + y) W2 W2.heap.size L (.slice va4 L.length vc4) (.int .u64 0) (.int .i64 0) w4 from ⟨0, [], 0, rfl, rfl, Nat.zero_le _, rfl, Lim.nil, by omega, by simp [valL, hv5, limbs_val], by simpa using ho5, hB4⟩)
  have HL5 := Lib.hid hL5
  have HLl := Lib.hid hl5
  clear ho4 ho5 hL5 hL hv5 hB4 hb4 hz3
  rw [hl5] at H0 hc4 ⊢
  clear hl5
  go_step3
  go_wp2
  go_loopw [6, 24] (fun c' p W => AddL y (x + y) W2 W2.heap.size L (.slice va4 (n + 1) vc4) c' p W) (fun c' p W => (n + 1) - (intOf p).toNat)
  case atStart => exact H0.out
  case round =>
    obtain ⟨k, D, cy, rfl, rfl, hk, hDl, hD, hcy, hv, ho, hB⟩ := hrel
    rw [HLl.out] at hk
    have HBW := Lib.hid hB
    have hbx := HBx.out.below hB
    have c1 := hbx.2.1.cell 0
    have HRb := HBR.out.below hB
    have hml : (D ++ L.drop k).length = L.length := by have := HLl.out; simp; omega
    have hml2 : (D ++ L.drop k).length = n + 1 := by rw [hml, HLl.out]
    by_cases hlt : k < n + 1
    · have hkL : k < L.length := by rw [HLl.out]; exact hlt
      obtain ⟨g, c', he, hbg, hg, hc', hcell, hfr, hset⟩ := ho.form (by omega)
      simp only [Value.slice.injEq] at he
      obtain ⟨rfl, -, rfl⟩ := he
      have hgk : (D ++ L.drop k)[k]'(by omega) = L[k] := by
        rw [List.getElem_append_right (by omega)]; simp [hDl]
      have hc1 := hcell k (by omega)
      rw [hgk] at hc1
      have hst := fun y => hset k y (by omega)
      have hset2 : ∀ y : Nat, (D ++ L.drop k).set k y = (D ++ [y]) ++ L.drop (k + 1) := fun y => set_at hDl hkL y
      have hxb := HL5.out.get hkL
      have hfk := hfr k
      have hvx : valL (L.drop k) = L[k] + 4294967296 * valL (L.drop (k + 1)) := by rw [List.drop_eq_getElem_cons hkL]; rfl
      obtain ⟨p, hp⟩ : ∃ p, L[k] = p := ⟨_, rfl⟩
      obtain ⟨q, hq⟩ : ∃ q, (limbs y).getD k 0 = q := ⟨_, rfl⟩
      have hqb : q < 4294967296 := by rw [← hq]; exact limbs_getD_lt y k
      rw [valL_step (limbs y) k, hvx, hp, hq] at hv
      rw [hp] at hc1 hxb
      have hst2 := add_step hDl hv
      have HST := Lib.hid hst2
      have HSet := Lib.hid hst
      have HS2 := Lib.hid hset2
      have HD := Lib.hid hD
      have HDl := Lib.hid hDl
      have hpI : (p : Int) ≤ 4294967295 := by omega
      have hqI : (q : Int) ≤ 4294967295 := by omega
      have hcy2 : (cy + p + q) / 4294967296 ≤ 1 := by omega
      have HC2 := Lib.hid hcy2
      have HCy := Lib.hid hcy
      obtain ⟨cI, hcI⟩ : ∃ cI : Int, (cy : Int) = cI := ⟨_, rfl⟩
      have hc0 : 0 ≤ cI := by omega
      have hc1' : cI ≤ 1 := by omega
      by_cases hkm : k < m
      · obtain ⟨gb, rfl, hgb, hcb⟩ := HRb.at k (by rw [limbs_len, HM.out]; exact hkm)
        rw [hq] at hcb
        rw [hcI]
        have HcI := Lib.hid hcI
        obtain ⟨pI, hpI'⟩ : ∃ pI : Int, (p : Int) = pI := ⟨_, rfl⟩
        obtain ⟨qI, hqI'⟩ : ∃ qI : Int, (q : Int) = qI := ⟨_, rfl⟩
        have hp0 : 0 ≤ pI := by omega
        have hq0 : 0 ≤ qI := by omega
        rw [hpI'] at hc1 hpI
        rw [hqI'] at hcb hqI
        have HpI := Lib.hid hpI'
        have HqI := Lib.hid hqI'
        have hand : bits .and .u64 (cI + qI + pI) 4294967295 = (cI + qI + pI) % 4294967296 := and32 _ (by omega) (by omega)
        clear hB hbx HRb hml hml2 hcell hfr hset hst hset2 hxb hvx hv hp hq hqb hst2 hD hDl hcy hcy2 hcI hpI' hqI' ho hgk hc'
        go_wp2
        go_roundw
        case rel =>
          refine ⟨k + 1, D ++ [(cy + p + q) % 4294967296], (cy + p + q) / 4294967296, by go_num, ?_, by have := HLl.out; omega, by simp [HDl.out], HD.out.append (Lim.cons (Nat.mod_lt _ (by omega)) Lim.nil), HC2.out, HST.out, ?_, ?_⟩
          · have e : (((cy + p + q) / 4294967296 : Nat) : Int) = (cI + qI + pI) / 4294967296 := by have h1 := HcI.out; have h2 := HpI.out; have h3 := HqI.out; omega
            rw [e]
          · rw [← HS2.out]
            have h := HSet.out ((cy + p + q) % 4294967296)
            have e : (((cy + p + q) % 4294967296 : Nat) : Int) = (cI + qI + pI) % 4294967296 := by have h1 := HcI.out; have h2 := HpI.out; have h3 := HqI.out; omega
            rw [e] at h
            exact h
          · exact HBW.out.setCell (p := ⟨g, k, none⟩) hbg _
        case measure => simp [intOf]; omega
      · have hq0 : q = 0 := by
          rw [← hq, List.getD, List.getElem?_eq_none (by rw [limbs_len, HM.out]; omega)]; rfl
        subst hq0
        by_cases hz : cy = 0
        · subst hz
          have hYz : valL ((limbs y).drop (k + 1)) = 0 := by rw [List.drop_of_length_le (by rw [limbs_len, HM.out]; omega)]; rfl
          have hval : valL (D ++ L.drop k) = x + y := by
            rw [valL_append, hDl, hvx, hp, ← hv, hYz]; simp
          have hlim : Lim (D ++ L.drop k) := hD.append (HL5.out.drop k)
          obtain ⟨a6, c6, he6, hc6, hr6⟩ := ho.rd
          have HT := Lib.hid (trim_any hlim hr6 hc6 (by rw [hml2]; omega))
          rw [hval] at HT
          rw [hml2] at HT he6
          simp only [Value.slice.injEq] at he6
          obtain ⟨rfl, -, rfl⟩ := he6
          have HBx6 := Lib.hid hbx
          have hkm2 : m ≤ k := by omega
          clear hB hbx HRb hml hml2 hcell hfr hset hst hset2 hxb hvx hv hp hq hqb hst2 hD hDl hcy hcy2 hcI ho hgk hc' hqI hkm hc0 hc1' hYz hval hlim hc6 hr6
          go_wp2_with (go_at_call 94; refine HT.out.mono ?_; rintro e w6 ⟨rfl, hN6, hB6⟩; have HN6 := Lib.hid hN6; have hbx6 := HBx6.out.below hB6; have HB6 := Lib.hid (HBW.out.trans (hB6.mono HBW.out.size)); clear hN6 hB6; have r0 := hbx6.2.2.cell 0; have r1 := hbx6.2.2.frozen 0; have HX6 := Lib.hid hbx6.2.2; clear hbx6)
          obtain ⟨e1, e2, e3⟩ := res_at HX6.out (by omega) (HB2.out.trans (HB6.out.mono HB2.out.size)) HN6.out
          rw [Exit.noGoto_ret]
          exact bodyPost_ret (r_c rfl rfl e1) rfl ⟨_, rfl, e2, e3⟩
        · rw [hcI]
          have hc2' : 0 < cI := by omega
          have HcI := Lib.hid hcI
          obtain ⟨pI, hpI'⟩ : ∃ pI : Int, (p : Int) = pI := ⟨_, rfl⟩
          have hp0 : 0 ≤ pI := by omega
          rw [hpI'] at hc1 hpI
          have HpI := Lib.hid hpI'
          have hand : bits .and .u64 (cI + pI) 4294967295 = (cI + pI) % 4294967296 := and32 _ (by omega) (by omega)
          have hkm2 : m ≤ k := by omega
          clear hB hbx HRb hml hml2 hcell hfr hset hst hset2 hxb hvx hv hp hq hqb hst2 hD hDl hcy hcy2 hcI hpI' ho hgk hc' hz hqI hkm
          go_wp2
          go_roundw
          case rel =>
            refine ⟨k + 1, D ++ [(cy + p + 0) % 4294967296], (cy + p + 0) / 4294967296, by go_num, ?_, by have := HLl.out; omega, by simp [HDl.out], HD.out.append (Lim.cons (Nat.mod_lt _ (by omega)) Lim.nil), HC2.out, HST.out, ?_, ?_⟩
            · have e : (((cy + p + 0) / 4294967296 : Nat) : Int) = (cI + pI) / 4294967296 := by have h1 := HcI.out; have h2 := HpI.out;  omega
              rw [e]
            · rw [← HS2.out]
              have h := HSet.out ((cy + p + 0) % 4294967296)
              have e : (((cy + p + 0) % 4294967296 : Nat) : Int) = (cI + pI) % 4294967296 := by have h1 := HcI.out; have h2 := HpI.out;  omega
              rw [e] at h
              exact h
            · exact HBW.out.setCell (p := ⟨g, k, none⟩) hbg _
          case measure => simp [intOf]; omega
    · obtain rfl : k = n + 1 := by omega
      have hYz : valL ((limbs y).drop (n + 1)) = 0 := by rw [List.drop_of_length_le (by rw [limbs_len, HM.out]; omega)]; rfl
      have hXz : L.drop (n + 1) = [] := List.drop_of_length_le (by rw [HLl.out]; omega)
      have hsum : x + y < 4294967296 ^ (n + 1) := sum_lt (by rw [← HN.out]; exact szN_lt x) (by rw [← HM.out]; exact szN_lt y) hle
      rw [hYz, hXz, Nat.add_zero, show valL ([] : List Nat) = 0 from rfl, Nat.add_zero] at hv
      have hcz : cy = 0 := no_carry hv hsum
      have hval : valL (D ++ L.drop (n + 1)) = x + y := by
        rw [hXz, List.append_nil, ← hv, hcz, Nat.mul_zero, Nat.add_zero]
      subst hcz
      have hlim : Lim (D ++ L.drop (n + 1)) := hD.append (HL5.out.drop _)
      obtain ⟨a6, c6, he6, hc6, hr6⟩ := ho.rd
      have HT := Lib.hid (trim_any hlim hr6 hc6 (by rw [hml2]; omega))
      rw [hval] at HT
      rw [hml2] at HT he6
      simp only [Value.slice.injEq] at he6
      obtain ⟨rfl, -, rfl⟩ := he6
      have HBx6 := Lib.hid hbx
      clear hB hbx HRb hml hml2 hv hD hDl hcy ho hYz hXz hsum hval hlim hc6 hr6
      go_wp2_with (go_at_call 94; refine HT.out.mono ?_; rintro e w6 ⟨rfl, hN6, hB6⟩; have HN6 := Lib.hid hN6; have hbx6 := HBx6.out.below hB6; have HB6 := Lib.hid (HBW.out.trans (hB6.mono HBW.out.size)); clear hN6 hB6; have r0 := hbx6.2.2.cell 0; have r1 := hbx6.2.2.frozen 0; have HX6 := Lib.hid hbx6.2.2; clear hbx6)
      obtain ⟨e1, e2, e3⟩ := res_at HX6.out (by omega) (HB2.out.trans (HB6.out.mono HB2.out.size)) HN6.out
      rw [Exit.noGoto_ret]
      exact bodyPost_ret (r_c rfl rfl e1) rfl ⟨_, rfl, e2, e3⟩
set_option maxRecDepth 20000 in
set_option maxHeartbeats 8000000 in
/-- Add, the shorter number first. -/
theorem add_swap {va vb : Value} {x y : Nat} {w : World} (hx : NatAt w va x) (hy : NatAt w vb y) (hxs : szN x ≤ 1000000) (hlt0 : szN y < szN x) :
    Calls Tryz.prog 117 #[vb, va] w fun e w' => ∃ v, e = .returned v ∧ NatAt w' v (x + y) ∧ Below w.heap.size w w' := by
  have hle := Nat.le_of_lt hlt0
  obtain ⟨a, c, rfl, ha⟩ := hx
  obtain ⟨b, d, rfl, hb⟩ := hy
  obtain ⟨n, hn⟩ : ∃ n, szN x = n := ⟨_, rfl⟩
  obtain ⟨m, hm⟩ : ∃ m, szN y = m := ⟨_, rfl⟩
  rw [hn] at hxs hle hlt0 ⊢
  rw [hm] at hle hlt0 ⊢
  obtain ⟨W2, hW2⟩ : ∃ W2, ((w.alloc (.cells #[.slice a n c] 57)).alloc (.cells #[.slice b m d] 57)).alloc (.cells #[.slice none 0 0] 57) = W2 := ⟨_, rfl⟩
  obtain ⟨hbx, hB2, hz2⟩ := boxes_new w (.slice a n c) (.slice b m d)
  rw [show box3 w (.slice a n c) (.slice b m d) = W2 from hW2] at hbx hB2 hz2
  have HC := Lib.hid (clone_any (c := c) (ha.below hB2) (by rw [limbs_len]; omega))
  rw [limbs_len, hn] at HC
  have HBx := Lib.hid hbx
  have HB2 := Lib.hid hB2
  have HBR := Lib.hid (hb.below hB2)
  have HN := Lib.hid hn
  have HM := Lib.hid hm
  have d0 := hbx.1.cell 0
  have d1 := hbx.2.1.cell 0
  have HZ2 := Lib.hid hz2
  clear ha hb hbx hB2 hz2 hn hm
  go_enter Tryz.func117, Tryz.ntmps117
  go_wp2
  go_step3
  go_wp2_with (first
    | (go_at_call 106; refine HC.out.mono ?_; rintro e w3 ⟨v, rfl, ho3, hB3⟩; have HO3 := Lib.hid (show w3.ownsRow W2.heap.size 133 1 v (limbs x).length ((limbs x).map uv) from ho3); have HB3 := Lib.hid hB3; have hz3 := hB3.size; clear hB3 ho3)
    | (at_builtin; refine wpList_app _ rfl _ _ _ _ _ _ slU rfl W2.heap.size W2 (HB3.out.alloc hz3 _) (by simp; omega) _ _ _ rfl (HO3.out.alloc _) ⟨w3.heap.size, 0, none⟩ [.int .u32 0] rfl rfl (cell_one_new _ _ _) (by simp [Value.oneCell']) (by rw [limbs_len, HN.out]; omega) ?_; intro v' w4 ho4 hB4 hb4 _))
  have ho5 : OwnL w4 W2.heap.size v' (limbs x ++ [0]) := by unfold OwnL; simpa [uv] using ho4
  have hL5 : Lim (limbs x ++ [0]) := (limbs_lim x).append (Lim.cons (by omega) Lim.nil)
  have hl5 : (limbs x ++ [0]).length = n + 1 := by rw [List.length_append, limbs_len, HN.out]; rfl
  have hv5 : valL (limbs x ++ [0]) = x := by rw [valL_append, limbs_val]; simp [valL]
  obtain ⟨L, hL⟩ : ∃ L, limbs x ++ [0] = L := ⟨_, rfl⟩
  rw [hL] at ho5 hL5 hl5 hv5
  obtain ⟨va4, vc4, rfl, hc4, _⟩ := ho5.rd
  have H0 := Lib.hid (show AddL y (x + y) W2 W2.heap.size L (.slice va4 L.length vc4) (.int .u64 0) (.int .i64 0) w4 from ⟨0, [], 0, rfl, rfl, Nat.zero_le _, rfl, Lim.nil, by omega, by simp [valL, hv5, limbs_val], by simpa using ho5, hB4⟩)
  have HL5 := Lib.hid hL5
  have HLl := Lib.hid hl5
  clear ho4 ho5 hL5 hL hv5 hB4 hb4 hz3
  rw [hl5] at H0 hc4 ⊢
  clear hl5
  go_step3
  go_wp2
  go_loopw [6, 24] (fun c' p W => AddL y (x + y) W2 W2.heap.size L (.slice va4 (n + 1) vc4) c' p W) (fun c' p W => (n + 1) - (intOf p).toNat)
  case atStart => exact H0.out
  case round =>
    obtain ⟨k, D, cy, rfl, rfl, hk, hDl, hD, hcy, hv, ho, hB⟩ := hrel
    rw [HLl.out] at hk
    have HBW := Lib.hid hB
    have hbx := HBx.out.below hB
    have c1 := hbx.2.1.cell 0
    have HRb := HBR.out.below hB
    have hml : (D ++ L.drop k).length = L.length := by have := HLl.out; simp; omega
    have hml2 : (D ++ L.drop k).length = n + 1 := by rw [hml, HLl.out]
    by_cases hlt : k < n + 1
    · have hkL : k < L.length := by rw [HLl.out]; exact hlt
      obtain ⟨g, c', he, hbg, hg, hc', hcell, hfr, hset⟩ := ho.form (by omega)
      simp only [Value.slice.injEq] at he
      obtain ⟨rfl, -, rfl⟩ := he
      have hgk : (D ++ L.drop k)[k]'(by omega) = L[k] := by
        rw [List.getElem_append_right (by omega)]; simp [hDl]
      have hc1 := hcell k (by omega)
      rw [hgk] at hc1
      have hst := fun y => hset k y (by omega)
      have hset2 : ∀ y : Nat, (D ++ L.drop k).set k y = (D ++ [y]) ++ L.drop (k + 1) := fun y => set_at hDl hkL y
      have hxb := HL5.out.get hkL
      have hfk := hfr k
      have hvx : valL (L.drop k) = L[k] + 4294967296 * valL (L.drop (k + 1)) := by rw [List.drop_eq_getElem_cons hkL]; rfl
      obtain ⟨p, hp⟩ : ∃ p, L[k] = p := ⟨_, rfl⟩
      obtain ⟨q, hq⟩ : ∃ q, (limbs y).getD k 0 = q := ⟨_, rfl⟩
      have hqb : q < 4294967296 := by rw [← hq]; exact limbs_getD_lt y k
      rw [valL_step (limbs y) k, hvx, hp, hq] at hv
      rw [hp] at hc1 hxb
      have hst2 := add_step hDl hv
      have HST := Lib.hid hst2
      have HSet := Lib.hid hst
      have HS2 := Lib.hid hset2
      have HD := Lib.hid hD
      have HDl := Lib.hid hDl
      have hpI : (p : Int) ≤ 4294967295 := by omega
      have hqI : (q : Int) ≤ 4294967295 := by omega
      have hcy2 : (cy + p + q) / 4294967296 ≤ 1 := by omega
      have HC2 := Lib.hid hcy2
      have HCy := Lib.hid hcy
      obtain ⟨cI, hcI⟩ : ∃ cI : Int, (cy : Int) = cI := ⟨_, rfl⟩
      have hc0 : 0 ≤ cI := by omega
      have hc1' : cI ≤ 1 := by omega
      by_cases hkm : k < m
      · obtain ⟨gb, rfl, hgb, hcb⟩ := HRb.at k (by rw [limbs_len, HM.out]; exact hkm)
        rw [hq] at hcb
        rw [hcI]
        have HcI := Lib.hid hcI
        obtain ⟨pI, hpI'⟩ : ∃ pI : Int, (p : Int) = pI := ⟨_, rfl⟩
        obtain ⟨qI, hqI'⟩ : ∃ qI : Int, (q : Int) = qI := ⟨_, rfl⟩
        have hp0 : 0 ≤ pI := by omega
        have hq0 : 0 ≤ qI := by omega
        rw [hpI'] at hc1 hpI
        rw [hqI'] at hcb hqI
        have HpI := Lib.hid hpI'
        have HqI := Lib.hid hqI'
        have hand : bits .and .u64 (cI + qI + pI) 4294967295 = (cI + qI + pI) % 4294967296 := and32 _ (by omega) (by omega)
        clear hB hbx HRb hml hml2 hcell hfr hset hst hset2 hxb hvx hv hp hq hqb hst2 hD hDl hcy hcy2 hcI hpI' hqI' ho hgk hc'
        go_wp2
        go_roundw
        case rel =>
          refine ⟨k + 1, D ++ [(cy + p + q) % 4294967296], (cy + p + q) / 4294967296, by go_num, ?_, by have := HLl.out; omega, by simp [HDl.out], HD.out.append (Lim.cons (Nat.mod_lt _ (by omega)) Lim.nil), HC2.out, HST.out, ?_, ?_⟩
          · have e : (((cy + p + q) / 4294967296 : Nat) : Int) = (cI + qI + pI) / 4294967296 := by have h1 := HcI.out; have h2 := HpI.out; have h3 := HqI.out; omega
            rw [e]
          · rw [← HS2.out]
            have h := HSet.out ((cy + p + q) % 4294967296)
            have e : (((cy + p + q) % 4294967296 : Nat) : Int) = (cI + qI + pI) % 4294967296 := by have h1 := HcI.out; have h2 := HpI.out; have h3 := HqI.out; omega
            rw [e] at h
            exact h
          · exact HBW.out.setCell (p := ⟨g, k, none⟩) hbg _
        case measure => simp [intOf]; omega
      · have hq0 : q = 0 := by
          rw [← hq, List.getD, List.getElem?_eq_none (by rw [limbs_len, HM.out]; omega)]; rfl
        subst hq0
        by_cases hz : cy = 0
        · subst hz
          have hYz : valL ((limbs y).drop (k + 1)) = 0 := by rw [List.drop_of_length_le (by rw [limbs_len, HM.out]; omega)]; rfl
          have hval : valL (D ++ L.drop k) = x + y := by
            rw [valL_append, hDl, hvx, hp, ← hv, hYz]; simp
          have hlim : Lim (D ++ L.drop k) := hD.append (HL5.out.drop k)
          obtain ⟨a6, c6, he6, hc6, hr6⟩ := ho.rd
          have HT := Lib.hid (trim_any hlim hr6 hc6 (by rw [hml2]; omega))
          rw [hval] at HT
          rw [hml2] at HT he6
          simp only [Value.slice.injEq] at he6
          obtain ⟨rfl, -, rfl⟩ := he6
          have HBx6 := Lib.hid hbx
          have hkm2 : m ≤ k := by omega
          clear hB hbx HRb hml hml2 hcell hfr hset hst hset2 hxb hvx hv hp hq hqb hst2 hD hDl hcy hcy2 hcI ho hgk hc' hqI hkm hc0 hc1' hYz hval hlim hc6 hr6
          go_wp2_with (go_at_call 94; refine HT.out.mono ?_; rintro e w6 ⟨rfl, hN6, hB6⟩; have HN6 := Lib.hid hN6; have hbx6 := HBx6.out.below hB6; have HB6 := Lib.hid (HBW.out.trans (hB6.mono HBW.out.size)); clear hN6 hB6; have r0 := hbx6.2.2.cell 0; have r1 := hbx6.2.2.frozen 0; have HX6 := Lib.hid hbx6.2.2; clear hbx6)
          obtain ⟨e1, e2, e3⟩ := res_at HX6.out (by omega) (HB2.out.trans (HB6.out.mono HB2.out.size)) HN6.out
          rw [Exit.noGoto_ret]
          exact bodyPost_ret (r_c rfl rfl e1) rfl ⟨_, rfl, e2, e3⟩
        · rw [hcI]
          have hc2' : 0 < cI := by omega
          have HcI := Lib.hid hcI
          obtain ⟨pI, hpI'⟩ : ∃ pI : Int, (p : Int) = pI := ⟨_, rfl⟩
          have hp0 : 0 ≤ pI := by omega
          rw [hpI'] at hc1 hpI
          have HpI := Lib.hid hpI'
          have hand : bits .and .u64 (cI + pI) 4294967295 = (cI + pI) % 4294967296 := and32 _ (by omega) (by omega)
          have hkm2 : m ≤ k := by omega
          clear hB hbx HRb hml hml2 hcell hfr hset hst hset2 hxb hvx hv hp hq hqb hst2 hD hDl hcy hcy2 hcI hpI' ho hgk hc' hz hqI hkm
          go_wp2
          go_roundw
          case rel =>
            refine ⟨k + 1, D ++ [(cy + p + 0) % 4294967296], (cy + p + 0) / 4294967296, by go_num, ?_, by have := HLl.out; omega, by simp [HDl.out], HD.out.append (Lim.cons (Nat.mod_lt _ (by omega)) Lim.nil), HC2.out, HST.out, ?_, ?_⟩
            · have e : (((cy + p + 0) / 4294967296 : Nat) : Int) = (cI + pI) / 4294967296 := by have h1 := HcI.out; have h2 := HpI.out;  omega
              rw [e]
            · rw [← HS2.out]
              have h := HSet.out ((cy + p + 0) % 4294967296)
              have e : (((cy + p + 0) % 4294967296 : Nat) : Int) = (cI + pI) % 4294967296 := by have h1 := HcI.out; have h2 := HpI.out;  omega
              rw [e] at h
              exact h
            · exact HBW.out.setCell (p := ⟨g, k, none⟩) hbg _
          case measure => simp [intOf]; omega
    · obtain rfl : k = n + 1 := by omega
      have hYz : valL ((limbs y).drop (n + 1)) = 0 := by rw [List.drop_of_length_le (by rw [limbs_len, HM.out]; omega)]; rfl
      have hXz : L.drop (n + 1) = [] := List.drop_of_length_le (by rw [HLl.out]; omega)
      have hsum : x + y < 4294967296 ^ (n + 1) := sum_lt (by rw [← HN.out]; exact szN_lt x) (by rw [← HM.out]; exact szN_lt y) hle
      rw [hYz, hXz, Nat.add_zero, show valL ([] : List Nat) = 0 from rfl, Nat.add_zero] at hv
      have hcz : cy = 0 := no_carry hv hsum
      have hval : valL (D ++ L.drop (n + 1)) = x + y := by
        rw [hXz, List.append_nil, ← hv, hcz, Nat.mul_zero, Nat.add_zero]
      subst hcz
      have hlim : Lim (D ++ L.drop (n + 1)) := hD.append (HL5.out.drop _)
      obtain ⟨a6, c6, he6, hc6, hr6⟩ := ho.rd
      have HT := Lib.hid (trim_any hlim hr6 hc6 (by rw [hml2]; omega))
      rw [hval] at HT
      rw [hml2] at HT he6
      simp only [Value.slice.injEq] at he6
      obtain ⟨rfl, -, rfl⟩ := he6
      have HBx6 := Lib.hid hbx
      clear hB hbx HRb hml hml2 hv hD hDl hcy ho hYz hXz hsum hval hlim hc6 hr6
      go_wp2_with (go_at_call 94; refine HT.out.mono ?_; rintro e w6 ⟨rfl, hN6, hB6⟩; have HN6 := Lib.hid hN6; have hbx6 := HBx6.out.below hB6; have HB6 := Lib.hid (HBW.out.trans (hB6.mono HBW.out.size)); clear hN6 hB6; have r0 := hbx6.2.2.cell 0; have r1 := hbx6.2.2.frozen 0; have HX6 := Lib.hid hbx6.2.2; clear hbx6)
      obtain ⟨e1, e2, e3⟩ := res_at HX6.out (by omega) (HB2.out.trans (HB6.out.mono HB2.out.size)) HN6.out
      rw [Exit.noGoto_ret]
      exact bodyPost_ret (r_c rfl rfl e1) rfl ⟨_, rfl, e2, e3⟩

theorem natAdd_any {va vb : Value} {x y : Nat} {w : World} (hx : NatAt w va x) (hy : NatAt w vb y) (hxs : szN x ≤ 1000000) (hys : szN y ≤ 1000000) :
    Calls Tryz.prog 117 #[va, vb] w fun e w' => ∃ v, e = .returned v ∧ NatAt w' v (x + y) ∧ Below w.heap.size w w' := by
  by_cases hle : szN y ≤ szN x
  · exact add_long hx hy hxs hle
  · rw [Nat.add_comm]
    exact add_swap hy hx hys (by omega)
end Go.Proofs.YtjcpfmndkeiegaaGreatDoor
