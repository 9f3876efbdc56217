/- The walk of the document's own RatParse. -/
import Derived.Test.YtjcpfmndkeiegaaGreatDoorRfJ
import Derived.Test.YtjcpfmndkeiegaaGreatDoorRtK
import Derived.Lib.IndexLaws
import Derived.RegionTactic
import Derived.BigRegion
import Derived.Deep.QuietTactic
import Derived.BigQuiet
import Derived.Deep.DeepCutAuto
import Derived.Deep.CutBlock
namespace Go.Proofs.YtjcpfmndkeiegaaGreatDoor.Rf
open Go.RowKit Go.Proofs.YtjcpfmndkeiegaaGreatDoor
set_option linter.unusedVariables false

/-- A fraction that stands for none. -/
theorem err_ref {W : World} {w : World} {g : Nat} {cs : Array Value} (hb : BlkAt W g 33 cs) (hs : cs.size = 3) (hg : w.heap.size ≤ g) (h : Below w.heap.size w W) :
    ∀ X, ((((W.alloc (.cells #[.int .i64 1] 3)).setCell ⟨g, 0, none⟩ (.bool false)).setCell ⟨g, 1, none⟩ (.slice none 0 0)).setCell ⟨g, 2, none⟩ (.slice (some ⟨W.heap.size, 0, none⟩) 1 1)) = X →
      BlkAt X g 33 #[.bool false, .slice none 0 0, .slice (some ⟨W.heap.size, 0, none⟩) 1 1] ∧ RefNew (g + 1) X (.agg #[.bool false, .slice none 0 0, .slice (some ⟨W.heap.size, 0, none⟩) 1 1]) 0 ∧ Below w.heap.size w X := by
  rintro X rfl
  have hR := RdD.one W 1
  rw [show ((1 : Nat) : Int) = 1 from rfl] at hR
  have hN : RefNew (g + 1) (W.alloc (.cells #[.int .i64 1] 3)) (.agg #[.bool (negQ 0), .slice none 0 0, .slice (some ⟨W.heap.size, 0, none⟩) 1 1]) 0 :=
    ⟨_, _, rfl, DgNew.zero _ _, ⟨_, 1, by rw [show (0 : Rat).den = 1 from rfl, szN_1], by rw [show (0 : Rat).den = 1 from rfl, szN_1]; exact Nat.le_refl _, by rw [show (0 : Rat).den = 1 from rfl, limbs_one]; exact hR, (fun x e => by cases e; exact hb.lt), fun e => by cases e⟩⟩
  have h1 := res_ref (hb.alloc _) hs hg (h.alloc h.size _) hN
  rw [neg_zero] at h1
  exact h1
theorem negL_pos {s : ByteArray} (h : 0 < s.size) (h2 : s[0].toNat = 45) : negL s.data.toList = true ∧ bodyL s.data.toList = s.data.toList.drop 1 := by
  have : negL s.data.toList = true := by
    obtain ⟨⟨x⟩⟩ := s
    cases x with
    | nil => simp [ByteArray.size] at h
    | cons c t =>
      have hc : c = 45 := UInt8.toNat_inj.1 (show c.toNat = (45 : UInt8).toNat from h2)
      show Lib.hasPrefix (c :: t) [45] = true
      rw [hc]; rfl
  exact ⟨this, by unfold bodyL Lib.trimPrefix; unfold negL at this; rw [if_pos this]; rfl⟩
theorem negL_not {s : ByteArray} (h : ∀ h : 0 < s.size, s[0].toNat ≠ 45) : negL s.data.toList = false ∧ bodyL s.data.toList = s.data.toList := by
  have : negL s.data.toList = false := by
    obtain ⟨⟨x⟩⟩ := s
    cases x with
    | nil => rfl
    | cons c t =>
      have hc : c ≠ 45 := fun e => h (by simp [ByteArray.size]) (by show c.toNat = 45; rw [e]; rfl)
      show Lib.hasPrefix (c :: t) [45] = false
      unfold Lib.hasPrefix
      simp [List.isPrefixOf, Ne.symm hc]
  exact ⟨this, by unfold bodyL Lib.trimPrefix; unfold negL at this; rw [this]; rfl⟩
/-- The search for the '/'. -/
def CutI (o : Nat) (c p : Value) : Prop := (∃ k : Nat, p = .int .i64 (k : Nat) ∧ c = .int .i64 (-1) ∧ k ≤ o) ∨ (p = .int .i64 ((o : Int) + 1) ∧ c = .int .i64 (o : Int))
/-- What RatParse tells. -/
def ParR (w : World) (l : List UInt8) (e : Ending) (w' : World) : Prop := ∃ v, e = .returned (.tuple #[v, .int .i64 (parseRC l : Nat)]) ∧ RefNew (w.heap.size + 1) w' v (parseRQ l) ∧ Below w.heap.size w w'
theorem slashNot {t : ByteArray} {k : Nat} (h : k < t.size) (hn : t.data.toList[k]? ≠ some 47) : ((t[k].toNat : Int) == 47) = false := by
  refine beq_eq_false_iff_ne.2 (fun e => hn ?_)
  rw [List.getElem?_eq_getElem (by simpa using h)]
  exact congrArg some (UInt8.toNat_inj.1 (show t[k].toNat = (47 : UInt8).toNat by simpa using (by omega : t[k].toNat = 47)))
theorem slashIs {t : ByteArray} {k : Nat} (h : k < t.size) (hn : t.data.toList[k]? = some 47) : ((t[k].toNat : Int) == 47) = true := by
  rw [List.getElem?_eq_getElem (by simpa using h)] at hn
  have : t[k] = 47 := Option.some.inj hn
  rw [this]; rfl
theorem parseV_sz2 (l : List UInt8) : szN (parseV l) ≤ 1200 := by
  unfold parseV
  by_cases h : parseC l = 0
  · rw [if_pos h]
    unfold parseC at h
    by_cases h1 : numT l = true
    · rw [if_pos h1] at h
      by_cases h2 : 1200 < l.length
      · rw [if_pos h2] at h; cases h
      · have hd : l.all isDig = true := by unfold numT at h1; rw [Bool.and_eq_true] at h1; exact h1.1
        have h3 := numV_lt l hd
        have h4 : 10 ^ l.length ≤ 10000 ^ l.length := Nat.pow_le_pow_left (by decide) _
        exact Nat.le_trans (szN_le (Nat.lt_of_lt_of_le h3 h4)) (by omega)
    · rw [if_neg h1] at h; cases h
  · rw [if_neg h, szN_zero]; omega
theorem str_eq_list {a : List UInt8} {s : ByteArray} (h : a = s.data.toList) : ((⟨a.toArray⟩ : ByteArray).toList == s.toList) = true := by
  rw [ByteArray.toList_eq, ByteArray.toList_eq, beq_iff_eq]; exact h
theorem str_ne_list {a : List UInt8} {s : ByteArray} (h : a ≠ s.data.toList) : ((⟨a.toArray⟩ : ByteArray).toList == s.toList) = false := by
  rw [ByteArray.toList_eq, ByteArray.toList_eq]; exact beq_eq_false_iff_ne.2 h
theorem rc_a {l : List UInt8} (h : parseC (numL l) = 3 ∨ parseC (denL l) = 3) : parseRC l = 3 ∧ parseRQ l = 0 := by
  have h1 : parseRC l = 3 := by unfold parseRC; rw [if_pos h]
  exact ⟨h1, by unfold parseRQ; rw [if_neg (by omega)]⟩
theorem rc_b {l : List UInt8} (h : ¬(parseC (numL l) = 3 ∨ parseC (denL l) = 3)) (h2 : parseC (numL l) ≠ 0 ∨ parseC (denL l) ≠ 0) : parseRC l = 2 ∧ parseRQ l = 0 := by
  have h1 : parseRC l = 2 := by unfold parseRC; rw [if_neg h, if_pos h2]
  exact ⟨h1, by unfold parseRQ; rw [if_neg (by omega)]⟩
theorem rc_c {l : List UInt8} (h : parseC (numL l) = 0 ∧ parseC (denL l) = 0) (h2 : parseV (denL l) = 0 ∨ textQ (valQ l) ≠ l) : parseRC l = 3 ∧ parseRQ l = 0 := by
  have h1 : parseRC l = 3 := by unfold parseRC; rw [if_neg (by omega), if_neg (by omega), if_pos h2]
  exact ⟨h1, by unfold parseRQ; rw [if_neg (by omega)]⟩
theorem rc_d {l : List UInt8} (h : parseC (numL l) = 0 ∧ parseC (denL l) = 0) (h2 : parseV (denL l) ≠ 0) (h3 : textQ (valQ l) = l) : parseRC l = 0 ∧ parseRQ l = valQ l := by
  have h1 : parseRC l = 0 := by unfold parseRC; rw [if_neg (by omega), if_neg (by omega), if_neg (by intro h; rcases h with h | h; exact h2 h; exact h h3)]
  exact ⟨h1, by unfold parseRQ; rw [if_pos h1]⟩
set_option maxRecDepth 100000 in
set_option maxHeartbeats 32000000 in
theorem ratParse_neg (s : ByteArray) (hs : s.size ≤ 100000) (h0 : 0 < s.size) (w : World) (hn : s[0].toNat = 45) :
    Calls Tryz.prog 10 #[.string s] w (ParR w s.data.toList) := by
  obtain ⟨W1, hW1⟩ : ∃ W1, w.alloc ref0 = W1 := ⟨_, rfl⟩
  have hB1 : Below w.heap.size w W1 := by rw [← hW1]; exact (Below.refl _ w).alloc (Nat.le_refl _) _
  have k1 : BlkAt W1 w.heap.size 33 #[.bool false, .slice none 0 0, .slice none 0 0] := by rw [← hW1]; exact BlkAt.new w _ _
  have HK1 := Lib.hid k1
  have HB1 := Lib.hid hB1
  clear k1 hB1
  obtain ⟨hng, hbd⟩ := negL_pos h0 hn
  obtain ⟨tb, htb, htn⟩ : ∃ tb, s.extract 1 s.size = tb ∧ tb.size ≤ 100000 := ⟨_, rfl, by rw [ByteArray.size_extract]; omega⟩
  have htd : bodyL s.data.toList = tb.data.toList := by rw [hbd, ← htb, extract_drop]
  have hnb : ((s[0].toNat : Int) == 45) = true := beq_iff_eq.2 (by omega)
  have HNeg := Lib.hid hng
  have h0I : (0 : Int) < (s.size : Int) := by omega
  have hsI : (s.size : Int) ≤ 100000 := by omega
  have hge := Lib.indexByte_ge tb.data.toList 47
  obtain ⟨i, hi⟩ : ∃ i, Lib.indexByte tb.data.toList 47 = i := ⟨_, rfl⟩
  have hcut : cutL (bodyL s.data.toList) = cutL tb.data.toList := by rw [htd]
  rw [hi] at hge
  by_cases hi0 : 0 ≤ i
  · obtain ⟨o, rfl⟩ : ∃ o : Nat, i = o := ⟨i.toNat, by omega⟩
    obtain ⟨hio, hin⟩ := Lib.indexByte_some hi
    have hol : o < tb.size := by
      obtain ⟨hh, -⟩ := List.getElem?_eq_some_iff.1 hio
      simpa using hh
    have hc2 : cutL tb.data.toList = (tb.data.toList.take o, tb.data.toList.drop (o + 1), true) := by unfold cutL; rw [hi, if_pos hi0]; simp
    have HA := Lib.hid (show (tb.extract 0 o).data.toList = numL s.data.toList by unfold numL; rw [hcut, hc2, extract_list]; simp)
    have HBd := Lib.hid (show (tb.extract (o + 1) tb.size).data.toList = denL s.data.toList by unfold denL; rw [hcut, hc2, extract_drop, if_pos rfl])
    have HIo := Lib.hid hio
    have HIn := Lib.hid hin
    have holI : (o : Int) < (tb.size : Int) := by omega
    have htnI : (tb.size : Int) ≤ 100000 := by omega
    have hsa : (tb.extract 0 o).size ≤ 1000000 := by rw [ByteArray.size_extract]; omega
    have hsb : (tb.extract (o + 1) tb.size).size ≤ 1000000 := by rw [ByteArray.size_extract]; omega
    clear hi hi0 hge hcut hc2 hio hin hng hbd htd hn
    skip
    go_enter Tryz.func10, Tryz.ntmps10
    go_upto_block 0 with (fail)
    go_cut [7] (fun s7 wx => s7 = .int .i64 (o : Int) ∧ W1 = wx)
    case first =>
      go_wp2
      go_loop [7, 8] (fun c p => CutI o c p) (fun c p => o + 2 - (intOf p).toNat)
      case atStart => exact .inl ⟨0, rfl, rfl, Nat.zero_le _⟩
      case round =>
        rcases hrel with ⟨k, rfl, rfl, hk⟩ | ⟨rfl, rfl⟩
        · have hkl : k < tb.size := by omega
          have hklI : (k : Int) < (tb.size : Int) := by omega
          by_cases hko : k = o
          · have hb := slashIs hkl (by rw [hko]; exact HIo.out)
            have HKo := Lib.hid hko
            clear hko
            go_wp2
            exact ⟨.inr ⟨by rw [HKo.out], by rw [HKo.out]⟩, by simp only [intOf]; omega⟩
          · have hb := slashNot hkl (HIn.out k (by omega))
            go_wp2
            exact ⟨.inl ⟨k + 1, by go_num, rfl, by omega⟩, by simp only [intOf]; omega⟩
        · have ho1 : (o : Int) + 1 ≤ (tb.size : Int) := by omega
          go_wp2
          all_goals
            go_meet
            exact ⟨rfl, rfl⟩
    case rest =>
      obtain ⟨rfl, rfl⟩ := hcut
      have hw1 : IntKind.i64.wrap ((o : Int) + 1) = (o : Int) + 1 := IntWalk.i64_in _ (by omega)
      have hw2 : ((o : Int) + 1).toNat = o + 1 := by omega
      have ho1 : (o : Int) + 1 ≤ (tb.size : Int) := by omega
      go_wp2
      go_quiet (fail)
      go_wp2_with fail
      refine (parse_any (tb.extract 0 o) hsa _).mono ?_
      rintro e w2 ⟨va, rfl, hNa, hB2⟩
      have HNa := Lib.hid (show DgNew W1.heap.size w2 va (parseV (numL s.data.toList)) by have := hNa; rwa [HA.out] at this)
      have HB2 := Lib.hid hB2
      clear hNa hB2 hW1
      rw [HA.out]
      go_wp2_with fail
      refine (parse_any (tb.extract (o + 1) tb.size) hsb _).mono ?_
      rintro e w3 ⟨vb, rfl, hNb, hB3⟩
      have HNb := Lib.hid (show DgNew w2.heap.size w3 vb (parseV (denL s.data.toList)) by have := hNb; rwa [HBd.out] at this)
      have HNa3 := Lib.hid (HNa.out.below hB3)
      have hx13 := HB2.out.trans (hB3.mono HB2.out.size)
      have hB13 : Below W1.heap.size W1 w3 := by first | exact hx13 | exact (below_drewN' (Below.refl W1.heap.size W1) _).trans hx13
      have k3 := HK1.out.below hB13 HK1.out.lt
      have HK3 := Lib.hid k3
      have HB3 := Lib.hid (HB1.out.trans (hB13.mono HB1.out.size))
      rw [HBd.out]
      clear hNb hB3 hB13 hx13 k3 HA HBd HNa
      obtain ⟨ec, hec⟩ : ∃ ec, parseC (numL s.data.toList) = ec := ⟨_, rfl⟩
      obtain ⟨fc, hfc⟩ : ∃ fc, parseC (denL s.data.toList) = fc := ⟨_, rfl⟩
      rw [hec, hfc]
      have hK : ec = 3 ∨ (ec ≠ 3 ∧ fc = 3) ∨ (ec ≠ 3 ∧ fc ≠ 3 ∧ ec ≠ 0) ∨ (ec = 0 ∧ fc ≠ 3 ∧ fc ≠ 0) ∨ (ec = 0 ∧ fc = 0) := by omega
      rcases hK with rfl | ⟨h1, rfl⟩ | ⟨h1, h2, h3⟩ | ⟨rfl, h2, h3⟩ | ⟨rfl, rfl⟩
      · have HR := Lib.hid (rc_a (l := s.data.toList) (.inl hec))
        clear hec hfc
        have kz := HK3.out.alloc (.cells #[.int .i64 1] 3)
        have f0 := kz.frozen 0
        have f1 := kz.frozen 1
        have f2 := kz.frozen 2
        have e0 := kz.cell 0
        have e1 := kz.cell 1
        have e2 := kz.cell 2
        clear kz
        go_wp2
        obtain ⟨r1, r2, r3⟩ := err_ref HK3.out rfl (Nat.le_refl _) HB3.out _ rfl
        exact bodyPost_ret (r_ct rfl rfl (aggRef.load rfl r1)) rfl ⟨_, by rw [HR.out.1]; rfl, by rw [HR.out.2]; exact r2, r3⟩
      · have HR := Lib.hid (rc_a (l := s.data.toList) (.inr hfc))
        have g1 : ((ec : Int) == 3) = false := beq_eq_false_iff_ne.2 (by omega)
        clear hec hfc h1
        have kz := HK3.out.alloc (.cells #[.int .i64 1] 3)
        have f0 := kz.frozen 0
        have f1 := kz.frozen 1
        have f2 := kz.frozen 2
        have e0 := kz.cell 0
        have e1 := kz.cell 1
        have e2 := kz.cell 2
        clear kz
        go_wp2
        obtain ⟨r1, r2, r3⟩ := err_ref HK3.out rfl (Nat.le_refl _) HB3.out _ rfl
        exact bodyPost_ret (r_ct rfl rfl (aggRef.load rfl r1)) rfl ⟨_, by rw [HR.out.1]; rfl, by rw [HR.out.2]; exact r2, r3⟩
      · have HR := Lib.hid (rc_b (l := s.data.toList) (by omega) (.inl (by omega)))
        have g1 : ((ec : Int) == 3) = false := beq_eq_false_iff_ne.2 (by omega)
        have g2 : ((fc : Int) == 3) = false := beq_eq_false_iff_ne.2 (by omega)
        have g3 : ((ec : Int) != 0) = true := bne_iff_ne.2 (by omega)
        clear hec hfc h1 h2 h3
        have kz := HK3.out.alloc (.cells #[.int .i64 1] 3)
        have f0 := kz.frozen 0
        have f1 := kz.frozen 1
        have f2 := kz.frozen 2
        have e0 := kz.cell 0
        have e1 := kz.cell 1
        have e2 := kz.cell 2
        clear kz
        go_wp2
        obtain ⟨r1, r2, r3⟩ := err_ref HK3.out rfl (Nat.le_refl _) HB3.out _ rfl
        exact bodyPost_ret (r_ct rfl rfl (aggRef.load rfl r1)) rfl ⟨_, by rw [HR.out.1]; rfl, by rw [HR.out.2]; exact r2, r3⟩
      · have HR := Lib.hid (rc_b (l := s.data.toList) (by omega) (.inr (by omega)))
        have g2 : ((fc : Int) == 3) = false := beq_eq_false_iff_ne.2 (by omega)
        have g3 : ((fc : Int) != 0) = true := bne_iff_ne.2 (by omega)
        clear hec hfc h2 h3
        have kz := HK3.out.alloc (.cells #[.int .i64 1] 3)
        have f0 := kz.frozen 0
        have f1 := kz.frozen 1
        have f2 := kz.frozen 2
        have e0 := kz.cell 0
        have e1 := kz.cell 1
        have e2 := kz.cell 2
        clear kz
        go_wp2
        obtain ⟨r1, r2, r3⟩ := err_ref HK3.out rfl (Nat.le_refl _) HB3.out _ rfl
        exact bodyPost_ret (r_ct rfl rfl (aggRef.load rfl r1)) rfl ⟨_, by rw [HR.out.1]; rfl, by rw [HR.out.2]; exact r2, r3⟩
      · have HC0 := Lib.hid (And.intro hec hfc)
        clear hec hfc
        have hsz1 := parseV_sz2 (numL s.data.toList)
        have hsz2 := parseV_sz2 (denL s.data.toList)
        by_cases hd0 : parseV (denL s.data.toList) = 0
        · have HR := Lib.hid (rc_c HC0.out (.inl hd0))
          obtain ⟨ba, bc, hbe, -⟩ := HNb.out
          rw [hd0, szN_zero] at hbe
          subst hbe
          clear hd0 hsz1 hsz2
          have kz := HK3.out.alloc (.cells #[.int .i64 1] 3)
          have f0 := kz.frozen 0
          have f1 := kz.frozen 1
          have f2 := kz.frozen 2
          have e0 := kz.cell 0
          have e1 := kz.cell 1
          have e2 := kz.cell 2
          clear kz
          go_wp2
          obtain ⟨r1, r2, r3⟩ := err_ref HK3.out rfl (Nat.le_refl _) HB3.out _ rfl
          exact bodyPost_ret (r_ct rfl rfl (aggRef.load rfl r1)) rfl ⟨_, by rw [HR.out.1]; rfl, by rw [HR.out.2]; exact r2, r3⟩
        · have hsp := szN_pos hd0
          have HMk := Lib.hid (make_any2 true HNa3.out.at HNb.out.at (by omega) (by omega) hd0)
          obtain ⟨z1, z2, z3⟩ := lowQ_all (neg := true) (n := parseV (numL s.data.toList)) hd0
          have HQs := Lib.hid (show szN (numQ (valQ s.data.toList)) ≤ 1000000 ∧ szN (valQ s.data.toList).den ≤ 1000000 by
            unfold valQ
            rw [HNeg.out, z1, z2]
            exact ⟨Nat.le_trans (szN_mono (Nat.div_le_self _ _)) (by omega), Nat.le_trans (szN_mono (Nat.div_le_self _ _)) (by omega)⟩)
          rw [show lowQ true (parseV (numL s.data.toList)) (parseV (denL s.data.toList)) = valQ s.data.toList by unfold valQ; rw [HNeg.out]] at HMk
          obtain ⟨ba, bc, hbe, -⟩ := HNb.out
          obtain ⟨sb, hsb⟩ : ∃ sb, szN (parseV (denL s.data.toList)) = sb := ⟨_, rfl⟩
          rw [hsb] at hbe hsp
          subst hbe
          have hsI : ((sb : Int) == 0) = false := beq_eq_false_iff_ne.2 (by omega)
          have HD0 := Lib.hid hd0
          clear hd0 hsz1 hsz2 z1 z2 z3 hsb hsp
          go_wp2_with fail
          refine HMk.out.mono ?_
          rintro e w4 ⟨v4, rfl, hN4, hB4⟩
          obtain ⟨q, hq⟩ : ∃ q, valQ s.data.toList = q := ⟨_, rfl⟩
          rw [hq] at hN4 HQs
          have HQe := Lib.hid hq
          obtain ⟨v1, v2, rfl, hn1, hn2⟩ := hN4
          have hn1' := hn1
          have hn2' := hn2
          obtain ⟨a1, c1, rfl, -⟩ := hn1'
          obtain ⟨a2, c2, rfl, -⟩ := hn2'
          obtain ⟨s1, hs1⟩ : ∃ s1, szN (numQ q) = s1 := ⟨_, rfl⟩
          obtain ⟨s2, hs2⟩ : ∃ s2, szN q.den = s2 := ⟨_, rfl⟩
          rw [hs1] at hn1 ⊢
          rw [hs2] at hn2 ⊢
          obtain ⟨ng, hng⟩ : ∃ ng, negQ q = ng := ⟨_, rfl⟩
          have HNg := Lib.hid hng
          rw [hng]
          clear hs1 hs2 hng
          have HN4 := Lib.hid (show RefNew (w3.heap.size + 1) w4 (.agg #[.bool ng, .slice a1 s1 c1, .slice a2 s2 c2]) q from ⟨_, _, by rw [HNg.out], hn1, hn2⟩)
          have k4 := HK3.out.below hB4 HK3.out.lt
          have HB4 := Lib.hid (HB3.out.trans (hB4.mono HB3.out.size))
          have HSz4 := Lib.hid (show w.heap.size + 1 ≤ w3.heap.size by have := HK3.out.lt; omega)
          obtain ⟨W5, hW5⟩ : ∃ W5, w4.alloc (.cells #[.bool ng, .slice a1 s1 c1, .slice a2 s2 c2] 33) = W5 := ⟨_, rfl⟩
          have k5 : BlkAt W5 w4.heap.size 33 #[.bool ng, .slice a1 s1 c1, .slice a2 s2 c2] := by rw [← hW5]; exact BlkAt.new w4 _ _
          have hB45 : Below w4.heap.size w4 W5 := by rw [← hW5]; exact (Below.refl _ w4).alloc (Nat.le_refl _) _
          have HTx := Lib.hid (refText_any (HN4.out.at.below hB45) HQs.out.1 HQs.out.2)
          have d0 := k5.cell 0
          have d1 := k5.cell 1
          have d2 := k5.cell 2
          have HK5 := Lib.hid k5
          have HK4 := Lib.hid (k4.below hB45 k4.lt)
          have HN5 := Lib.hid (HN4.out.below hB45)
          have HB5 := Lib.hid (HB4.out.trans (hB45.mono HB4.out.size))
          clear hq hn1 hn2 hB4 k4 k5 hB45 HMk HNb HNa3
          go_wp2_with fail
          refine HTx.out.mono ?_
          rintro e w6 ⟨rfl, hB6⟩
          have k6 := HK4.out.below hB6 HK4.out.lt
          have HK6 := Lib.hid k6
          have f0 := k6.frozen 0
          have f1 := k6.frozen 1
          have f2 := k6.frozen 2
          have e0 := k6.cell 0
          have e1 := k6.cell 1
          have e2 := k6.cell 2
          have j6 := HK5.out.below hB6 HK5.out.lt
          have d0 := j6.cell 0
          have d1 := j6.cell 1
          have d2 := j6.cell 2
          have HN6 := Lib.hid (HN5.out.below hB6)
          have HB6 := Lib.hid (HB5.out.trans (hB6.mono HB5.out.size))
          clear hB6 k6 j6 hW5 HTx
          by_cases heq : textQ q = s.data.toList
          · have HR := Lib.hid (rc_d HC0.out HD0.out (by rw [HQe.out]; exact heq))
            have ht := str_eq_list heq
            have ht2 : (textQ q == s.toList) = true := by rw [ByteArray.toList_eq, beq_iff_eq]; exact heq
            have HN7 := Lib.hid (HN6.out.mono (show w.heap.size + 1 ≤ w3.heap.size + 1 by have := HSz4.out; omega))
            clear heq
            go_wp2
            obtain ⟨r1, r2, r3⟩ := res_ref (va := .slice a1 s1 c1) (vb := .slice a2 s2 c2) (q := q) HK6.out rfl (Nat.le_refl _) HB6.out (by rw [HNg.out]; exact HN7.out)
            rw [HNg.out] at r1 r2 r3
            exact bodyPost_ret (r_ct rfl rfl (aggRef.load rfl r1)) rfl ⟨_, by rw [HR.out.1]; rfl, by rw [HR.out.2, HQe.out]; exact r2, r3⟩
          · have HR := Lib.hid (rc_c HC0.out (.inr (by rw [HQe.out]; exact heq)))
            have ht := str_ne_list heq
            have ht2 : (textQ q == s.toList) = false := by rw [ByteArray.toList_eq]; exact beq_eq_false_iff_ne.2 heq
            clear heq f0 f1 f2 e0 e1 e2
            have kz := HK6.out.alloc (.cells #[.int .i64 1] 3)
            have f0 := kz.frozen 0
            have f1 := kz.frozen 1
            have f2 := kz.frozen 2
            have e0 := kz.cell 0
            have e1 := kz.cell 1
            have e2 := kz.cell 2
            clear kz
            go_wp2
            obtain ⟨r1, r2, r3⟩ := err_ref HK6.out rfl (Nat.le_refl _) HB6.out _ rfl
            exact bodyPost_ret (r_ct rfl rfl (aggRef.load rfl r1)) rfl ⟨_, by rw [HR.out.1]; rfl, by rw [HR.out.2]; exact r2, r3⟩
  · have hi1 : i = -1 := by omega
    subst hi1
    have hin := Lib.indexByte_none hi
    have hc2 : cutL tb.data.toList = (tb.data.toList, [], false) := by unfold cutL; rw [hi, if_neg hi0]
    have HA := Lib.hid (show tb.data.toList = numL s.data.toList by unfold numL; rw [hcut, hc2])
    have HBd := Lib.hid (show (⟨#[49]⟩ : ByteArray).data.toList = denL s.data.toList by unfold denL; rw [hcut, hc2]; rfl)
    have HIn := Lib.hid hin
    have htnI : (tb.size : Int) ≤ 100000 := by omega
    have hsa : tb.size ≤ 1000000 := by omega
    clear hi hi0 hge hcut hc2 hin hng hbd htd hn
    skip
    go_enter Tryz.func10, Tryz.ntmps10
    go_wp2
    go_loop [7, 8] (fun c p => ∃ k : Nat, p = .int .i64 (k : Nat) ∧ c = .int .i64 (-1) ∧ k ≤ tb.size) (fun c p => tb.size - (intOf p).toNat)
    case atStart => exact ⟨0, rfl, rfl, Nat.zero_le _⟩
    case round =>
      obtain ⟨k, rfl, rfl, hk⟩ := hrel
      by_cases hkl : k < tb.size
      · have hklI : (k : Int) < (tb.size : Int) := by omega
        have hb := slashNot hkl (HIn.out k)
        go_wp2
        exact ⟨⟨k + 1, by go_num, rfl, by omega⟩, by simp only [intOf]; omega⟩
      · have hkI : (tb.size : Int) ≤ (k : Int) := by omega
        clear hkl
        go_wp2_with fail
        refine (parse_any tb hsa _).mono ?_
        rintro e w2 ⟨va, rfl, hNa, hB2⟩
        have HNa := Lib.hid (show DgNew W1.heap.size w2 va (parseV (numL s.data.toList)) by have := hNa; rwa [HA.out] at this)
        have HB2 := Lib.hid hB2
        clear hNa hB2 hW1
        rw [HA.out]
        go_wp2_with fail
        refine (parse_any ⟨#[49]⟩ (by decide) _).mono ?_
        rintro e w3 ⟨vb, rfl, hNb, hB3⟩
        have HNb := Lib.hid (show DgNew w2.heap.size w3 vb (parseV (denL s.data.toList)) by have := hNb; rwa [HBd.out] at this)
        have HNa3 := Lib.hid (HNa.out.below hB3)
        have hx13 := HB2.out.trans (hB3.mono HB2.out.size)
        have hB13 : Below W1.heap.size W1 w3 := by first | exact hx13 | exact (below_drewN' (Below.refl W1.heap.size W1) _).trans hx13
        have k3 := HK1.out.below hB13 HK1.out.lt
        have HK3 := Lib.hid k3
        have HB3 := Lib.hid (HB1.out.trans (hB13.mono HB1.out.size))
        rw [HBd.out]
        clear hNb hB3 hB13 hx13 k3 HA HBd HNa
        obtain ⟨ec, hec⟩ : ∃ ec, parseC (numL s.data.toList) = ec := ⟨_, rfl⟩
        obtain ⟨fc, hfc⟩ : ∃ fc, parseC (denL s.data.toList) = fc := ⟨_, rfl⟩
        rw [hec, hfc]
        have hK : ec = 3 ∨ (ec ≠ 3 ∧ fc = 3) ∨ (ec ≠ 3 ∧ fc ≠ 3 ∧ ec ≠ 0) ∨ (ec = 0 ∧ fc ≠ 3 ∧ fc ≠ 0) ∨ (ec = 0 ∧ fc = 0) := by omega
        rcases hK with rfl | ⟨h1, rfl⟩ | ⟨h1, h2, h3⟩ | ⟨rfl, h2, h3⟩ | ⟨rfl, rfl⟩
        · have HR := Lib.hid (rc_a (l := s.data.toList) (.inl hec))
          clear hec hfc
          have kz := HK3.out.alloc (.cells #[.int .i64 1] 3)
          have f0 := kz.frozen 0
          have f1 := kz.frozen 1
          have f2 := kz.frozen 2
          have e0 := kz.cell 0
          have e1 := kz.cell 1
          have e2 := kz.cell 2
          clear kz
          go_wp2
          obtain ⟨r1, r2, r3⟩ := err_ref HK3.out rfl (Nat.le_refl _) HB3.out _ rfl
          exact bodyPost_ret (r_ct rfl rfl (aggRef.load rfl r1)) rfl ⟨_, by rw [HR.out.1]; rfl, by rw [HR.out.2]; exact r2, r3⟩
        · have HR := Lib.hid (rc_a (l := s.data.toList) (.inr hfc))
          have g1 : ((ec : Int) == 3) = false := beq_eq_false_iff_ne.2 (by omega)
          clear hec hfc h1
          have kz := HK3.out.alloc (.cells #[.int .i64 1] 3)
          have f0 := kz.frozen 0
          have f1 := kz.frozen 1
          have f2 := kz.frozen 2
          have e0 := kz.cell 0
          have e1 := kz.cell 1
          have e2 := kz.cell 2
          clear kz
          go_wp2
          obtain ⟨r1, r2, r3⟩ := err_ref HK3.out rfl (Nat.le_refl _) HB3.out _ rfl
          exact bodyPost_ret (r_ct rfl rfl (aggRef.load rfl r1)) rfl ⟨_, by rw [HR.out.1]; rfl, by rw [HR.out.2]; exact r2, r3⟩
        · have HR := Lib.hid (rc_b (l := s.data.toList) (by omega) (.inl (by omega)))
          have g1 : ((ec : Int) == 3) = false := beq_eq_false_iff_ne.2 (by omega)
          have g2 : ((fc : Int) == 3) = false := beq_eq_false_iff_ne.2 (by omega)
          have g3 : ((ec : Int) != 0) = true := bne_iff_ne.2 (by omega)
          clear hec hfc h1 h2 h3
          have kz := HK3.out.alloc (.cells #[.int .i64 1] 3)
          have f0 := kz.frozen 0
          have f1 := kz.frozen 1
          have f2 := kz.frozen 2
          have e0 := kz.cell 0
          have e1 := kz.cell 1
          have e2 := kz.cell 2
          clear kz
          go_wp2
          obtain ⟨r1, r2, r3⟩ := err_ref HK3.out rfl (Nat.le_refl _) HB3.out _ rfl
          exact bodyPost_ret (r_ct rfl rfl (aggRef.load rfl r1)) rfl ⟨_, by rw [HR.out.1]; rfl, by rw [HR.out.2]; exact r2, r3⟩
        · have HR := Lib.hid (rc_b (l := s.data.toList) (by omega) (.inr (by omega)))
          have g2 : ((fc : Int) == 3) = false := beq_eq_false_iff_ne.2 (by omega)
          have g3 : ((fc : Int) != 0) = true := bne_iff_ne.2 (by omega)
          clear hec hfc h2 h3
          have kz := HK3.out.alloc (.cells #[.int .i64 1] 3)
          have f0 := kz.frozen 0
          have f1 := kz.frozen 1
          have f2 := kz.frozen 2
          have e0 := kz.cell 0
          have e1 := kz.cell 1
          have e2 := kz.cell 2
          clear kz
          go_wp2
          obtain ⟨r1, r2, r3⟩ := err_ref HK3.out rfl (Nat.le_refl _) HB3.out _ rfl
          exact bodyPost_ret (r_ct rfl rfl (aggRef.load rfl r1)) rfl ⟨_, by rw [HR.out.1]; rfl, by rw [HR.out.2]; exact r2, r3⟩
        · have HC0 := Lib.hid (And.intro hec hfc)
          clear hec hfc
          have hsz1 := parseV_sz2 (numL s.data.toList)
          have hsz2 := parseV_sz2 (denL s.data.toList)
          by_cases hd0 : parseV (denL s.data.toList) = 0
          · have HR := Lib.hid (rc_c HC0.out (.inl hd0))
            obtain ⟨ba, bc, hbe, -⟩ := HNb.out
            rw [hd0, szN_zero] at hbe
            subst hbe
            clear hd0 hsz1 hsz2
            have kz := HK3.out.alloc (.cells #[.int .i64 1] 3)
            have f0 := kz.frozen 0
            have f1 := kz.frozen 1
            have f2 := kz.frozen 2
            have e0 := kz.cell 0
            have e1 := kz.cell 1
            have e2 := kz.cell 2
            clear kz
            go_wp2
            obtain ⟨r1, r2, r3⟩ := err_ref HK3.out rfl (Nat.le_refl _) HB3.out _ rfl
            exact bodyPost_ret (r_ct rfl rfl (aggRef.load rfl r1)) rfl ⟨_, by rw [HR.out.1]; rfl, by rw [HR.out.2]; exact r2, r3⟩
          · have hsp := szN_pos hd0
            have HMk := Lib.hid (make_any2 true HNa3.out.at HNb.out.at (by omega) (by omega) hd0)
            obtain ⟨z1, z2, z3⟩ := lowQ_all (neg := true) (n := parseV (numL s.data.toList)) hd0
            have HQs := Lib.hid (show szN (numQ (valQ s.data.toList)) ≤ 1000000 ∧ szN (valQ s.data.toList).den ≤ 1000000 by
              unfold valQ
              rw [HNeg.out, z1, z2]
              exact ⟨Nat.le_trans (szN_mono (Nat.div_le_self _ _)) (by omega), Nat.le_trans (szN_mono (Nat.div_le_self _ _)) (by omega)⟩)
            rw [show lowQ true (parseV (numL s.data.toList)) (parseV (denL s.data.toList)) = valQ s.data.toList by unfold valQ; rw [HNeg.out]] at HMk
            obtain ⟨ba, bc, hbe, -⟩ := HNb.out
            obtain ⟨sb, hsb⟩ : ∃ sb, szN (parseV (denL s.data.toList)) = sb := ⟨_, rfl⟩
            rw [hsb] at hbe hsp
            subst hbe
            have hsI : ((sb : Int) == 0) = false := beq_eq_false_iff_ne.2 (by omega)
            have HD0 := Lib.hid hd0
            clear hd0 hsz1 hsz2 z1 z2 z3 hsb hsp
            go_wp2_with fail
            refine HMk.out.mono ?_
            rintro e w4 ⟨v4, rfl, hN4, hB4⟩
            obtain ⟨q, hq⟩ : ∃ q, valQ s.data.toList = q := ⟨_, rfl⟩
            rw [hq] at hN4 HQs
            have HQe := Lib.hid hq
            obtain ⟨v1, v2, rfl, hn1, hn2⟩ := hN4
            have hn1' := hn1
            have hn2' := hn2
            obtain ⟨a1, c1, rfl, -⟩ := hn1'
            obtain ⟨a2, c2, rfl, -⟩ := hn2'
            obtain ⟨s1, hs1⟩ : ∃ s1, szN (numQ q) = s1 := ⟨_, rfl⟩
            obtain ⟨s2, hs2⟩ : ∃ s2, szN q.den = s2 := ⟨_, rfl⟩
            rw [hs1] at hn1 ⊢
            rw [hs2] at hn2 ⊢
            obtain ⟨ng, hng⟩ : ∃ ng, negQ q = ng := ⟨_, rfl⟩
            have HNg := Lib.hid hng
            rw [hng]
            clear hs1 hs2 hng
            have HN4 := Lib.hid (show RefNew (w3.heap.size + 1) w4 (.agg #[.bool ng, .slice a1 s1 c1, .slice a2 s2 c2]) q from ⟨_, _, by rw [HNg.out], hn1, hn2⟩)
            have k4 := HK3.out.below hB4 HK3.out.lt
            have HB4 := Lib.hid (HB3.out.trans (hB4.mono HB3.out.size))
            have HSz4 := Lib.hid (show w.heap.size + 1 ≤ w3.heap.size by have := HK3.out.lt; omega)
            obtain ⟨W5, hW5⟩ : ∃ W5, w4.alloc (.cells #[.bool ng, .slice a1 s1 c1, .slice a2 s2 c2] 33) = W5 := ⟨_, rfl⟩
            have k5 : BlkAt W5 w4.heap.size 33 #[.bool ng, .slice a1 s1 c1, .slice a2 s2 c2] := by rw [← hW5]; exact BlkAt.new w4 _ _
            have hB45 : Below w4.heap.size w4 W5 := by rw [← hW5]; exact (Below.refl _ w4).alloc (Nat.le_refl _) _
            have HTx := Lib.hid (refText_any (HN4.out.at.below hB45) HQs.out.1 HQs.out.2)
            have d0 := k5.cell 0
            have d1 := k5.cell 1
            have d2 := k5.cell 2
            have HK5 := Lib.hid k5
            have HK4 := Lib.hid (k4.below hB45 k4.lt)
            have HN5 := Lib.hid (HN4.out.below hB45)
            have HB5 := Lib.hid (HB4.out.trans (hB45.mono HB4.out.size))
            clear hq hn1 hn2 hB4 k4 k5 hB45 HMk HNb HNa3
            go_wp2_with fail
            refine HTx.out.mono ?_
            rintro e w6 ⟨rfl, hB6⟩
            have k6 := HK4.out.below hB6 HK4.out.lt
            have HK6 := Lib.hid k6
            have f0 := k6.frozen 0
            have f1 := k6.frozen 1
            have f2 := k6.frozen 2
            have e0 := k6.cell 0
            have e1 := k6.cell 1
            have e2 := k6.cell 2
            have j6 := HK5.out.below hB6 HK5.out.lt
            have d0 := j6.cell 0
            have d1 := j6.cell 1
            have d2 := j6.cell 2
            have HN6 := Lib.hid (HN5.out.below hB6)
            have HB6 := Lib.hid (HB5.out.trans (hB6.mono HB5.out.size))
            clear hB6 k6 j6 hW5 HTx
            by_cases heq : textQ q = s.data.toList
            · have HR := Lib.hid (rc_d HC0.out HD0.out (by rw [HQe.out]; exact heq))
              have ht := str_eq_list heq
              have ht2 : (textQ q == s.toList) = true := by rw [ByteArray.toList_eq, beq_iff_eq]; exact heq
              have HN7 := Lib.hid (HN6.out.mono (show w.heap.size + 1 ≤ w3.heap.size + 1 by have := HSz4.out; omega))
              clear heq
              go_wp2
              obtain ⟨r1, r2, r3⟩ := res_ref (va := .slice a1 s1 c1) (vb := .slice a2 s2 c2) (q := q) HK6.out rfl (Nat.le_refl _) HB6.out (by rw [HNg.out]; exact HN7.out)
              rw [HNg.out] at r1 r2 r3
              exact bodyPost_ret (r_ct rfl rfl (aggRef.load rfl r1)) rfl ⟨_, by rw [HR.out.1]; rfl, by rw [HR.out.2, HQe.out]; exact r2, r3⟩
            · have HR := Lib.hid (rc_c HC0.out (.inr (by rw [HQe.out]; exact heq)))
              have ht := str_ne_list heq
              have ht2 : (textQ q == s.toList) = false := by rw [ByteArray.toList_eq]; exact beq_eq_false_iff_ne.2 heq
              clear heq f0 f1 f2 e0 e1 e2
              have kz := HK6.out.alloc (.cells #[.int .i64 1] 3)
              have f0 := kz.frozen 0
              have f1 := kz.frozen 1
              have f2 := kz.frozen 2
              have e0 := kz.cell 0
              have e1 := kz.cell 1
              have e2 := kz.cell 2
              clear kz
              go_wp2
              obtain ⟨r1, r2, r3⟩ := err_ref HK6.out rfl (Nat.le_refl _) HB6.out _ rfl
              exact bodyPost_ret (r_ct rfl rfl (aggRef.load rfl r1)) rfl ⟨_, by rw [HR.out.1]; rfl, by rw [HR.out.2]; exact r2, r3⟩
end Go.Proofs.YtjcpfmndkeiegaaGreatDoor.Rf
