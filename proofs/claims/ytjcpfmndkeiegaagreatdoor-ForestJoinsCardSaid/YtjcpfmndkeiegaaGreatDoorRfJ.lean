/- The walk of the document's own RatText. -/
import Derived.Test.YtjcpfmndkeiegaaGreatDoorRfGI
import Derived.Test.YtjcpfmndkeiegaaGreatDoorRtFH
namespace Go.Proofs.YtjcpfmndkeiegaaGreatDoor.Rf
open Go.RowKit Go.Proofs.YtjcpfmndkeiegaaGreatDoor
set_option linter.unusedVariables false

theorem limbs_one : limbs 1 = [1] := by rw [limbs_pos (by decide), show 1 / 10000 = 0 by decide, limbs_zero]
theorem szN_1 : szN 1 = 1 := by rw [← limbs_len, limbs_one]; rfl
theorem textN_sz {x : Nat} (h : szN x ≤ 1000000) : (textN x).length ≤ 4000001 := by
  unfold textN
  by_cases h0 : x = 0
  · rw [if_pos h0]; simp
  · rw [if_neg h0]
    have h1 := szN_lt x
    rw [pow4] at h1
    have := decS_len_le x _ h1
    omega
theorem str_app (a b : List UInt8) : (⟨a.toArray⟩ : ByteArray) ++ ⟨b.toArray⟩ = ⟨(a ++ b).toArray⟩ := by
  refine ByteArray.ext ?_
  simp
set_option maxRecDepth 100000 in
set_option maxHeartbeats 8000000 in
theorem refText_any {w : World} {v : Value} {q : Rat} (h : RefAt w v q) (hn : szN (numQ q) ≤ 1000000) (hd : szN q.den ≤ 1000000) :
    Calls Tryz.prog 24 #[v] w fun e w' => e = .returned (str (textQ q)) ∧ Below w.heap.size w w' := by
  obtain ⟨va, vb, rfl, ha, hb⟩ := h
  obtain ⟨W1, hW1⟩ : ∃ W1, w.alloc (.cells #[.bool (negQ q), va, vb] 33) = W1 := ⟨_, rfl⟩
  have hB1 : Below w.heap.size w W1 := by rw [← hW1]; exact (Below.refl _ w).alloc (Nat.le_refl _) _
  have k1 : BlkAt W1 w.heap.size 33 #[.bool (negQ q), va, vb] := by rw [← hW1]; exact BlkAt.new w _ _
  have HTn := Lib.hid (text_any (ha.below hB1) hn)
  have HTd := Lib.hid (fun (W : World) (hW : Below W1.heap.size W1 W) => text_any ((hb.below hB1).below hW) hd)
  have HCm := Lib.hid (fun (W : World) (hW : Below W1.heap.size W1 W) => show Calls Tryz.prog 74 #[vb, .slice (some ⟨W.heap.size, 0, none⟩) 1 1] (W.alloc (.cells #[.int .i64 ((1 : Nat) : Int)] 3)) fun e w' => e = .returned (.int .i64 (cmpN q.den 1)) ∧ Below (W.alloc (.cells #[.int .i64 ((1 : Nat) : Int)] 3)).heap.size (W.alloc (.cells #[.int .i64 ((1 : Nat) : Int)] 3)) w' from by
    obtain ⟨b, d, rfl, hdd, hbr, -⟩ := (hb.below hB1).below hW
    exact cmp_any (hbr.below ((Below.refl _ W).alloc (Nat.le_refl _) _)) (limbs_len _) hdd (limbs_lim _) (limbs_val _) (RdD.one W 1) rfl (Nat.le_refl _) (Lim.cons (by decide) Lim.nil) (by simp [valL]) (by omega) (by simp))
  have c0 := k1.cell 0
  have c1 := k1.cell 1
  have c2 := k1.cell 2
  have HK1 := Lib.hid k1
  have HB1 := Lib.hid hB1
  obtain ⟨tn, htn, htl, htz⟩ : ∃ tn : ByteArray, str (textN (numQ q)) = .string tn ∧ tn = ⟨(textN (numQ q)).toArray⟩ ∧ tn.size ≤ 4000001 := ⟨_, rfl, rfl, by rw [size_mk]; exact textN_sz hn⟩
  obtain ⟨td, htd, htm, hty⟩ : ∃ td : ByteArray, str (textN q.den) = .string td ∧ td = ⟨(textN q.den).toArray⟩ ∧ td.size ≤ 4000001 := ⟨_, rfl, rfl, by rw [size_mk]; exact textN_sz hd⟩
  rw [htn] at HTn
  rw [htd] at HTd
  have HN := Lib.hid htl
  have HD := Lib.hid htm
  have HQ := Lib.hid (show textQ q = (if negQ q = true then [45] else []) ++ textN (numQ q) ++ (if q.den = 1 then [] else 47 :: textN q.den) from rfl)
  clear ha hb htn htl htd htm k1 hB1 hn hd
  obtain ⟨ng, hng⟩ : ∃ ng, negQ q = ng := ⟨_, rfl⟩
  rw [hng] at hW1 c0 HK1 HQ ⊢
  by_cases hd1 : q.den = 1
  · have hc0 : cmpN q.den 1 = 0 := cmp_eq' hd1
    rw [hc0] at HCm
    rw [if_pos hd1, List.append_nil] at HQ
    rw [HQ.out]
    clear hc0 hng hd1
    cases ng
    all_goals
      go_enter Tryz.func24, Tryz.ntmps24
      go_wp2_with fail
      refine HTn.out.mono ?_
      rintro e w2 ⟨rfl, hB2⟩
      have k2 := HK1.out.below hB2 HK1.out.lt
      have c0 := k2.cell 0
      have c2 := k2.cell 2
      have HB2 := Lib.hid hB2
      clear hB2 hW1 k2
      go_wp2_with fail
      refine (HCm.out _ HB2.out).mono ?_
      rintro e w3 ⟨rfl, hB3⟩
      have HB3 := Lib.hid (HB1.out.trans ((HB2.out.trans ((((Below.refl _ w2).alloc (Nat.le_refl _) _).trans (hB3.mono (by simp))).mono HB2.out.size)).mono HB1.out.size))
      clear hB3
      go_wp2
      go_ret
    · exact ⟨by rw [HN.out]; rfl, HB3.out⟩
    · exact ⟨by rw [HN.out]; exact congrArg (fun x => Ending.returned (.string x)) (str_app [45] _), HB3.out⟩
  · have hc0 : (cmpN q.den 1 != 0) = true := bne_iff_ne.2 (by
      unfold cmpN
      have := q.den_nz
      rw [if_neg (by omega), if_pos (by omega)]; decide)
    obtain ⟨z, hz⟩ : ∃ z, cmpN q.den 1 = z := ⟨_, rfl⟩
    rw [hz] at HCm hc0
    rw [if_neg hd1] at HQ
    rw [HQ.out]
    clear hng hd1 hz
    cases ng
    all_goals
      go_enter Tryz.func24, Tryz.ntmps24
      go_wp2_with fail
      refine HTn.out.mono ?_
      rintro e w2 ⟨rfl, hB2⟩
      have k2 := HK1.out.below hB2 HK1.out.lt
      have c0 := k2.cell 0
      have c2 := k2.cell 2
      have HB2 := Lib.hid hB2
      clear hB2 hW1 k2
      go_wp2_with fail
      refine (HCm.out _ HB2.out).mono ?_
      rintro e w3 ⟨rfl, hB3⟩
      have HB13 := Lib.hid (HB2.out.trans ((((Below.refl _ w2).alloc (Nat.le_refl _) _).trans (hB3.mono (by simp))).mono HB2.out.size))
      have k3 := HK1.out.below HB13.out HK1.out.lt
      have c2 := k3.cell 2
      clear hB3 k3
      go_wp2_with fail
      refine (HTd.out _ HB13.out).mono ?_
      rintro e w4 ⟨rfl, hB4⟩
      have HB4 := Lib.hid (HB1.out.trans ((HB13.out.trans (hB4.mono HB13.out.size)).mono HB1.out.size))
      clear hB4
      go_wp2
      go_ret
    · exact ⟨by rw [HN.out, HD.out]; exact congrArg (fun x => Ending.returned (.string x)) (by refine ByteArray.ext ?_; simp), HB4.out⟩
    · exact ⟨by rw [HN.out, HD.out]; exact congrArg (fun x => Ending.returned (.string x)) (by refine ByteArray.ext ?_; simp), HB4.out⟩
end Go.Proofs.YtjcpfmndkeiegaaGreatDoor.Rf
