/- The walks of xout's attrs, and of what it calls. -/
import Derived.Test.YtajnpmhgldfgfaaXoC
import Derived.Test.YtajnpmhgldfgfaaXwAt
import Derived.BigQuiet
import Derived.Deep.DeepCutAuto
namespace Go.Proofs.Ytajnpmhgldfgfaa
open Go.RowKit
set_option linter.unusedVariables false

theorem bytes_beq (x y : ByteArray) : (x.toList == y.toList) = decide (y = x) := by
  by_cases h : x = y
  · rw [h, decide_eq_true rfl]; exact beq_iff_eq.2 rfl
  · rw [bytes_ne h, decide_eq_false (fun e => h e.symm)]
/-- Has one of these attributes a name? -/
def hasA (nm : ByteArray) (l : List (ByteArray × ByteArray × Int)) : Bool := l.any fun b => decide (b.1 = nm)
theorem hasA_some {nm : ByteArray} {l : List (ByteArray × ByteArray × Int)} {i : Nat} {x : ByteArray × ByteArray × Int} (h : l[i]? = some x) (hx : x.1 = nm) : hasA nm l = true := by
  unfold hasA
  rw [List.any_eq_true]
  exact ⟨x, List.mem_of_getElem? h, decide_eq_true hx⟩
theorem hasA_none {nm : ByteArray} {l : List (ByteArray × ByteArray × Int)} (h : ∀ (i : Nat) (x : ByteArray × ByteArray × Int), l[i]? = some x → x.1 ≠ nm) : hasA nm l = false := by
  unfold hasA
  rw [List.any_eq_false]
  intro x hx
  obtain ⟨i, hi⟩ := List.mem_iff_getElem?.1 hx
  have := h i x hi
  simpa using this

set_option maxRecDepth 100000 in
set_option maxHeartbeats 4000000 in
theorem attr1_any {W : World} {Ba : Nat} {an bn bv : ByteArray} {ba : Int} (h : W.cell? ⟨Ba, 0, none⟩ = some (.string an)) (hl : Ba < W.heap.size) :
    Calls Try.prog 39 #[.agg #[.string bn, .string bv, .int .i64 ba], .pointer (some ⟨Ba, 0, none⟩)] W fun e W' => e = .returned (.bool (decide (bn = an))) ∧ Below W.heap.size W W' := by
  have HE := Lib.hid (bytes_beq an bn)
  go_enter Try.func39, Try.ntmps39
  go_wp2
  go_ret
  exact ⟨by rw [← HE.out]; rfl, (Below.refl _ _).alloc (Nat.le_refl _) _⟩

set_option maxRecDepth 100000 in
set_option maxHeartbeats 4000000 in
theorem indexA_any {W : World} {v : Value} {l : List (ByteArray × ByteArray × Int)} {Ba : Nat} {an : ByteArray} (h : AttrRd W v l) (hl : l.length ≤ 1000000) (ha : W.cell? ⟨Ba, 0, none⟩ = some (.string an)) (hb : Ba < W.heap.size) :
    Calls Try.prog 51 #[v, .func (.func 39) #[] #[.pointer (some ⟨Ba, 0, none⟩)]] W fun e W' => ∃ z : Int, e = .returned (.int .i64 z) ∧ decide (0 ≤ z) = hasA an l ∧ Below W.heap.size W W' := by
  obtain ⟨a, c, rfl, h2⟩ := h
  obtain ⟨n, hnn⟩ : ∃ n, l.length = n := ⟨_, rfl⟩
  rw [hnn] at hl ⊢
  have H2 := Lib.hid h2
  have HN := Lib.hid hnn
  have HA := Lib.hid (fun (X : World) (hX : Below W.heap.size W X) => show X.cell? ⟨Ba, 0, none⟩ = some (.string an) ∧ Ba < X.heap.size from ⟨(hX.cell (p := ⟨Ba, 0, none⟩) hb).trans ha, Nat.lt_of_lt_of_le hb hX.size⟩)
  clear h2 hnn ha
  go_enter Try.func51, Try.ntmps51
  go_wp2
  go_loopw [8] (fun x V => ∃ i : Nat, x = .int .i64 (i : Nat) ∧ i ≤ n ∧ (∀ (j : Nat) (x : ByteArray × ByteArray × Int), j < i → l[j]? = some x → x.1 ≠ an) ∧ Below W.heap.size W V) (fun x V => n - (intOf x).toNat)
  case atStart => exact ⟨0, rfl, Nat.zero_le _, fun j x hj => absurd hj (Nat.not_lt_zero j), Below.refl _ _⟩
  case round =>
    obtain ⟨i, rfl, hi, hne, hB⟩ := hrel
    have HNe := Lib.hid hne
    have HB := Lib.hid hB
    clear hne hB
    by_cases hlt : i < n
    · obtain ⟨x, hx⟩ : ∃ x, l[i]? = some x := ⟨_, List.getElem?_eq_getElem (by rw [HN.out]; exact hlt)⟩
      obtain ⟨b, o, rfl, hbb, g⟩ := H2.out (fun h0 => by have h1 := HN.out; rw [h0] at h1; have h3 : (0 : Nat) = n := h1; omega)
      obtain ⟨r0, r1, r2⟩ := g i x hx
      rename World => wr
      have s0 := (HB.out.cell (p := ⟨b, o + i * 3, none⟩) hbb).trans r0
      have s1 := (HB.out.cell (p := ⟨b, o + i * 3 + 1, none⟩) hbb).trans r1
      have s2 := (HB.out.cell (p := ⟨b, o + i * 3 + 2, none⟩) hbb).trans r2
      have HX := Lib.hid hx
      obtain ⟨x0, x1, x2⟩ := x
      have q1 : (0 : Int) ≤ (i : Int) := by omega
      have q2 : (i : Int) < (n : Int) := by omega
      have hK := attr1_any (bn := x0) (bv := x1) (ba := x2) (HA.out wr HB.out).1 (HA.out wr HB.out).2
      clear g hx r0 r1 r2
      by_cases hxa : x0 = an
      · rw [decide_eq_true hxa] at hK
        have HK := Lib.hid hK
        have HR := Lib.hid (hasA_some HX.out hxa)
        clear hK hxa
        go_wp2_with (go_at_call 39; refine HK.out.mono ?_; rintro _ w2 ⟨rfl, hB2⟩; have HB2 := Lib.hid hB2; clear hB2)
        go_ret
        exact ⟨_, rfl, by rw [HR.out]; exact decide_eq_true q1, HB.out.trans (HB2.out.mono HB.out.size)⟩
      · rw [decide_eq_false hxa] at hK
        have HK := Lib.hid hK
        have HX2 := Lib.hid hxa
        clear hK hxa
        go_wp2_with (go_at_call 39; refine HK.out.mono ?_; rintro _ w2 ⟨rfl, hB2⟩; have HB2 := Lib.hid hB2; clear hB2)
        go_roundw
        case rel => exact ⟨i + 1, by go_num, hlt, (fun j y hj hy => by
          by_cases hji : j = i
          · subst hji; rw [HX.out] at hy; cases hy; exact HX2.out
          · exact HNe.out j y (by omega) hy), HB.out.trans (HB2.out.mono HB.out.size)⟩
        case measure => simp [intOf]; omega
    · have HR := Lib.hid (show hasA an l = false from hasA_none fun j x hx => HNe.out j x (by have := (List.getElem?_eq_some_iff.1 hx).1; rw [HN.out] at this; omega) hx)
      go_wp2
      go_ret
      exact ⟨-1, rfl, by rw [HR.out]; rfl, HB.out⟩
theorem containsA_any {W : World} {v : Value} {l : List (ByteArray × ByteArray × Int)} {Ba : Nat} {an : ByteArray} (h : AttrRd W v l) (hl : l.length ≤ 1000000) (ha : W.cell? ⟨Ba, 0, none⟩ = some (.string an)) (hb : Ba < W.heap.size) :
    Calls Try.prog 38 #[v, .func (.func 39) #[] #[.pointer (some ⟨Ba, 0, none⟩)]] W fun e W' => e = .returned (.bool (hasA an l)) ∧ Below W.heap.size W W' := by
  have HI := Lib.hid (indexA_any h hl ha hb)
  go_enter Try.func38, Try.ntmps38
  go_wp2_with (go_at_call 51; refine HI.out.mono ?_; rintro _ w2 ⟨z, rfl, hz, hB2⟩; have HZ := Lib.hid hz; clear hz)
  go_ret
  exact ⟨by rw [← HZ.out]; rfl, hB2⟩
/-- Names and values of attributes. -/
def pairsOf (l : List (ByteArray × ByteArray × Int)) : List (ByteArray × ByteArray) := l.map fun x => (x.1, x.2.1)
theorem okA_of {l : List (ByteArray × ByteArray × Int)} {i : Nat} {x : ByteArray × ByteArray × Int} : okA (pairsOf l) i (x.1, x.2.1) = (!hasA x.1 (l.take i) && (nameB x.1 && plainB x.2.1)) := by
  unfold okA pairsOf hasA
  rw [← List.map_take, List.any_map]
  rfl

set_option maxRecDepth 100000 in
set_option maxHeartbeats 8000000 in
theorem attrs_any {W : World} {v : Value} {l : List (ByteArray × ByteArray × Int)} (h : AttrRd W v l) (hcap : ∀ a n c, v = .slice a n c → n ≤ c) (hl : l.length ≤ 1000000) (hsz : ∀ x ∈ l, x.1.size ≤ 9223372036854775807 ∧ x.2.1.size ≤ 9223372036854775807) :
    Calls Try.prog 28 #[v] W fun e W' => e = .returned (.bool (attrsB (pairsOf l))) ∧ Below W.heap.size W W' := by
  have HRD := Lib.hid h
  obtain ⟨a, c, rfl, h2⟩ := h
  obtain ⟨n, hnn⟩ : ∃ n, l.length = n := ⟨_, rfl⟩
  have hnc := hcap _ _ _ rfl
  rw [hnn] at hnc
  clear hcap
  have hmf : ∀ (fn : Fn) (first cap : Array Value) (w : World), (Instr.makeFunc fn first cap).run Try.prog w = .ok (.func fn first cap) w := fun _ _ _ _ => rfl
  rw [hnn] at hl HRD ⊢
  have H2 := Lib.hid h2
  have HN := Lib.hid hnn
  have HSZ := Lib.hid hsz
  clear h2 hnn hsz
  go_enter Try.func28, Try.ntmps28
  go_wp2
  go_loopw [8] (fun x V => ∃ i : Nat, x = .int .i64 (i : Nat) ∧ i ≤ n ∧ (∀ (j : Nat) (x : ByteArray × ByteArray), j < i → (pairsOf l)[j]? = some x → okA (pairsOf l) j x = true) ∧ Below W.heap.size W V) (fun x V => n - (intOf x).toNat)
  case atStart => exact ⟨0, rfl, Nat.zero_le _, fun j x hj => absurd hj (Nat.not_lt_zero j), Below.refl _ _⟩
  case round =>
    rename World => wr
    obtain ⟨i, rfl, hi, hok, hB⟩ := hrel
    have HOK := Lib.hid hok
    have HB := Lib.hid hB
    clear hok hB
    by_cases hlt : i < n
    · obtain ⟨x, hx⟩ : ∃ x, l[i]? = some x := ⟨_, List.getElem?_eq_getElem (by rw [HN.out]; exact hlt)⟩
      have hpx : (pairsOf l)[i]? = some (x.1, x.2.1) := by unfold pairsOf; rw [List.getElem?_map, hx]; rfl
      have HPX := Lib.hid hpx
      have HOA := Lib.hid (okA_of (l := l) (i := i) (x := x))
      obtain ⟨z1, z2⟩ := HSZ.out x (List.mem_of_getElem? hx)
      obtain ⟨b, o, rfl, hbb, g⟩ := H2.out (fun h0 => by have h1 := HN.out; rw [h0] at h1; have h3 : (0 : Nat) = n := h1; omega)
      obtain ⟨r0, r1, r2⟩ := g i x hx
      have s0 := (HB.out.cell (p := ⟨b, o + i * 3, none⟩) hbb).trans r0
      have s1 := (HB.out.cell (p := ⟨b, o + i * 3 + 1, none⟩) hbb).trans r1
      have s2 := (HB.out.cell (p := ⟨b, o + i * 3 + 2, none⟩) hbb).trans r2
      have HT := Lib.hid (fun (X : World) (hX : Below W.heap.size W X) => show AttrRd X (.slice (some ⟨b, o, none⟩) i c) (l.take i) from ⟨some ⟨b, o, none⟩, c, by rw [List.length_take, HN.out, Nat.min_eq_left hi], fun _ => ⟨b, o, rfl, Nat.lt_of_lt_of_le hbb hX.size, fun j y hy => by
        have hj : j < i := by have := (List.getElem?_eq_some_iff.1 hy).1; rw [List.length_take] at this; omega
        rw [List.getElem?_take_of_lt hj] at hy
        obtain ⟨t0, t1, t2⟩ := g j y hy
        exact ⟨(hX.cell (p := ⟨b, o + j * 3, none⟩) hbb).trans t0, (hX.cell (p := ⟨b, o + j * 3 + 1, none⟩) hbb).trans t1, (hX.cell (p := ⟨b, o + j * 3 + 2, none⟩) hbb).trans t2⟩⟩⟩)
      have hTl : (l.take i).length ≤ 1000000 := by rw [List.length_take]; omega
      obtain ⟨x0, x1, x2⟩ := x
      have q1 : (0 : Int) ≤ (i : Int) := by omega
      have q2 : (i : Int) < (n : Int) := by omega
      obtain ⟨W4, hW4⟩ : ∃ W4, wr.alloc (.cells #[.string x0, .string x1, .int .i64 x2] 58) = W4 := ⟨_, rfl⟩
      have hb4 : BlkAt W4 wr.heap.size 58 #[.string x0, .string x1, .int .i64 x2] := by rw [← hW4]; exact BlkAt.new _ _ _
      have HB4 := Lib.hid (HB.out.trans ((show Below wr.heap.size wr W4 by rw [← hW4]; exact (Below.refl _ wr).alloc (Nat.le_refl _) _).mono HB.out.size))
      have HBK4 := Lib.hid hb4
      have u0 := hb4.cell 0
      have u1 := hb4.cell 1
      have HC := Lib.hid (containsA_any (HT.out W4 HB4.out) hTl u0 hb4.lt)
      have HNm := Lib.hid (fun X => nameB_any x0 z1 X)
      have HPl := Lib.hid (fun X => plain_any x1 z2 X)
      have hic : i ≤ n := hi
      clear g hx r0 r1 r2 hpx hb4 hTl
      obtain ⟨c1, hc1⟩ : ∃ c1, hasA x0 (l.take i) = c1 := ⟨_, rfl⟩
      obtain ⟨c2, hc2⟩ : ∃ c2, nameB x0 = c2 := ⟨_, rfl⟩
      obtain ⟨c3, hc3⟩ : ∃ c3, plainB x1 = c3 := ⟨_, rfl⟩
      rw [hc1] at HC HOA
      rw [hc2] at HNm HOA
      rw [hc3] at HPl HOA
      clear hc1 hc2 hc3
      go_upto_region 4 with (fail)
      clear hW4
      have hic2 : i ≤ c := by omega
      cases c1 with
      | true =>
        have HR := Lib.hid (show attrsB (pairsOf l) = false from attrsB_no HPX.out (by rw [HOA.out]; rfl))
        go_wp2_with (go_at_call 38; refine HC.out.mono ?_; rintro _ w5 ⟨rfl, hB5⟩; have HB5 := Lib.hid (HB4.out.trans (hB5.mono HB4.out.size)); have HBK5 := Lib.hid (HBK4.out.below hB5 HBK4.out.lt); have v0 := HBK5.out.cell 0; clear hB5)
        go_ret
        exact ⟨by rw [HR.out]; rfl, HB5.out⟩
      | false =>
        cases c2 with
        | false =>
          have HR := Lib.hid (show attrsB (pairsOf l) = false from attrsB_no HPX.out (by rw [HOA.out]; rfl))
          go_wp2_with (first | (go_at_call 38; refine HC.out.mono ?_; rintro _ w5 ⟨rfl, hB5⟩; have HB5 := Lib.hid (HB4.out.trans (hB5.mono HB4.out.size)); have HBK5 := Lib.hid (HBK4.out.below hB5 HBK4.out.lt); have v0 := HBK5.out.cell 0; clear hB5) | (go_at_call 27; refine (HNm.out w5).mono ?_; rintro _ w6 ⟨rfl, hB6⟩; have HB6 := Lib.hid (HB5.out.trans (hB6.mono HB5.out.size)); have HBK6 := Lib.hid (HBK5.out.below hB6 HBK5.out.lt); have v1 := HBK6.out.cell 1; clear hB6))
          go_ret
          exact ⟨by rw [HR.out]; rfl, HB6.out⟩
        | true =>
          cases c3 with
          | false =>
            have HR := Lib.hid (show attrsB (pairsOf l) = false from attrsB_no HPX.out (by rw [HOA.out]; rfl))
            go_wp2_with (first | (go_at_call 38; refine HC.out.mono ?_; rintro _ w5 ⟨rfl, hB5⟩; have HB5 := Lib.hid (HB4.out.trans (hB5.mono HB4.out.size)); have HBK5 := Lib.hid (HBK4.out.below hB5 HBK4.out.lt); have v0 := HBK5.out.cell 0; clear hB5) | (go_at_call 27; refine (HNm.out w5).mono ?_; rintro _ w6 ⟨rfl, hB6⟩; have HB6 := Lib.hid (HB5.out.trans (hB6.mono HB5.out.size)); have HBK6 := Lib.hid (HBK5.out.below hB6 HBK5.out.lt); have v1 := HBK6.out.cell 1; clear hB6) | (go_at_call 29; refine (HPl.out w6).mono ?_; rintro _ w7 ⟨rfl, hB7⟩; have HB7 := Lib.hid (HB6.out.trans (hB7.mono HB6.out.size)); clear hB7))
            go_ret
            exact ⟨by rw [HR.out]; rfl, HB7.out⟩
          | true =>
            have HR := Lib.hid (show okA (pairsOf l) i (x0, x1) = true by rw [HOA.out]; rfl)
            go_wp2_with (first | (go_at_call 38; refine HC.out.mono ?_; rintro _ w5 ⟨rfl, hB5⟩; have HB5 := Lib.hid (HB4.out.trans (hB5.mono HB4.out.size)); have HBK5 := Lib.hid (HBK4.out.below hB5 HBK4.out.lt); have v0 := HBK5.out.cell 0; clear hB5) | (go_at_call 27; refine (HNm.out w5).mono ?_; rintro _ w6 ⟨rfl, hB6⟩; have HB6 := Lib.hid (HB5.out.trans (hB6.mono HB5.out.size)); have HBK6 := Lib.hid (HBK5.out.below hB6 HBK5.out.lt); have v1 := HBK6.out.cell 1; clear hB6) | (go_at_call 29; refine (HPl.out w6).mono ?_; rintro _ w7 ⟨rfl, hB7⟩; have HB7 := Lib.hid (HB6.out.trans (hB7.mono HB6.out.size)); clear hB7))
            go_roundw
            case rel => exact ⟨i + 1, by go_num, hlt, (fun j y hj hy => by
              by_cases hji : j = i
              · subst hji
                rw [HPX.out] at hy
                cases hy
                exact HR.out
              · exact HOK.out j y (by omega) hy), HB7.out⟩
            case measure => simp [intOf]; omega
    · have HR := Lib.hid (show attrsB (pairsOf l) = true from attrsB_yes fun j x hx => HOK.out j x (by have := (List.getElem?_eq_some_iff.1 hx).1; unfold pairsOf at this; rw [List.length_map, HN.out] at this; omega) hx)
      go_wp2
      go_ret
      exact ⟨by rw [HR.out]; rfl, HB.out⟩
end Go.Proofs.Ytajnpmhgldfgfaa
