/- A document as it is to be written; the walk of xout.May. -/
import Derived.Test.YtajnpmhgldfgfaaXoD
import Derived.Test.YtajnpmhgldfgfaaXtH
namespace Go.Proofs.Ytajnpmhgldfgfaa
open Go.RowKit
set_option linter.unusedVariables false

/-- An element as it lies, and what it says. -/
structure WEl (W : World) (y : YE) (e : XW) : Prop where
  name : y.nm = e.name
  up : y.up = e.up
  text : y.tx = e.text
  attrs : ∃ l, AttrRd W (.slice y.ab y.an y.ac) l ∧ pairsOf l = e.attrs
  acap : y.an ≤ y.ac
  kids : IntRd W (.slice y.kb y.kn y.kc) (e.kids.map fun (k : Nat) => (k : Int))
structure WDoc (W : World) (ev : Value) (els : List XW) (ys : List YE) : Prop where
  doc : DocAt W ev ys
  len : ys.length = els.length
  each : ∀ (i : Nat) (y : YE) (e : XW), ys[i]? = some y → els[i]? = some e → WEl W y e
theorem WEl.below {W W' : World} {y : YE} {e : XW} (h : WEl W y e) (hB : Below W.heap.size W W') : WEl W' y e := by
  obtain ⟨l, h1, h2⟩ := h.attrs
  exact ⟨h.name, h.up, h.text, ⟨l, h1.below hB, h2⟩, h.acap, h.kids.below hB⟩
theorem WDoc.below {W W' : World} {ev : Value} {els : List XW} {ys : List YE} (h : WDoc W ev els ys) (hB : Below W.heap.size W W') : WDoc W' ev els ys :=
  ⟨h.doc.below hB, h.len, fun i y e hy he => (h.each i y e hy he).below hB⟩
/-- Elements that are not too great. -/
structure SmE (e : XW) : Prop where
  name : e.name.size ≤ 1000000
  text : e.text.size ≤ 1000000
  attrs : e.attrs.length ≤ 1000
  each : ∀ x ∈ e.attrs, x.1.size ≤ 1000000 ∧ x.2.size ≤ 1000000
  kids : e.kids.length ≤ 1000000
def SmX (els : List XW) : Prop := els.length ≤ 10000 ∧ ∀ e ∈ els, SmE e
def upsE (els : List XW) : List Int := els.map (·.up)
def kidsE (els : List XW) : List (List Int) := els.map fun e => e.kids.map fun (k : Nat) => (k : Int)
def validE (els : List XW) : Bool := validX (upsE els) (kidsE els)
theorem WDoc.ups {W : World} {ev : Value} {els : List XW} {ys : List YE} (h : WDoc W ev els ys) : ys.map (·.up) = upsE els := by
  unfold upsE
  refine List.ext_getElem? fun i => ?_
  rw [List.getElem?_map, List.getElem?_map]
  by_cases hi : i < ys.length
  · have hy : ys[i]? = some ys[i] := List.getElem?_eq_getElem hi
    have he : els[i]? = some (els[i]'(by rw [← h.len]; exact hi)) := List.getElem?_eq_getElem _
    rw [hy, he]
    exact congrArg some (h.each i _ _ hy he).up
  · rw [List.getElem?_eq_none (by omega), List.getElem?_eq_none (by rw [← h.len]; omega)]
    rfl
theorem WDoc.kidsRd {W : World} {ev : Value} {els : List XW} {ys : List YE} (h : WDoc W ev els ys) (hs : SmX els) (i : Nat) (y : YE) (hy : ys[i]? = some y) : ∃ k, (kidsE els)[i]? = some k ∧ k.length ≤ 1000000 ∧ IntRd W (.slice y.kb y.kn y.kc) k := by
  have hi : i < els.length := by rw [← h.len]; exact (List.getElem?_eq_some_iff.1 hy).1
  have he : els[i]? = some els[i] := List.getElem?_eq_getElem hi
  refine ⟨els[i].kids.map fun (k : Nat) => (k : Int), by unfold kidsE; rw [List.getElem?_map, he]; rfl, ?_, (h.each i y _ hy he).kids⟩
  rw [List.length_map]
  exact (hs.2 _ (List.mem_of_getElem? he)).kids
theorem validE_any {W : World} {ev : Value} {els : List XW} {ys : List YE} (h : WDoc W ev els ys) (hs : SmX els) :
    Calls Try.prog 30 #[.agg #[ev]] W fun e W' => e = .returned (.bool (validE els)) ∧ Below W.heap.size W W' := by
  have h1 := hs.1
  have := valid_any h.doc (by rw [h.len]; omega) (ks := kidsE els) (by unfold kidsE; rw [List.length_map, h.len]) (h.kidsRd hs)
  rw [h.ups] at this
  exact this
/-- An element's six cells. -/
abbrev eCells (y : YE) : Array Value := #[.string y.nm, .int .i64 y.pl, .int .i64 y.up, .slice y.ab y.an y.ac, .slice y.kb y.kn y.kc, .string y.tx]

set_option maxRecDepth 100000 in
set_option maxHeartbeats 16000000 in
theorem may_any {W : World} {ev : Value} {els : List XW} {ys : List YE} (h : WDoc W ev els ys) (hs : SmX els) :
    Calls Try.prog 18 #[.agg #[ev]] W fun e W' => e = .returned (.bool (mayE els && (!els.isEmpty && validE els))) ∧ Below W.heap.size W W' := by
  have HW := Lib.hid h
  have HS := Lib.hid hs
  obtain ⟨n, hnn⟩ : ∃ n, els.length = n := ⟨_, rfl⟩
  have hn1 : n ≤ 10000 := by rw [← hnn]; exact hs.1
  have hyn : ys.length = n := by rw [h.len]; exact hnn
  obtain ⟨a, c, rfl, h2⟩ := h.doc
  rw [hyn] at HW ⊢
  have H2 := Lib.hid h2
  have HN := Lib.hid hnn
  have HYN := Lib.hid hyn
  have HVA := Lib.hid (fun (X : World) (hX : Below W.heap.size W X) => validE_any (HW.out.below hX) hs)
  obtain ⟨W1, hW1⟩ : ∃ W1, W.alloc (.cells #[.slice a n c] 32) = W1 := ⟨_, rfl⟩
  have HB1 := Lib.hid (show Below W.heap.size W W1 by rw [← hW1]; exact (Below.refl _ W).alloc (Nat.le_refl _) _)
  have hb1 : BlkAt W1 W.heap.size 32 #[.slice a n c] := by rw [← hW1]; exact BlkAt.new _ _ _
  have HBK1 := Lib.hid hb1
  have c1 := hb1.cell 0
  clear hnn hyn h2 h hs hb1
  go_enter Try.func18, Try.ntmps18
  go_upto_region 1 with (fail)
  clear hW1
  go_wp2
  go_loopw [8] (fun x V => ∃ i : Nat, x = .int .i64 (i : Nat) ∧ i ≤ n ∧ (∀ (j : Nat) (e : XW), j < i → els[j]? = some e → okE e = true) ∧ Below W1.heap.size W1 V) (fun x V => n - (intOf x).toNat)
  case atStart => exact ⟨0, rfl, Nat.zero_le _, fun j x hj => absurd hj (Nat.not_lt_zero j), Below.refl _ _⟩
  case round =>
    rename World => wr
    obtain ⟨i, rfl, hi, hok, hB⟩ := hrel
    have HOK := Lib.hid hok
    have HB := Lib.hid hB
    have HBr := Lib.hid (HB1.out.trans (hB.mono HB1.out.size))
    have d1 := (HBK1.out.below hB HBK1.out.lt).cell 0
    clear hok hB
    by_cases hlt : i < n
    · obtain ⟨y, hy⟩ : ∃ y, ys[i]? = some y := ⟨_, List.getElem?_eq_getElem (by rw [HYN.out]; exact hlt)⟩
      obtain ⟨e, he⟩ : ∃ e, els[i]? = some e := ⟨_, List.getElem?_eq_getElem (by rw [HN.out]; exact hlt)⟩
      have hel := HW.out.each i y e hy he
      have hsm := HS.out.2 e (List.mem_of_getElem? he)
      obtain ⟨l, hl1, hl2⟩ := hel.attrs
      have hll : l.length ≤ 1000 := by have := hsm.attrs; rw [← hl2] at this; unfold pairsOf at this; rwa [List.length_map] at this
      have hlz : ∀ x ∈ l, x.1.size ≤ 9223372036854775807 ∧ x.2.1.size ≤ 9223372036854775807 := fun x hx => by
        have := hsm.each (x.1, x.2.1) (by rw [← hl2]; exact List.mem_map_of_mem hx)
        exact ⟨by have := this.1; simp only at this; omega, by have := this.2; simp only at this; omega⟩
      have z1 : y.nm.size ≤ 9223372036854775807 := by rw [hel.name]; have := hsm.name; omega
      have z2 : y.tx.size ≤ 9223372036854775807 := by rw [hel.text]; have := hsm.text; omega
      have hacap := hel.acap
      have hok2 : okE e = (nameB y.nm && (attrsB (pairsOf l) && plainB y.tx)) := by unfold okE; rw [hel.name, hel.text, hl2]
      obtain ⟨g, o, rfl, hg, hc⟩ := H2.out (fun e0 => by have h1 := HYN.out; rw [e0] at h1; have h3 : (0 : Nat) = n := h1; omega)
      obtain ⟨p0, p1, p2, p3, p4, p5⟩ := DocAt.six hc hy
      obtain ⟨ynm, ypl, yup, yab, yan, yac, ykb, ykn, ykc, ytx⟩ := y
      simp only at z1 z2 hacap hok2 p0 p1 p2 p3 p4 p5 hl1
      have s0 := (HBr.out.cell (p := ⟨g, o + i * 6, none⟩) hg).trans p0
      have s1 := (HBr.out.cell (p := ⟨g, o + i * 6 + 1, none⟩) hg).trans p1
      have s2 := (HBr.out.cell (p := ⟨g, o + i * 6 + 2, none⟩) hg).trans p2
      have s3 := (HBr.out.cell (p := ⟨g, o + i * 6 + 3, none⟩) hg).trans p3
      have s4 := (HBr.out.cell (p := ⟨g, o + i * 6 + 4, none⟩) hg).trans p4
      have s5 := (HBr.out.cell (p := ⟨g, o + i * 6 + 5, none⟩) hg).trans p5
      have HNm := Lib.hid (fun X => nameB_any ynm z1 X)
      have HAt := Lib.hid (fun (X : World) (hX : Below W.heap.size W X) => attrs_any (hl1.below hX) (fun a n c e => by cases e; exact hacap) (by omega) hlz)
      have HPl := Lib.hid (fun X => plain_any ytx z2 X)
      have HEl := Lib.hid he
      have HOA := Lib.hid hok2
      have q1 : (0 : Int) ≤ (i : Int) := by omega
      have q2 : (i : Int) < (n : Int) := by omega
      obtain ⟨W4, hW4⟩ : ∃ W4, wr.alloc (.cells #[.string ynm, .int .i64 ypl, .int .i64 yup, .slice yab yan yac, .slice ykb ykn ykc, .string ytx] 57) = W4 := ⟨_, rfl⟩
      have hb4 : BlkAt W4 wr.heap.size 57 #[.string ynm, .int .i64 ypl, .int .i64 yup, .slice yab yan yac, .slice ykb ykn ykc, .string ytx] := by rw [← hW4]; exact BlkAt.new _ _ _
      have hB14 : Below wr.heap.size wr W4 := by rw [← hW4]; exact (Below.refl _ wr).alloc (Nat.le_refl _) _
      have HB4 := Lib.hid (HBr.out.trans (hB14.mono HBr.out.size))
      have HX4 := Lib.hid (HB.out.trans (hB14.mono HB.out.size))
      have HBK4 := Lib.hid hb4
      have u0 := hb4.cell 0
      clear hy he hel hsm hl1 hl2 hll hlz hok2 hc p0 p1 p2 p3 p4 p5 hb4 hB14 z1 z2 hacap d1
      obtain ⟨c1, hc1⟩ : ∃ c1, nameB ynm = c1 := ⟨_, rfl⟩
      obtain ⟨c2, hc2⟩ : ∃ c2, attrsB (pairsOf l) = c2 := ⟨_, rfl⟩
      obtain ⟨c3, hc3⟩ : ∃ c3, plainB ytx = c3 := ⟨_, rfl⟩
      rw [hc1] at HNm HOA
      rw [hc2] at HAt HOA
      rw [hc3] at HPl HOA
      clear hc1 hc2 hc3
      go_upto_region 4 with (fail)
      clear hW4
      cases c1 with
      | false =>
        have HR := Lib.hid (show (mayE els && (!els.isEmpty && validE els)) = false by rw [mayE_no HEl.out (by rw [HOA.out]; rfl)]; rfl)
        go_wp2_with (go_at_call 27; refine (HNm.out W4).mono ?_; rintro _ w5 ⟨rfl, hB5⟩; have HB5 := Lib.hid (HB4.out.trans (hB5.mono HB4.out.size)); have HX5 := Lib.hid (HX4.out.trans (hB5.mono HX4.out.size)); have HBK5 := Lib.hid (HBK4.out.below hB5 HBK4.out.lt); have v3 := HBK5.out.cell 3; clear hB5)
        go_ret
        exact ⟨by rw [HR.out]; rfl, HB5.out⟩
      | true =>
        cases c2 with
        | false =>
          have HR := Lib.hid (show (mayE els && (!els.isEmpty && validE els)) = false by rw [mayE_no HEl.out (by rw [HOA.out]; rfl)]; rfl)
          go_wp2_with (first | (go_at_call 27; refine (HNm.out W4).mono ?_; rintro _ w5 ⟨rfl, hB5⟩; have HB5 := Lib.hid (HB4.out.trans (hB5.mono HB4.out.size)); have HX5 := Lib.hid (HX4.out.trans (hB5.mono HX4.out.size)); have HBK5 := Lib.hid (HBK4.out.below hB5 HBK4.out.lt); have v3 := HBK5.out.cell 3; clear hB5) | (go_at_call 28; refine (HAt.out w5 HB5.out).mono ?_; rintro _ w6 ⟨rfl, hB6⟩; have HB6 := Lib.hid (HB5.out.trans (hB6.mono HB5.out.size)); have HX6 := Lib.hid (HX5.out.trans (hB6.mono HX5.out.size)); have HBK6 := Lib.hid (HBK5.out.below hB6 HBK5.out.lt); have v5 := HBK6.out.cell 5; clear hB6))
          go_ret
          exact ⟨by rw [HR.out]; rfl, HB6.out⟩
        | true =>
          cases c3 with
          | false =>
            have HR := Lib.hid (show (mayE els && (!els.isEmpty && validE els)) = false by rw [mayE_no HEl.out (by rw [HOA.out]; rfl)]; rfl)
            go_wp2_with (first | (go_at_call 27; refine (HNm.out W4).mono ?_; rintro _ w5 ⟨rfl, hB5⟩; have HB5 := Lib.hid (HB4.out.trans (hB5.mono HB4.out.size)); have HX5 := Lib.hid (HX4.out.trans (hB5.mono HX4.out.size)); have HBK5 := Lib.hid (HBK4.out.below hB5 HBK4.out.lt); have v3 := HBK5.out.cell 3; clear hB5) | (go_at_call 28; refine (HAt.out w5 HB5.out).mono ?_; rintro _ w6 ⟨rfl, hB6⟩; have HB6 := Lib.hid (HB5.out.trans (hB6.mono HB5.out.size)); have HX6 := Lib.hid (HX5.out.trans (hB6.mono HX5.out.size)); have HBK6 := Lib.hid (HBK5.out.below hB6 HBK5.out.lt); have v5 := HBK6.out.cell 5; clear hB6) | (go_at_call 29; refine (HPl.out w6).mono ?_; rintro _ w7 ⟨rfl, hB7⟩; have HB7 := Lib.hid (HB6.out.trans (hB7.mono HB6.out.size)); have HX7 := Lib.hid (HX6.out.trans (hB7.mono HX6.out.size)); clear hB7))
            go_ret
            exact ⟨by rw [HR.out]; rfl, HB7.out⟩
          | true =>
            have HR := Lib.hid (show okE e = true by rw [HOA.out]; rfl)
            go_wp2_with (first | (go_at_call 27; refine (HNm.out W4).mono ?_; rintro _ w5 ⟨rfl, hB5⟩; have HB5 := Lib.hid (HB4.out.trans (hB5.mono HB4.out.size)); have HX5 := Lib.hid (HX4.out.trans (hB5.mono HX4.out.size)); have HBK5 := Lib.hid (HBK4.out.below hB5 HBK4.out.lt); have v3 := HBK5.out.cell 3; clear hB5) | (go_at_call 28; refine (HAt.out w5 HB5.out).mono ?_; rintro _ w6 ⟨rfl, hB6⟩; have HB6 := Lib.hid (HB5.out.trans (hB6.mono HB5.out.size)); have HX6 := Lib.hid (HX5.out.trans (hB6.mono HX5.out.size)); have HBK6 := Lib.hid (HBK5.out.below hB6 HBK5.out.lt); have v5 := HBK6.out.cell 5; clear hB6) | (go_at_call 29; refine (HPl.out w6).mono ?_; rintro _ w7 ⟨rfl, hB7⟩; have HB7 := Lib.hid (HB6.out.trans (hB7.mono HB6.out.size)); have HX7 := Lib.hid (HX6.out.trans (hB7.mono HX6.out.size)); clear hB7))
            go_roundw
            case rel => exact ⟨i + 1, by go_num, hlt, (fun j z hj hz => by
              by_cases hji : j = i
              · subst hji
                rw [HEl.out] at hz
                cases hz
                exact HR.out
              · exact HOK.out j z (by omega) hz), HX7.out⟩
            case measure => simp [intOf]; omega
    · have hin : i = n := by omega
      have hmay : mayE els = true := mayE_yes fun j e he => HOK.out j e (by have := (List.getElem?_eq_some_iff.1 he).1; rw [HN.out] at this; omega) he
      clear hlt
      rcases Nat.eq_zero_or_pos n with h0 | h0
      · have HR := Lib.hid (show (mayE els && (!els.isEmpty && validE els)) = false by
          have he : els = [] := List.length_eq_zero_iff.1 (by rw [HN.out]; exact h0)
          rw [he]; simp)
        subst h0
        subst hin
        clear hmay
        go_wp2
        go_ret
        exact ⟨by rw [HR.out]; rfl, HBr.out⟩
      · obtain ⟨V, hV⟩ : ∃ V, validE els = V := ⟨_, rfl⟩
        have HV := Lib.hid hV
        have HR := Lib.hid (show (mayE els && (!els.isEmpty && validE els)) = V by
          have he : els.isEmpty = false := by rw [List.isEmpty_eq_false_iff]; exact fun e => by have := HN.out; rw [e] at this; simp at this; omega
          rw [hmay, he, hV]; rfl)
        have h0' : (0 : Int) < (n : Int) := by omega
        subst hin
        clear hmay hV h0
        go_wp2_with (go_at_call 30; refine (HVA.out wr HBr.out).mono ?_; rintro _ w5 ⟨rfl, hB5⟩; rw [HV.out]; have HB5 := Lib.hid (HBr.out.trans (hB5.mono HBr.out.size)); clear hB5)
        go_ret
        exact ⟨by rw [HR.out]; rfl, HB5.out⟩
end Go.Proofs.Ytajnpmhgldfgfaa
