/- The walk of the law UtfBack. -/
import Derived.Test.YtgdnibdahldekaaUtT
import Derived.Test.YtgdnibdahldekaaUtK
import Derived.Test.YtgdnibdahldekaaUtP
import Derived.Test.YtgdnibdahldekaaUtL1
import Derived.BigRegion
import Derived.WalkKit
import Derived.ProofKit
import Derived.LoopTactic
import Derived.Lib.Hide
import Derived.Outline
import Derived.Handy
namespace Go.Proofs.Ytgdnibdahldekaa
open Go.RowKit
set_option linter.unusedVariables false

/-- A slice of numbers that came in. -/
def IsRowU (k : IntKind) (w : World) (a : Option Addr) (len cap : Nat) (zs : List Int) : Prop :=
  (a = none ∧ len = 0 ∧ cap = 0 ∧ zs = []) ∨
  ∃ x, a = some x ∧ len ≤ cap ∧ cap ≤ maxLen ∧ zs.length = cap ∧ (∀ i, i < zs.length → w.cell? (x.add i) = some (.int k (zs.getD i 0))) ∧ ∀ n ∈ zs, (Lit.int k n).wf = true

theorem rowBelow {W W' : World} {base : Nat} {e : TypeId} {size : Nat} {v : Value} {n : Nat} {xs : List Value} (h : W.ownsRow base e size v n xs) (hB : Below W.heap.size W W') : W'.ownsRow base e size v n xs := by
  refine ⟨h.1, ?_⟩
  rcases h.2 with h' | ⟨g, cap, cur, hv, hb, hg, hr⟩
  · exact .inl h'
  · exact .inr ⟨g, cap, cur, hv, hb, by rw [hB.block g (Array.getElem?_eq_some_iff.1 hg).1]; exact hg, hr⟩
theorem cell_lt {w : World} {a : Addr} {v : Value} (h : w.cell? a = some v) : a.block < w.heap.size := by
  apply Decidable.byContradiction
  intro hn
  rw [World.cell?, Array.getElem?_eq_none (by omega)] at h
  cases h
/-- What may be put. -/
def okZ (z : Int) : Bool := decide (0 ≤ z ∧ z ≤ 1114111 ∧ ¬ (55296 ≤ z ∧ z ≤ 57343))
def pickZ (zs : List Int) : List Nat := (zs.filter okZ).map Int.toNat
theorem okZ_width {z : Int} (h : okZ z = true) : widthR ((z.toNat : Nat) : Int) ≠ 0 ∧ ((z.toNat : Nat) : Int) = z := by
  unfold okZ at h
  have h := of_decide_eq_true h
  have e : ((z.toNat : Nat) : Int) = z := by omega
  refine ⟨?_, e⟩
  rw [e]
  have := widthR_pos (r := z) (by omega)
  omega
theorem okZ_bad {z : Int} (h : okZ z = false) : widthR z = 0 := by
  unfold okZ at h
  have h := of_decide_eq_false h
  exact widthR_zero (by omega)
theorem pickZ_step {zs : List Int} {k : Nat} (hk : k < zs.length) : pickZ (zs.take (k + 1)) = pickZ (zs.take k) ++ (if okZ (zs.getD k 0) = true then [(zs.getD k 0).toNat] else []) := by
  have e : zs.getD k 0 = zs[k] := by rw [List.getD, List.getElem?_eq_getElem hk]; rfl
  rw [e, List.take_add_one, List.getElem?_eq_getElem hk]
  unfold pickZ
  rw [List.filter_append, List.map_append]
  by_cases h : okZ zs[k] = true
  · rw [if_pos h]; simp [List.filter, h]
  · rw [if_neg h]; simp [List.filter, h]
theorem pickZ_ok (zs : List Int) : ∀ r ∈ pickZ zs, widthR (r : Int) ≠ 0 := by
  intro r hr
  unfold pickZ at hr
  simp only [List.mem_map, List.mem_filter] at hr
  obtain ⟨z, ⟨_, h⟩, rfl⟩ := hr
  exact (okZ_width h).1
theorem pickZ_len (zs : List Int) : (pickZ zs).length ≤ zs.length := by
  unfold pickZ; rw [List.length_map]; exact List.length_filter_le _ _
theorem str_app (a b : List UInt8) : Value.string ((⟨a.toArray⟩ : ByteArray) ++ (⟨b.toArray⟩ : ByteArray)) = str (a ++ b) := by
  have : ((⟨a.toArray⟩ : ByteArray) ++ (⟨b.toArray⟩ : ByteArray)) = (⟨(a ++ b).toArray⟩ : ByteArray) := by
    apply ByteArray.ext; simp
  rw [this]

set_option maxRecDepth 100000 in
set_option maxHeartbeats 2000000 in
theorem utfBack_walk (a0 : Option Addr) (len0 cap0 : Nat) (z0 : List Int) (a1 : Int) (w : World) (w0 : IsRowU .i64 w a0 len0 cap0 z0) (w1 : (Lit.int .i64 a1).wf = true) :
    Calls Try.prog 7 #[.slice a0 len0 cap0, .int .i64 a1] w fun e w' => e = .returned (.bool true) ∧ Below w.heap.size w w' := by
  have b1 : -9223372036854775808 ≤ a1 ∧ a1 ≤ 9223372036854775807 := by simpa [Lit.wf, IntKind.min, IntKind.max, IntKind.signed, IntKind.bits] using w1
  obtain ⟨b1, b2⟩ := b1
  clear w1
  by_cases hl : 200 < len0
  · have hl2 : len0 ≤ 9223372036854775807 := by
      rcases w0 with ⟨_, h, _⟩ | ⟨x, _, h1, h2, _⟩
      · omega
      · unfold maxLen at h2; omega
    clear w0
    go_enter Try.func7, Try.ntmps7
    go_wp2_with (go_at_call 18; refine (alive6_any _).mono ?_; rintro e w1 ⟨rfl, hB⟩)
    go_ret
    exact ⟨rfl, hB⟩
  · have hcell : ∀ i, i < len0 → ∃ x z, a0 = some x ∧ z0.getD i 0 = z ∧ i < z0.length ∧ x.block < w.heap.size ∧ w.cell? (x.add i) = some (.int .i64 z) ∧ -9223372036854775808 ≤ z ∧ z ≤ 9223372036854775807 := by
      intro i hi
      rcases w0 with ⟨_, h, _⟩ | ⟨x, hx, h1, h2, h3, h4, h5⟩
      · omega
      · have hiz : i < z0.length := by omega
        have hz : z0.getD i 0 = z0[i] := by rw [List.getD, List.getElem?_eq_getElem hiz]; rfl
        have h6 := h5 _ (List.getElem_mem hiz)
        have h6 : -9223372036854775808 ≤ z0[i] ∧ z0[i] ≤ 9223372036854775807 := by simpa [Lit.wf, IntKind.min, IntKind.max, IntKind.signed, IntKind.bits] using h6
        refine ⟨x, z0.getD i 0, hx, rfl, hiz, ?_, h4 i hiz, by omega, by omega⟩
        have h7 := h4 i hiz
        have hb : (x.add i).block = x.block := by unfold Addr.add; split <;> rfl
        rw [← hb]
        exact cell_lt h7
    have HC := Lib.hid hcell
    clear hcell w0
    go_enter Try.func7, Try.ntmps7
    go_wp2_with (go_at_call 18; refine (alive6_any _).mono ?_; rintro e w1 ⟨rfl, hB1⟩)
    go_loopw [5, 6, 7] (fun s v p wr => ∃ k : Nat, p = .int .i64 k ∧ k ≤ len0 ∧ (∃ sb : ByteArray, s = .string sb ∧ sb.data.toList = (pickZ (z0.take k)).flatMap putR) ∧ wr.ownsRow w1.heap.size 3 1 v (pickZ (z0.take k)).length ((pickZ (z0.take k)).map nv) ∧ Below w1.heap.size w1 wr ∧ w1.heap.size ≤ wr.heap.size)
      (fun _ _ p _ => len0 - (intOf p).toNat)
    case atStart => exact ⟨0, rfl, Nat.zero_le _, ⟨_, rfl, rfl⟩, World.ownsRow_nil _ _ _ _, Below.refl _ _, Nat.le_refl _⟩
    case round =>
      obtain ⟨k, rfl, hk, ⟨sb, rfl, hsb⟩, hown, hB, hsz⟩ := hrel
      have hcat := put_len (pickZ (z0.take k))
      have hpl := pickZ_len (z0.take k)
      have hpk : (pickZ (z0.take k)).length ≤ 200 := by rw [List.length_take] at hpl; omega
      have hc8 : sb.size ≤ 800 := by
        have h : sb.data.toList.length = sb.size := by simp
        rw [hsb] at h; omega
      have HSB := Lib.hid hsb
      clear hsb
      have HP := Lib.hid (pickZ_step (zs := z0) (k := k))
      have HOK := Lib.hid (pickZ_ok (z0.take k))
      clear hcat hpl
      by_cases hlt : k < len0
      · obtain ⟨x, z, rfl, hz, hkz, hxb, hxc, hz1, hz2⟩ := HC.out k hlt
        have hxr : wr.cell? (x.add k) = some (.int .i64 z) := ((hB1.trans (hB.mono hB1.size)).cell (by rw [show (x.add k).block = x.block by unfold Addr.add; split <;> rfl]; exact hxb)).trans hxc
        have HS := Lib.hid (HP.out hkz)
        rw [hz] at HS
        generalize pickZ (z0.take k) = rs at *
        clear hxc
        by_cases hok : okZ z = true
        · obtain ⟨hw, hn⟩ := okZ_width hok
          have HPUT := Lib.hid (put_ok z.toNat hw)
          rw [if_pos hok] at HS
          have hzr : 0 ≤ z ∧ z ≤ 1114111 ∧ ¬ (55296 ≤ z ∧ z ≤ 57343) := of_decide_eq_true hok
          have hpl := putR_len z.toNat
          obtain ⟨tb, htb, htl⟩ : ∃ tb : ByteArray, str (putR z.toNat) = .string tb ∧ tb.data.toList = putR z.toNat := ⟨_, rfl, rfl⟩
          have htb4 : tb.size ≤ 4 := by
            have h : tb.data.toList.length = tb.size := by simp
            rw [htl] at h; omega
          rw [hn, htb] at HPUT
          have HTL := Lib.hid htl
          clear htl htb hpl
          clear hok HP HC hw
          have g1 : 0 ≤ z := hzr.1
          have g2 : z ≤ 1114111 := hzr.2.1
          have g3 : z < 55296 ∨ 57343 < z := by omega
          clear hzr
          rcases g3 with g3 | g3
          all_goals
            go_wp2_with fail
            refine (HPUT.out _).mono ?_
            rintro e w2 ⟨rfl, hB2⟩
            have hx2 := (hB2.cell (cell_lt hxr)).trans hxr
            have hown2 : w2.ownsRow w1.heap.size 3 1 u6 rs.length (rs.map nv) := rowBelow hown hB2
            go_wp2_with (at_builtin; refine wpList_app _ rfl _ _ _ _ _ _ slI rfl _ w1 ((hB.trans (hB2.mono hsz)).alloc (by have := hB2.size; omega) _) (by have := hB2.size; simp; omega) _ _ _ rfl (hown2.alloc _) ⟨w2.heap.size, 0, none⟩ _ rfl rfl (cell_one_new _ _ _) ?c1 ?c2 ?_)
            case c1 => intro u hu; simp at hu; subst hu; rfl
            case c2 => omega
            intro v' w3 hown3 hB3 hsz3 _
            go_wp2_with fail
            go_roundw
            case rel =>
              refine ⟨k + 1, by go_num, by omega, ⟨_, rfl, ?_⟩, ?_, hB3, hsz3⟩
              · rw [HS.out, List.flatMap_append]; simp [HSB.out, HTL.out]
              · have e : [nv z.toNat] = [Value.int .i64 z] := by
                  show [Value.int .i64 ((z.toNat : Nat) : Int)] = _
                  rw [hn]
                rw [HS.out, List.map_append, List.length_append, List.map_cons, List.map_nil, e]
                exact hown3
            case measure => simp [intOf]; omega
        · have hokf : okZ z = false := by cases h : okZ z <;> simp_all
          have HPUT := Lib.hid (put_bad z (okZ_bad hokf))
          rw [if_neg hok, List.append_nil] at HS
          have hzr : ¬ (0 ≤ z ∧ z ≤ 1114111 ∧ ¬ (55296 ≤ z ∧ z ≤ 57343)) := of_decide_eq_false hokf
          clear hok hokf HP HC
          go_wp2_with fail
          refine (HPUT.out _).mono ?_
          rintro e w2 ⟨rfl, rfl⟩
          go_wp2_with fail
          all_goals
            go_roundw
            case rel => exact ⟨k + 1, by go_num, by omega, ⟨_, rfl, by rw [HS.out]; exact HSB.out⟩, by rw [HS.out]; exact hown, hB, hsz⟩
            case measure => simp [intOf]; omega
      · obtain rfl : k = len0 := by omega
        clear HP HC hl
        generalize pickZ (z0.take k) = rs at *
        have hck : checkL sb.data.toList = sb.size := by
          rw [HSB.out, checkL_put rs HOK.out, ← HSB.out]; simp
        have hrn : (runesL sb.data.toList).length = rs.length := by rw [HSB.out, runesL_put rs HOK.out, List.length_map]
        have har : (allRunes sb.data.toList).map (·.2) = rs := by rw [HSB.out]; exact allRunes_put rs HOK.out
        have KC := check_any sb (by omega)
        rw [hck] at KC
        have KN := count_any sb (by omega)
        rw [hrn] at KN
        have KCC := Lib.hid KC
        have KNN := Lib.hid KN
        have HAR := Lib.hid har
        clear KC KN hck hrn har
        go_wp2_with fail
        refine (KCC.out _).mono ?_
        rintro e w' ⟨rfl, rfl⟩
        go_wp2_with fail
        refine (runes_any sb _).mono ?_
        rintro e w' ⟨rfl, rfl⟩
        have hnf : ∀ w : World, (binOp .eql 47 (.func (.func 33) #[] #[.pointer (some ⟨wr.heap.size, 0, none⟩)]) .nilFunc).run Try.prog w = .ok (.bool false) w := fun _ => by kernel_rfl
        go_wp2_with fail
        refine (told6_any wr.heap.size sb (by omega) 0 _ (Boxed.new wr 9 (.string sb))).mono ?_
        rintro e w4 ⟨vA, vB, rfl, hrA, hrB, hB4⟩
        have e0 : cutL 0 (allRunes sb.data.toList) = allRunes sb.data.toList := if_neg (by omega)
        rw [e0] at hrB
        obtain ⟨lW, hlW⟩ : ∃ lW : List Int, rs.map (fun (r : Nat) => (r : Int)) = lW := ⟨_, rfl⟩
        have eB : (allRunes sb.data.toList).map (fun p => (p.2 : Int)) = lW := by
          rw [← hlW, ← HAR.out, List.map_map]; rfl
        have eBl : (allRunes sb.data.toList).length = lW.length := by rw [← eB, List.length_map]
        have hrB' : w4.ownsRow (wr.alloc (.cells #[.string sb] 9)).heap.size 3 1 vB lW.length (lW.map (Value.int .i64)) := by
          rw [← eBl, ← eB, List.map_map]; exact hrB
        have eWl : rs.length = lW.length := by rw [← hlW, List.length_map]
        have hW' : w4.ownsRow w1.heap.size 3 1 u6 lW.length (lW.map (Value.int .i64)) := by
          rw [← eWl, ← hlW, List.map_map]; exact rowBelow (hown.alloc _) hB4
        obtain ⟨bB, cB, rfl, hRB⟩ := rdI_own hrB'
        obtain ⟨bW, cW, rfl, hRW⟩ := rdI_own hW'
        have hlen : lW.length ≤ 200 := by omega
        have KA := alike6_any bB bW cB cW lW lW (by omega) (by omega) w4 hRB hRW
        rw [decide_eq_true rfl] at KA
        have KAA := Lib.hid KA
        rw [eWl] at KNN
        clear KA hrB hrA hrB' hW' hRB hRW eB eBl hlW e0 eWl hnf
        go_wp2_with fail
        refine KAA.out.mono ?_
        rintro e w5 ⟨rfl, hB5⟩
        go_wp2_with fail
        refine (KNN.out _).mono ?_
        rintro e w6 ⟨rfl, hB6⟩
        have q := (hB1.trans (hB.mono hB1.size)).alloc (by have := hB1.size; omega) (.cells #[.string sb] 9)
        have q4 := q.trans (hB4.mono q.size)
        have q5 := q4.trans (hB5.mono q4.size)
        have q6 := q5.trans (hB6.mono q5.size)
        by_cases hcut : a1 < 0 ∨ (sb.size : Int) < a1
        · by_cases hc0 : a1 < 0
          all_goals
            go_wp2_with fail
            go_ret
            exact ⟨rfl, q6⟩
        · obtain ⟨c, rfl⟩ := Int.eq_ofNat_of_zero_le (show 0 ≤ a1 by omega)
          have hcs : c ≤ sb.size := by omega
          have hes : (sb.extract 0 c).size = c := by simp; omega
          have KE := check_any (sb.extract 0 c) (by omega)
          have hle := checkL_le _ (sb.extract 0 c).data.toList (Nat.le_refl _)
          have hls : (sb.extract 0 c).data.toList.length = c := by rw [← hes]; simp
          rw [hls] at hle
          rw [hes] at KE
          generalize checkL (sb.extract 0 c).data.toList = m at KE hle
          have KEE := Lib.hid KE
          clear KE hls hes hcut
          go_wp2_with fail
          refine (KEE.out _).mono ?_
          rintro e w7 ⟨rfl, rfl⟩
          by_cases hm : m = c
          · subst hm
            go_wp2_with fail
            go_ret
            exact ⟨by simp, q6⟩
          · have hm2 : ¬ (m : Int) = (c : Int) := by omega
            rw [decide_eq_false hm]
            go_wp2_with fail
            go_ret
            exact ⟨by simp; omega, q6⟩
end Go.Proofs.Ytgdnibdahldekaa
