/- The walks of slices.Reverse at bytes, of Nat's Text. -/
import Derived.Test.YtjcpfmndkeiegaaGreatDoorNtN
import Derived.Test.YtjcpfmndkeiegaaGreatDoorNaZ
namespace Go.Proofs.YtjcpfmndkeiegaaGreatDoor
open Go.RowKit
set_option linter.unusedVariables false

/-- A list, turned around as far as i from both ends. -/
def RevAt {α : Type} (l L : List α) (i : Nat) : Prop := L.length = l.length ∧ ∀ k, k < l.length → L[k]? = if k < i ∨ l.length ≤ k + i then l[l.length - 1 - k]? else l[k]?
theorem RevAt.start {α : Type} (l : List α) : RevAt l l 0 := ⟨rfl, fun k hk => by rw [if_neg (by omega)]⟩
theorem RevAt.step {α : Type} {l L : List α} {i j : Nat} {a b : α} (h : RevAt l L i) (hj : i + j + 1 = l.length) (hi : i < j) (ha : L[j]? = some a) (hb : L[i]? = some b) : RevAt l ((L.set i a).set j b) (i + 1) := by
  refine ⟨by simp [h.1], fun k hk => ?_⟩
  have hLl := h.1
  have h1 := h.2 i (by omega)
  have h2 := h.2 j (by omega)
  rw [if_neg (by omega)] at h1 h2
  by_cases e1 : k = j
  · subst e1
    rw [List.getElem?_set_self (by simp; omega), if_pos (by omega), ← hb, h1]
    congr 1; omega
  · rw [List.getElem?_set_ne (by omega)]
    by_cases e2 : k = i
    · subst e2
      rw [List.getElem?_set_self (by omega), if_pos (by omega), ← ha, h2]
      congr 1; omega
    · rw [List.getElem?_set_ne (by omega), h.2 k hk]
      by_cases e3 : k < i ∨ l.length ≤ k + i
      · rw [if_pos e3, if_pos (by omega)]
      · rw [if_neg e3, if_neg (by omega)]
theorem RevAt.done {α : Type} {l L : List α} {i : Nat} (h : RevAt l L i) (hi : l.length ≤ 2 * i + 1) : L = l.reverse := by
  refine List.ext_getElem? (fun k => ?_)
  by_cases hk : k < l.length
  · rw [h.2 k hk, List.getElem?_reverse hk]
    split
    · rfl
    · congr 1; omega
  · rw [List.getElem?_eq_none (by rw [h.1]; omega), List.getElem?_eq_none (by simp; omega)]

theorem OwnB.form {w : World} {base : Nat} {e : TypeId} {v : Value} {l : List UInt8} (h : OwnB w base e v l) (hn : 0 < l.length) : ∃ g c, v = .slice (some ⟨g, 0, none⟩) l.length c ∧ base ≤ g ∧ g < w.heap.size ∧ (∀ i (hi : i < l.length), w.cell? ⟨g, i, none⟩ = some (.int .u8 (l[i].toNat : Int))) ∧ (∀ i, w.frozen? ⟨g, i, none⟩ = false) ∧
    ∀ i (x : UInt8), i < l.length → OwnB (w.setCell ⟨g, i, none⟩ (.int .u8 (x.toNat : Int))) base e v (l.set i x) := by
  rcases h.2 with ⟨rfl, h0⟩ | ⟨g, cap, cur, rfl, hb, hg, h1, h2, h3, h4⟩
  · omega
  · have hB : BlkAt w g e cur := hg
    refine ⟨g, cap, rfl, hb, hB.lt, fun i hi => ?_, fun i => hB.frozen i, fun i x hi => ?_⟩
    · rw [hB.cell i]
      have : (cur.toList.take (l.length * 1))[i]? = cur[i]? := by rw [List.getElem?_take_of_lt (by omega)]; simp
      rw [← this, h4]; simp [hi, bv]
    · refine ⟨by simp, .inr ⟨g, cap, cur.setIfInBounds i (bv x), by simp, hb, hB.set i _, by simpa using h1, h2, by simpa using h3, ?_⟩⟩
      rw [List.length_set, Array.toList_setIfInBounds, List.take_set, h4, List.map_set]
theorem OwnB.drew {w : World} {base : Nat} {e : TypeId} {v : Value} {l : List UInt8} (h : OwnB w base e v l) : OwnB w.drew base e v l := h
/-- The loop of Reverse. -/
def RevL (w : World) (base : Nat) (v : Value) (l : List UInt8) (p q : Value) (W : World) : Prop :=
  ∃ (i : Nat) (L : List UInt8), p = .int .i64 (i : Int) ∧ q = .int .i64 ((l.length : Int) - 1 - i) ∧ 2 * i ≤ l.length ∧ RevAt l L i ∧ OwnB W base 5 v L ∧ Below base w W
set_option maxRecDepth 20000 in
set_option maxHeartbeats 8000000 in
theorem reverse_any {w : World} {base : Nat} {v : Value} {l : List UInt8} (hb : base ≤ w.heap.size) (h : OwnB w base 5 v l) (hl : l.length ≤ 100000000) :
    Calls Tryz.prog 108 #[v] w fun e w' => e = .returned (.tuple #[]) ∧ OwnB w' base 5 v l.reverse ∧ Below base w w' := by
  obtain ⟨a, c, rfl⟩ := h.len
  have H0 := Lib.hid (show RevL w base (.slice a l.length c) l (.int .i64 0) (.int .i64 ((l.length : Int) - 1)) w from ⟨0, l, rfl, by simp, by omega, RevAt.start l, h, Below.refl _ _⟩)
  obtain ⟨n, hn⟩ : ∃ n, l.length = n := ⟨_, rfl⟩
  have HN := Lib.hid hn
  rw [hn] at hl H0 ⊢
  clear h hn
  go_enter Tryz.func108, Tryz.ntmps108
  go_wp2
  go_loopw [2, 3] (fun p q W => RevL w base (.slice a n c) l p q W) (fun p q W => (intOf q + 1).toNat)
  case atStart => exact H0.out
  case round =>
    obtain ⟨i, L, rfl, rfl, hi, hr, ho, hB⟩ := hrel
    rw [HN.out] at hi ⊢
    by_cases hlt : 2 * i + 1 < n
    · obtain ⟨j, hj⟩ : ∃ j, i + j + 1 = n := ⟨n - 1 - i, by omega⟩
      have hLl : L.length = n := by rw [hr.1, HN.out]
      rw [show (n : Int) - 1 - (i : Int) = (j : Int) by omega]
      obtain ⟨g, c', he, hbg, hg, hcell, hfr, hset⟩ := ho.form (by omega)
      simp only [Value.slice.injEq] at he
      obtain ⟨rfl, -, rfl⟩ := he
      have ci := hcell i (by omega)
      have cj := hcell j (by omega)
      obtain ⟨x, hx⟩ : ∃ x, L[i]'(by omega) = x := ⟨_, rfl⟩
      obtain ⟨y, hy⟩ : ∃ y, L[j]'(by omega) = y := ⟨_, rfl⟩
      rw [hx] at ci
      rw [hy] at cj
      have fi := hfr i
      have fj := hfr j
      have hij : i < j := by omega
      have hne : i ≠ j := by omega
      have HRs := Lib.hid (hr.step (i := i) (j := j) (a := y) (b := x) (by rw [HN.out]; exact hj) hij (by rw [List.getElem?_eq_getElem (by omega), hy]) (by rw [List.getElem?_eq_getElem (by omega), hx]))
      have HO := Lib.hid (hset i y (by omega))
      have HB := Lib.hid hB
      have hjn : j < n := by omega
      have hin : i < n := by omega
      have HLl := Lib.hid hLl
      have HJ := Lib.hid hj
      clear hr ho hB hcell hfr hset hx hy hLl hj hi
      go_wp2
      obtain ⟨g2, c2, he2, -, -, -, -, hset2⟩ := HO.out.form (by rw [List.length_set, HLl.out]; omega)
      rw [List.length_set, HLl.out] at he2
      simp only [Value.slice.injEq, Option.some.injEq, Addr.mk.injEq] at he2
      obtain ⟨⟨rfl, -, -⟩, -, rfl⟩ := he2
      have HO2 := Lib.hid (hset2 j x (by rw [List.length_set, HLl.out]; exact hjn))
      clear hset2
      go_region
      all_goals
        go_wp2
        refine ⟨⟨i + 1, (L.set i y).set j x, by go_num, by rw [HN.out]; simp only [Value.int.injEq, true_and]; have := HJ.out; omega, by rw [HN.out]; have := HJ.out; omega, HRs.out, HO2.out.drew, ?_⟩, ?_⟩
        · exact ((HB.out.setCell (p := ⟨g, i, none⟩) hbg _).setCell (p := ⟨g, j, none⟩) hbg _).drew
        · simp only [intOf]; omega
    · have hL : L = l.reverse := hr.done (by rw [HN.out]; omega)
      have HO := Lib.hid ho
      have HB := Lib.hid hB
      have HL := Lib.hid hL
      have hltI : (n : Int) - 1 - (i : Int) ≤ (i : Int) := by omega
      clear hr ho hB hL hlt
      go_wp2
      go_end0
      exact ⟨rfl, by rw [← HL.out]; exact HO.out, HB.out⟩
set_option maxRecDepth 100000 in
theorem slB : SlT Tryz.prog 145 5 1 1 := SlT.mk Tryz.underlying145 (z := .int .u8 0) (by kernel_rfl) rfl (by decide) (by decide)
theorem trimB_eq (l : List UInt8) (c : UInt8) : Lib.trimLeftB l c = Lib.trimLeftS l [c] := by
  unfold Lib.trimLeftB Lib.trimLeftS
  congr 1
  funext x
  rw [Bool.eq_iff_iff]
  simp
/-- The block of a row that is not empty. -/
theorem PartL.blk {w : World} {base g n c : Nat} {L : List Nat} (h : PartL w base (.slice (some ⟨g, 0, none⟩) n c) L) : ∃ cur, BlkAt w g 133 cur := by
  rcases h with ⟨he, _⟩ | ⟨g', c', cur, he, _, hb, _⟩
  · cases he
  · cases he
    exact ⟨cur, hb⟩
theorem PartL.keep {w w' : World} {base : Nat} {v : Value} {L : List Nat} (h : PartL w base v L) (hk : KeepT 133 w w') : PartL w' base v L := by
  rcases h with h | ⟨g, c, cur, h1, hb, hg, r⟩
  · exact .inl h
  · exact .inr ⟨g, c, cur, h1, hb, hk g cur hg, r⟩
theorem PartL.nat {w : World} {base : Nat} {v : Value} {n : Nat} (h : PartL w base v (limbs n)) : NatAt w (.agg #[v]) n := by
  obtain ⟨a, c, rfl, _, hr⟩ := h.rd
  exact ⟨a, c, rfl, hr⟩
open Classical in
/-- The number that a slice of limbs reads as. -/
noncomputable def natS (W : World) (v : Value) : Nat := if h : ∃ n, NatAt W (.agg #[v]) n then Classical.choose h else 0
theorem natS_eq {W : World} {v : Value} {n : Nat} (h : NatAt W (.agg #[v]) n) : natS W v = n := by
  have hex : ∃ n, NatAt W (.agg #[v]) n := ⟨n, h⟩
  unfold natS
  rw [dif_pos hex]
  exact (Classical.choose_spec hex).uniq h
/-- The nines of a number's digits are not many. -/
theorem nine_le {n i : Nat} (h : n / 10 ^ (9 * i) ≠ 0) : i ≤ 2 * szN n := by
  have h1 : 10 ^ (9 * i) ≤ n := by
    apply Decidable.byContradiction
    intro h2
    exact h (Nat.div_eq_of_lt (by omega))
  have h2 := szN_lt n
  have h3 : 2 ^ (27 * i) ≤ 10 ^ (9 * i) := by
    rw [show 27 * i = 3 * (9 * i) by omega, Nat.pow_mul]
    exact Nat.pow_le_pow_left (by decide) _
  have h4 : (4294967296 : Nat) ^ szN n = 2 ^ (32 * szN n) := by rw [show (4294967296 : Nat) = 2 ^ 32 by decide, ← Nat.pow_mul]
  rw [h4] at h2
  have h5 : 2 ^ (27 * i) < 2 ^ (32 * szN n) := by omega
  have := (Nat.pow_lt_pow_iff_right (by decide : 1 < 2)).1 h5
  omega
theorem bv_dig (m : Nat) : bv (UInt8.ofNat (48 + m % 10)) = .int .u8 (48 + (m : Int) % 10) := by
  unfold bv
  have : (UInt8.ofNat (48 + m % 10)).toNat = 48 + m % 10 := by simp; omega
  rw [this]
  simp
/-- The outer loop of Text. -/
def TextO (w : World) (base n : Nat) (vo vl : Value) (W : World) : Prop :=
  ∃ i : Nat, i ≤ 2 * szN n + 1 ∧ OwnB W base 5 vo (lowD (9 * i) n) ∧ PartL W base vl (limbs (n / 10 ^ (9 * i))) ∧ Below base w W
/-- The inner one. -/
def TextI (w : World) (base n i r0 : Nat) (L : List Nat) (vl : Value) (vo vr p : Value) (W : World) : Prop :=
  ∃ j : Nat, p = .int .i64 (j : Nat) ∧ j ≤ 9 ∧ vr = .int .u32 ((r0 / 10 ^ j : Nat) : Int) ∧ OwnB W base 5 vo (lowD (9 * i) n ++ lowD j r0) ∧ PartL W base vl L ∧ Below base w W
theorem TextI.start {w wr w4 : World} {base n i r g k c : Nat} {cur : Array Value} {L4 : List Nat} {vo : Value} (hb : BlkAt wr g 133 cur) (ho : OwnB wr base 5 vo (lowD (9 * i) n)) (hp : PartL w4 base (.slice (some ⟨g, 0, none⟩) k c) L4)
    (hg : wr.grownBy w4 (some g)) (hB : Below base w wr) (hB4 : Below base wr w4) : TextI w base n i r L4 (.slice (some ⟨g, 0, none⟩) k c) vo (.int .u32 (r : Int)) (.int .i64 0) w4 :=
  ⟨0, rfl, by omega, by simp, by simpa [lowD] using (show OwnB w4 base 5 vo (lowD (9 * i) n) from (KeepT.blk hb (show 5 ≠ 133 by decide) hg).owns ho), hp, hB.trans hB4⟩
set_option maxRecDepth 20000 in
set_option maxHeartbeats 8000000 in
theorem natText_any {v : Value} {n : Nat} {w : World} (h : NatAt w v n) (hs : szN n ≤ 1000000) :
    Calls Tryz.prog 68 #[v] w fun e w' => e = .returned (str (textN n)) ∧ Below w.heap.size w w' := by
  have HZ := Lib.hid (fun (W : World) (hW : Below w.heap.size w W) => zero_any (h.below hW))
  obtain ⟨a, c, rfl, ha⟩ := h
  have HB1 := Lib.hid ((Below.refl w.heap.size w).alloc (Nat.le_refl _) (.cells #[.slice a (szN n) c] 57))
  have hK := BlkAt.new w 57 #[.slice a (szN n) c]
  obtain ⟨W1, hW1⟩ : ∃ W1, w.alloc (.cells #[.slice a (szN n) c] 57) = W1 := ⟨_, rfl⟩
  rw [hW1] at HB1 hK
  obtain ⟨m, hm⟩ : ∃ m, szN n = m := ⟨_, rfl⟩
  have HM := Lib.hid hm
  have HA := Lib.hid (ha.below HB1.out)
  rw [hm] at hW1 HZ hK hs ⊢
  have HK := Lib.hid hK
  have c0 := hK.cell 0
  have hlt := hK.lt
  clear ha hm hK
  by_cases h0 : n = 0
  · rw [decide_eq_true h0] at HZ
    subst h0
    go_enter Tryz.func68, Tryz.ntmps68
    go_wp2_with (go_at_call 95; refine (HZ.out _ HB1.out).mono ?_; clear HZ; rintro e w2 ⟨rfl, hB2⟩; have HB2 := Lib.hid (HB1.out.trans (hB2.mono HB1.out.size)); clear hB2)
    go_ret
    exact ⟨rfl, HB2.out⟩
  · rw [decide_eq_false h0] at HZ
    have H0 := Lib.hid h0
    clear h0
    go_enter Tryz.func68, Tryz.ntmps68
    go_wp2_with (first
      | (go_at_call 95; refine (HZ.out _ HB1.out).mono ?_; clear HZ; rintro e w2 ⟨rfl, hB2⟩; have HB2 := Lib.hid hB2; have k2 := HK.out.below hB2 hlt; have c2 := k2.cell 0; have HC := Lib.hid (clone_any (c := c) (HA.out.below hB2) (by rw [limbs_len, HM.out]; omega)); rw [limbs_len, HM.out] at HC; clear hB2 k2)
      | (go_at_call 106; refine HC.out.mono ?_; clear HC; rintro e w3 ⟨v3, rfl, ho3, hB3⟩; have HT0 := Lib.hid (show TextO W1 W1.heap.size n (.slice none 0 0) v3 w3 from ⟨0, by omega, OwnB.nil _ _ _, by simpa using (OwnL.mono ho3 HB2.out.size).part, HB2.out.trans (hB3.mono HB2.out.size)⟩); clear ho3 hB3))
    clear c0 c2
    go_loopw [3, 4] (fun vo vl W => TextO W1 W1.heap.size n vo vl W) (fun vo vl W => natS W vl)
    case atStart => exact HT0.out
    case round =>
      obtain ⟨i, hi, ho, hp, hB⟩ := hrel
      by_cases hz : n / 10 ^ (9 * i) = 0
      · have hbd := Nat.le_trans hi (show 2 * szN n + 1 ≤ 2000001 by rw [HM.out]; omega)
        rw [hz, limbs_zero] at hp
        obtain ⟨al, cl, rfl, -, -⟩ := hp.rd
        have hll : (lowD (9 * i) n).length = 9 * i := lowD_len _ _
        have HRv := Lib.hid (reverse_any hB.size ho (by rw [hll]; omega))
        have HTr := Lib.hid (trim_lowD (div_nine_lt hz) H0.out)
        obtain ⟨l, hl⟩ : ∃ l, lowD (9 * i) n = l := ⟨_, rfl⟩
        rw [hl] at HRv hll HTr
        have hB0 := Lib.hid hB
        clear ho hp hB HT0 hz hi hl
        go_wp2_with (first
          | (go_at_call 108; refine HRv.out.mono ?_; clear HRv; rintro e w4 ⟨rfl, ho4, hB4⟩; have HB4 := Lib.hid (hB0.out.trans hB4); have hcv := ho4.convert Tryz.underlying145 Tryz.underlying5 Tryz.underlying9; clear ho4 hB4)
          | (go_at_call 109; refine (Tryz.strings_TrimLeft_one _ 48 (by decide) _).mono ?_; rintro e w5 ⟨rfl, rfl⟩))
        go_ret
        refine ⟨?_, HB1.out.trans (HB4.out.mono HB1.out.size)⟩
        rw [trimB_eq, HTr.out, textN, if_neg H0.out]
        rfl
      · have hi2 := nine_le hz
        rw [HM.out] at hi2
        have hlen : 0 < (limbs (n / 10 ^ (9 * i))).length := by rw [limbs_len]; exact szN_pos hz
        have hle : szN (n / 10 ^ (9 * i)) ≤ m := by rw [← HM.out]; exact szN_mono (Nat.div_le_self _ _)
        have hNS := natS_eq hp.nat
        have hl := less_any (b := 1000000000) hB.size hp (limbs_lim _) (by rw [limbs_len]; omega) (by decide) (by decide)
        rw [limbs_val] at hl
        obtain ⟨g, c', rfl, hbg, hg, hlc, -, -, -⟩ := hp.form hlen
        obtain ⟨cur, hblk⟩ := hp.blk
        rw [limbs_len] at hl hlc hlen hNS ⊢
        obtain ⟨q, hq⟩ : ∃ q, n / 10 ^ (9 * i) = q := ⟨_, rfl⟩
        rw [hq] at hl hlc hlen hle hNS ⊢
        obtain ⟨k, hk⟩ : ∃ k, szN q = k := ⟨_, rfl⟩
        rw [hk] at hl hlc hlen hle hNS ⊢
        obtain ⟨r, hr⟩ : ∃ r, q % 1000000000 = r := ⟨_, rfl⟩
        rw [hr] at hl
        have hrb : r < 1000000000 := by rw [← hr]; exact Nat.mod_lt _ (by decide)
        have HL := Lib.hid hl
        have HO := Lib.hid ho
        have HB := Lib.hid hB
        have HQ := Lib.hid hq
        have HKq := Lib.hid hk
        have HR := Lib.hid hr
        have HNS := Lib.hid hNS
        have HBlk := Lib.hid hblk
        have HZq := Lib.hid (show 0 < q by rw [← hq]; omega)
        have hlenI : (0 : Int) < (k : Int) := by omega
        clear hl ho hB hq hp hz hk hNS hr hblk
        go_wp2_with (go_at_call 107; refine HL.out.mono ?_; clear HL; rintro e w4 ⟨L4, rfl, hp4, hL4, hl4, hv4, hg4, hB4⟩; have HT4 := Lib.hid (TextI.start (r := r) HBlk.out HO.out hp4 hg4 HB.out hB4); have HL4 := Lib.hid hL4; have HLl := Lib.hid hl4; have HV4 := Lib.hid hv4; clear hp4 hL4 hl4 hv4 hg4 hB4)
        go_loopw [3, 5, 19] (fun vo vr p W => TextI W1 W1.heap.size n i r L4 (.slice (some ⟨g, 0, none⟩) k c') vo vr p W) (fun vo vr p W => 9 - (intOf p).toNat)
        case atStart => exact HT4.out
        case round =>
          obtain ⟨j, rfl, hj, rfl, ho, hp, hB⟩ := hrel
          by_cases hj9 : j < 9
          · obtain ⟨rr, hrr⟩ : ∃ rr, r / 10 ^ j = rr := ⟨_, rfl⟩
            have hrr1 : rr ≤ 999999999 := by rw [← hrr]; have := Nat.div_le_self r (10 ^ j); omega
            rw [hrr]
            have hsn : lowD (9 * i) n ++ lowD (j + 1) r = (lowD (9 * i) n ++ lowD j r) ++ [UInt8.ofNat (48 + rr % 10)] := by rw [lowD_snoc, hrr, List.append_assoc]
            have hd1 : r / 10 ^ (j + 1) = rr / 10 := by rw [Nat.pow_succ, ← Nat.div_div_eq_div_mul, hrr]
            have HSn := Lib.hid hsn
            have HD1 := Lib.hid hd1
            have hll : (lowD (9 * i) n ++ lowD j r).length = 9 * i + j := by rw [List.length_append, lowD_len, lowD_len]
            obtain ⟨l, hl⟩ : ∃ l, lowD (9 * i) n ++ lowD j r = l := ⟨_, rfl⟩
            rw [hl] at ho hll HSn
            obtain ⟨ao, co, rfl⟩ := ho.len
            have HO := Lib.hid (show _ from ho)
            unfold OwnB at HO
            have HP := Lib.hid hp
            have HB := Lib.hid hB
            have HLl := Lib.hid hll
            have hrI : (rr : Int) ≤ 999999999 := by omega
            have hI := Lib.hid hi2
            clear ho hp hB hrr hsn hd1 hl hll hi2 HT4 HT0
            go_wp2_with (at_builtin; refine wpList_app _ rfl _ _ _ _ _ _ slB rfl W1.heap.size W1 (HB.out.alloc HB.out.size _) (by have := HB.out.size; simp; omega) _ _ _ rfl (HO.out.alloc _) ⟨_, 0, none⟩ [_] rfl rfl (cell_one_new _ _ _) (by simp [Value.oneCell']) (by have := HLl.out; have := hI.out; omega) ?_; intro v' w6 ho6 hB6 hb6 hg6)
            have ho7 : OwnB w6 W1.heap.size 5 v' (lowD (9 * i) n ++ lowD (j + 1) r) := by
              rw [HSn.out]
              unfold OwnB
              rw [List.map_append, List.map_singleton, bv_dig, List.length_append]
              exact ho6
            have hk : KeepT 133 wr w6 := (KeepT.of_below ((Below.refl _ wr).alloc (Nat.le_refl _) _)).trans (KeepT.grown (HO.out.alloc _) (show 133 ≠ 5 by decide) hg6)
            refine ⟨⟨j + 1, by go_num, by omega, by rw [HD1.out]; simp, ho7, HP.out.keep hk, hB6⟩, ?_⟩
            simp only [intOf]; omega
          · obtain rfl : j = 9 := by omega
            have hL4 := HL4.out
            have hv4 := HV4.out
            obtain ⟨a4, c4, he, hc4, hr4⟩ := hp.rd
            have hl4 : L4.length = k := HLl.out
            rw [hl4] at he hc4
            simp only [Value.slice.injEq] at he
            obtain ⟨rfl, -, rfl⟩ := he
            have ht := trim_any hL4 hr4 (by rw [hl4]; exact hc4) (by rw [hl4]; omega)
            rw [hl4, hv4] at ht
            have hpt := hp.trim hL4
            rw [hv4] at hpt
            have HPt := Lib.hid hpt
            have HT := Lib.hid ht
            have HB := Lib.hid hB
            have HO := Lib.hid ho
            have hfd := fld_nat (some ⟨g, 0, none⟩) (szN (q / 1000000000)) (szN (q / 1000000000))
            have hI := Lib.hid hi2
            clear hL4 hv4 hc4 hr4 hl4 ht hpt hB ho hp HT4 HT0 hi2
            go_wp2_with (go_at_call 94; refine HT.out.mono ?_; clear HT; rintro e w6 ⟨rfl, hN6, hB6⟩; have HN6 := Lib.hid hN6; have HB6 := Lib.hid hB6; clear hN6 hB6)
            have hp6 := HPt.out.below HB6.out
            refine ⟨⟨i + 1, by have := hI.out; rw [HM.out]; omega, ?_, ?_, HB.out.trans (HB6.out.mono HB.out.size)⟩, ?_⟩
            · rw [low_nine, HQ.out, HR.out]
              exact rowKept HO.out HB6.out
            · rw [div_nine, HQ.out]
              exact hp6
            · rw [HNS.out, natS_eq hp6.nat]
              exact Nat.div_lt_self HZq.out (by decide)
end Go.Proofs.YtjcpfmndkeiegaaGreatDoor
