/- The walk of a document's Valid, whole. -/
import Derived.Test.YtajnpmhgldfgfaaXtG
namespace Go.Proofs.Ytajnpmhgldfgfaa
open Go.RowKit
set_option linter.unusedVariables false

theorem depGo_okAll {ups : List Int} : ∀ (k : Nat) {D E : List Nat}, D.length + k = ups.length → depGo ups k D = some E → UpsOk ups D.length → DepSm D → UpsOk ups E.length ∧ DepSm E
  | 0, D, E, _, h, ho, hs => by cases h; exact ⟨ho, hs⟩
  | k + 1, D, E, hl, h, ho, hs => by
    unfold depGo at h
    cases hd : depStep ups D with
    | none => rw [hd] at h; cases h
    | some F =>
      rw [hd] at h
      have h1 := depStep_len hd
      exact depGo_okAll k (by omega) h (depStep_ok (by omega) hd ho) (depStep_sm hd hs)
theorem depthsX_ok {ups : List Int} {D : List Nat} (h : depthsX ups = some D) : D.length = ups.length ∧ UpsOk ups ups.length ∧ DepSm D := by
  have hl := depGo_len _ h
  have h2 := depGo_okAll _ (by simp) h (fun j hj => absurd hj (Nat.not_lt_zero _)) (fun j d h => by simp at h)
  have e : D.length = ups.length := by simpa using hl
  rw [e] at h2
  exact ⟨e, h2⟩
theorem foldl_max_le (m : Int) : ∀ (zs : List Int) (a : Int), zs.foldl max a ≤ m ↔ a ≤ m ∧ ∀ z ∈ zs, z ≤ m
  | [], a => by simp
  | z :: zs, a => by
    rw [List.foldl_cons, foldl_max_le m zs]
    constructor
    · rintro ⟨h1, h2⟩
      exact ⟨by omega, fun x hx => by rcases List.mem_cons.1 hx with rfl | hx; omega; exact h2 x hx⟩
    · rintro ⟨h1, h2⟩
      have := h2 z (List.mem_cons_self ..)
      exact ⟨by omega, fun x hx => h2 x (List.mem_cons_of_mem _ hx)⟩
theorem maxOf_le (m : Int) {zs : List Int} (hne : zs ≠ []) : Lib.maxOf zs ≤ m ↔ ∀ z ∈ zs, z ≤ m := by
  unfold Lib.maxOf
  rw [foldl_max_le]
  constructor
  · exact fun h => h.2
  · intro h
    cases zs with
    | nil => exact absurd rfl hne
    | cons z zs => exact ⟨h z (List.mem_cons_self ..), h⟩
theorem maxOf_nat {D : List Nat} (hne : D ≠ []) : (Lib.maxOf (D.map fun (k : Nat) => (k : Int)) ≤ 100) ↔ D.all (fun d => decide (d ≤ 100)) = true := by
  rw [maxOf_le _ (by simpa using hne)]
  simp only [List.mem_map, forall_exists_index, and_imp, forall_apply_eq_imp_iff₂, List.all_eq_true, decide_eq_true_eq]
  exact ⟨fun h d hd => by have := h d hd; omega, fun h d hd => by have := h d hd; omega⟩
/-- The greatest of a row of ints. -/
theorem max_any {W : World} {v : Value} {base : Nat} {D : List Nat} (h : IntsAt base W D v) (hne : D ≠ []) (hl : D.length ≤ 1000000) :
    Calls Try.prog 43 #[v] W fun e W' => e = .returned (.int .i64 (Lib.maxOf (D.map fun (k : Nat) => (k : Int)))) ∧ W' = W := by
  obtain ⟨a, c, rfl, h2⟩ := IntRd.of_ints h
  obtain ⟨b, o, rfl, _, g⟩ := h2 (by simpa using hne)
  have := Try.slices_Max_int b o (D.map fun (k : Nat) => (k : Int)).length c (D.map fun (k : Nat) => (k : Int)) W (by simpa using List.length_pos_iff.2 hne) (Nat.le_refl _) (by simp; omega) g
  rwa [List.take_length] at this
/-- The first loop of Valid. -/
def ValRel (W : World) (ev : Value) (ups : List Int) (gk : Nat) (x : Value) (V : World) : Prop :=
  ∃ (i : Nat) (L : List (List Nat × Value)), x = .int .i64 (i : Nat) ∧ i ≤ ups.length ∧ KidsI W.heap.size gk L V ∧ L.map (·.1) = (List.range ups.length).map (kidsTo ups i) ∧ Below W.heap.size W V ∧ BlkAt V W.heap.size 32 #[ev]

/-- The second loop of Valid. -/
def ValRel2 (W : World) (ev : Value) (ups : List Int) (ks : List (List Int)) (gk : Nat) (L : List (List Nat × Value)) (x : Value) (V : World) : Prop :=
  ∃ i : Nat, x = .int .i64 (i : Nat) ∧ i ≤ ups.length ∧ KidsI W.heap.size gk L V ∧ Below W.heap.size W V ∧ BlkAt V W.heap.size 32 #[ev] ∧ ∀ j, j < i → ks[j]? = some ((kidsI ups j).map fun (k : Nat) => (k : Int))
theorem validX_yes {ups : List Int} {ks : List (List Int)} {D : List Nat} (hR : depthsX ups = some D) (h1 : ups.length ≤ 10000) (h2 : D.all (fun d => decide (d ≤ 100)) = true) (h3 : ∀ i, i < ups.length → ks[i]? = some ((kidsI ups i).map fun (k : Nat) => (k : Int))) : validX ups ks = true := by
  unfold validX
  rw [hR]
  show (decide _ && _ && decide _) = true
  rw [h2, decide_eq_true h1, decide_eq_true h3]; rfl
theorem validX_no {ups : List Int} {ks : List (List Int)} {D : List Nat} (hR : depthsX ups = some D) {i : Nat} (hi : i < ups.length) (h : ks[i]? ≠ some ((kidsI ups i).map fun (k : Nat) => (k : Int))) : validX ups ks = false := by
  unfold validX
  rw [hR]
  show (_ && decide _) = false
  rw [decide_eq_false (p := ∀ i, i < ups.length → ks[i]? = some ((kidsI ups i).map fun (k : Nat) => (k : Int))) (fun h3 => h (h3 i hi)), Bool.and_false]

set_option maxRecDepth 100000 in
set_option maxHeartbeats 16000000 in
theorem valid_any {W : World} {ev : Value} {ys : List YE} {ks : List (List Int)} (h : DocAt W ev ys) (hn : ys.length ≤ 1000000) (hkl : ks.length = ys.length) (hkk : ∀ (i : Nat) (y : YE), ys[i]? = some y → ∃ k, ks[i]? = some k ∧ k.length ≤ 1000000 ∧ IntRd W (.slice y.kb y.kn y.kc) k) :
    Calls Try.prog 30 #[.agg #[ev]] W fun e W' => e = .returned (.bool (validX (ys.map (·.up)) ks)) ∧ Below W.heap.size W W' := by
  have HDOC := Lib.hid h
  obtain ⟨a, c, rfl, h2⟩ := h
  obtain ⟨n, hnn⟩ : ∃ n, ys.length = n := ⟨_, rfl⟩
  obtain ⟨ups, hups⟩ : ∃ ups, ys.map (·.up) = ups := ⟨_, rfl⟩
  have hul : ups.length = n := by rw [← hups, List.length_map]; exact hnn
  obtain ⟨R, hR⟩ : ∃ R, depthsX ups = R := ⟨_, rfl⟩
  rw [hups, hnn]
  rw [hnn] at hn hkl
  obtain ⟨W1, hW1⟩ : ∃ W1, W.alloc (.cells #[.slice a n c] 32) = W1 := ⟨_, rfl⟩
  have hB1 : Below W.heap.size W W1 := by rw [← hW1]; exact (Below.refl _ W).alloc (Nat.le_refl _) _
  have hb1 : BlkAt W1 W.heap.size 32 #[.slice a n c] := by rw [← hW1]; exact BlkAt.new _ _ _
  have hcell1 := hb1.cell 0
  have HU := Lib.hid hups
  have HUL := Lib.hid hul
  have HN := Lib.hid hnn
  have H2 := Lib.hid h2
  have HKK := Lib.hid hkk
  have HKL := Lib.hid hkl
  have HR := Lib.hid hR
  have HW1 := Lib.hid hW1
  have HB1 := Lib.hid hB1
  have HBK1 := Lib.hid hb1
  have hD1 : DocAt W1 (.slice a n c) ys := by have := HDOC.out.below hB1; rwa [hnn] at this
  have HD1 := Lib.hid hD1
  have HDEP := Lib.hid (depths_any HD1.out (by rw [HN.out]; exact hn))
  rw [HU.out, HR.out] at HDEP
  obtain ⟨j0, hj0, hy0, hy1, hy2⟩ := info_parts infoInt
  obtain ⟨i0, hi0, hz0, hz1, hz2⟩ := info_parts infoInts
  clear h2 hups hul hnn hkk hkl hR hW1 hB1 hb1 hD1
  cases R with
  | none =>
    go_enter Try.func30, Try.ntmps30
    go_wp2_with (go_at_call 42; rw [HW1.out]; refine HDEP.out.mono ?_; rintro _ w2 ⟨rfl, hB2⟩; have hb2 := (HBK1.out.below hB2 HBK1.out.lt).cell 0)
    go_ret
    rw [show validX ups ks = false from by unfold validX; rw [HR.out]]
    exact ⟨rfl, HB1.out.trans (hB2.mono HB1.out.size)⟩
  | some D =>
    obtain ⟨hDl, hup, hsm⟩ := depthsX_ok HR.out
    rw [HUL.out] at hDl
    have HUP := Lib.hid hup
    have HDL := Lib.hid hDl
    clear hup hDl hsm
    by_cases hbig : 10000 < n
    · have g1 : (10000 : Int) < (n : Int) := by omega
      go_enter Try.func30, Try.ntmps30
      go_wp2_with (go_at_call 42; rw [HW1.out]; refine HDEP.out.mono ?_; rintro _ w2 ⟨v, rfl, hI, hB2⟩; have hb2 := (HBK1.out.below hB2 HBK1.out.lt).cell 0)
      go_ret
      rw [show validX ups ks = false from by unfold validX; rw [HR.out, HUL.out]; simp [Nat.not_le.2 hbig]]
      exact ⟨rfl, HB1.out.trans (hB2.mono HB1.out.size)⟩
    · by_cases hall : D.all (fun d => decide (d ≤ 100)) = true
      · have hkey : n = 0 ∨ (0 < n ∧ ¬ (100 : Int) < Lib.maxOf (D.map fun (k : Nat) => (k : Int))) := by
          by_cases h0 : n = 0
          · exact .inl h0
          · have hDn : D ≠ [] := fun e => h0 (by rw [← HDL.out, e]; rfl)
            have := (maxOf_nat hDn).2 hall
            exact .inr ⟨by omega, by omega⟩
        obtain ⟨mx, hmx⟩ : ∃ mx, Lib.maxOf (D.map fun (k : Nat) => (k : Int)) = mx := ⟨_, rfl⟩
        rw [hmx] at hkey
        have HMX := Lib.hid hmx
        have HALL := Lib.hid hall
        have g1 : ¬ (10000 : Int) < (n : Int) := by omega
        clear hmx hall hbig
        rcases hkey with h0 | ⟨h0, h100⟩
        · have g2 : ¬ (0 : Int) < (n : Int) := by omega
          clear h0
          go_enter Try.func30, Try.ntmps30
          go_wp2_with (first
            | (go_at_call 42; rw [HW1.out]; refine HDEP.out.mono ?_; rintro _ w2 ⟨v, rfl, hI, hB2⟩; have hb2 := (HBK1.out.below hB2 HBK1.out.lt).cell 0; obtain ⟨va, vc, rfl⟩ := ownsRow_slice' hI; rw [HDL.out])
            | (at_make; refine wpList_make_full _ rfl _ _ _ rfl W.heap.size 33 i0 _ 1 Try.underlying96 hi0 hz0 hz1 _ _ _ _ n rfl rfl rfl rfl (by rw [hz2]; omega) (by unfold maxLen; omega) (by have := HB1.out.size; have := hB2.size; omega) ?_; intro w3 hown3 hg3; have hb3' := (HBK1.out.below hB2 HBK1.out.lt).grown hg3 (fun e => by cases e); have hb3 := hb3'.cell 0))
          have HB3 := Lib.hid ((HB1.out.trans (hB2.mono HB1.out.size)).grown hg3 (by have := HB1.out.size; have := hB2.size; omega) (fun k e => by cases e))
          have HBK3 := Lib.hid hb3'
          rw [show (madeCells (Value.slice none 0 0).cells (n * 1)).toList = List.replicate n (.slice none 0 0) from by rw [Nat.mul_one]; exact toList_madeCells_one _ _] at hown3
          obtain ⟨gk, hgk⟩ : ∃ gk, w2.heap.size = gk := ⟨_, rfl⟩
          rw [hgk] at hown3 ⊢
          have HK3 := Lib.hid (KidsI.made hown3)
          clear hown3 hg3 hb3' hb2 hI hB2 hgk
          go_loopw [40] (fun x V => ValRel W (.slice a n c) ups gk x V) (fun x V => n - (intOf x).toNat)
          case atStart => exact ⟨0, _, rfl, Nat.zero_le _, HK3.out, by rw [HUL.out, List.map_replicate]; exact (List.eq_replicate_iff.2 ⟨by simp, fun l hl => by obtain ⟨u, _, rfl⟩ := List.mem_map.1 hl; rfl⟩).symm, HB3.out, HBK3.out⟩
          case round =>
            obtain ⟨i, L, rfl, hi, hK, hmap, hB, hbk⟩ := hrel
            rw [HUL.out] at hi hmap
            have hLl : L.length = n := by have := congrArg List.length hmap; simpa using this
            have HB := Lib.hid hB
            have HBK := Lib.hid hbk
            have HK := Lib.hid hK
            have HMAP := Lib.hid hmap
            have HLL := Lib.hid hLl
            have hbz := hB.size
            have hgc := hbk.cell 0
            clear hK hmap hbk hLl
            obtain rfl : n = i := by omega
            have hmapn : L.map (·.1) = (List.range n).map (kidsI ups) := by
              rw [HMAP.out]
              apply List.map_congr_left
              intro u hu
              rw [← kidsTo_all, HUL.out]
            have HMN := Lib.hid hmapn
            clear hmapn
            go_wp2
            go_loopw [63] (fun x V => ValRel2 W (.slice a n c) ups ks gk L x V) (fun x V => n - (intOf x).toNat)
            case atStart => exact ⟨0, rfl, Nat.zero_le _, HK.out, HB.out, HBK.out, fun j hj => absurd hj (Nat.not_lt_zero _)⟩
            case round =>
              obtain ⟨i, rfl, hi2, hK2, hB2, hbk2, hks2⟩ := hrel
              rw [HUL.out] at hi2
              obtain rfl : n = i := by omega
              go_wp2
              go_ret
              rw [validX_yes HR.out (by rw [HUL.out]; omega) HALL.out (by rw [HUL.out]; exact hks2)]
              exact ⟨rfl, hB2⟩
        · have g2 : (0 : Int) < (n : Int) := by omega
          have hDn : D ≠ [] := fun e => by have := HDL.out; rw [e] at this; simp at this; omega
          go_enter Try.func30, Try.ntmps30
          go_wp2_with (first
            | (go_at_call 42; rw [HW1.out]; refine HDEP.out.mono ?_; rintro _ w2 ⟨v, rfl, hI, hB2⟩; have hb2 := (HBK1.out.below hB2 HBK1.out.lt).cell 0; obtain ⟨va, vc, rfl⟩ := ownsRow_slice' hI; have hMax := max_any hI hDn (by rw [HDL.out]; exact hn); rw [HDL.out, HMX.out] at hMax; rw [HDL.out])
            | (go_at_call 43; refine hMax.mono ?_; rintro _ w2q ⟨rfl, hw2q⟩; rw [hw2q])
            | (at_make; refine wpList_make_full _ rfl _ _ _ rfl W.heap.size 33 i0 _ 1 Try.underlying96 hi0 hz0 hz1 _ _ _ _ n rfl rfl rfl rfl (by rw [hz2]; omega) (by unfold maxLen; omega) (by have := HB1.out.size; have := hB2.size; omega) ?_; intro w3 hown3 hg3; have hb3' := (HBK1.out.below hB2 HBK1.out.lt).grown hg3 (fun e => by cases e); have hb3 := hb3'.cell 0))
          have HB3 := Lib.hid ((HB1.out.trans (hB2.mono HB1.out.size)).grown hg3 (by have := HB1.out.size; have := hB2.size; omega) (fun k e => by cases e))
          have HBK3 := Lib.hid hb3'
          rw [show (madeCells (Value.slice none 0 0).cells (n * 1)).toList = List.replicate n (.slice none 0 0) from by rw [Nat.mul_one]; exact toList_madeCells_one _ _] at hown3
          obtain ⟨gk, hgk⟩ : ∃ gk, w2.heap.size = gk := ⟨_, rfl⟩
          rw [hgk] at hown3 ⊢
          have HK3 := Lib.hid (KidsI.made hown3)
          clear hown3 hg3 hb3' hb2 hI hB2 hgk hMax hDn hw2q
          go_loopw [40] (fun x V => ValRel W (.slice a n c) ups gk x V) (fun x V => n - (intOf x).toNat)
          case atStart => exact ⟨0, _, rfl, Nat.zero_le _, HK3.out, by rw [HUL.out, List.map_replicate]; exact (List.eq_replicate_iff.2 ⟨by simp, fun l hl => by obtain ⟨u, _, rfl⟩ := List.mem_map.1 hl; rfl⟩).symm, HB3.out, HBK3.out⟩
          case round =>
            obtain ⟨i, L, rfl, hi, hK, hmap, hB, hbk⟩ := hrel
            rw [HUL.out] at hi hmap
            have hLl : L.length = n := by have := congrArg List.length hmap; simpa using this
            have HB := Lib.hid hB
            have HBK := Lib.hid hbk
            have HK := Lib.hid hK
            have HMAP := Lib.hid hmap
            have HLL := Lib.hid hLl
            have hbz := hB.size
            have hgk := hK.base
            have hgc := hbk.cell 0
            clear hK hmap hbk hLl
            by_cases hlt : i < n
            · have hys : ys ≠ [] := fun e => by have := HN.out; rw [e] at this; simp at this; omega
              obtain ⟨g, o, rfl, hg, hc⟩ := H2.out hys
              obtain ⟨y, hy⟩ : ∃ y, ys[i]? = some y := ⟨_, List.getElem?_eq_getElem (by rw [HN.out]; exact hlt)⟩
              obtain ⟨p0, p1, p2, p3, p4, p5⟩ := DocAt.six hc hy
              have hcw : ∀ q, (wr.cell? ⟨g, q, none⟩) = W.cell? ⟨g, q, none⟩ := fun q => HB.out.cell (p := ⟨g, q, none⟩) hg
              rw [← hcw] at p0 p1 p2 p3 p4 p5
              have hut : ups[i]? = some y.up := by rw [← HU.out, List.getElem?_map, hy]; rfl
              obtain ⟨t, ht⟩ : ∃ t, y.up = t := ⟨_, rfl⟩
              rw [ht] at p2 hut
              have HUT := Lib.hid hut
              have hXE : Below wr.heap.size wr (wr.alloc (Obj.cells #[.string y.nm, .int .i64 y.pl, .int .i64 t, .slice y.ab y.an y.ac, .slice y.kb y.kn y.kc, .string y.tx] 57)) := (Below.refl _ wr).alloc (Nat.le_refl _) _
              have HXE := Lib.hid hXE
              have hbE : BlkAt (wr.alloc (Obj.cells #[.string y.nm, .int .i64 y.pl, .int .i64 t, .slice y.ab y.an y.ac, .slice y.kb y.kn y.kc, .string y.tx] 57)) wr.heap.size 57 #[.string y.nm, .int .i64 y.pl, .int .i64 t, .slice y.ab y.an y.ac, .slice y.kb y.kn y.kc, .string y.tx] := BlkAt.new _ _ _
              have HBE := Lib.hid hbE
              clear hcw hy ht hut hXE hbE hc hB
              by_cases h0i : i = 0
              · have g3 : ¬ (0 : Int) < (i : Int) := by omega
                have HI0 := Lib.hid h0i
                clear h0i
                go_wp2
                go_roundw
                case rel =>
                  refine ⟨i + 1, L, rfl, by rw [HUL.out]; omega, HK.out.below HXE.out, ?_, HB.out.trans (HXE.out.mono hbz), HBK.out.below HXE.out HBK.out.lt⟩
                  rw [HMAP.out, HUL.out]
                  apply List.map_congr_left
                  intro u hu
                  rw [kidsTo_step, if_neg, List.append_nil]
                  intro hu2
                  rcases HUP.out i (by rw [HUL.out]; exact hlt) with ⟨_, e⟩ | ⟨v, e, hv⟩
                  · rw [e] at hu2
                    have := Option.some.inj hu2
                    omega
                  · have := HI0.out
                    omega
                case measure => simp [intOf]; omega
              · have g3 : (0 : Int) < (i : Int) := by omega
                obtain ⟨u, hu, hui⟩ : ∃ u : Nat, ups[i]? = some (u : Int) ∧ u < i := by
                  rcases HUP.out i (by rw [HUL.out]; exact hlt) with ⟨e, _⟩ | h
                  · exact absurd e h0i
                  · exact h
                obtain rfl : t = (u : Int) := Option.some.inj (HUT.out.symm.trans hu)
                clear h0i
                have HUI := Lib.hid hui
                have HUU := Lib.hid hu
                obtain ⟨q, hq⟩ : ∃ q, L[u]? = some q := ⟨_, List.getElem?_eq_getElem (by rw [HLL.out]; omega)⟩
                obtain ⟨ql, qv⟩ := q
                have hqk : IntsAt W.heap.size wr ql qv := HK.out.each _ (List.mem_of_getElem? hq)
                have hqe : ql = kidsTo ups i u := by
                  have h1 : (L.map (·.1))[u]? = some ql := by rw [List.getElem?_map, hq]; rfl
                  rw [HMAP.out, List.getElem?_map, List.getElem?_range (by omega)] at h1
                  exact (Option.some.inj h1).symm
                have hqn : ql.length ≤ 1000000 := by rw [hqe]; have := kidsTo_len ups i u; omega
                obtain ⟨ka, kc0, rfl⟩ := ownsRow_slice' hqk
                obtain ⟨kn, hkn⟩ : ∃ kn, ql.length = kn := ⟨_, rfl⟩
                rw [hkn] at hq
                have HQ := Lib.hid hq
                have HQE := Lib.hid hqe
                have HKN := Lib.hid hkn
                have q1 : (0 : Int) ≤ (u : Int) := by omega
                have q2 : (u : Int) < (n : Int) := by omega
                rw [hkn] at hqn
                have HLQ := Lib.hid (show (L.map (·.2))[u]? = some (.slice ka kn kc0) from by rw [List.getElem?_map, hq]; rfl)
                clear hqe hu hqk hq hkn
                go_wp2
                obtain ⟨X, hX⟩ : ∃ X, wr.alloc (Obj.cells #[.string y.nm, .int .i64 y.pl, .int .i64 u, .slice y.ab y.an y.ac, .slice y.kb y.kn y.kc, .string y.tx] 57) = X := ⟨_, rfl⟩
                rw [hX] at HXE HBE ⊢
                have hxz : X.heap.size = wr.heap.size + 1 := by rw [← hX]; simp
                have HXZ := Lib.hid hxz
                have hxz' : wr.heap.size + 1 ≤ X.heap.size := by omega
                have HKX := Lib.hid (HK.out.below HXE.out)
                have cu : X.cell? ⟨wr.heap.size, 2, none⟩ = some (.int .i64 u) := HBE.out.cell 2
                have kRow : X.ownsRow W.heap.size 33 1 (.slice (some ⟨gk, 0, none⟩) n n) n (L.map (·.2)) := by have := HKX.out.row; rwa [HLL.out] at this
                have KROW := Lib.hid kRow
                have kc1 : X.cell? ⟨gk, u, none⟩ = some (.slice ka kn kc0) := by
                  rw [World.ownsRow.cellAt kRow u (by omega), List.getElem?_map, HQ.out]; rfl
                have kf1 : X.frozen? ⟨gk, u, none⟩ = false := World.ownsRow.frozenAt kRow u
                have HKR := Lib.hid (show X.ownsRow W.heap.size 3 1 (.slice ka kn kc0) kn (intCells ql) from by
                  have := HKX.out.each _ (List.mem_of_getElem? HQ.out)
                  unfold IntsAt at this
                  rwa [HKN.out] at this)
                have hgx : gk < X.heap.size := by omega
                have hgx1 : ¬ gk = X.heap.size := by omega
                have hgx2 : ¬ X.heap.size = gk := by omega
                have hwx : wr.heap.size < X.heap.size := by omega
                have hwx1 : ¬ wr.heap.size = X.heap.size := by omega
                have hwx2 : ¬ X.heap.size = wr.heap.size := by omega
                clear hX hxz kRow hgc p0 p1 p2 p3 p4 p5
                go_region_law ((refine step_append_lies _ (by rfl) _ _ _ (by rfl) W.heap.size 3 j0 _ 1 8 Try.underlying33 hj0 hy0 hy1 hy2 rfl (by omega) (.slice ka kn kc0) kn (intCells ql) (by rfl) (HKR.out.drew.alloc _) ⟨X.heap.size, 0, none⟩ 1 1 [.int .i64 i] (by rfl) (by rfl) (cell_one_new _ _ _) (by simp [Value.oneCell']) (by omega) (by unfold maxLen; omega) (by omega) (by have e0 : X.drew.heap.size = X.heap.size := rfl; simp; omega) (X.heap.size + 1) (by simp) ?_; intro gg kc w6 hown hgrow hat6 hlt6; have cu6 : w6.cell? ⟨wr.heap.size, 2, none⟩ = some (.int .i64 u) := ((HBE.out.drew.alloc (Obj.cells #[.int .i64 i] 3)).grown hgrow (fun e => blk_ne (HKR.out.drew.alloc _) (HBE.out.drew.alloc (Obj.cells #[.int .i64 i] 3)) (by decide) e.symm)).cell 2; have hR6 := ((KeepT.grown (HKR.out.drew.alloc (.cells #[.int .i64 i] 3)) (by decide) hgrow).owns (KROW.out.drew.alloc (.cells #[.int .i64 i] 3))); have kf6 := World.ownsRow.frozenAt hR6 u; have kc6 := (World.ownsRow.cellAt hR6 u (by omega)).trans HLQ.out; have HO6 := Lib.hid hown; have HG6 := Lib.hid hgrow; have HA6 := Lib.hid hat6; clear hown hgrow hat6))
                all_goals
                  have hk := KidsI.kid (n := i) (gg := gg) (kc := kc) (o := .cells #[.int .i64 i] 3) (HKX.out.below (Below.refl _ X).drew) HQ.out (by rw [HKN.out]; exact HO6.out) HG6.out HA6.out
                  dsimp only at hk
                  rw [HKN.out] at hk
                  have HK2 := Lib.hid hk
                  have hb1 := (((HBK.out.below HXE.out HBK.out.lt).drew.alloc (.cells #[.int .i64 i] 3)).grown HG6.out (fun e => blk_ne (HKR.out.drew.alloc _) ((HBK.out.below HXE.out HBK.out.lt).drew.alloc (.cells #[.int .i64 i] 3)) (by decide) e.symm)).far (p := ⟨gk, u, none⟩) (fun e => blk_ne KROW.out (HBK.out.below HXE.out HBK.out.lt) (by decide) (by have e1 : W.heap.size = gk := e; rw [e1]; rfl)) (.slice (some ⟨gg, 0, none⟩) (kn + 1) kc)
                  have HB6 := Lib.hid hb1
                  clear hk hb1 cu6 kf6 kc6 hR6 hlt6 cu kc1 kf1
                  go_wp2
                  go_roundw
                  case rel =>
                    refine ⟨i + 1, _, rfl, by rw [HUL.out]; omega, HK2.out.1, ?_, (HB.out.trans (HXE.out.mono hbz)).drew.trans HK2.out.2, HB6.out⟩
                    rw [List.map_set, HMAP.out, HUL.out]
                    show List.set _ u (ql ++ [i]) = _
                    rw [HQE.out]
                    exact kidsTo_set HUU.out
                  case measure => simp [intOf]; omega
            · obtain rfl : n = i := by omega
              have hmapn : L.map (·.1) = (List.range n).map (kidsI ups) := by
                rw [HMAP.out]
                apply List.map_congr_left
                intro u hu
                rw [← kidsTo_all, HUL.out]
              have HMN := Lib.hid hmapn
              clear hmapn
              go_wp2
              go_loopw [63] (fun x V => ValRel2 W (.slice a n c) ups ks gk L x V) (fun x V => n - (intOf x).toNat)
              case atStart => exact ⟨0, rfl, Nat.zero_le _, HK.out, HB.out, HBK.out, fun j hj => absurd hj (Nat.not_lt_zero _)⟩
              case round =>
                obtain ⟨i, rfl, hi2, hK2, hB2, hbk2, hks2⟩ := hrel
                rw [HUL.out] at hi2
                have HB2 := Lib.hid hB2
                have HBK2 := Lib.hid hbk2
                have HK2 := Lib.hid hK2
                have HKS2 := Lib.hid hks2
                have hbz2 := hB2.size
                have hgk2 := hK2.base
                have hgc2 := hbk2.cell 0
                clear hK2 hbk2 hks2
                by_cases hlt2 : i < n
                · have hys : ys ≠ [] := fun e => by have := HN.out; rw [e] at this; simp at this; omega
                  obtain ⟨g, o, rfl, hg, hc⟩ := H2.out hys
                  obtain ⟨y, hy⟩ : ∃ y, ys[i]? = some y := ⟨_, List.getElem?_eq_getElem (by rw [HN.out]; exact hlt2)⟩
                  obtain ⟨p0, p1, p2, p3, p4, p5⟩ := DocAt.six hc hy
                  have hcw : ∀ q, (wr.cell? ⟨g, q, none⟩) = W.cell? ⟨g, q, none⟩ := fun q => HB2.out.cell (p := ⟨g, q, none⟩) hg
                  rw [← hcw] at p0 p1 p2 p3 p4 p5
                  obtain ⟨k, hk1, hk2, hk3⟩ := HKK.out i y hy
                  have HK1 := Lib.hid hk1
                  obtain ⟨⟨ql, qv⟩, hq⟩ : ∃ q, L[i]? = some q := ⟨_, List.getElem?_eq_getElem (by rw [HLL.out]; omega)⟩
                  have hqe : ql = kidsI ups i := by
                    have h1 : (L.map (·.1))[i]? = some ql := by rw [List.getElem?_map, hq]; rfl
                    rw [HMN.out, List.getElem?_map, List.getElem?_range (by omega)] at h1
                    exact (Option.some.inj h1).symm
                  have hqn : ql.length ≤ 1000000 := by rw [hqe, ← kidsTo_all]; have := kidsTo_len ups ups.length i; rw [HUL.out] at this; rw [HUL.out]; omega
                  have hqr : IntRd wr qv (ql.map fun (k : Nat) => (k : Int)) := IntRd.of_ints (HK2.out.each _ (List.mem_of_getElem? hq))
                  obtain ⟨B, hBq⟩ : ∃ B, (k == ql.map fun (k : Nat) => (k : Int)) = B := ⟨_, rfl⟩
                  have hXE : Below wr.heap.size wr (wr.alloc (Obj.cells #[.string y.nm, .int .i64 y.pl, .int .i64 y.up, .slice y.ab y.an y.ac, .slice y.kb y.kn y.kc, .string y.tx] 57)) := (Below.refl _ wr).alloc (Nat.le_refl _) _
                  have HEQ := Lib.hid (show ∀ X p, Below wr.heap.size wr X → Calls Try.prog 44 #[.slice y.kb y.kn y.kc, qv] (X.drewN p) fun e W' => e = .returned (.bool B) ∧ ∃ m, W' = (X.drewN p).drewN m from fun X p hX => by
                    rw [← hBq]
                    exact equal_any (((hk3.below HB2.out).below hX).drewN p) ((hqr.below hX).drewN p) hk2 (by rw [List.length_map]; exact hqn))
                  have HBQ := Lib.hid hBq
                  have HQE := Lib.hid hqe
                  have HQ := Lib.hid hq
                  have HXE := Lib.hid hXE
                  have hbE : BlkAt (wr.alloc (Obj.cells #[.string y.nm, .int .i64 y.pl, .int .i64 y.up, .slice y.ab y.an y.ac, .slice y.kb y.kn y.kc, .string y.tx] 57)) wr.heap.size 57 #[.string y.nm, .int .i64 y.pl, .int .i64 y.up, .slice y.ab y.an y.ac, .slice y.kb y.kn y.kc, .string y.tx] := BlkAt.new _ _ _
                  have HBE := Lib.hid hbE
                  clear hcw hy hc hk1 hk2 hk3 hqe hqr hBq hq hXE hbE hqn hB2
                  go_wp2
                  obtain ⟨X, hX⟩ : ∃ X, wr.alloc (Obj.cells #[.string y.nm, .int .i64 y.pl, .int .i64 y.up, .slice y.ab y.an y.ac, .slice y.kb y.kn y.kc, .string y.tx] 57) = X := ⟨_, rfl⟩
                  rw [hX] at HXE HBE ⊢
                  have c4 : X.cell? ⟨wr.heap.size, 4, none⟩ = some (.slice y.kb y.kn y.kc) := HBE.out.cell 4
                  have kRow : X.ownsRow W.heap.size 33 1 (.slice (some ⟨gk, 0, none⟩) n n) n (L.map (·.2)) := by have := (HK2.out.below HXE.out).row; rwa [HLL.out] at this
                  have kc1 : X.cell? ⟨gk, i, none⟩ = some qv := by
                    rw [World.ownsRow.cellAt kRow i (by omega), List.getElem?_map, HQ.out]; rfl
                  have q1 : (0 : Int) ≤ (i : Int) := by omega
                  have q2 : (i : Int) < (n : Int) := by omega
                  clear hX kRow hgc2 p0 p1 p2 p3 p4 p5
                  go_quiet ((go_at_call 44; exact Calls.quiet_of (HEQ.out _ _ HXE.out)))
                  have hXn : Below wr.heap.size wr (X.drewN nq) := have h := HXE.out; ⟨h.os, h.tape, h.output, h.size, h.block⟩
                  have HXN := Lib.hid hXn
                  have HB3 := Lib.hid (HB2.out.trans (hXn.mono hbz2))
                  clear hXn
                  cases B with
                  | true =>
                    have hkq : k = ql.map fun (k : Nat) => (k : Int) := beq_iff_eq.1 HBQ.out
                    have HKQ := Lib.hid hkq
                    clear hkq
                    go_wp2
                    go_roundw
                    case rel =>
                      refine ⟨i + 1, rfl, by rw [HUL.out]; omega, HK2.out.below HXN.out, HB3.out, HBK2.out.below HXN.out HBK2.out.lt, fun j hj => ?_⟩
                      by_cases hji : j < i
                      · exact HKS2.out j hji
                      · obtain rfl : j = i := by omega
                        rw [HK1.out, HKQ.out, HQE.out]
                    case measure => simp [intOf]; omega
                  | false =>
                    go_wp2
                    go_ret
                    rw [validX_no HR.out (i := i) (by rw [HUL.out]; exact hlt2) (fun e => by
                      have h1 := Option.some.inj (HK1.out.symm.trans e)
                      have h2 := HBQ.out
                      rw [h1, HQE.out] at h2
                      simp at h2)]
                    exact ⟨rfl, HB3.out⟩
                · obtain rfl : n = i := by omega
                  go_wp2
                  go_ret
                  rw [validX_yes HR.out (by rw [HUL.out]; omega) HALL.out (by rw [HUL.out]; exact HKS2.out)]
                  exact ⟨rfl, HB2.out⟩
      · have hDn : D ≠ [] := fun e => hall (by rw [e]; rfl)
        have hpos : 0 < n := by have := List.length_pos_iff.2 hDn; rw [HDL.out] at this; exact this
        have h100 : (100 : Int) < Lib.maxOf (D.map fun (k : Nat) => (k : Int)) := Int.not_le.1 fun h => hall ((maxOf_nat hDn).1 h)
        obtain ⟨mx, hmx⟩ : ∃ mx, Lib.maxOf (D.map fun (k : Nat) => (k : Int)) = mx := ⟨_, rfl⟩
        rw [hmx] at h100
        have HMX := Lib.hid hmx
        have g1 : ¬ (10000 : Int) < (n : Int) := by omega
        have g2 : (0 : Int) < (n : Int) := by omega
        clear hmx
        go_enter Try.func30, Try.ntmps30
        go_wp2_with (first
          | (go_at_call 42; rw [HW1.out]; refine HDEP.out.mono ?_; rintro _ w2 ⟨v, rfl, hI, hB2⟩; have hb2 := (HBK1.out.below hB2 HBK1.out.lt).cell 0; obtain ⟨va, vc, rfl⟩ := ownsRow_slice' hI; have hMax := max_any hI hDn (by rw [HDL.out]; exact hn); rw [HDL.out, HMX.out] at hMax; rw [HDL.out])
          | (go_at_call 43; refine hMax.mono ?_; rintro _ _ ⟨rfl, rfl⟩))
        go_ret
        rw [show validX ups ks = false from by unfold validX; rw [HR.out, HUL.out]; simp [hall]]
        exact ⟨rfl, HB1.out.trans (hB2.mono HB1.out.size)⟩
end Go.Proofs.Ytajnpmhgldfgfaa
