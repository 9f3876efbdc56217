/- A book's lists are grown; lists are looked at for their marks. -/
import Derived.Test.YtgdnibdahldekabDoorBkC
namespace Go.Proofs.YtgdnibdahldekabDoor
open Go.RowKit
set_option linter.unusedVariables false

theorem owns_kept {W W' : World} {base size n k g : Nat} {e : TypeId} {v : Value} {xs : List Value} (h : W.ownsRow base e size v n xs) (hg : v.ownBlock = some g) (hk : Kept W W' e g k) (hn : n * size ≤ k) : W'.ownsRow base e size v n xs := by
  refine ⟨h.1, ?_⟩
  rcases h.2 with h0 | ⟨g', cap, cur, hv, hb, hg', h1, h2, h3, h4⟩
  · exact .inl h0
  · obtain rfl : g' = g := by rw [hv] at hg; exact Option.some.inj hg
    obtain ⟨cur', c1, c2, c3⟩ := hk cur hg'
    refine .inr ⟨g', cap, cur', hv, hb, c1, h1, h2, by rw [c2, h3], ?_⟩
    rw [← h4]
    apply List.ext_getElem?
    intro j
    by_cases hj : j < n * size
    · rw [List.getElem?_take_of_lt hj, List.getElem?_take_of_lt hj, Array.getElem?_toList, Array.getElem?_toList, c3 j (by omega)]
    · rw [List.getElem?_eq_none (by rw [List.length_take]; omega), List.getElem?_eq_none (by rw [List.length_take]; omega)]
theorem gb_then {w1 w2 w3 : World} {row row' : Option Nat} (h : w1.grownBy w2 row) (k : w2.grownBy w3 row') (hr : row' = row ∨ ∃ g, w1.heap.size ≤ g ∧ row' = some g) : w1.grownBy w3 row :=
  ⟨k.os.trans h.os, k.tape.trans h.tape, k.output.trans h.output, Nat.le_trans h.size k.size, fun i hi hne => by
    rw [k.block i (Nat.lt_of_lt_of_le hi h.size) (fun e => ?_), h.block i hi hne]
    rcases hr with h1 | ⟨g, h1, h2⟩
    · exact hne (e.trans h1)
    · rw [h2] at e
      cases e
      omega⟩
/-- Each of some rows holds its marks. -/
def Marked (W : World) (base m : Nat) (gs : Nat → Value) (ns : Nat → Nat) : Prop := ∀ i, i < m → ns i ≤ 1000 ∧ W.ownsRow base 31 3 (gs i) (ns i) ((marks i 0 (ns i)).flatMap diCells)
set_option maxRecDepth 100000 in
set_option maxHeartbeats 3200000 in
theorem marked_any (bV base m : Nat) (V : Value) (gs : Nat → Value) (ns : Nat → Nat) (hm : m ≤ 100) (w : World) (hV : w.ownsRow bV 22 1 V m ((List.range m).map gs)) (hg : Marked w base m gs ns) :
    Calls Tryd.prog 51 #[V] w fun e W' => e = .returned (.bool true) ∧ Below w.heap.size w W' := by
  obtain ⟨Va, Vc, rfl⟩ := ownsRow_slice' hV
  have HV := Lib.hid hV
  have HG := Lib.hid hg
  clear hV hg
  go_enter Tryd.func51, Tryd.ntmps51
  go_wp2
  go_loopw [3] (fun p wr => StR w m p wr) (fun p _ => m - (intOf p).toNat)
  case atStart => exact ⟨0, rfl, Nat.zero_le _, Below.refl _ _⟩
  case round =>
    obtain ⟨i, rfl, hi, hB⟩ := hrel
    have HBe := Lib.hid hB
    clear hB
    by_cases hlt : i < m
    · have hz : (i : Int) < (m : Int) := by omega
      obtain ⟨gV, cV, eV, hgV, hcV⟩ := list_at HV.out hlt
      cases eV
      obtain ⟨hn1, hown⟩ := HG.out i hlt
      obtain ⟨a, ca, ea, _, _, hra⟩ := rdD_of hown (marks_len i 0 _).symm
      rw [marks_len] at ea
      obtain ⟨n, hn⟩ : ∃ n, ns i = n := ⟨_, rfl⟩
      rw [hn] at hn1 ea hra
      rw [ea] at hcV
      have HRa := Lib.hid hra
      have pV := (HBe.out.cell (p := ⟨gV, i, none⟩) hgV).trans hcV
      have hgV2 : gV < wr.heap.size := Nat.lt_of_lt_of_le hgV HBe.out.size
      have HM := Lib.hid (mark_any i 0 n (by omega) (by omega) wr.drew)
      clear hcV hown hra ea hn
      go_wp2_with fail
      go_region_law (first
        | (go_simp; go_at_call 68; refine HM.out.mono ?_; rintro e w1 ⟨u, rfl, hu, hB1⟩; obtain ⟨b, cb, eu, _, _, hrb⟩ := rdD_of hu (marks_len i 0 n).symm; rw [marks_len] at eu; subst eu; have q1 : w1.cell? ⟨gV, i, none⟩ = some (.slice a n ca) := (hB1.cell (p := ⟨gV, i, none⟩) hgV2).trans pV)
        | (go_simp; go_at_call 11; refine (sameD_yes a b ca cb (marks i 0 n) n (marks_len i 0 n) (by omega) w1 ((HRa.out.below HBe.out).below ⟨hB1.os, hB1.tape, hB1.output, hB1.size, hB1.block⟩) hrb).mono ?_; rintro e w2 ⟨rfl, hB2⟩))
      all_goals
        have HB2 := Lib.hid ((HBe.out.drew.trans (hB1.mono HBe.out.size)).trans (hB2.mono (Nat.le_trans HBe.out.size hB1.size)))
        clear hB1 hB2 hu hrb q1
        go_wp2
        go_roundw
        case rel => exact ⟨i + 1, by go_num, hlt, HB2.out⟩
        case measure => simp [intOf]; omega
    · have hz : ¬ (i : Int) < (m : Int) := by omega
      go_wp2
      go_ret
      exact ⟨rfl, HBe.out⟩

theorem BookP.eq {W : World} {base B m : Nat} {vs : Nat → Value} {ls ls' : Nat → List Di} {V U : Value} (h : BookP W base B m vs ls V U) (e : ∀ i, i < m → ls' i = ls i) : BookP W base B m vs ls' V U :=
  ⟨h.hB, h.blk, h.ownV, fun i hi => by rw [e i hi]; exact h.len i hi, fun i hi => by rw [e i hi]; exact h.rows i hi, h.sR⟩
/-- A list has been grown: itself it stays. -/
theorem BookP.stay {W W' : World} {base B m i : Nat} {vs : Nat → Value} {ls : Nat → List Di} {V U : Value} (h : BookP W base B m vs ls V U) (hi : i < m) (hG : W.grownBy W' (vs i).ownBlock)
    (ho : W'.ownsRow base 31 3 (vs i) (ls i).length ((ls i).flatMap diCells)) : BookP W' base B m vs ls V U := by
  cases hb : (vs i).ownBlock with
  | none =>
    rw [hb] at hG
    exact h.below ⟨hG.os, hG.tape, hG.output, hG.size, fun k hk => hG.block k hk (by simp)⟩
  | some g =>
    rw [hb] at hG
    refine (h.turn hi hb hG rfl ho).eq fun j hj => ?_
    by_cases e : j = i
    · rw [if_pos e, e]
    · rw [if_neg e]
def GrI (w1 : World) (base i n : Nat) (v : Value) (p q : Value) (wr : World) : Prop :=
  ∃ t : Nat, q = .int .i64 t ∧ t ≤ 12 ∧ wr.ownsRow base 31 3 p (n + t) ((marks i 0 (n + t)).flatMap diCells) ∧ (p.ownBlock = v.ownBlock ∨ ∃ g, w1.heap.size ≤ g ∧ p.ownBlock = some g) ∧
    wr.ownsRow base 31 3 v n ((marks i 0 n).flatMap diCells) ∧ w1.grownBy wr v.ownBlock
/-- One append of marks. -/
theorem grI_step {w1 wr w2 w3 : World} {base i n k m : Nat} {v l l' : Value} (hbs : base ≤ w1.heap.size) (hl : l.ownBlock = v.ownBlock ∨ ∃ g, w1.heap.size ≤ g ∧ l.ownBlock = some g) (hv : wr.ownsRow base 31 3 v n ((marks i 0 n).flatMap diCells)) (hG : w1.grownBy wr v.ownBlock) (hB : Below wr.heap.size wr w2)
    (hvl : ∀ g, v.ownBlock = some g → g < w1.heap.size) (hown : w3.ownsRow base 31 3 l' (k + m) ((marks i 0 k).flatMap diCells ++ (marks i k m).flatMap diCells)) (hgr : w2.grownBy w3 l.ownBlock) (hat : l'.ownBlock = l.ownBlock ∨ l'.ownBlock = some w2.heap.size)
    (hkp : ∀ g, l.ownBlock = some g → Kept w2 w3 31 g (k * 3)) (hnk : n ≤ k) :
    w3.ownsRow base 31 3 l' (k + m) ((marks i 0 (k + m)).flatMap diCells) ∧ (l'.ownBlock = v.ownBlock ∨ ∃ g, w1.heap.size ≤ g ∧ l'.ownBlock = some g) ∧ w3.ownsRow base 31 3 v n ((marks i 0 n).flatMap diCells) ∧ w1.grownBy w3 v.ownBlock := by
  have hv2 := rowKept hv hB
  have hG2 : w1.grownBy w2 v.ownBlock := ⟨hB.os.trans hG.os, hB.tape.trans hG.tape, hB.output.trans hG.output, Nat.le_trans hG.size hB.size, fun j hj hne => (hB.block j (Nat.lt_of_lt_of_le hj hG.size)).trans (hG.block j hj hne)⟩
  refine ⟨by rw [← marks_add i k m, List.flatMap_append]; exact hown, ?_, ?_, ?_⟩
  · rcases hat with h1 | h1
    · rw [h1]; exact hl
    · exact .inr ⟨_, Nat.le_trans hG.size hB.size, h1⟩
  · rcases hl with h1 | ⟨g, h1, h2⟩
    · cases hb : v.ownBlock with
      | none => exact owns_gb hv2 hgr (fun g hg => by rw [hb] at hg; cases hg)
      | some g => exact owns_kept hv2 hb (hkp g (by rw [h1, hb])) (by omega)
    · exact owns_gb hv2 hgr (fun g' hg' e => by rw [h2] at e; cases e; have := hvl _ hg'; omega)
  · exact gb_then hG2 hgr hl
def GrO (w : World) (base B m : Nat) (vs : Nat → Value) (ls : Nat → List Di) (ns : Nat → Nat) (V U : Value) (p q : Value) (wr : World) : Prop :=
  ∃ (i : Nat) (gs : Nat → Value), q = .int .i64 i ∧ i ≤ m ∧ BookP wr base B m vs ls V U ∧ wr.ownsRow w.heap.size 22 1 p i ((List.range i).map gs) ∧ Marked wr base i gs (fun j => ns j + 72) ∧
    (∀ j, j < i → (gs j).ownBlock = (vs j).ownBlock ∨ ∃ g, w.heap.size ≤ g ∧ (gs j).ownBlock = some g) ∧ Below base w wr ∧ w.heap.size ≤ wr.heap.size
/-- One list more is grown. -/
theorem grO_step {w wr w4 w5 : World} {base B m i : Nat} {vs gs : Nat → Value} {ls : Nat → List Di} {ns : Nat → Nat} {V U out out' l' : Value} (hbs : base ≤ w.heap.size) (hlt : i < m) (hP0 : BookP w base B m vs ls V U) (hP : BookP wr base B m vs ls V U) (hls : ls i = marks i 0 (ns i)) (hn : ns i ≤ 500)
    (hOut : wr.ownsRow w.heap.size 22 1 out i ((List.range i).map gs)) (hMk : Marked wr base i gs (fun j => ns j + 72)) (hSep : ∀ j, j < i → (gs j).ownBlock = (vs j).ownBlock ∨ ∃ g, w.heap.size ≤ g ∧ (gs j).ownBlock = some g) (hBe : Below base w wr) (hsz : w.heap.size ≤ wr.heap.size)
    (hl : w4.ownsRow base 31 3 l' (ns i + 72) ((marks i 0 (ns i + 72)).flatMap diCells)) (hat : l'.ownBlock = (vs i).ownBlock ∨ ∃ g, wr.heap.size ≤ g ∧ l'.ownBlock = some g)
    (hv : w4.ownsRow base 31 3 (vs i) (ns i) ((marks i 0 (ns i)).flatMap diCells)) (hG : wr.grownBy w4 (vs i).ownBlock)
    (ho : w5.ownsRow w.heap.size 22 1 out' (i + 1) ((List.range i).map gs ++ [l'])) (hgr : (w4.alloc (.cells #[l'] 22)).grownBy w5 out.ownBlock) :
    GrO w base B m vs ls ns V U out' (.int .i64 ((i : Int) + 1)) w5 := by
  have h0 := hP.rows i hlt
  have hout4 : w4.ownsRow w.heap.size 22 1 out i ((List.range i).map gs) := owns_gb hOut hG (fun g h1 h2 => own_ne hOut h0 (by decide) h1 h2)
  have hP4 : BookP w4 base B m vs ls V U := hP.stay hlt hG (by rw [hls, marks_len]; exact hv)
  have hA : Below w4.heap.size w4 (w4.alloc (.cells #[l'] 22)) := (Below.refl _ w4).alloc (Nat.le_refl _) _
  have hPa := hP4.below hA
  have houta := rowKept hout4 hA
  have hVlt : ∀ g, V.ownBlock = some g → g < w.heap.size := fun g h1 => by
    obtain ⟨c, hc, _⟩ := own_at hP0.ownV h1
    exact (Array.getElem?_eq_some_iff.1 hc).1
  have hvlt : ∀ j, j < m → ∀ g, (vs j).ownBlock = some g → g < w.heap.size := fun j hj g h1 => by
    obtain ⟨c, hc, _⟩ := own_at (hP0.rows j hj) h1
    exact (Array.getElem?_eq_some_iff.1 hc).1
  have hoge : ∀ g, out.ownBlock = some g → w.heap.size ≤ g := fun g h1 => (own_at houta h1).choose_spec.2
  have hBlt : B < w.heap.size := hP0.blk.lt
  have hsz4 : w.heap.size ≤ w4.heap.size := Nat.le_trans hsz hG.size
  have hsza : w.heap.size ≤ (w4.alloc (.cells #[l'] 22)).heap.size := Nat.le_trans hsz4 hA.size
  have hP5 : BookP w5 base B m vs ls V U := ⟨hPa.hB, hPa.blk.grown hgr (fun e => by have := hoge B e.symm; omega), owns_gb hPa.ownV hgr (fun g h1 e => by have := hoge g e; have := hVlt g h1; omega), hPa.len,
    fun j hj => owns_gb (hPa.rows j hj) hgr (fun g h1 e => by have := hoge g e; have := hvlt j hj g h1; omega), hPa.sR⟩
  have keep : ∀ {v : Value} {n : Nat} {xs : List Value}, w4.ownsRow base 31 3 v n xs → w5.ownsRow base 31 3 v n xs := fun h =>
    owns_gb (rowKept h hA) hgr (fun g h1 e => own_ne (rowKept h hA) houta (by decide) h1 e)
  have hBe4 : Below base w w4 := by
    cases hb : (vs i).ownBlock with
    | none =>
      rw [hb] at hG
      exact hBe.grown hG (Nat.le_trans hbs hsz) (fun j ej => by cases ej)
    | some g =>
      rw [hb] at hG
      exact hBe.grown hG (Nat.le_trans hbs hsz) (fun j ej => by cases ej; exact (own_at h0 hb).choose_spec.2)
  refine ⟨i + 1, fun j => if j = i then l' else gs j, by simp, hlt, hP5, by rw [← range_ext]; exact ho, fun j hj => ?_, fun j hj => ?_, (hBe4.trans (hA.mono (Nat.le_trans hbs hsz4))).grown hgr (Nat.le_trans hbs hsza) (fun j ej => Nat.le_trans hbs (hoge j ej)), Nat.le_trans hsza hgr.size⟩
  · by_cases e : j = i
    · subst e
      simp only [if_pos]
      exact ⟨by omega, keep hl⟩
    · simp only [if_neg e]
      obtain ⟨k1, k2⟩ := hMk j (by omega)
      refine ⟨k1, keep (owns_gb k2 hG (fun g h1 h2 => ?_))⟩
      rcases hSep j (by omega) with h3 | ⟨g', h3, h4⟩
      · exact hP.sR j i (by omega) hlt e g (by rw [← h3]; exact h1) h2
      · rw [h4] at h1
        cases h1
        have := hvlt i hlt g h2
        omega
  · by_cases e : j = i
    · subst e
      simp only [if_pos]
      rcases hat with h1 | ⟨g, h1, h2⟩
      · exact .inl h1
      · exact .inr ⟨g, Nat.le_trans hsz h1, h2⟩
    · simp only [if_neg e]
      exact hSep j (by omega)
/-- What grown lists are. -/
def GrowR (w : World) (base B m : Nat) (vs : Nat → Value) (ls : Nat → List Di) (ns : Nat → Nat) (V U : Value) (e : Ending) (W' : World) : Prop :=
  ∃ (G : Value) (gs : Nat → Value), e = .returned G ∧ BookP W' base B m vs ls V U ∧ W'.ownsRow w.heap.size 22 1 G m ((List.range m).map gs) ∧ Marked W' base m gs (fun j => ns j + 72) ∧ Below base w W' ∧ w.heap.size ≤ W'.heap.size
set_option maxRecDepth 100000 in
set_option maxHeartbeats 3200000 in
theorem grow_any (base B m : Nat) (vs : Nat → Value) (ls : Nat → List Di) (ns : Nat → Nat) (V U : Value) (hm : m ≤ 100) (w : World) (h : BookP w base B m vs ls V U) (hls : ∀ i, i < m → ls i = marks i 0 (ns i)) (hbs : base ≤ w.heap.size) :
    Calls Tryd.prog 45 #[.pointer (some ⟨B, 0, none⟩)] w fun e W' => GrowR w base B m vs ls ns V U e W' := by
  obtain ⟨Va, Vc, rfl⟩ := ownsRow_slice' h.ownV
  have HB := Lib.hid h
  have HLs := Lib.hid hls
  clear h hls
  go_enter Tryd.func45, Tryd.ntmps45
  go_wp2
  go_loopw [3, 4] (fun p q wr => GrO w base B m vs ls ns (.slice Va m Vc) U p q wr) (fun _ q _ => m - (intOf q).toNat)
  case atStart => exact ⟨0, fun _ => nilV, rfl, Nat.zero_le _, HB.out, World.ownsRow_nil _ _ _ _, fun i hi => absurd hi (Nat.not_lt_zero _), fun i hi => absurd hi (Nat.not_lt_zero _), Below.refl _ _, Nat.le_refl _⟩
  case round =>
    obtain ⟨i, gs, rfl, hi, hP, hOut, hMk, hSep, hBe, hsz⟩ := hrel
    rename World => wo
    rename_i pv
    obtain ⟨oa, oc, rfl⟩ := ownsRow_slice' hOut
    have c6 : wo.cell? ⟨B, 6, none⟩ = some (.slice Va m Vc) := (hP.blk.cell 6).trans rfl
    have HP := Lib.hid hP
    have HOut := Lib.hid hOut
    have HMk := Lib.hid hMk
    have HSep := Lib.hid hSep
    clear hP hOut hMk hSep
    by_cases hlt : i < m
    · have hz : (i : Int) < (m : Int) := by omega
      obtain ⟨gV, cV, eV, hgV, hcV⟩ := list_at HP.out.ownV hlt
      cases eV
      have hown := HP.out.rows i hlt
      have hlen := HP.out.len i hlt
      rw [HLs.out i hlt, marks_len] at hown hlen
      obtain ⟨n, hn⟩ : ∃ n, ns i = n := ⟨_, rfl⟩
      rw [hn] at hown hlen
      obtain ⟨la, lc, hv⟩ := ownsRow_slice' hown
      rw [hv] at hcV
      have HV := Lib.hid hv
      have HOw := Lib.hid hown
      have HN := Lib.hid hn
      clear hown hv hn
      go_wp2_with fail
      go_loopw [5, 6] (fun p q wr2 => GrI wo base i n (vs i) p q wr2) (fun _ q _ => 12 - (intOf q).toNat)
      case atStart => exact ⟨0, rfl, Nat.zero_le _, by rw [← HV.out]; exact HOw.out, .inl (by rw [← HV.out]), HOw.out, World.grownBy.refl _ _⟩
      case round =>
        obtain ⟨t, rfl, ht, hl, hat, hv, hG⟩ := hrel
        rename_i pl
        obtain ⟨la2, lc2, rfl⟩ := ownsRow_slice' hl
        have HL := Lib.hid hl
        have HAt := Lib.hid hat
        have HVi := Lib.hid hv
        have HG := Lib.hid hG
        clear hl hat hv hG
        by_cases ht12 : t < 12
        · have htz : (t : Int) < 12 := by omega
          have hvl : ∀ g, (vs i).ownBlock = some g → g < wo.heap.size := fun g h1 => by
            obtain ⟨c, hc, _⟩ := own_at HOw.out h1
            exact (Array.getElem?_eq_some_iff.1 hc).1
          have HVl := Lib.hid hvl
          have hnk := Nat.le_add_right n t
          obtain ⟨kk, hkk⟩ : ∃ kk, n + t = kk := ⟨_, rfl⟩
          have hL2 := HL.out
          have hA2 := HAt.out
          rw [hkk] at hL2 hA2 hnk ⊢
          have HA2 := Lib.hid hA2
          have HL2 := Lib.hid hL2
          have HKK := Lib.hid hkk
          have hk600 : kk ≤ 600 := by omega
          have K := mark_any i kk 1 (by omega) (by omega) wr
          rw [show ((1 : Nat) : Int) = 1 from rfl] at K
          have HM := Lib.hid K
          clear hvl K hkk hL2 hA2 HL HAt
          go_wp2_with fail
          refine HM.out.mono ?_
          rintro e w2 ⟨u, rfl, hu, hB2⟩
          rcases owns_cells hu with ⟨_, h0, _⟩ | ⟨gu, cu, rfl, _, _, hcu⟩
          · cases h0
          have hbz : base ≤ w2.heap.size := Nat.le_trans (Nat.le_trans hbs hsz) (Nat.le_trans HG.out.size hB2.size)
          have HCu := Lib.hid hcu
          have HB2 := Lib.hid hB2
          clear hu hcu hB2
          go_wp2_with (at_builtin; refine wpList_app_kept _ rfl _ _ _ _ _ _ slD rfl base hbz (.slice la2 kk lc2) kk _ rfl (rowKept HL2.out HB2.out) ⟨gu, 0, none⟩ 1 cu ((marks i kk 1).flatMap diCells) rfl (by rw [diCells_len, marks_len]) HCu.out (one_cells _) (by omega) ?_)
          intro l' w3 r1 r2 r3 r4
          have HS := Lib.hid (grI_step (l := .slice la2 kk lc2) (Nat.le_trans hbs hsz) HA2.out HVi.out HG.out HB2.out HVl.out r1 r2 r3 r4 hnk)
          clear r1 r2 r3 r4
          go_wp2
          go_roundw
          case rel =>
            obtain ⟨s1, s2, s3, s4⟩ := HS.out
            rw [← HKK.out] at s1
            exact ⟨t + 1, by go_num, by omega, s1, s2, s3, s4⟩
          case measure => simp [intOf]; omega
        · obtain rfl : t = 12 := by omega
          have htz : ¬ ((12 : Nat) : Int) < 12 := by omega
          have hvl : ∀ g, (vs i).ownBlock = some g → g < wo.heap.size := fun g h1 => by
            obtain ⟨c, hc, _⟩ := own_at HOw.out h1
            exact (Array.getElem?_eq_some_iff.1 hc).1
          have HVl := Lib.hid hvl
          have hnk := Nat.le_add_right n 12
          obtain ⟨kk, hkk⟩ : ∃ kk, n + 12 = kk := ⟨_, rfl⟩
          have hL2 := HL.out
          have hA2 := HAt.out
          rw [hkk] at hL2 hA2 hnk ⊢
          have HA2 := Lib.hid hA2
          have HL2 := Lib.hid hL2
          have HKK := Lib.hid hkk
          have hk600 : kk ≤ 600 := by omega
          have K := mark_any i kk 60 (by omega) (by omega) wr
          rw [show ((60 : Nat) : Int) = 60 from rfl] at K
          have HM := Lib.hid K
          clear hvl K hkk hL2 hA2 HL HAt
          go_wp2_with fail
          refine HM.out.mono ?_
          rintro e w2 ⟨u, rfl, hu, hB2⟩
          rcases owns_cells hu with ⟨_, h0, _⟩ | ⟨gu, cu, rfl, _, _, hcu⟩
          · cases h0
          have hbz : base ≤ w2.heap.size := Nat.le_trans (Nat.le_trans hbs hsz) (Nat.le_trans HG.out.size hB2.size)
          have HCu := Lib.hid hcu
          have HB2 := Lib.hid hB2
          clear hu hcu hB2
          go_wp2_with (at_builtin; refine wpList_app_kept _ rfl _ _ _ _ _ _ slD rfl base hbz (.slice la2 kk lc2) kk _ rfl (rowKept HL2.out HB2.out) ⟨gu, 0, none⟩ 60 cu ((marks i kk 60).flatMap diCells) rfl (by rw [diCells_len, marks_len]) HCu.out (one_cells _) (by omega) ?_)
          intro l' w3 r1 r2 r3 r4
          obtain ⟨l3, c3, rfl⟩ := ownsRow_slice' r1
          have hS := grI_step (l := .slice la2 kk lc2) (Nat.le_trans hbs hsz) HA2.out HVi.out HG.out HB2.out HVl.out r1 r2 r3 r4 hnk
          have e72 : kk + 60 = ns i + 72 := by rw [← HKK.out, HN.out]
          have hout3 : w3.ownsRow w.heap.size 22 1 (.slice oa i oc) i ((List.range i).map gs) := owns_gb HOut.out hS.2.2.2 (fun g h1 h2 => own_ne HOut.out HOw.out (by decide) h1 h2)
          have hwz : w.heap.size ≤ (w3.alloc (.cells #[.slice l3 (kk + 60) c3] 22)).heap.size := by
            have := hS.2.2.2.size
            simp
            omega
          have HS := Lib.hid hS
          have HO3 := Lib.hid hout3
          have HE := Lib.hid e72
          clear r1 r2 r3 r4 hS hout3 e72
          go_wp2_with (at_builtin; refine wpList_app_kept _ rfl _ _ _ _ _ _ slDD rfl w.heap.size hwz (.slice oa i oc) i _ rfl (HO3.out.alloc _) ⟨w3.heap.size, 0, none⟩ 1 1 [.slice l3 (kk + 60) c3] rfl rfl (cell_one_new _ _ _) ?c1 ?c2 ?_)
          case c1 => intro u hu; simp at hu; subst hu; rfl
          case c2 => omega
          intro out' w5 q1 q2 q3 q4
          have HF := Lib.hid (And.intro q1 q2)
          clear q1 q2 q3 q4
          go_wp2
          go_roundw
          case rel =>
            obtain ⟨s1, s2, s3, s4⟩ := HS.out
            have s1' : w3.ownsRow base 31 3 (.slice l3 (kk + 60) c3) (ns i + 72) ((marks i 0 (ns i + 72)).flatMap diCells) := by rw [← HE.out]; exact s1
            have hs3 := s3
            rw [← HN.out] at hs3
            exact grO_step (l' := .slice l3 (kk + 60) c3) (out := .slice oa i oc) hbs hlt HB.out HP.out (HLs.out i hlt) (by rw [HN.out]; exact hlen) HOut.out HMk.out HSep.out hBe hsz s1' s2 hs3 s4 HF.out.1 HF.out.2
          case measure => simp [intOf]; omega
    · obtain rfl : i = m := by omega
      have hz : ¬ (i : Int) < (i : Int) := by omega
      go_wp2
      go_ret
      exact ⟨_, gs, rfl, HP.out, HOut.out, HMk.out, hBe, hsz⟩
end Go.Proofs.YtgdnibdahldekabDoor
