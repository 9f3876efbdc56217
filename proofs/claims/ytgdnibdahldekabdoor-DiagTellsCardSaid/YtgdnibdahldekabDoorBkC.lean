/- A book's lists: are they as they were; all are marked. -/
import Derived.Test.YtgdnibdahldekabDoorBkB
import Derived.Test.YtgdnibdahldekabDoorSmO
namespace Go.Proofs.YtgdnibdahldekabDoor
open Go.RowKit
set_option linter.unusedVariables false

/-- A book's lists, whatever the copies are. -/
structure BookP (W : World) (base B m : Nat) (vs : Nat → Value) (ls : Nat → List Di) (V U : Value) : Prop where
  hB : base ≤ B
  blk : BlkAt W B 51 (bookCells V U)
  ownV : W.ownsRow base 22 1 V m ((List.range m).map vs)
  len : ∀ i, i < m → (ls i).length ≤ 500
  rows : ∀ i, i < m → W.ownsRow base 31 3 (vs i) (ls i).length ((ls i).flatMap diCells)
  sR : ∀ i j, i < m → j < m → i ≠ j → ∀ g, (vs i).ownBlock = some g → (vs j).ownBlock ≠ some g
theorem BookIs.toP {W : World} {base B m : Nat} {vs us : Nat → Value} {ls : Nat → List Di} {V U : Value} (h : BookIs W base B m vs us ls V U) : BookP W base B m vs ls V U := ⟨h.hB, h.blk, h.ownV, h.len, h.rows, h.sR⟩
theorem list_at {W : World} {base m : Nat} {V : Value} {vs : Nat → Value} (h : W.ownsRow base 22 1 V m ((List.range m).map vs)) {i : Nat} (hi : i < m) :
    ∃ g c, V = .slice (some ⟨g, 0, none⟩) m c ∧ g < W.heap.size ∧ W.cell? ⟨g, i, none⟩ = some (vs i) := by
  rcases h.2 with ⟨rfl, h0⟩ | ⟨g, cap, cur, rfl, hb, hg, h1, h2, h3, h4⟩
  · omega
  · refine ⟨g, cap, rfl, (Array.getElem?_eq_some_iff.1 hg).1, ?_⟩
    rw [cell_of_row W g _ cur _ _ hg]
    have e1 : (cur.toList.take (m * 1))[i]? = cur[i]? := by rw [List.getElem?_take_of_lt (by omega)]; simp
    rw [← e1, h4, List.getElem?_map, List.getElem?_range hi]
    rfl
theorem BookP.below {W W' : World} {base B m : Nat} {vs : Nat → Value} {ls : Nat → List Di} {V U : Value} (h : BookP W base B m vs ls V U) (hB : Below W.heap.size W W') : BookP W' base B m vs ls V U :=
  ⟨h.hB, h.blk.below hB h.blk.lt, rowKept h.ownV hB, h.len, fun i hi => rowKept (h.rows i hi) hB, h.sR⟩
/-- One list has turned. -/
theorem BookP.turn {W W' : World} {base B m i g : Nat} {vs : Nat → Value} {ls : Nat → List Di} {V U : Value} (h : BookP W base B m vs ls V U) (hi : i < m) (hg : (vs i).ownBlock = some g) (hG : W.grownBy W' (some g)) {ds : List Di} (hd : ds.length = (ls i).length)
    (ho : W'.ownsRow base 31 3 (vs i) (ls i).length (ds.flatMap diCells)) : BookP W' base B m vs (fun j => if j = i then ds else ls j) V U := by
  have h0 := h.rows i hi
  refine ⟨h.hB, h.blk.grown hG (fun e => blk_ne h0 h.blk (by decide) (by rw [hg, e])), owns_gb h.ownV hG (fun g' h1 e => own_ne h0 h.ownV (by decide) hg (by rw [h1, ← e])), fun j hj => ?_, fun j hj => ?_, h.sR⟩
  · by_cases e : j = i
    · subst e; simp only [if_pos]; rw [hd]; exact h.len _ hi
    · simp only [if_neg e]; exact h.len j hj
  · by_cases e : j = i
    · subst e; simp only [if_pos]; rw [hd]; exact ho
    · simp only [if_neg e]
      exact owns_gb (h.rows j hj) hG (fun g' h1 e' => h.sR i j hi hj (fun x => e x.symm) g hg (by rw [h1, ← e']))

def StR (w : World) (m : Nat) (p : Value) (wr : World) : Prop := ∃ i : Nat, p = .int .i64 i ∧ i ≤ m ∧ Below w.heap.size w wr
set_option maxRecDepth 100000 in
set_option maxHeartbeats 1600000 in
theorem still_any (base B m : Nat) (vs us : Nat → Value) (ls : Nat → List Di) (V U : Value) (hm : m ≤ 100) (w : World) (h : BookIs w base B m vs us ls V U) :
    Calls Tryd.prog 33 #[.pointer (some ⟨B, 0, none⟩)] w fun e W' => e = .returned (.bool true) ∧ Below w.heap.size w W' := by
  obtain ⟨Va, Vc, rfl⟩ := ownsRow_slice' h.ownV
  obtain ⟨Ua, Uc, rfl⟩ := ownsRow_slice' h.ownU
  have mixed : Tryd.prog.follows .mixedOrders = true := by kernel_rfl
  have HB := Lib.hid h
  have hBlt := h.blk.lt
  have b6 : w.cell? ⟨B, 6, none⟩ = some (.slice Va m Vc) := (h.blk.cell 6).trans rfl
  have b7 : w.cell? ⟨B, 7, none⟩ = some (.slice Ua m Uc) := (h.blk.cell 7).trans rfl
  have HB6 := Lib.hid (And.intro hBlt (And.intro b6 b7))
  clear h hBlt b6 b7
  go_enter Tryd.func33, Tryd.ntmps33
  go_wp2
  go_loopw [3] (fun p wr => StR w m p wr) (fun p _ => m - (intOf p).toNat)
  case atStart => exact ⟨0, rfl, Nat.zero_le _, Below.refl _ _⟩
  case round =>
    obtain ⟨i, rfl, hi, hB⟩ := hrel
    obtain ⟨hBlt, b6, b7⟩ := HB6.out
    have hBlt' : B < wr.heap.size := Nat.lt_of_lt_of_le hBlt hB.size
    have c6 : wr.cell? ⟨B, 6, none⟩ = some (.slice Va m Vc) := (hB.cell (p := ⟨B, 6, none⟩) hBlt).trans b6
    have c7 : wr.cell? ⟨B, 7, none⟩ = some (.slice Ua m Uc) := (hB.cell (p := ⟨B, 7, none⟩) hBlt).trans b7
    have HBe := Lib.hid hB
    clear b6 b7 hB
    by_cases hlt : i < m
    · have hz : (i : Int) < (m : Int) := by omega
      obtain ⟨gV, cV, eV, hgV, hcV⟩ := list_at HB.out.ownV hlt
      obtain ⟨gU, cU, eU, hgU, hcU⟩ := list_at HB.out.ownU hlt
      cases eV
      cases eU
      obtain ⟨a, ca, ea, _, _, hra⟩ := rdD_of (HB.out.rows i hlt) rfl
      obtain ⟨b, cb, eb, _, _, hrb⟩ := rdD_of (HB.out.rowsU i hlt) rfl
      rw [ea] at hcV
      rw [eb] at hcU
      obtain ⟨n, hn⟩ : ∃ n, (ls i).length = n := ⟨_, rfl⟩
      have hlen := HB.out.len i hlt
      rw [hn] at hcV hcU hlen
      have p6 := lift_cell (a := ⟨B, 6, none⟩) hBlt' c6
      have p7 := lift_cell (a := ⟨B, 7, none⟩) hBlt' c7
      have pV := lift_cell (a := ⟨gV, i, none⟩) (Nat.lt_of_lt_of_le hgV HBe.out.size) ((HBe.out.cell (p := ⟨gV, i, none⟩) hgV).trans hcV)
      have pU := lift_cell (a := ⟨gU, i, none⟩) (Nat.lt_of_lt_of_le hgU HBe.out.size) ((HBe.out.cell (p := ⟨gU, i, none⟩) hgU).trans hcU)
      have HC := Lib.hid (fun p => sameD_yes a b ca cb (ls i) n hn (by omega) (lift wr p) ((hra.below HBe.out).below (below_lift wr p)) ((hrb.below HBe.out).below (below_lift wr p)))
      clear hcV hcU hra hrb c7 ea eb hn hBlt hBlt'
      go_wp2_with fail
      refine wp_region_quiet_below mixed (by kernel_rfl) ?_
      repeat (quiet_step (first | (go_at_call 11; exact calls_lift (HC.out _))))
      refine wpQuiet_nil ?_
      intro _ hw'
      obtain ⟨p, hw''⟩ := hw'
      subst hw''
      have HB2 := Lib.hid (HBe.out.trans ((below_lift wr p).mono HBe.out.size))
      clear p6 p7 pV pU c6
      generalize lift wr p = w2 at *
      go_wp2
      go_roundw
      case rel => exact ⟨i + 1, by go_num, hlt, HB2.out⟩
      case measure => simp [intOf]; omega
    · have hz : ¬ (i : Int) < (m : Int) := by omega
      go_wp2
      go_ret
      exact ⟨rfl, HBe.out⟩

/-- What a list is to be turned to. -/
def mks (ls : Nat → List Di) (i : Nat) : Nat → List Di := fun j => if j < i then marks j 0 (ls j).length else ls j
theorem mks_len (ls : Nat → List Di) (i j : Nat) : (mks ls i j).length = (ls j).length := by
  unfold mks
  split
  · exact marks_len _ _ _
  · rfl
theorem mks_step (ls : Nat → List Di) (i : Nat) (j : Nat) : (if j = i then marks i 0 (ls i).length else mks ls i j) = mks ls (i + 1) j := by
  unfold mks
  by_cases h : j = i
  · subst h; rw [if_pos rfl, if_pos (by omega)]
  · rw [if_neg h]
    by_cases h2 : j < i
    · rw [if_pos h2, if_pos (by omega)]
    · rw [if_neg h2, if_neg (by omega)]
def PtO (w : World) (base B m : Nat) (vs : Nat → Value) (ls : Nat → List Di) (V U : Value) (p : Value) (wr : World) : Prop :=
  ∃ i : Nat, p = .int .i64 i ∧ i ≤ m ∧ BookP wr base B m vs (mks ls i) V U ∧ Below base w wr ∧ base ≤ wr.heap.size
/-- A list's elements, and the marks behind them. -/
def pto (ls : List Di) (i : Nat) (j : Nat) : Di := if j < ls.length then ls.getD j zeroDi else mrk i (j - ls.length)
def ptf (n k : Nat) (j : Nat) : Nat := if j < k then n + j else j
theorem ptf_step (n k j : Nat) : (if j = k then n + k else ptf n k j) = ptf n (k + 1) j := by
  unfold ptf
  by_cases h : j = k
  · subst h; rw [if_pos rfl, if_pos (by omega)]
  · rw [if_neg h]
    by_cases h2 : j < k
    · rw [if_pos h2, if_pos (by omega)]
    · rw [if_neg h2, if_neg (by omega)]
theorem DR.congr2 {W : World} {g cap n : Nat} {o o' : Nat → Di} {f f' : Nat → Nat} (h : DR W g cap n o f) (hf : ∀ k, k < n → o' (f' k) = o (f k)) : DR W g cap n o' f' := by
  obtain ⟨cur, h1, h2, h3⟩ := h
  exact ⟨cur, h1, h2, fun i hi j hj => by rw [hf i hi]; exact h3 i hi j hj⟩
theorem owns_marks {W : World} {base g cap i : Nat} {ls : List Di} (h : DR W g cap ls.length (pto ls i) (ptf ls.length ls.length)) (hb : base ≤ g) (hn : ls.length ≤ cap) (hc : cap ≤ maxLen) :
    W.ownsRow base 31 3 (.slice (some ⟨g, 0, none⟩) ls.length cap) ls.length ((marks i 0 ls.length).flatMap diCells) := by
  have := owns_of_dr (base := base) h hb hn hc
  have e : ((List.range ls.length).map fun j => pto ls i (ptf ls.length ls.length j)) = marks i 0 ls.length := by
    unfold marks
    apply List.map_congr_left
    intro j hj
    have hj' := List.mem_range.1 hj
    unfold pto ptf
    rw [if_pos hj', if_neg (by omega), Nat.zero_add]
    congr 1
    omega
  rw [e] at this
  exact this
def PtI (w1 : World) (n g cap : Nat) (o : Nat → Di) (p : Value) (wr : World) : Prop :=
  ∃ k : Nat, p = .int .i64 k ∧ k ≤ n ∧ DR wr g cap n o (ptf n k) ∧ w1.grownBy wr (some g)
def PutR (w : World) (base B m : Nat) (vs : Nat → Value) (ls : Nat → List Di) (V U : Value) (e : Ending) (W' : World) : Prop :=
  (∃ x, e = .returned x) ∧ BookP W' base B m vs (mks ls m) V U ∧ Below base w W' ∧ base ≤ W'.heap.size
set_option maxRecDepth 100000 in
set_option maxHeartbeats 3200000 in
theorem put_any (base B m : Nat) (vs : Nat → Value) (ls : Nat → List Di) (V U : Value) (hm : m ≤ 100) (w : World) (h : BookP w base B m vs ls V U) (hbs : base ≤ w.heap.size) :
    Calls Tryd.prog 40 #[.pointer (some ⟨B, 0, none⟩)] w fun e W' => PutR w base B m vs ls V U e W' := by
  obtain ⟨Va, Vc, rfl⟩ := ownsRow_slice' h.ownV
  have HB := Lib.hid h
  clear h
  go_enter Tryd.func40, Tryd.ntmps40
  go_wp2
  go_loopw [2] (fun p wr => PtO w base B m vs ls (.slice Va m Vc) U p wr) (fun p _ => m - (intOf p).toNat)
  case atStart => exact ⟨0, rfl, Nat.zero_le _, ⟨HB.out.hB, HB.out.blk, HB.out.ownV, HB.out.len, HB.out.rows, HB.out.sR⟩, Below.refl _ _, hbs⟩
  case round =>
    obtain ⟨i, rfl, hi, hP, hBe, hsz⟩ := hrel
    have c6 : wr.cell? ⟨B, 6, none⟩ = some (.slice Va m Vc) := (hP.blk.cell 6).trans rfl
    have HP := Lib.hid hP
    clear hP
    by_cases hlt : i < m
    · have hz : (i : Int) < (m : Int) := by omega
      obtain ⟨gV, cV, eV, hgV, hcV⟩ := list_at HP.out.ownV hlt
      cases eV
      obtain ⟨n, hn⟩ : ∃ n, (ls i).length = n := ⟨_, rfl⟩
      have hlen := HP.out.len i hlt
      have hown := HP.out.rows i hlt
      rw [mks_len, hn] at hlen hown
      have eq : mks ls i i = ls i := by unfold mks; rw [if_neg (by omega)]
      rw [eq] at hown
      have HN := Lib.hid hn
      have HM := Lib.hid (mark_any i 0 n (by omega) (by omega) wr)
      have HOw := Lib.hid hown
      rcases dr_of_owns hown hn.symm with ⟨ev, en⟩ | ⟨g, cap, ev, hbg, hnc, hcm, hD⟩
      · -- nothing in it
        rw [ev] at hcV
        subst en
        clear hown hn eq
        go_wp2_with fail
        refine HM.out.mono ?_
        rintro e w1 ⟨u, rfl, hu, hB1⟩
        obtain ⟨ua, uc, rfl⟩ := ownsRow_slice' hu
        have HB1 := Lib.hid hB1
        have HP1 := Lib.hid (HP.out.below hB1)
        clear hu hB1 c6 hcV
        go_wp2_with fail
        refine wp_loop_rounds 1 ?_
        rw [rounds_succ]
        go_wp2
        go_roundw
        case rel =>
          have e0 : mks ls (i + 1) = mks ls i := by
            funext j
            rw [← mks_step]
            by_cases e : j = i
            · subst e
              rw [if_pos rfl, HN.out]
              unfold mks
              rw [if_neg (by omega), List.eq_nil_of_length_eq_zero HN.out]
              rfl
            · rw [if_neg e]
          exact ⟨i + 1, by go_num, hlt, by rw [e0]; exact HP1.out, hBe.trans (HB1.out.mono hsz), Nat.le_trans hsz HB1.out.size⟩
        case measure => simp [intOf]; omega
      · rw [ev] at hcV
        have HEv := Lib.hid ev
        have hgl := hD.lt
        have HD := Lib.hid hD
        clear hown hn eq hD ev
        go_wp2_with fail
        refine HM.out.mono ?_
        rintro e w1 ⟨u, rfl, hu, hB1⟩
        have hD1 := HD.out.below hB1
        obtain ⟨ua, uc, eu, _, _, hru⟩ := rdD_of hu (marks_len i 0 n).symm
        rw [marks_len] at eu
        subst eu
        have hru2 : ∀ k, k < n → ∃ gu, ua = some ⟨gu, 0, none⟩ ∧ gu < w1.heap.size ∧ gu ≠ g ∧ w1.cell? ⟨gu, k * 3, none⟩ = some (.int .i64 (mrk i k).code) ∧ w1.cell? ⟨gu, k * 3 + 1, none⟩ = some (.int .i64 (mrk i k).at_) ∧ w1.cell? ⟨gu, k * 3 + 2, none⟩ = some (.string ⟨(mrk i k).what.toArray⟩) := fun k hk => by
          obtain ⟨gu, h1, h2, h3⟩ := hru k (by rw [marks_len]; exact hk)
          have e : (marks i 0 n).getD k zeroDi = mrk i k := by
            unfold marks
            simp [List.getD, List.getElem?_range hk]
          rw [e] at h3
          refine ⟨gu, h1, h2, fun e' => ?_, h3 0 (by omega), h3 1 (by omega), h3 2 (by omega)⟩
          subst h1
          obtain ⟨_, _, hb⟩ := own_at hu (g := gu) rfl
          omega
        have HRu := Lib.hid hru2
        have HP1 := Lib.hid (HP.out.below hB1)
        have hBe1 := hBe.trans (hB1.mono hsz)
        have hsz1 := Nat.le_trans hsz hB1.size
        have hBlt := HP1.out.blk.lt
        have d6 : w1.cell? ⟨B, 6, none⟩ = some (.slice (some ⟨gV, 0, none⟩) m Vc) := (HP1.out.blk.cell 6).trans rfl
        have hcV1 := (hB1.cell (p := ⟨gV, i, none⟩) hgV).trans hcV
        have hgV1 : gV < w1.heap.size := Nat.lt_of_lt_of_le hgV hB1.size
        have hBg : B ≠ g := fun e => blk_ne HOw.out HP.out.blk (by decide) (by rw [HEv.out, e]; rfl)
        have hVg : gV ≠ g := fun e => own_ne HOw.out HP.out.ownV (by decide) (g := g) (by rw [HEv.out]; rfl) (by rw [e]; rfl)
        have HD1 := Lib.hid hD1
        clear hu hru hru2 hB1 c6 hcV hD1
        go_wp2_with fail
        go_loopw [4] (fun p wr => PtI w1 n g cap (pto (ls i) i) p wr) (fun p _ => n - (intOf p).toNat)
        case atStart => exact ⟨0, rfl, Nat.zero_le _, HD1.out.congr2 (fun k hk => by rw [show ptf n 0 k = k from by unfold ptf; rw [if_neg (by omega)]]; unfold pto; rw [if_pos (by rw [HN.out]; exact hk)]; rfl), World.grownBy.refl _ _⟩
        case round =>
          obtain ⟨k, rfl, hk, hDk, hG⟩ := hrel
          have e6 := (hG.cell_far ⟨B, 6, none⟩ hBlt (fun e => hBg (Option.some.inj e))).trans d6
          have eV := (hG.cell_far ⟨gV, i, none⟩ hgV1 (fun e => hVg (Option.some.inj e))).trans hcV1
          by_cases hkn : k < n
          · have hkz : (k : Int) < (n : Int) := by omega
            obtain ⟨gu, rfl, hgu, hgug, u0, u1, u2⟩ := HRu.out k hkn
            have m0 := (hG.cell_far ⟨gu, k * 3, none⟩ hgu (fun e => hgug (Option.some.inj e))).trans u0
            have m1 := (hG.cell_far ⟨gu, k * 3 + 1, none⟩ hgu (fun e => hgug (Option.some.inj e))).trans u1
            have m2 := (hG.cell_far ⟨gu, k * 3 + 2, none⟩ hgu (fun e => hgug (Option.some.inj e))).trans u2
            obtain ⟨p0, p1, p2⟩ := hDk.cells hkn
            have fz := hDk.frozen
            have hpt : pto (ls i) i (n + k) = mrk i k := by unfold pto; rw [if_neg (by rw [HN.out]; omega), HN.out]; congr 1; omega
            have HPt := Lib.hid hpt
            have HDk := Lib.hid hDk
            clear u0 u1 u2 hDk hpt
            generalize hd : mrk i k = d at *
            have HDd := Lib.hid hd
            clear hd
            go_wp2_with fail
            go_region
            all_goals
              have hput := HDk.out.put hnc (v := n + k) hkn
              rw [HPt.out] at hput
              have HPut := Lib.hid hput
              clear hput
              go_wp2
              go_roundw
              case rel => exact ⟨k + 1, by go_num, hkn, (HPut.out.1.congr fun j => (ptf_step n k j).symm).drew, GB_drew (hG.trans HPut.out.2)⟩
              case measure => simp [intOf]; omega
          · obtain rfl : k = n := by omega
            have hkz : ¬ (k : Int) < (k : Int) := by omega
            have HDk := Lib.hid hDk
            have HG := Lib.hid hG
            clear hDk hG
            go_wp2
            go_roundw
            case rel =>
              have hdk := HDk.out
              rw [← HN.out] at hdk hnc
              have ho := owns_marks (base := base) hdk hbg hnc hcm
              have ht := HP1.out.turn (ds := marks i 0 (ls i).length) hlt (by rw [HEv.out]; rfl) HG.out (by rw [marks_len, mks_len]) (by rw [HEv.out, mks_len, ← HN.out]; exact ho)
              rw [show (fun j => if j = i then marks i 0 (ls i).length else mks ls i j) = mks ls (i + 1) from funext (mks_step ls i)] at ht
              exact ⟨i + 1, by go_num, hlt, ht, hBe1.grown HG.out hsz1 (fun j ej => by cases ej; exact hbg), Nat.le_trans hsz1 HG.out.size⟩
            case measure => simp [intOf]; omega
    · obtain rfl : i = m := by omega
      have hz : ¬ (i : Int) < (i : Int) := by omega
      go_wp2
      go_returns
      exact ⟨⟨_, rfl⟩, HP.out, hBe, hsz⟩
end Go.Proofs.YtgdnibdahldekabDoor
