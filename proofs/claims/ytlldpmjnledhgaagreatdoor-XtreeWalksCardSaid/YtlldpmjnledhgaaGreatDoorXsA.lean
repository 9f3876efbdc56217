/- The walk of the cutter's attr, behind whatever attributes, whatever it comes to. -/
import Derived.Test.YtlldpmjnledhgaaGreatDoorXkV
import Derived.Test.YtlldpmjnledhgaaGreatDoorXkN
namespace Go.Proofs.YtlldpmjnledhgaaGreatDoor
open Go.RowKit
set_option linter.unusedVariables false

/-- A row's cells, element by element. -/
theorem flat_at {α β : Type} (f : α → List β) (m : Nat) (hm : ∀ x, (f x).length = m) : ∀ (l : List α) (k i : Nat) (x : α), l[k]? = some x → i < m → (l.flatMap f)[k * m + i]? = (f x)[i]?
  | [], k, i, x, h, _ => by cases h
  | a :: l, 0, i, x, h, hi => by
    obtain rfl : a = x := by simpa using h
    rw [List.flatMap_cons, Nat.zero_mul, Nat.zero_add, List.getElem?_append_left (by rw [hm]; exact hi)]
  | a :: l, k + 1, i, x, h, hi => by
    rw [List.flatMap_cons, List.getElem?_append_right (by rw [hm, Nat.succ_mul]; omega), hm, show (k + 1) * m + i - m = k * m + i from by rw [Nat.succ_mul]; omega]
    exact flat_at f m hm l k i x (by simpa using h) hi
theorem attrs_cells {B g k cv n : Nat} {W : World} {l : List XA} {x : XA} (h : AttrsAt B W l (.slice (some ⟨g, 0, none⟩) n cv)) (hk : l[k]? = some x) :
    W.cell? ⟨g, k * 3, none⟩ = some (.string ⟨x.name.toArray⟩) ∧ W.cell? ⟨g, k * 3 + 1, none⟩ = some (.string ⟨x.value.toArray⟩) ∧ W.cell? ⟨g, k * 3 + 2, none⟩ = some (.int .i64 x.place) := by
  have h1 := fun i hi => flat_at attrCells 3 (fun x => rfl) l k i x hk hi
  have hc : ∀ j u, (l.flatMap attrCells)[j]? = some u → W.cell? ⟨g, j, none⟩ = some u := fun j u hu => by
    have e : (⟨g, 0, none⟩ : Addr).add j = ⟨g, j, none⟩ := by unfold Addr.add; by_cases h : j = 0 <;> simp [h]
    rw [← e]; exact World.ownsRow.cells h (g := g) rfl j u hu
  exact ⟨hc _ _ (h1 0 (by omega)), hc _ _ (h1 1 (by omega)), hc _ _ (h1 2 (by omega))⟩
theorem attrs_some {B : Nat} {W : World} {l : List XA} {av : Option Addr} {n cv k : Nat} (h : AttrsAt B W l (.slice av n cv)) (hk : k < l.length) : ∃ g, av = some ⟨g, 0, none⟩ := by
  rcases h.2 with ⟨h1, h2⟩ | ⟨g, cap, cur, h1, _⟩
  · omega
  · cases h1; exact ⟨g, rfl⟩
theorem str_beq (a b : List UInt8) : ((⟨a.toArray⟩ : ByteArray).toList == (⟨b.toArray⟩ : ByteArray).toList) = (a == b) := by rw [ByteArray.toList_eq, ByteArray.toList_eq]
theorem valueX_code {ca : Nat} {q : UInt8} : ∀ (f : Nat) (l : List UInt8) (a : Nat) (acc : List UInt8) (e : XE), valueX ca q f l a acc = .bad e → e.code = 11
  | 0, l, a, acc, e, h => by cases h
  | f + 1, [], a, acc, e, h => by cases h; rfl
  | f + 1, c :: t, a, acc, e, h => by
    unfold valueX at h
    simp only at h
    split at h
    · cases h
    split at h
    · cases h; rfl
    split at h
    · split at h
      · cases h; rfl
      · exact valueX_code f _ _ _ e h
    split at h
    · exact valueX_code f _ _ _ e h
    split at h
    · exact valueX_code f _ _ _ e h
    · exact valueX_code f _ _ _ e h
abbrev at0 (k : Nat) : Obj := .cells #[.string ⟨#[]⟩, .string ⟨#[]⟩, .int .i64 k] 43
theorem at_cells {W : World} {r : Nat} {a b c : Value} (h : BlkAt W r 43 #[a, b, c]) : (W.cell? ⟨r, 0, none⟩ = some a ∧ W.cell? ⟨r, 1, none⟩ = some b ∧ W.cell? ⟨r, 2, none⟩ = some c) ∧ W.frozen? ⟨r, 0, none⟩ = false ∧ W.frozen? ⟨r, 1, none⟩ = false ∧ W.frozen? ⟨r, 2, none⟩ = false :=
  ⟨⟨h.cell 0, h.cell 1, h.cell 2⟩, h.frozen 0, h.frozen 1, h.frozen 2⟩
/-- What an attribute comes to, behind others: the token's block with its row. -/
def AttrQ (B tb : Nat) (l : List XA) (R : XR (XA × Nat)) (k pl nm tx em : Value) (w : World) (en : Ending) (w' : World) : Prop :=
  match R with
  | .none => True
  | .bad er => en = .returned (.tuple #[.int .i64 0, errV er]) ∧ Below w.heap.size w w'
  | .ok (x, e) => en = .returned (.tuple #[.int .i64 e, okV]) ∧ ∃ v', BlkAt w' tb 60 #[k, pl, nm, tx, v', em] ∧ AttrsAt B w' (l ++ [x]) v' ∧ Below B w w'

theorem attr_fin {tb B g cap : Nat} {w w6 : World} {tk tp tn tx tm tv : Value} {l : List XA} {x : XA} (hBt : B ≤ tb) (htl : tb < w.heap.size) (hT : BlkAt w6 tb 60 #[tk, tp, tn, tx, tv, tm]) (hR : BlkAt w6 w.heap.size 28 #[.int .i64 0, .int .i64 0, .string ⟨#[]⟩])
    (hW : Below B w w6) (hown : w6.ownsRow B 43 3 (.slice (some ⟨g, 0, none⟩) (l.length + 1) cap) (l.length + 1) ((l ++ [x]).flatMap attrCells)) :
    BlkAt ((((w6.setCell ⟨tb, 4, none⟩ (.slice (some ⟨g, 0, none⟩) (l.length + 1) cap)).setCell ⟨w.heap.size, 0, none⟩ (.int .i64 0)).setCell ⟨w.heap.size, 1, none⟩ (.int .i64 0)).setCell ⟨w.heap.size, 2, none⟩ (.string ⟨#[]⟩)) w.heap.size 28 #[.int .i64 0, .int .i64 0, .string ⟨#[]⟩] ∧
      ∃ v', BlkAt ((((w6.setCell ⟨tb, 4, none⟩ (.slice (some ⟨g, 0, none⟩) (l.length + 1) cap)).setCell ⟨w.heap.size, 0, none⟩ (.int .i64 0)).setCell ⟨w.heap.size, 1, none⟩ (.int .i64 0)).setCell ⟨w.heap.size, 2, none⟩ (.string ⟨#[]⟩)) tb 60 #[tk, tp, tn, tx, v', tm] ∧ AttrsAt B ((((w6.setCell ⟨tb, 4, none⟩ (.slice (some ⟨g, 0, none⟩) (l.length + 1) cap)).setCell ⟨w.heap.size, 0, none⟩ (.int .i64 0)).setCell ⟨w.heap.size, 1, none⟩ (.int .i64 0)).setCell ⟨w.heap.size, 2, none⟩ (.string ⟨#[]⟩)) (l ++ [x]) v' ∧ Below B w ((((w6.setCell ⟨tb, 4, none⟩ (.slice (some ⟨g, 0, none⟩) (l.length + 1) cap)).setCell ⟨w.heap.size, 0, none⟩ (.int .i64 0)).setCell ⟨w.heap.size, 1, none⟩ (.int .i64 0)).setCell ⟨w.heap.size, 2, none⟩ (.string ⟨#[]⟩)) := by
  have g7 := grown_set w6 tb 4 (.slice (some ⟨g, 0, none⟩) (l.length + 1) cap)
  have r7 := hR.far (p := ⟨tb, 4, none⟩) (fun e => by simp at e; omega) (.slice (some ⟨g, 0, none⟩) (l.length + 1) cap)
  have t7 := hT.set 4 (.slice (some ⟨g, 0, none⟩) (l.length + 1) cap)
  have o7 := hown.kept g7 (.inr (blk_ne hown hT (by decide)))
  have hS := three_sets (.int .i64 0) (.int .i64 0) (.string ⟨#[]⟩) r7
  refine ⟨hS.1, _, t7.grown hS.2 (fun e => by have := Option.some.inj e; omega), ?_, ?_⟩
  · have := o7.kept hS.2 (.inr (blk_ne o7 r7 (by decide)))
    unfold AttrsAt
    simpa using this
  · have hz := hW.size
    exact (hW.setCell (p := ⟨tb, 4, none⟩) hBt _).trans (grown_below hS.2 (by omega) (by simp; omega))

set_option maxRecDepth 100000 in
set_option maxHeartbeats 64000000 in
theorem attr_bad {cb tb B at_ : Nat} {s : ByteArray} {ca si : Nat} {out p v tv tk tp tn tx tm : Value} {w : World} {f : Nat} {l : List XA} {er0 : XE} (hs : s.size ≤ 1000000) (hb : BlkAt w cb 95 (cutCells s ca out p v si)) (ht : BlkAt w tb 60 #[tk, tp, tn, tx, tv, tm])
    (hl : AttrsAt B w l tv) (hll : l.length ≤ 1000000) (hBt : B ≤ tb) (hat : at_ ≤ s.size) (hv : attrX f s.data.toList ca l at_ = .bad er0) :
    Calls Tryz.prog 80 #[.pointer (some ⟨cb, 0, none⟩), .pointer (some ⟨tb, 0, none⟩), .int .i64 at_] w fun en w' => AttrQ B tb l (.bad er0) tk tp tn tx tm w en w' := by
  have hls : s.data.toList.length = s.size := by simp
  obtain ⟨av, cv, rfl⟩ := ownsRow_slice' hl
  obtain ⟨n, hn⟩ : ∃ n, nameX (s.data.toList.drop at_) = n := ⟨_, rfl⟩
  have hn1 := nameX_le (s.data.toList.drop at_)
  rw [hn, List.length_drop, hls] at hn1
  obtain ⟨nm, hnm⟩ : ∃ nm, (s.data.toList.drop at_).take n = nm := ⟨_, rfl⟩
  obtain ⟨b1, hb1⟩ : ∃ b1, blanksX (s.data.toList.drop (at_ + n)) = b1 := ⟨_, rfl⟩
  have hb1l := blanksX_le (s.data.toList.drop (at_ + n))
  rw [hb1, List.length_drop, hls] at hb1l
  unfold attrX at hv
  simp only [] at hv
  rw [hn, hnm, hb1] at hv
  have HA := Lib.hid (fun W => nameLen_any (s.extract at_ s.size) (by simp; omega) W)
  rw [extract_drop, hn] at HA
  have HB1 := Lib.hid (fun W => blanks_any (s.extract (at_ + n) s.size) (by simp; omega) W)
  rw [extract_drop, hb1] at HB1
  have hex : (s.extract at_ (at_ + n)) = ⟨nm.toArray⟩ := by
    have h1 := extract_list s at_ (at_ + n)
    rw [show at_ + n - at_ = n from by omega, hnm] at h1
    rw [← h1]
  have HNM := Lib.hid hex
  have HK := Lib.hid (fun (W : World) (hW : Below (w.heap.size + 1) (w.alloc dg0) W) => (show BlkAt W cb 95 (cutCells s ca out p v si) ∧ BlkAt W tb 60 #[tk, tp, tn, tx, .slice av l.length cv, tm] ∧ BlkAt W w.heap.size 28 #[.int .i64 0, .int .i64 0, .string ⟨#[]⟩] ∧ AttrsAt B W l (.slice av l.length cv) from
    ⟨(hb.alloc _).below hW (by have := hb.lt; omega), (ht.alloc _).below hW (by have := ht.lt; omega), (BlkAt.new w _ _).below hW (by omega), own_keep (World.ownsRow.alloc hl dg0) (fun g hg => hW.block g (by have := own_lt hl hg; omega))⟩))
  have k0 : ((w.alloc dg0).alloc (at0 at_)).cell? ⟨cb, 0, none⟩ = some (.string s) := ((hb.alloc dg0).alloc (at0 at_)).cell 0
  have HAB := Lib.hid (fun (W : World) (hW : Below (w.heap.size + 1) (w.alloc dg0) W) => (show Below w.heap.size w W from ((Below.refl _ w).alloc (Nat.le_refl _) dg0).trans (hW.mono (by omega))))
  have HL0 := Lib.hid hl
  have htl := ht.lt
  have hcl := hb.lt
  have HV := Lib.hid hv
  have HLS := Lib.hid hls
  have HBt := Lib.hid hBt
  have hBs : B ≤ w.heap.size := by omega
  obtain ⟨i0, hi0, hz0, hz1, hz2⟩ := info_parts infoAttr
  have n1 : ¬ tb = w.heap.size + 1 := by omega
  have n2 : ¬ w.heap.size + 1 = tb := by omega
  have n3 : ¬ cb = w.heap.size + 1 := by omega
  have n4 : ¬ w.heap.size + 1 = cb := by omega
  have n5 : ¬ tb = w.heap.size := by omega
  have n6 : ¬ w.heap.size = tb := by omega
  clear hv hn hb1 hls hex hb ht hl hBt hnm
  go_enter Tryz.func80, Tryz.ntmps80
  go_wp2_with (first
    | (go_at_call 77; refine (HA.out _).mono ?_; rintro en w1 ⟨rfl, hW1⟩; have hz1' := hW1.size; simp only [World.size_alloc] at hz1'; have HW1 := Lib.hid (((Below.refl (w.heap.size + 1) (w.alloc dg0)).alloc (by simp) (at0 at_)).trans (hW1.mono (by simp))); have HA1 := Lib.hid (show BlkAt w1 (w.heap.size + 1) 43 #[.string ⟨#[]⟩, .string ⟨#[]⟩, .int .i64 at_] from (by have := (BlkAt.new (w.alloc dg0) 43 #[.string ⟨#[]⟩, .string ⟨#[]⟩, .int .i64 at_]).below hW1 (by simp); simp only [World.size_alloc] at this; exact this)); have hK1 := HK.out w1 HW1.out; have c10 : w1.cell? ⟨cb, 0, none⟩ = some (.string s) := (hK1.1.cell 0); have c14 : w1.cell? ⟨tb, 4, none⟩ = some (.slice av l.length cv) := (hK1.2.1.cell 4); obtain ⟨⟨a0, a1, a2⟩, fa0, fa1, fa2⟩ := at_cells HA1.out; clear hK1))
  rw [HNM.out]
  have HW0 := Lib.hid (HW1.out.setCell (p := ⟨w.heap.size + 1, 0, none⟩) (by simp) (.string ⟨nm.toArray⟩))
  have HA0 := Lib.hid (HA1.out.set 0 (.string ⟨nm.toArray⟩))
  have hz0' : w.heap.size + 2 ≤ (w1.setCell ⟨w.heap.size + 1, 0, none⟩ (.string ⟨nm.toArray⟩)).heap.size := by simp; omega
  obtain ⟨W0, hW0⟩ : ∃ W0, w1.setCell ⟨w.heap.size + 1, 0, none⟩ (.string ⟨nm.toArray⟩) = W0 := ⟨_, rfl⟩
  rw [hW0] at HW0 HA0 hz0' ⊢
  clear hW0 c10 c14 a0 a1 a2 fa0 fa1 fa2 hW1 hz1'
  go_loopw [39] (fun a W => ∃ k : Nat, a = .int .i64 k ∧ k ≤ l.length ∧ (l.take k).any (fun x => decide (x.name = nm)) = false ∧ Below (w.heap.size + 2) W0 W) (fun a W => l.length - (intOf a).toNat)
  case atStart => exact ⟨0, rfl, Nat.zero_le _, rfl, Below.refl _ _⟩
  case round =>
    obtain ⟨k, rfl, hk, hany, hW⟩ := hrel
    have hzr := hW.size
    have HWr := Lib.hid (HW0.out.trans (hW.mono (by omega)))
    have HAr := Lib.hid (HA0.out.below hW (by omega))
    have HW := Lib.hid hW
    have HANY := Lib.hid hany
    clear hW hany
    by_cases hlt : k < l.length
    · obtain ⟨x, hx⟩ : ∃ x, l[k]? = some x := ⟨_, List.getElem?_eq_getElem hlt⟩
      obtain ⟨g, rfl⟩ := attrs_some (HK.out _ HWr.out).2.2.2 hlt
      obtain ⟨x0, x1, x2⟩ := attrs_cells (HK.out _ HWr.out).2.2.2 hx
      have y0 : (wr.alloc (.cells #[.string ⟨x.name.toArray⟩, .string ⟨x.value.toArray⟩, .int .i64 x.place] 43)).cell? ⟨w.heap.size + 1, 0, none⟩ = some (.string ⟨nm.toArray⟩) := (HAr.out.alloc _).cell 0
      have hts : l.take (k + 1) = l.take k ++ [x] := by rw [List.take_add_one, hx]; rfl
      have HTS := Lib.hid hts
      have HX := Lib.hid hx
      have hlt' : (k : Int) < (l.length : Int) := by omega
      obtain ⟨xn, hxn⟩ : ∃ xn, x.name = xn := ⟨_, rfl⟩
      rw [hxn] at x0 y0
      have HXN := Lib.hid hxn
      clear hts hx hxn
      by_cases he : xn = nm
      · have HR2 := Lib.hid (show (.bad er0 : XR (XA × Nat)) = .bad ⟨11, at_, wTwice⟩ from by
          have h1 := HV.out
          rw [if_pos (by rw [List.any_eq_true]; exact ⟨x, List.mem_of_getElem? HX.out, by rw [HXN.out, he]; simp⟩)] at h1
          exact h1.symm)
        have E1 : ((⟨xn.toArray⟩ : ByteArray).toList == (⟨nm.toArray⟩ : ByteArray).toList) = true := by rw [str_beq, he]; simp
        have E2 : (xn == nm) = true := by rw [he]; simp
        have HE := Lib.hid he
        clear he
        go_wp2_with (go_at_call 52; refine (wrong_any _ _ _).mono ?_; rintro en w4 ⟨rfl, hW4⟩; have HW4 := Lib.hid ((HWr.out.alloc (by omega) _).trans (hW4.mono (by simp; omega))); have hr := (HK.out _ HW4.out).2.2.1; obtain ⟨⟨r0, r1, r2⟩, g0, g1, g2⟩ := res_cells hr)
        have hT := three_sets (.int .i64 11) (.int .i64 at_) (.string ⟨#[116, 119, 105, 99, 101]⟩) hr
        refine bodyPost_ret (results_tc rfl rfl aggDiag rfl hT.1) rfl ?_
        rw [HR2.out]
        have hlow := HAB.out _ HW4.out
        exact ⟨rfl, hlow.trans (grown_below hT.2 (Nat.le_refl _) hlow.size)⟩
      · have E1 : ((⟨xn.toArray⟩ : ByteArray).toList == (⟨nm.toArray⟩ : ByteArray).toList) = false := by rw [str_beq]; simpa using he
        have E2 : (xn == nm) = false := by simpa using he
        have HE := Lib.hid he
        clear he
        go_wp2
        go_roundw
        case rel => exact ⟨k + 1, by go_num, by omega, by rw [HTS.out, List.any_append, HANY.out]; simp [HXN.out, HE.out], HW.out.alloc (by omega) _⟩
        case measure => simp [intOf]; omega
    · obtain rfl : k = l.length := by omega
      have hAN : l.any (fun x => decide (x.name = nm)) = false := by have := HANY.out; rwa [List.take_length] at this
      have hv1 := HV.out
      rw [if_neg (by rw [hAN]; simp)] at hv1
      have hge : ¬ ((l.length : Int) < (l.length : Int)) := by omega
      have c10 : wr.cell? ⟨cb, 0, none⟩ = some (.string s) := (HK.out wr HWr.out).1.cell 0
      have c11 : wr.cell? ⟨cb, 1, none⟩ = some (.int .i64 ca) := (HK.out wr HWr.out).1.cell 1
      have hls := HLS.out
      by_cases c1 : n = 0 ∨ s.data.toList[at_ + n + b1]? ≠ some 61
      · rw [if_pos c1] at hv1
        have HR2 := Lib.hid hv1.symm
        clear hv1 hls hlt hAN
        by_cases hn0 : n = 0
        · have E0 : ((n : Int) == 0) = true := beq_iff_eq.2 (by omega)
          clear c1 hn0
          go_wp2_with (first
            | (go_at_call 79; refine (HB1.out _).mono ?_; rintro en w2 ⟨rfl, hW2⟩; have hz2' := hW2.size; have HA2 := Lib.hid (HAr.out.below hW2 HAr.out.lt); have HW2 := Lib.hid (HWr.out.trans (hW2.mono (by omega))); have c20 : w2.cell? ⟨cb, 0, none⟩ = some (.string s) := ((HK.out w2 HW2.out).1.cell 0); have c21 : w2.cell? ⟨cb, 1, none⟩ = some (.int .i64 ca) := ((HK.out w2 HW2.out).1.cell 1); clear c10 c11)
            | (go_at_call 52; refine (wrong_any _ _ _).mono ?_; rintro en w4 ⟨rfl, hW4⟩; have HW4 := Lib.hid (HW2.out.trans (hW4.mono (by omega))); have hr := (HK.out _ HW4.out).2.2.1; obtain ⟨⟨r0, r1, r2⟩, g0, g1, g2⟩ := res_cells hr))
          have hT := three_sets (.int .i64 11) (.int .i64 ca) (.string ⟨#[97, 116, 116, 114, 105, 98, 117, 116, 101]⟩) hr
          refine bodyPost_ret (results_tc rfl rfl aggDiag rfl hT.1) rfl ?_
          rw [HR2.out]
          have hlow := HAB.out _ HW4.out
          exact ⟨rfl, hlow.trans (grown_below hT.2 (Nat.le_refl _) hlow.size)⟩
        · have E0 : ((n : Int) == 0) = false := beq_eq_false_iff_ne.2 (by omega)
          by_cases hend : s.size ≤ at_ + n + b1
          · have E1 : (s.size : Int) ≤ (at_ : Int) + n + b1 := by omega
            clear c1
            go_wp2_with (first
              | (go_at_call 79; refine (HB1.out _).mono ?_; rintro en w2 ⟨rfl, hW2⟩; have hz2' := hW2.size; have HA2 := Lib.hid (HAr.out.below hW2 HAr.out.lt); have HW2 := Lib.hid (HWr.out.trans (hW2.mono (by omega))); have c20 : w2.cell? ⟨cb, 0, none⟩ = some (.string s) := ((HK.out w2 HW2.out).1.cell 0); have c21 : w2.cell? ⟨cb, 1, none⟩ = some (.int .i64 ca) := ((HK.out w2 HW2.out).1.cell 1); clear c10 c11)
              | (go_at_call 52; refine (wrong_any _ _ _).mono ?_; rintro en w4 ⟨rfl, hW4⟩; have HW4 := Lib.hid (HW2.out.trans (hW4.mono (by omega))); have hr := (HK.out _ HW4.out).2.2.1; obtain ⟨⟨r0, r1, r2⟩, g0, g1, g2⟩ := res_cells hr))
            have hT := three_sets (.int .i64 11) (.int .i64 ca) (.string ⟨#[97, 116, 116, 114, 105, 98, 117, 116, 101]⟩) hr
            refine bodyPost_ret (results_tc rfl rfl aggDiag rfl hT.1) rfl ?_
            rw [HR2.out]
            have hlow := HAB.out _ HW4.out
            exact ⟨rfl, hlow.trans (grown_below hT.2 (Nat.le_refl _) hlow.size)⟩
          · have hlt2 : at_ + n + b1 < s.size := by omega
            have hne : ¬ s.data.toList[at_ + n + b1]? = some 61 := by rcases c1 with c1 | c1; exact absurd c1 hn0; exact c1
            have E2 : ((s[at_ + n + b1].toNat : Int) != 61) = true := by
              rw [get_list s _ hlt2] at hne
              rw [bne_iff_ne]
              intro e
              exact hne (congrArg some (UInt8.toNat_inj.1 (by have : (61 : UInt8).toNat = 61 := rfl; omega)))
            have E1 : ¬ (s.size : Int) ≤ (at_ : Int) + n + b1 := by omega
            clear c1 hne
            go_wp2_with (first
              | (go_at_call 79; refine (HB1.out _).mono ?_; rintro en w2 ⟨rfl, hW2⟩; have hz2' := hW2.size; have HA2 := Lib.hid (HAr.out.below hW2 HAr.out.lt); have HW2 := Lib.hid (HWr.out.trans (hW2.mono (by omega))); have c20 : w2.cell? ⟨cb, 0, none⟩ = some (.string s) := ((HK.out w2 HW2.out).1.cell 0); have c21 : w2.cell? ⟨cb, 1, none⟩ = some (.int .i64 ca) := ((HK.out w2 HW2.out).1.cell 1); clear c10 c11)
              | (go_at_call 52; refine (wrong_any _ _ _).mono ?_; rintro en w4 ⟨rfl, hW4⟩; have HW4 := Lib.hid (HW2.out.trans (hW4.mono (by omega))); have hr := (HK.out _ HW4.out).2.2.1; obtain ⟨⟨r0, r1, r2⟩, g0, g1, g2⟩ := res_cells hr))
            have hT := three_sets (.int .i64 11) (.int .i64 ca) (.string ⟨#[97, 116, 116, 114, 105, 98, 117, 116, 101]⟩) hr
            refine bodyPost_ret (results_tc rfl rfl aggDiag rfl hT.1) rfl ?_
            rw [HR2.out]
            have hlow := HAB.out _ HW4.out
            exact ⟨rfl, hlow.trans (grown_below hT.2 (Nat.le_refl _) hlow.size)⟩
      · rw [if_neg c1] at hv1
        have hn0 : n ≠ 0 := fun e => c1 (.inl e)
        have he1 : s.data.toList[at_ + n + b1]? = some 61 := Decidable.byContradiction fun e => c1 (.inr e)
        have l1 : at_ + n + b1 < s.size := by rw [← hls]; exact (List.getElem?_eq_some_iff.1 he1).1
        obtain ⟨b2, hb2⟩ : ∃ b2, blanksX (s.data.toList.drop (at_ + n + b1 + 1)) = b2 := ⟨_, rfl⟩
        have hb2l := blanksX_le (s.data.toList.drop (at_ + n + b1 + 1))
        rw [hb2, List.length_drop, hls] at hb2l
        rw [hb2] at hv1
        have HB2 := Lib.hid (fun W => blanks_any (s.extract (at_ + n + b1 + 1) s.size) (by simp; omega) W)
        rw [extract_drop, hb2] at HB2
        have E0 : ((n : Int) == 0) = false := beq_eq_false_iff_ne.2 (by omega)
        have E1 : (s[at_ + n + b1].toNat : Int) = 61 := byte_eq l1 he1
        have E1' : ((s[at_ + n + b1].toNat : Int) != 61) = false := by simp [bne, E1]
        clear c1 he1 hb2
        cases hq : s.data.toList[at_ + n + b1 + 1 + b2]? with
        | none =>
          rw [hq] at hv1
          have HR2 := Lib.hid hv1.symm
          have l2 : s.size ≤ at_ + n + b1 + 1 + b2 := by rw [← hls]; exact List.getElem?_eq_none_iff.1 hq
          have E2 : (s.size : Int) ≤ (at_ : Int) + n + b1 + 1 + b2 := by omega
          clear hv1 hq hls hAN
          go_wp2_with (first
            | (go_at_call 79; refine (HB1.out _).mono ?_; rintro en w2 ⟨rfl, hW2⟩; have hz2' := hW2.size; have HA2 := Lib.hid (HAr.out.below hW2 HAr.out.lt); have HW2 := Lib.hid (HWr.out.trans (hW2.mono (by omega))); have c20 : w2.cell? ⟨cb, 0, none⟩ = some (.string s) := ((HK.out w2 HW2.out).1.cell 0); have c21 : w2.cell? ⟨cb, 1, none⟩ = some (.int .i64 ca) := ((HK.out w2 HW2.out).1.cell 1); clear c10 c11)
            | (go_at_call 79; refine (HB2.out _).mono ?_; rintro en w3 ⟨rfl, hW3⟩; have hz3' := hW3.size; have HA3 := Lib.hid (HA2.out.below hW3 HA2.out.lt); have HW3 := Lib.hid (HW2.out.trans (hW3.mono (by omega))); have c30 : w3.cell? ⟨cb, 0, none⟩ = some (.string s) := ((HK.out w3 HW3.out).1.cell 0); have c31 : w3.cell? ⟨cb, 1, none⟩ = some (.int .i64 ca) := ((HK.out w3 HW3.out).1.cell 1); clear c20 c21)
            | (go_at_call 52; refine (wrong_any _ _ _).mono ?_; rintro en w4 ⟨rfl, hW4⟩; have HW4 := Lib.hid (HW3.out.trans (hW4.mono (by omega))); have hr := (HK.out _ HW4.out).2.2.1; obtain ⟨⟨r0, r1, r2⟩, g0, g1, g2⟩ := res_cells hr))
          have hT := three_sets (.int .i64 11) (.int .i64 ca) (.string ⟨#[118, 97, 108, 117, 101]⟩) hr
          refine bodyPost_ret (results_tc rfl rfl aggDiag rfl hT.1) rfl ?_
          rw [HR2.out]
          have hlow := HAB.out _ HW4.out
          exact ⟨rfl, hlow.trans (grown_below hT.2 (Nat.le_refl _) hlow.size)⟩
        | some q =>
          rw [hq] at hv1
          simp only [] at hv1
          have l2 : at_ + n + b1 + 1 + b2 < s.size := by rw [← hls]; exact (List.getElem?_eq_some_iff.1 hq).1
          have hqq : s[at_ + n + b1 + 1 + b2] = q := by rw [get_list s _ l2] at hq; exact Option.some.inj hq
          by_cases hqs : q = 34 ∨ q = 39
          · rw [if_pos hqs] at hv1
            obtain ⟨V, hV⟩ : ∃ V, valueX ca q f (s.data.toList.drop (at_ + n + b1 + 1 + b2 + 1)) (at_ + n + b1 + 1 + b2 + 1) [] = V := ⟨_, rfl⟩
            have hVn : V ≠ .none := fun e => by rw [hV, e] at hv1; cases hv1
            have HVal := Lib.hid (fun (W : World) (hW : BlkAt W cb 95 (cutCells s ca out p v si)) => value_in (R := V) hs hW l2 (by rw [hqq]; exact hV) hVn)
            have HVal' := Lib.hid (fun (W : World) (hW : BlkAt W cb 95 (cutCells s ca out p v si)) => (show Calls Tryz.prog 96 #[.pointer (some ⟨cb, 0, none⟩), .int .i64 ((at_ : Int) + n + b1 + 1 + b2)] W fun e_1 w' => ValR W V e_1 w' from by have := HVal.out W hW; push_cast at this; exact this))
            rw [hV] at hv1
            have HVC0 := Lib.hid hV
            clear HVal hV hls hAN hq
            cases V with
            | none => exact absurd rfl hVn
            | bad er =>
              have HR2 := Lib.hid (show (.bad er0 : XR (XA × Nat)) = .bad er from hv1.symm)
              have HVC := HVC0
              have hez : 0 < er.code := by rw [valueX_code f _ _ _ er HVC.out]; omega
              have hez2 : ((er.code : Int) == 0) = false := beq_eq_false_iff_ne.2 (by omega)
              clear hv1 hVn
              rcases hqs with hqs | hqs
              · have Q1 : ((s[at_ + n + b1 + 1 + b2].toNat : Int) != 34) = false := by rw [hqq, hqs]; rfl
                clear hqq hqs
                go_wp2_with (first
                  | (go_at_call 79; refine (HB1.out _).mono ?_; rintro en w2 ⟨rfl, hW2⟩; have hz2' := hW2.size; have HA2 := Lib.hid (HAr.out.below hW2 HAr.out.lt); have HW2 := Lib.hid (HWr.out.trans (hW2.mono (by omega))); have c20 : w2.cell? ⟨cb, 0, none⟩ = some (.string s) := ((HK.out w2 HW2.out).1.cell 0); have c21 : w2.cell? ⟨cb, 1, none⟩ = some (.int .i64 ca) := ((HK.out w2 HW2.out).1.cell 1); clear c10 c11)
                  | (go_at_call 79; refine (HB2.out _).mono ?_; rintro en w3 ⟨rfl, hW3⟩; have hz3' := hW3.size; have HA3 := Lib.hid (HA2.out.below hW3 HA2.out.lt); have HW3 := Lib.hid (HW2.out.trans (hW3.mono (by omega))); have c30 : w3.cell? ⟨cb, 0, none⟩ = some (.string s) := ((HK.out w3 HW3.out).1.cell 0); have c31 : w3.cell? ⟨cb, 1, none⟩ = some (.int .i64 ca) := ((HK.out w3 HW3.out).1.cell 1); clear c20 c21)
                  | (go_at_call 96; refine (HVal'.out _ (HK.out w3 HW3.out).1).mono ?_; rintro en w4 ⟨rfl, hW4⟩; have hz4' := hW4.size; have HA4 := Lib.hid (HA3.out.below hW4 HA3.out.lt); have HW4 := Lib.hid (HW3.out.trans (hW4.mono (by omega))); clear c30 c31)
                  | (go_at_call 35; refine (fine_any er.code er.place ⟨er.what.toArray⟩ _).mono ?_; rintro en w5 ⟨rfl, hW5⟩; have hz5' := hW5.size; simp only [World.size_alloc] at hz5'; have HA5 := Lib.hid ((HA4.out.alloc _).below hW5 (HA4.out.alloc _).lt); have HW5 := Lib.hid ((HW4.out.alloc (by omega) _).trans (hW5.mono (by simp; omega))); have hr := (HK.out _ HW5.out).2.2.1; obtain ⟨⟨r0, r1, r2⟩, g0, g1, g2⟩ := res_cells hr; have hd := ((BlkAt.new w4 28 #[.int .i64 er.code, .int .i64 er.place, .string ⟨er.what.toArray⟩]).below hW5 (by simp)); obtain ⟨⟨d0, d1, d2⟩, e0, e1, e2⟩ := res_cells hd))
                go_region
                all_goals
                  have hT := three_sets (.int .i64 er.code) (.int .i64 er.place) (.string ⟨er.what.toArray⟩) hr.drew
                  go_wp2
                  refine bodyPost_ret (results_tc rfl rfl aggDiag rfl hT.1) rfl ?_
                  rw [HR2.out]
                  have hlow := (HAB.out _ HW5.out).drew
                  exact ⟨rfl, hlow.trans (grown_below hT.2 (Nat.le_refl _) hlow.size)⟩
              · have Q1 : ((s[at_ + n + b1 + 1 + b2].toNat : Int) != 34) = true := by rw [hqq, hqs]; rfl
                have Q2 : ((s[at_ + n + b1 + 1 + b2].toNat : Int) != 39) = false := by rw [hqq, hqs]; rfl
                clear hqq hqs
                go_wp2_with (first
                  | (go_at_call 79; refine (HB1.out _).mono ?_; rintro en w2 ⟨rfl, hW2⟩; have hz2' := hW2.size; have HA2 := Lib.hid (HAr.out.below hW2 HAr.out.lt); have HW2 := Lib.hid (HWr.out.trans (hW2.mono (by omega))); have c20 : w2.cell? ⟨cb, 0, none⟩ = some (.string s) := ((HK.out w2 HW2.out).1.cell 0); have c21 : w2.cell? ⟨cb, 1, none⟩ = some (.int .i64 ca) := ((HK.out w2 HW2.out).1.cell 1); clear c10 c11)
                  | (go_at_call 79; refine (HB2.out _).mono ?_; rintro en w3 ⟨rfl, hW3⟩; have hz3' := hW3.size; have HA3 := Lib.hid (HA2.out.below hW3 HA2.out.lt); have HW3 := Lib.hid (HW2.out.trans (hW3.mono (by omega))); have c30 : w3.cell? ⟨cb, 0, none⟩ = some (.string s) := ((HK.out w3 HW3.out).1.cell 0); have c31 : w3.cell? ⟨cb, 1, none⟩ = some (.int .i64 ca) := ((HK.out w3 HW3.out).1.cell 1); clear c20 c21)
                  | (go_at_call 96; refine (HVal'.out _ (HK.out w3 HW3.out).1).mono ?_; rintro en w4 ⟨rfl, hW4⟩; have hz4' := hW4.size; have HA4 := Lib.hid (HA3.out.below hW4 HA3.out.lt); have HW4 := Lib.hid (HW3.out.trans (hW4.mono (by omega))); clear c30 c31)
                  | (go_at_call 35; refine (fine_any er.code er.place ⟨er.what.toArray⟩ _).mono ?_; rintro en w5 ⟨rfl, hW5⟩; have hz5' := hW5.size; simp only [World.size_alloc] at hz5'; have HA5 := Lib.hid ((HA4.out.alloc _).below hW5 (HA4.out.alloc _).lt); have HW5 := Lib.hid ((HW4.out.alloc (by omega) _).trans (hW5.mono (by simp; omega))); have hr := (HK.out _ HW5.out).2.2.1; obtain ⟨⟨r0, r1, r2⟩, g0, g1, g2⟩ := res_cells hr; have hd := ((BlkAt.new w4 28 #[.int .i64 er.code, .int .i64 er.place, .string ⟨er.what.toArray⟩]).below hW5 (by simp)); obtain ⟨⟨d0, d1, d2⟩, e0, e1, e2⟩ := res_cells hd))
                go_region
                all_goals
                  have hT := three_sets (.int .i64 er.code) (.int .i64 er.place) (.string ⟨er.what.toArray⟩) hr.drew
                  go_wp2
                  refine bodyPost_ret (results_tc rfl rfl aggDiag rfl hT.1) rfl ?_
                  rw [HR2.out]
                  have hlow := (HAB.out _ HW5.out).drew
                  exact ⟨rfl, hlow.trans (grown_below hT.2 (Nat.le_refl _) hlow.size)⟩
            | ok ve =>
              obtain ⟨xv, e⟩ := ve
              have HR2 := Lib.hid (show (.bad er0 : XR (XA × Nat)) = .ok (⟨nm, xv, at_⟩, e) from hv1.symm)
              clear hv1 hVn
              rcases hqs with hqs | hqs
              · have Q1 : ((s[at_ + n + b1 + 1 + b2].toNat : Int) != 34) = false := by rw [hqq, hqs]; rfl
                clear hqq hqs
                exact nomatch HR2.out
              · have Q1 : ((s[at_ + n + b1 + 1 + b2].toNat : Int) != 34) = true := by rw [hqq, hqs]; rfl
                have Q2 : ((s[at_ + n + b1 + 1 + b2].toNat : Int) != 39) = false := by rw [hqq, hqs]; rfl
                clear hqq hqs
                exact nomatch HR2.out
          · rw [if_neg hqs] at hv1
            have HR2 := Lib.hid hv1.symm
            have Q1 : ((s[at_ + n + b1 + 1 + b2].toNat : Int) != 34) = true := by
              rw [hqq, bne_iff_ne]
              intro e
              exact hqs (.inl (UInt8.toNat_inj.1 (by have : (34 : UInt8).toNat = 34 := rfl; omega)))
            have Q2 : ((s[at_ + n + b1 + 1 + b2].toNat : Int) != 39) = true := by
              rw [hqq, bne_iff_ne]
              intro e
              exact hqs (.inr (UInt8.toNat_inj.1 (by have : (39 : UInt8).toNat = 39 := rfl; omega)))
            have E2 : ¬ (s.size : Int) ≤ (at_ : Int) + n + b1 + 1 + b2 := by omega
            clear hv1 hq hls hAN hqq hqs
            go_wp2_with (first
              | (go_at_call 79; refine (HB1.out _).mono ?_; rintro en w2 ⟨rfl, hW2⟩; have hz2' := hW2.size; have HA2 := Lib.hid (HAr.out.below hW2 HAr.out.lt); have HW2 := Lib.hid (HWr.out.trans (hW2.mono (by omega))); have c20 : w2.cell? ⟨cb, 0, none⟩ = some (.string s) := ((HK.out w2 HW2.out).1.cell 0); have c21 : w2.cell? ⟨cb, 1, none⟩ = some (.int .i64 ca) := ((HK.out w2 HW2.out).1.cell 1); clear c10 c11)
              | (go_at_call 79; refine (HB2.out _).mono ?_; rintro en w3 ⟨rfl, hW3⟩; have hz3' := hW3.size; have HA3 := Lib.hid (HA2.out.below hW3 HA2.out.lt); have HW3 := Lib.hid (HW2.out.trans (hW3.mono (by omega))); have c30 : w3.cell? ⟨cb, 0, none⟩ = some (.string s) := ((HK.out w3 HW3.out).1.cell 0); have c31 : w3.cell? ⟨cb, 1, none⟩ = some (.int .i64 ca) := ((HK.out w3 HW3.out).1.cell 1); clear c20 c21)
              | (go_at_call 52; refine (wrong_any _ _ _).mono ?_; rintro en w4 ⟨rfl, hW4⟩; have HW4 := Lib.hid (HW3.out.trans (hW4.mono (by omega))); have hr := (HK.out _ HW4.out).2.2.1; obtain ⟨⟨r0, r1, r2⟩, g0, g1, g2⟩ := res_cells hr))
            have hT := three_sets (.int .i64 11) (.int .i64 ca) (.string ⟨#[118, 97, 108, 117, 101]⟩) hr
            refine bodyPost_ret (results_tc rfl rfl aggDiag rfl hT.1) rfl ?_
            rw [HR2.out]
            have hlow := HAB.out _ HW4.out
            exact ⟨rfl, hlow.trans (grown_below hT.2 (Nat.le_refl _) hlow.size)⟩
end Go.Proofs.YtlldpmjnledhgaaGreatDoor
