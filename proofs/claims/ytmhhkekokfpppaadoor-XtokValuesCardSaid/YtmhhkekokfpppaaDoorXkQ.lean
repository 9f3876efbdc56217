/- The walk of the cutter's attr, at the first attribute, if it is one. -/
import Derived.Test.YtmhhkekokfpppaaDoorXkV
import Derived.Test.YtmhhkekokfpppaaDoorXkM
namespace Go.Proofs.YtmhhkekokfpppaaDoor
open Go.RowKit
set_option linter.unusedVariables false

theorem attrX_ok {f : Nat} {s : List UInt8} {ca k e : Nat} {x : XA} (h : attrX f s ca [] k = .ok (x, e)) : ∃ n b1 b2 q, nameX (s.drop k) = n ∧ blanksX (s.drop (k + n)) = b1 ∧ blanksX (s.drop (k + n + b1 + 1)) = b2 ∧ n ≠ 0 ∧ s[k + n + b1]? = some 61 ∧ s[k + n + b1 + 1 + b2]? = some q ∧ (q = 34 ∨ q = 39) ∧
    valueX ca q f (s.drop (k + n + b1 + 1 + b2 + 1)) (k + n + b1 + 1 + b2 + 1) [] = .ok (x.value, e) ∧ x.name = (s.drop k).take n ∧ x.place = k := by
  unfold attrX at h
  simp only [List.any_nil, Bool.false_eq_true, if_false] at h
  split at h
  · cases h
  · rename_i h1
    split at h
    · cases h
    · rename_i q hq
      split at h
      · rename_i hq2
        split at h
        · cases h
        · cases h
        · rename_i v e' hv
          cases h
          refine ⟨_, _, _, q, rfl, rfl, rfl, fun e => h1 (.inl e), ?_, hq, hq2, hv, rfl, rfl⟩
          apply Decidable.byContradiction
          exact fun e => h1 (.inr e)
      · cases h
abbrev at0 (k : Nat) : Obj := .cells #[.string ⟨#[]⟩, .string ⟨#[]⟩, .int .i64 k] 37
theorem at_cells {W : World} {r : Nat} {a b c : Value} (h : BlkAt W r 37 #[a, b, c]) : (W.cell? ⟨r, 0, none⟩ = some a ∧ W.cell? ⟨r, 1, none⟩ = some b ∧ W.cell? ⟨r, 2, none⟩ = some c) ∧ W.frozen? ⟨r, 0, none⟩ = false ∧ W.frozen? ⟨r, 1, none⟩ = false ∧ W.frozen? ⟨r, 2, none⟩ = false :=
  ⟨⟨h.cell 0, h.cell 1, h.cell 2⟩, h.frozen 0, h.frozen 1, h.frozen 2⟩
/-- What an attribute comes to: the token's block with its row. -/
def AttrR (B tb e : Nat) (x : XA) (k pl nm tx em : Value) (w : World) (en : Ending) (w' : World) : Prop :=
  en = .returned (.tuple #[.int .i64 e, okV]) ∧ ∃ v', BlkAt w' tb 32 #[k, pl, nm, tx, v', em] ∧ AttrsAt B w' [x] v' ∧ Below B w w' ∧ ∀ j, j < w.heap.size → j ≠ tb → w'.heap[j]? = w.heap[j]?

theorem attr_end {tb B g cap : Nat} {w w6 : World} {tk tp tn tx tm : Value} {x : XA} (hBt : B ≤ tb) (htl : tb < w.heap.size) (hT : BlkAt w6 tb 32 #[tk, tp, tn, tx, .slice none 0 0, tm]) (hR : BlkAt w6 w.heap.size 27 #[.int .i64 0, .int .i64 0, .string ⟨#[]⟩])
    (hW : Below w.heap.size w w6) (hown : w6.ownsRow B 37 3 (.slice (some ⟨g, 0, none⟩) 1 cap) 1 (attrCells x)) :
    BlkAt ((((w6.setCell ⟨tb, 4, none⟩ (.slice (some ⟨g, 0, none⟩) 1 cap)).setCell ⟨w.heap.size, 0, none⟩ (.int .i64 0)).setCell ⟨w.heap.size, 1, none⟩ (.int .i64 0)).setCell ⟨w.heap.size, 2, none⟩ (.string ⟨#[]⟩)) w.heap.size 27 #[.int .i64 0, .int .i64 0, .string ⟨#[]⟩] ∧
      ∃ v', BlkAt ((((w6.setCell ⟨tb, 4, none⟩ (.slice (some ⟨g, 0, none⟩) 1 cap)).setCell ⟨w.heap.size, 0, none⟩ (.int .i64 0)).setCell ⟨w.heap.size, 1, none⟩ (.int .i64 0)).setCell ⟨w.heap.size, 2, none⟩ (.string ⟨#[]⟩)) tb 32 #[tk, tp, tn, tx, v', tm] ∧
      AttrsAt B ((((w6.setCell ⟨tb, 4, none⟩ (.slice (some ⟨g, 0, none⟩) 1 cap)).setCell ⟨w.heap.size, 0, none⟩ (.int .i64 0)).setCell ⟨w.heap.size, 1, none⟩ (.int .i64 0)).setCell ⟨w.heap.size, 2, none⟩ (.string ⟨#[]⟩)) [x] v' ∧
      Below B w ((((w6.setCell ⟨tb, 4, none⟩ (.slice (some ⟨g, 0, none⟩) 1 cap)).setCell ⟨w.heap.size, 0, none⟩ (.int .i64 0)).setCell ⟨w.heap.size, 1, none⟩ (.int .i64 0)).setCell ⟨w.heap.size, 2, none⟩ (.string ⟨#[]⟩)) ∧
      ∀ j, j < w.heap.size → j ≠ tb → ((((w6.setCell ⟨tb, 4, none⟩ (.slice (some ⟨g, 0, none⟩) 1 cap)).setCell ⟨w.heap.size, 0, none⟩ (.int .i64 0)).setCell ⟨w.heap.size, 1, none⟩ (.int .i64 0)).setCell ⟨w.heap.size, 2, none⟩ (.string ⟨#[]⟩)).heap[j]? = w.heap[j]? := by
  have g7 := grown_set w6 tb 4 (.slice (some ⟨g, 0, none⟩) 1 cap)
  have r7 := hR.far (p := ⟨tb, 4, none⟩) (fun e => by simp at e; omega) (.slice (some ⟨g, 0, none⟩) 1 cap)
  have t7 := hT.set 4 (.slice (some ⟨g, 0, none⟩) 1 cap)
  have o7 := hown.kept g7 (.inr (blk_ne hown hT (by decide)))
  have hS := three_sets (.int .i64 0) (.int .i64 0) (.string ⟨#[]⟩) r7
  refine ⟨hS.1, _, t7.grown hS.2 (fun e => by have := Option.some.inj e; omega), ?_, ?_, ?_⟩
  · have := o7.kept hS.2 (.inr (blk_ne o7 r7 (by decide)))
    unfold AttrsAt
    simpa using this
  · have h1 : Below B w w6 := hW.mono (by omega)
    have hz := hW.size
    exact (h1.setCell (p := ⟨tb, 4, none⟩) hBt _).trans (grown_below hS.2 (by omega) (by simp; omega))
  · intro j hj hjt
    rw [hS.2.block j (by simp; have := hW.size; omega) (fun e => by have := Option.some.inj e; omega), g7.block j (by have := hW.size; omega) (fun e => hjt (Option.some.inj e)), hW.block j hj]

set_option maxRecDepth 100000 in
set_option maxHeartbeats 16000000 in
theorem attr_in {cb tb B at_ e : Nat} {s : ByteArray} {ca si : Nat} {out p v tk tp tn tx tm : Value} {w : World} {f : Nat} {x : XA} (hs : s.size ≤ 1000000) (hb : BlkAt w cb 47 (cutCells s ca out p v si)) (ht : BlkAt w tb 32 #[tk, tp, tn, tx, .slice none 0 0, tm])
    (hBt : B ≤ tb) (hat : at_ ≤ s.size) (hv : attrX f s.data.toList ca [] at_ = .ok (x, e)) :
    Calls Tryd.prog 50 #[.pointer (some ⟨cb, 0, none⟩), .pointer (some ⟨tb, 0, none⟩), .int .i64 at_] w fun en w' => AttrR B tb e x tk tp tn tx tm w en w' := by
  have hls : s.data.toList.length = s.size := by simp
  obtain ⟨n, b1, b2, q, hn, hb1, hb2, hn0, he1, hq, hq2, hval, hxn, hxp⟩ := attrX_ok hv
  have hn1 := nameX_le (s.data.toList.drop at_)
  rw [hn, List.length_drop, hls] at hn1
  have l1 : at_ + n + b1 < s.size := by rw [← hls]; exact (List.getElem?_eq_some_iff.1 he1).1
  have l2 : at_ + n + b1 + 1 + b2 < s.size := by rw [← hls]; exact (List.getElem?_eq_some_iff.1 hq).1
  have hqq : s[at_ + n + b1 + 1 + b2] = q := by rw [get_list s _ l2] at hq; exact Option.some.inj hq
  have E1 : (s[at_ + n + b1].toNat : Int) = 61 := byte_eq l1 he1
  have E1' : ((s[at_ + n + b1].toNat : Int) != 61) = false := by simp [bne, E1]
  have HA := Lib.hid (fun W => nameLen_any (s.extract at_ s.size) (by simp; omega) W)
  rw [extract_drop, hn] at HA
  have HB1 := Lib.hid (fun W => blanks_any (s.extract (at_ + n) s.size) (by simp; omega) W)
  rw [extract_drop, hb1] at HB1
  have HB2 := Lib.hid (fun W => blanks_any (s.extract (at_ + n + b1 + 1) s.size) (by simp; omega) W)
  rw [extract_drop, hb2] at HB2
  have HVal := Lib.hid (fun (W : World) (hW : BlkAt W cb 47 (cutCells s ca out p v si)) => value_in (R := .ok (x.value, e)) hs hW l2 (by rw [hqq]; exact hval) (by intro h; cases h))
  have hnm : (s.extract at_ (at_ + n)) = ⟨x.name.toArray⟩ := by
    have h1 := extract_list s at_ (at_ + n)
    rw [show at_ + n - at_ = n from by omega, ← hxn] at h1
    rw [← h1]
  have HNM := Lib.hid hnm
  -- cells of the cutter, the token, the result
  have HK := Lib.hid (fun (W : World) (hW : Below (w.heap.size + 1) (w.alloc dg0) W) => (show BlkAt W cb 47 (cutCells s ca out p v si) ∧ BlkAt W tb 32 #[tk, tp, tn, tx, .slice none 0 0, tm] ∧ BlkAt W w.heap.size 27 #[.int .i64 0, .int .i64 0, .string ⟨#[]⟩] from
    ⟨(hb.alloc _).below hW (by have := hb.lt; omega), (ht.alloc _).below hW (by have := ht.lt; omega), (BlkAt.new w _ _).below hW (by omega)⟩))
  have hq3 : q.toNat = 34 ∨ q.toNat = 39 := by rcases hq2 with rfl | rfl; exact .inl rfl; exact .inr rfl
  have HX := Lib.hid (And.intro hxp hb)
  have h0 := (hb.alloc dg0).alloc (at0 at_)
  have k0 : ((w.alloc dg0).alloc (at0 at_)).cell? ⟨cb, 0, none⟩ = some (.string s) := h0.cell 0
  have htl := ht.lt
  have hcl := hb.lt
  have hnz : ((n : Int) == 0) = false := beq_eq_false_iff_ne.2 (by omega)
  clear hv hn hb1 hb2 he1 hq hval hxn hxp hls hnm h0 hb ht
  have HBt := Lib.hid hBt
  have hBs : B ≤ w.heap.size := by omega
  clear hBt
  obtain ⟨xv, hxv⟩ : ∃ xv, x.value = xv := ⟨_, rfl⟩
  obtain ⟨xn, hxn2⟩ : ∃ xn, x.name = xn := ⟨_, rfl⟩
  rw [hxv] at HVal
  rw [hxn2] at HNM
  have HXV := Lib.hid (And.intro hxv hxn2)
  have HVal' := Lib.hid (fun (W : World) (hW : BlkAt W cb 47 (cutCells s ca out p v si)) => (show Calls Tryd.prog 66 #[.pointer (some ⟨cb, 0, none⟩), .int .i64 ((at_ : Int) + n + b1 + 1 + b2)] W fun e_1 w' => ValR W (.ok (xv, e)) e_1 w' from by have := HVal.out W hW; push_cast at this; exact this))
  clear hxv hxn2 HVal
  obtain ⟨i0, hi0, hz0, hz1, hz2⟩ := info_parts infoAttr
  have n1 : ¬ tb = w.heap.size + 1 := by omega
  have n2 : ¬ w.heap.size + 1 = tb := by omega
  have n3 : ¬ cb = w.heap.size + 1 := by omega
  have n4 : ¬ w.heap.size + 1 = cb := by omega
  have n5 : ¬ tb = w.heap.size := by omega
  have n6 : ¬ w.heap.size = tb := by omega
  rcases hq2 with hq2 | hq2
  · have Q1 : ((s[at_ + n + b1 + 1 + b2].toNat : Int) != 34) = false := by rw [hqq, hq2]; rfl
    clear hqq hq2 hq3
    go_enter Tryd.func50, Tryd.ntmps50
    go_wp2_with (first
      | (go_at_call 47; refine (HA.out _).mono ?_; rintro en w1 ⟨rfl, hW1⟩; have hz1' := hW1.size; simp only [World.size_alloc] at hz1'; have HW1 := Lib.hid (((Below.refl (w.heap.size + 1) (w.alloc dg0)).alloc (by simp) (at0 at_)).trans (hW1.mono (by simp))); have HA1 := Lib.hid (show BlkAt w1 (w.heap.size + 1) 37 #[.string ⟨#[]⟩, .string ⟨#[]⟩, .int .i64 at_] from (by have := (BlkAt.new (w.alloc dg0) 37 #[.string ⟨#[]⟩, .string ⟨#[]⟩, .int .i64 at_]).below hW1 (by simp); simp only [World.size_alloc] at this; exact this)); have hK1 := HK.out w1 HW1.out; have c10 : w1.cell? ⟨cb, 0, none⟩ = some (.string s) := (hK1.1.cell 0); have c14 : w1.cell? ⟨tb, 4, none⟩ = some (.slice none 0 0) := (hK1.2.1.cell 4); obtain ⟨⟨a0, a1, a2⟩, fa0, fa1, fa2⟩ := at_cells HA1.out; clear hK1))
    go_loop [39] (fun a => a = .int .i64 0) (fun a => 0)
    case atStart => rfl
    case round =>
      obtain rfl := hrel
      go_wp2_with (first
        | (go_at_call 49; refine (HB1.out _).mono ?_; rintro en w2 ⟨rfl, hW2⟩; have hz2' := hW2.size; simp only [World.size_setCell] at hz2'; have HA2 := Lib.hid ((HA1.out.set 0 (.string (s.extract at_ (at_ + n)))).below hW2 (by simp; omega)); have HW2 := Lib.hid ((HW1.out.setCell (p := ⟨w.heap.size + 1, 0, none⟩) (by simp) _).trans (hW2.mono (by simp; omega))); have c20 : w2.cell? ⟨cb, 0, none⟩ = some (.string s) := ((HK.out w2 HW2.out).1.cell 0); clear c10 c14 a0 a1 a2 fa0 fa1 fa2)
        | (go_at_call 49; refine (HB2.out _).mono ?_; rintro en w3 ⟨rfl, hW3⟩; have hz3' := hW3.size; have HA3 := Lib.hid (HA2.out.below hW3 HA2.out.lt); have HW3 := Lib.hid (HW2.out.trans (hW3.mono (by omega))); have c30 : w3.cell? ⟨cb, 0, none⟩ = some (.string s) := ((HK.out w3 HW3.out).1.cell 0); clear c20)
        | (go_at_call 66; refine (HVal'.out _ (HK.out w3 HW3.out).1).mono ?_; rintro en w4 ⟨rfl, hW4⟩; have hz4' := hW4.size; have HA4 := Lib.hid (HA3.out.below hW4 HA3.out.lt); have HW4 := Lib.hid (HW3.out.trans (hW4.mono (by omega))); clear c30)
        | (go_at_call 11; refine (fine_any 0 0 ⟨#[]⟩ _).mono ?_; rintro en w5 ⟨rfl, hW5⟩; have hz5' := hW5.size; simp only [World.size_alloc] at hz5'; have HA5 := Lib.hid ((HA4.out.alloc dg0).below hW5 (HA4.out.alloc _).lt); have HW5 := Lib.hid ((HW4.out.alloc (by omega) dg0).trans (hW5.mono (by simp; omega))); have c54 : w5.cell? ⟨tb, 4, none⟩ = some (.slice none 0 0) := ((HK.out w5 HW5.out).2.1.cell 4); obtain ⟨⟨a0, a1, a2⟩, fa0, fa1, fa2⟩ := at_cells HA5.out))
      have HT5 := Lib.hid (((HK.out w5 HW5.out).2.1.far (p := ⟨w.heap.size + 1, 1, none⟩) n1 (.string ⟨xv.toArray⟩)))
      have HR5 := Lib.hid (((HK.out w5 HW5.out).2.2.far (p := ⟨w.heap.size + 1, 1, none⟩) (by simp) (.string ⟨xv.toArray⟩)))
      have HB5 := Lib.hid (show Below w.heap.size w (w5.setCell ⟨w.heap.size + 1, 1, none⟩ (.string ⟨xv.toArray⟩)) from (((Below.refl _ w).alloc (Nat.le_refl _) dg0).trans (HW5.out.mono (by omega))).setCell (p := ⟨w.heap.size + 1, 1, none⟩) (by simp) _)
      obtain ⟨V, hV⟩ : ∃ V, w5.setCell ⟨w.heap.size + 1, 1, none⟩ (.string ⟨xv.toArray⟩) = V := ⟨_, rfl⟩
      have HA6 := Lib.hid (show BlkAt V (w.heap.size + 1) 37 #[.string (s.extract at_ (at_ + n)), .string ⟨xv.toArray⟩, .int .i64 at_] by rw [← hV]; exact HA5.out.set 1 _)
      rw [hV] at HT5 HR5 HB5 ⊢
      have hVz : w.heap.size ≤ V.heap.size := HB5.out.size
      have v4 : V.cell? ⟨tb, 4, none⟩ = some (.slice none 0 0) := HT5.out.cell 4
      obtain ⟨⟨v0, v1, v2⟩, fv0, fv1, fv2⟩ := at_cells HA6.out
      have v4a : (V.drew.alloc (Obj.cells #[.string (s.extract at_ (at_ + n)), .string ⟨xv.toArray⟩, .int .i64 at_] 37)).cell? ⟨tb, 4, none⟩ = some (.slice none 0 0) := (HT5.out.drew.alloc _).cell 4
      have v4b : (V.alloc (Obj.cells #[.string (s.extract at_ (at_ + n)), .string ⟨xv.toArray⟩, .int .i64 at_] 37)).cell? ⟨tb, 4, none⟩ = some (.slice none 0 0) := (HT5.out.alloc _).cell 4
      clear hV c54 a0 a1 a2 fa0 fa1 fa2 hW1 hW2 hW3 hW4 hW5
      go_region_law ((refine step_append_lies _ (by rfl) _ _ _ (by rfl) B 37 i0 _ 3 40 Tryd.underlying30 hi0 hz0 hz1 hz2 rfl (by omega) (.slice none 0 0) 0 [] (by rfl) (World.ownsRow_nil _ _ _ _) ⟨V.heap.size, 0, none⟩ 1 1 [.string (s.extract at_ (at_ + n)), .string ⟨xv.toArray⟩, .int .i64 at_] (by rfl) (by rfl) (World.news_of_block (cs := #[.string (s.extract at_ (at_ + n)), .string ⟨xv.toArray⟩, .int .i64 at_]) (t := 37) (fr := (0, 0)) (heap_alloc_new V.drew _)) (by simp [Value.oneCell']) (by omega) (by unfold maxLen; omega) (by omega) (by have e0 : V.drew.heap.size = V.heap.size := rfl; simp; omega) (V.heap.size + 1) (by simp) ?_; intro gg cap w6 hown hgrow hat6 hlt6; have hT6 := ((HT5.out.drew.alloc (Obj.cells #[.string (s.extract at_ (at_ + n)), .string ⟨xv.toArray⟩, .int .i64 at_] 37)).grown hgrow (by simp [Value.ownBlock])); have hR6 := ((HR5.out.drew.alloc (Obj.cells #[.string (s.extract at_ (at_ + n)), .string ⟨xv.toArray⟩, .int .i64 at_] 37)).grown hgrow (by simp [Value.ownBlock])); have f64 := hT6.frozen 4; have c64 := hT6.cell 4; obtain ⟨⟨r0, r1, r2⟩, g0, g1, g2⟩ := res_cells hR6))
      all_goals
        have hB6 : Below w.heap.size w w6 := ((HB5.out.drew.alloc (show w.heap.size ≤ V.drew.heap.size from hVz) (Obj.cells #[.string (s.extract at_ (at_ + n)), .string ⟨xv.toArray⟩, .int .i64 at_] 37)).grown hgrow (by have e0 : V.drew.heap.size = V.heap.size := rfl; simp; omega) (fun k e => by simp [Value.ownBlock] at e))
        have hown' : w6.ownsRow B 37 3 (.slice (some ⟨gg, 0, none⟩) 1 cap) 1 (attrCells x) := by
          have h := hown
          rw [HNM.out] at h
          unfold attrCells
          rw [HXV.out.1, HXV.out.2, HX.out.1]
          simpa using h
        have hE := attr_end HBt.out htl hT6 hR6 hB6 hown'
        have HE := Lib.hid hE
        clear hE hown hown' hgrow hB6 hT6 hR6 hat6 hlt6 v0 v1 v2 v4 v4a v4b fv0 fv1 fv2
        go_wp2
        refine bodyPost_ret (results_tc rfl rfl aggDiag rfl HE.out.1) rfl ?_
        exact ⟨rfl, HE.out.2⟩
  · have Q1 : ((s[at_ + n + b1 + 1 + b2].toNat : Int) != 34) = true := by rw [hqq, hq2]; rfl
    have Q2 : ((s[at_ + n + b1 + 1 + b2].toNat : Int) != 39) = false := by rw [hqq, hq2]; rfl
    clear hqq hq2 hq3
    go_enter Tryd.func50, Tryd.ntmps50
    go_wp2_with (first
      | (go_at_call 47; refine (HA.out _).mono ?_; rintro en w1 ⟨rfl, hW1⟩; have hz1' := hW1.size; simp only [World.size_alloc] at hz1'; have HW1 := Lib.hid (((Below.refl (w.heap.size + 1) (w.alloc dg0)).alloc (by simp) (at0 at_)).trans (hW1.mono (by simp))); have HA1 := Lib.hid (show BlkAt w1 (w.heap.size + 1) 37 #[.string ⟨#[]⟩, .string ⟨#[]⟩, .int .i64 at_] from (by have := (BlkAt.new (w.alloc dg0) 37 #[.string ⟨#[]⟩, .string ⟨#[]⟩, .int .i64 at_]).below hW1 (by simp); simp only [World.size_alloc] at this; exact this)); have hK1 := HK.out w1 HW1.out; have c10 : w1.cell? ⟨cb, 0, none⟩ = some (.string s) := (hK1.1.cell 0); have c14 : w1.cell? ⟨tb, 4, none⟩ = some (.slice none 0 0) := (hK1.2.1.cell 4); obtain ⟨⟨a0, a1, a2⟩, fa0, fa1, fa2⟩ := at_cells HA1.out; clear hK1))
    go_loop [39] (fun a => a = .int .i64 0) (fun a => 0)
    case atStart => rfl
    case round =>
      obtain rfl := hrel
      go_wp2_with (first
        | (go_at_call 49; refine (HB1.out _).mono ?_; rintro en w2 ⟨rfl, hW2⟩; have hz2' := hW2.size; simp only [World.size_setCell] at hz2'; have HA2 := Lib.hid ((HA1.out.set 0 (.string (s.extract at_ (at_ + n)))).below hW2 (by simp; omega)); have HW2 := Lib.hid ((HW1.out.setCell (p := ⟨w.heap.size + 1, 0, none⟩) (by simp) _).trans (hW2.mono (by simp; omega))); have c20 : w2.cell? ⟨cb, 0, none⟩ = some (.string s) := ((HK.out w2 HW2.out).1.cell 0); clear c10 c14 a0 a1 a2 fa0 fa1 fa2)
        | (go_at_call 49; refine (HB2.out _).mono ?_; rintro en w3 ⟨rfl, hW3⟩; have hz3' := hW3.size; have HA3 := Lib.hid (HA2.out.below hW3 HA2.out.lt); have HW3 := Lib.hid (HW2.out.trans (hW3.mono (by omega))); have c30 : w3.cell? ⟨cb, 0, none⟩ = some (.string s) := ((HK.out w3 HW3.out).1.cell 0); clear c20)
        | (go_at_call 66; refine (HVal'.out _ (HK.out w3 HW3.out).1).mono ?_; rintro en w4 ⟨rfl, hW4⟩; have hz4' := hW4.size; have HA4 := Lib.hid (HA3.out.below hW4 HA3.out.lt); have HW4 := Lib.hid (HW3.out.trans (hW4.mono (by omega))); clear c30)
        | (go_at_call 11; refine (fine_any 0 0 ⟨#[]⟩ _).mono ?_; rintro en w5 ⟨rfl, hW5⟩; have hz5' := hW5.size; simp only [World.size_alloc] at hz5'; have HA5 := Lib.hid ((HA4.out.alloc dg0).below hW5 (HA4.out.alloc _).lt); have HW5 := Lib.hid ((HW4.out.alloc (by omega) dg0).trans (hW5.mono (by simp; omega))); have c54 : w5.cell? ⟨tb, 4, none⟩ = some (.slice none 0 0) := ((HK.out w5 HW5.out).2.1.cell 4); obtain ⟨⟨a0, a1, a2⟩, fa0, fa1, fa2⟩ := at_cells HA5.out))
      have HT5 := Lib.hid (((HK.out w5 HW5.out).2.1.far (p := ⟨w.heap.size + 1, 1, none⟩) n1 (.string ⟨xv.toArray⟩)))
      have HR5 := Lib.hid (((HK.out w5 HW5.out).2.2.far (p := ⟨w.heap.size + 1, 1, none⟩) (by simp) (.string ⟨xv.toArray⟩)))
      have HB5 := Lib.hid (show Below w.heap.size w (w5.setCell ⟨w.heap.size + 1, 1, none⟩ (.string ⟨xv.toArray⟩)) from (((Below.refl _ w).alloc (Nat.le_refl _) dg0).trans (HW5.out.mono (by omega))).setCell (p := ⟨w.heap.size + 1, 1, none⟩) (by simp) _)
      obtain ⟨V, hV⟩ : ∃ V, w5.setCell ⟨w.heap.size + 1, 1, none⟩ (.string ⟨xv.toArray⟩) = V := ⟨_, rfl⟩
      have HA6 := Lib.hid (show BlkAt V (w.heap.size + 1) 37 #[.string (s.extract at_ (at_ + n)), .string ⟨xv.toArray⟩, .int .i64 at_] by rw [← hV]; exact HA5.out.set 1 _)
      rw [hV] at HT5 HR5 HB5 ⊢
      have hVz : w.heap.size ≤ V.heap.size := HB5.out.size
      have v4 : V.cell? ⟨tb, 4, none⟩ = some (.slice none 0 0) := HT5.out.cell 4
      obtain ⟨⟨v0, v1, v2⟩, fv0, fv1, fv2⟩ := at_cells HA6.out
      have v4a : (V.drew.alloc (Obj.cells #[.string (s.extract at_ (at_ + n)), .string ⟨xv.toArray⟩, .int .i64 at_] 37)).cell? ⟨tb, 4, none⟩ = some (.slice none 0 0) := (HT5.out.drew.alloc _).cell 4
      have v4b : (V.alloc (Obj.cells #[.string (s.extract at_ (at_ + n)), .string ⟨xv.toArray⟩, .int .i64 at_] 37)).cell? ⟨tb, 4, none⟩ = some (.slice none 0 0) := (HT5.out.alloc _).cell 4
      clear hV c54 a0 a1 a2 fa0 fa1 fa2 hW1 hW2 hW3 hW4 hW5
      go_region_law ((refine step_append_lies _ (by rfl) _ _ _ (by rfl) B 37 i0 _ 3 40 Tryd.underlying30 hi0 hz0 hz1 hz2 rfl (by omega) (.slice none 0 0) 0 [] (by rfl) (World.ownsRow_nil _ _ _ _) ⟨V.heap.size, 0, none⟩ 1 1 [.string (s.extract at_ (at_ + n)), .string ⟨xv.toArray⟩, .int .i64 at_] (by rfl) (by rfl) (World.news_of_block (cs := #[.string (s.extract at_ (at_ + n)), .string ⟨xv.toArray⟩, .int .i64 at_]) (t := 37) (fr := (0, 0)) (heap_alloc_new V.drew _)) (by simp [Value.oneCell']) (by omega) (by unfold maxLen; omega) (by omega) (by have e0 : V.drew.heap.size = V.heap.size := rfl; simp; omega) (V.heap.size + 1) (by simp) ?_; intro gg cap w6 hown hgrow hat6 hlt6; have hT6 := ((HT5.out.drew.alloc (Obj.cells #[.string (s.extract at_ (at_ + n)), .string ⟨xv.toArray⟩, .int .i64 at_] 37)).grown hgrow (by simp [Value.ownBlock])); have hR6 := ((HR5.out.drew.alloc (Obj.cells #[.string (s.extract at_ (at_ + n)), .string ⟨xv.toArray⟩, .int .i64 at_] 37)).grown hgrow (by simp [Value.ownBlock])); have f64 := hT6.frozen 4; have c64 := hT6.cell 4; obtain ⟨⟨r0, r1, r2⟩, g0, g1, g2⟩ := res_cells hR6))
      all_goals
        have hB6 : Below w.heap.size w w6 := ((HB5.out.drew.alloc (show w.heap.size ≤ V.drew.heap.size from hVz) (Obj.cells #[.string (s.extract at_ (at_ + n)), .string ⟨xv.toArray⟩, .int .i64 at_] 37)).grown hgrow (by have e0 : V.drew.heap.size = V.heap.size := rfl; simp; omega) (fun k e => by simp [Value.ownBlock] at e))
        have hown' : w6.ownsRow B 37 3 (.slice (some ⟨gg, 0, none⟩) 1 cap) 1 (attrCells x) := by
          have h := hown
          rw [HNM.out] at h
          unfold attrCells
          rw [HXV.out.1, HXV.out.2, HX.out.1]
          simpa using h
        have hE := attr_end HBt.out htl hT6 hR6 hB6 hown'
        have HE := Lib.hid hE
        clear hE hown hown' hgrow hB6 hT6 hR6 hat6 hlt6 v0 v1 v2 v4 v4a v4b fv0 fv1 fv2
        go_wp2
        refine bodyPost_ret (results_tc rfl rfl aggDiag rfl HE.out.1) rfl ?_
        exact ⟨rfl, HE.out.2⟩
end Go.Proofs.YtmhhkekokfpppaaDoor
