/- A book of lists as it lies; one more list. -/
import Derived.Test.YtgdnibdahldekabDoorBkA
namespace Go.Proofs.YtgdnibdahldekabDoor
open Go.RowKit
set_option linter.unusedVariables false

theorem infoDD : (Tryd.prog.info? 22).map (fun i => (i.zero, i.size, i.bytes)) = some (some (.slice none 0 0), 1, 24) := by kernel_rfl
set_option maxRecDepth 100000 in
theorem slDD : SlT Tryd.prog 47 22 1 24 := SlT.mk Tryd.underlying47 (z := .slice none 0 0) (by kernel_rfl) rfl (by decide) (by decide)
abbrev nilV : Value := .slice none 0 0
abbrev bookCells (V U : Value) : Array Value := #[nilV, nilV, nilV, nilV, nilV, nilV, V, U, nilV, nilV, nilV, nilV]
theorem own_at {W : World} {base size n : Nat} {e : TypeId} {v : Value} {xs : List Value} {g : Nat} (h : W.ownsRow base e size v n xs) (hg : v.ownBlock = some g) : ∃ cur, W.heap[g]? = some (.cells cur e (0, 0)) ∧ base ≤ g := by
  rcases h.2 with ⟨rfl, _⟩ | ⟨g', cap, cur, rfl, hb, hg', _⟩
  · cases hg
  · obtain rfl : g' = g := Option.some.inj hg
    exact ⟨cur, hg', hb⟩
/-- Rows of elements of different types lie apart. -/
theorem own_ne {W : World} {base size n base' size' n' : Nat} {e e' : TypeId} {v v' : Value} {xs xs' : List Value} (h : W.ownsRow base e size v n xs) (h' : W.ownsRow base' e' size' v' n' xs') (he : e ≠ e') {g : Nat} (hg : v.ownBlock = some g) : v'.ownBlock ≠ some g := fun hg' => by
  obtain ⟨c1, k1, _⟩ := own_at h hg
  obtain ⟨c2, k2, _⟩ := own_at h' hg'
  rw [k1] at k2
  cases k2
  exact he rfl
theorem blk_ne {W : World} {base size n B : Nat} {e t : TypeId} {v : Value} {xs : List Value} {cs : Array Value} (h : W.ownsRow base e size v n xs) (hB : BlkAt W B t cs) (he : e ≠ t) : v.ownBlock ≠ some B := fun hg => by
  obtain ⟨c1, k1, _⟩ := own_at h hg
  rw [show W.heap[B]? = _ from hB] at k1
  cases k1
  exact he rfl
/-- A book of m lists. -/
structure BookIs (W : World) (base B m : Nat) (vs us : Nat → Value) (ls : Nat → List Di) (V U : Value) : Prop where
  hB : base ≤ B
  blk : BlkAt W B 51 (bookCells V U)
  ownV : W.ownsRow base 22 1 V m ((List.range m).map vs)
  ownU : W.ownsRow base 22 1 U m ((List.range m).map us)
  len : ∀ i, i < m → (ls i).length ≤ 500
  rows : ∀ i, i < m → W.ownsRow base 31 3 (vs i) (ls i).length ((ls i).flatMap diCells)
  rowsU : ∀ i, i < m → W.ownsRow base 31 3 (us i) (ls i).length ((ls i).flatMap diCells)
  sVU : ∀ g, V.ownBlock = some g → U.ownBlock ≠ some g
  sR : ∀ i j, i < m → j < m → i ≠ j → ∀ g, (vs i).ownBlock = some g → (vs j).ownBlock ≠ some g
/-- All blocks but those of a book stay. -/
def KeepsT (W W' : World) : Prop := ∀ (k : Nat) (cur : Array Value) (t : TypeId), W.heap[k]? = some (.cells cur t (0, 0)) → t ≠ 22 → t ≠ 51 → W'.heap[k]? = some (.cells cur t (0, 0))
theorem KeepsT.refl (W : World) : KeepsT W W := fun _ _ _ h _ _ => h
theorem KeepsT.trans {a b c : World} (h : KeepsT a b) (k : KeepsT b c) : KeepsT a c := fun i cur t h1 h2 h3 => k i cur t (h i cur t h1 h2 h3) h2 h3
theorem KeepsT.of_below {a b : World} (h : Below a.heap.size a b) : KeepsT a b := fun i cur t h1 h2 h3 => (h.block i (Array.getElem?_eq_some_iff.1 h1).1).trans h1
theorem KeepsT.owns {W W' : World} (h : KeepsT W W') {base n : Nat} {v : Value} {xs : List Value} (ho : W.ownsRow base 31 3 v n xs) : W'.ownsRow base 31 3 v n xs := by
  refine ⟨ho.1, ?_⟩
  rcases ho.2 with h0 | ⟨g, cap, cur, hv, hb, hg, hr⟩
  · exact .inl h0
  · exact .inr ⟨g, cap, cur, hv, hb, h g cur _ hg (by decide) (by decide), hr⟩
theorem KeepsT.blk {W W' : World} (h : KeepsT W W') {g : Nat} {t : TypeId} {cs : Array Value} (hb : BlkAt W g t cs) (h1 : t ≠ 22) (h2 : t ≠ 51) : BlkAt W' g t cs := h g cs t hb h1 h2
theorem owns_gb {W W' : World} {base size n : Nat} {e : TypeId} {v : Value} {xs : List Value} {row : Option Nat} (ho : W.ownsRow base e size v n xs) (h : W.grownBy W' row) (hne : ∀ g, v.ownBlock = some g → row ≠ some g) : W'.ownsRow base e size v n xs := by
  refine ⟨ho.1, ?_⟩
  rcases ho.2 with h0 | ⟨g, cap, cur, hv, hb, hg, hr⟩
  · exact .inl h0
  · refine .inr ⟨g, cap, cur, hv, hb, ?_, hr⟩
    rw [h.block g (Array.getElem?_eq_some_iff.1 hg).1 (fun e => hne g (by rw [hv]; rfl) e.symm)]
    exact hg
theorem keepsT_gb {W W' : World} {v : Value} {base n : Nat} {xs : List Value} (ho : W.ownsRow base 22 1 v n xs) (h : W.grownBy W' v.ownBlock) : KeepsT W W' := fun k cur t h1 h2 h3 => by
  rw [h.block k (Array.getElem?_eq_some_iff.1 h1).1 (fun e => ?_)]
  · exact h1
  · obtain ⟨c, hc, _⟩ := own_at ho e.symm
    rw [h1] at hc
    cases hc
    exact h2 rfl
theorem keepsT_set {W : World} {B : Nat} {cs : Array Value} (h : BlkAt W B 51 cs) (j : Nat) (u : Value) : KeepsT W (W.setCell ⟨B, j, none⟩ u) := fun k cur t h1 h2 h3 => by
  have hne : k ≠ B := fun e => by
    subst e
    rw [show W.heap[k]? = _ from h] at h1
    cases h1
    exact h3 rfl
  exact (Below.heap_setCell W ⟨B, j, none⟩ u k hne).trans h1
theorem setCell_gb (W : World) (B j : Nat) (u : Value) : W.grownBy (W.setCell ⟨B, j, none⟩ u) (some B) :=
  ⟨rfl, rfl, rfl, by rw [World.size_setCell]; exact Nat.le_refl _, fun k _ hne => Below.heap_setCell W ⟨B, j, none⟩ u k (fun e => hne (by rw [e]))⟩

/-- One more list on one side. -/
theorem range_ext (m : Nat) (vs : Nat → Value) (v : Value) : (List.range m).map vs ++ [v] = (List.range (m + 1)).map (fun i => if i = m then v else vs i) := by
  rw [List.range_succ, List.map_append]
  congr 1
  · apply List.map_congr_left
    intro i hi
    rw [if_neg (by have := List.mem_range.1 hi; omega)]
  · simp
/-- What one more list comes to. -/
def DiagsR (w : World) (base B m : Nat) (vs us : Nat → Value) (ls : Nat → List Di) (v : Value) (ds : List Di) (e : Ending) (W' : World) : Prop :=
  (∃ x, e = .returned x) ∧ ∃ u V' U', BookIs W' base B (m + 1) (fun i => if i = m then v else vs i) (fun i => if i = m then u else us i) (fun i => if i = m then ds else ls i) V' U' ∧ KeepsT w W' ∧ Below base w W'
/-- Behind the second append. -/
theorem diags_end {base B m n : Nat} {vs us : Nat → Value} {ls : Nat → List Di} {w w2 w3 w4 : World} {V' U v u : Value} {gg cap : Nat} {V0 U0 : Value} {ds : List Di} (hl : ds.length = n) (hn : n ≤ 500)
    (h : BookIs w base B m vs us ls V0 U0) (ho : w.ownsRow base 31 3 v n (ds.flatMap diCells)) (hs : ∀ i, i < m → ∀ g, (vs i).ownBlock = some g → v.ownBlock ≠ some g)
    (hBlk2 : BlkAt w2 B 51 (bookCells V' U)) (hU2 : w2.ownsRow base 22 1 U m ((List.range m).map us)) (hV2 : w2.ownsRow base 22 1 V' (m + 1) ((List.range (m + 1)).map fun i => if i = m then v else vs i))
    (hKT2 : KeepsT w w2) (hBe2 : Below base w w2) (hsz2 : base ≤ w2.heap.size) (hsV2 : ∀ g, V'.ownBlock = some g → U.ownBlock ≠ some g)
    (hu : w3.ownsRow w2.drew.heap.size 31 3 u n (ds.flatMap diCells)) (hB3 : Below w2.drew.heap.size w2.drew w3)
    (hown4 : w4.ownsRow base 22 1 (.slice (some ⟨gg, 0, none⟩) (m + 1) cap) (m + 1) ((List.range m).map us ++ [u])) (hgrow : (w3.alloc (.cells #[u] 22)).grownBy w4 U.ownBlock) (hat : U.ownBlock = some gg ∨ gg = w3.heap.size + 1) :
    DiagsR w base B m vs us ls v ds (.returned (.tuple #[])) (w4.setCell ⟨B, 7, none⟩ (.slice (some ⟨gg, 0, none⟩) (m + 1) cap)) := by
  have hUB2 := blk_ne hU2 hBlk2 (by decide)
  have hB3' : Below w2.heap.size w2 w3 := ⟨hB3.os, hB3.tape, hB3.output, hB3.size, hB3.block⟩
  have hBa : Below w2.heap.size w2 (w3.alloc (.cells #[u] 22)) := hB3'.alloc hB3'.size _
  have hza : w2.heap.size ≤ (w3.alloc (.cells #[u] 22)).heap.size := hBa.size
  have hBlka := hBlk2.below hBa hBlk2.lt
  have hBlk4 := hBlka.grown hgrow (fun e => hUB2 e.symm)
  have hUa := rowKept hU2 hBa
  have hKT4 : KeepsT w2 w4 := (KeepsT.of_below hBa).trans (keepsT_gb hUa hgrow)
  have hKT5 : KeepsT w (w4.setCell ⟨B, 7, none⟩ (.slice (some ⟨gg, 0, none⟩) (m + 1) cap)) := (hKT2.trans hKT4).trans (keepsT_set hBlk4 7 _)
  have hBe5 : Below base w (w4.setCell ⟨B, 7, none⟩ (.slice (some ⟨gg, 0, none⟩) (m + 1) cap)) := ((hBe2.trans (hBa.mono hsz2)).grown hgrow (Nat.le_trans hsz2 hza) (fun j e => ((own_at hUa e).choose_spec).2)).setCell h.hB _
  have hVB2 := blk_ne hV2 hBlk2 (by decide)
  have hU4B : (Value.slice (some ⟨gg, 0, none⟩) (m + 1) cap).ownBlock ≠ some B := blk_ne hown4 hBlk4 (by decide)
  refine ⟨⟨_, rfl⟩, u, V', _, ⟨h.hB, hBlk4.set 7 _, ?_, ?_, ?_, ?_, ?_, ?_, ?_⟩, hKT5, hBe5⟩
  · exact owns_gb (owns_gb (rowKept hV2 hBa) hgrow (fun g h1 h2 => hsV2 g h1 h2)) (setCell_gb w4 B 7 _) (fun g h1 e => hVB2 (by rw [h1, ← e]))
  · rw [← range_ext]
    exact owns_gb hown4 (setCell_gb w4 B 7 _) (fun g h1 e => hU4B (by rw [h1, ← e]))
  · intro i hi
    by_cases e : i = m
    · simp only [if_pos e]; omega
    · simp only [if_neg e]; exact h.len i (by omega)
  · intro i hi
    by_cases e : i = m
    · simp only [if_pos e]
      rw [hl]
      exact hKT5.owns ho
    · simp only [if_neg e]
      exact hKT5.owns (h.rows i (by omega))
  · intro i hi
    by_cases e : i = m
    · simp only [if_pos e]
      rw [hl]
      have h1 : w4.ownsRow base 31 3 u n (ds.flatMap diCells) := ownsRow_mono (((KeepsT.of_below ((Below.refl _ w3).alloc (Nat.le_refl _) (.cells #[u] 22))).trans (keepsT_gb hUa hgrow)).owns hu) hsz2
      exact (keepsT_set hBlk4 7 _).owns h1
    · simp only [if_neg e]
      exact hKT5.owns (h.rowsU i (by omega))
  · intro g h1 h2
    rcases hat with h3 | h3
    · exact hsV2 g h1 (by rw [h3]; exact h2)
    · obtain ⟨c, hc, _⟩ := own_at hV2 h1
      have hlt := (Array.getElem?_eq_some_iff.1 hc).1
      have e : gg = g := Option.some.inj h2
      have := hB3'.size
      omega
  · intro i j hi hj hij g h1 h2
    by_cases ei : i = m
    · have ej : ¬ j = m := by omega
      simp only [if_pos ei] at h1
      simp only [if_neg ej] at h2
      exact hs j (by omega) g h2 h1
    · simp only [if_neg ei] at h1
      by_cases ej : j = m
      · simp only [if_pos ej] at h2
        exact hs i (by omega) g h1 h2
      · simp only [if_neg ej] at h2
        exact h.sR i j (by omega) (by omega) hij g h1 h2
set_option maxRecDepth 100000 in
set_option maxHeartbeats 4000000 in
theorem diags_any (base B m n : Nat) (vs us : Nat → Value) (ls : Nat → List Di) (V U v : Value) (ds : List Di) (hl : ds.length = n) (hn : n ≤ 500) (hm : m ≤ 100) (w : World) (h : BookIs w base B m vs us ls V U) (hbs : base ≤ w.heap.size)
    (ho : w.ownsRow base 31 3 v n (ds.flatMap diCells)) (hs : ∀ i, i < m → ∀ g, (vs i).ownBlock = some g → v.ownBlock ≠ some g) :
    Calls Tryd.prog 18 #[.pointer (some ⟨B, 0, none⟩), v] w fun e W' => DiagsR w base B m vs us ls v ds e W' := by
  obtain ⟨va, vc, rfl⟩ := ownsRow_slice' ho
  obtain ⟨Va, Vc, rfl⟩ := ownsRow_slice' h.ownV
  obtain ⟨Ua, Uc, rfl⟩ := ownsRow_slice' h.ownU
  have c6 : w.cell? ⟨B, 6, none⟩ = some (.slice Va m Vc) := (h.blk.cell 6).trans rfl
  have HB := Lib.hid h
  have HO := Lib.hid ho
  have HS := Lib.hid hs
  have HL := Lib.hid hl
  have hVB := blk_ne h.ownV h.blk (by decide)
  have HVB := Lib.hid hVB
  have hUB := blk_ne h.ownU h.blk (by decide)
  have HUB := Lib.hid hUB
  clear h ho hs hl hVB hUB
  have hmz : (m : Int) < 250 := by omega
  go_enter Tryd.func18, Tryd.ntmps18
  go_wp2_with (at_builtin; refine wpList_app_kept _ rfl _ _ _ _ _ _ slDD rfl base (by simp; omega) (.slice Va m Vc) m _ rfl (HB.out.ownV.alloc _) ⟨w.heap.size, 0, none⟩ 1 1 [.slice va n vc] rfl rfl (cell_one_new _ _ _) ?c1 ?c2 ?_)
  case c1 => intro u hu; simp at hu; subst hu; rfl
  case c2 => omega
  intro V' w1 hV1 hG1 hat1 hK1
  obtain ⟨Va', Vc', rfl⟩ := ownsRow_slice' hV1
  have hBlk1 := (HB.out.blk.alloc (.cells #[.slice va n vc] 22)).grown hG1 (fun e => HVB.out e.symm)
  have b6 : w1.cell? ⟨B, 6, none⟩ = some (.slice Va m Vc) := (hBlk1.cell 6).trans rfl
  have f6 := hBlk1.frozen 6
  -- the world behind the first store
  have hBlk2 : BlkAt (w1.setCell ⟨B, 6, none⟩ (.slice Va' (m + 1) Vc')) B 51 (bookCells (.slice Va' (m + 1) Vc') (.slice Ua m Uc)) := hBlk1.set 6 _
  have hA : w.grownBy (w.alloc (.cells #[.slice va n vc] 22)) none := grown_none ((Below.refl _ w).alloc (Nat.le_refl _) _)
  have hUne : ∀ g, (Value.slice Ua m Uc).ownBlock = some g → (Value.slice Va m Vc).ownBlock ≠ some g := fun g h1 h2 => HB.out.sVU g h2 h1
  have hU2 : (w1.setCell ⟨B, 6, none⟩ (.slice Va' (m + 1) Vc')).ownsRow base 22 1 (.slice Ua m Uc) m ((List.range m).map us) :=
    owns_gb (owns_gb (HB.out.ownU.alloc _) hG1 (fun g h1 h2 => hUne g h1 h2)) (setCell_gb w1 B 6 _) (fun g h1 e => HUB.out (by rw [h1, ← e]))
  have hVB1 : (Value.slice Va' (m + 1) Vc').ownBlock ≠ some B := blk_ne hV1 hBlk1 (by decide)
  have hV2 : (w1.setCell ⟨B, 6, none⟩ (.slice Va' (m + 1) Vc')).ownsRow base 22 1 (.slice Va' (m + 1) Vc') (m + 1) ((List.range (m + 1)).map fun i => if i = m then .slice va n vc else vs i) := by
    rw [← range_ext]
    exact owns_gb hV1 (setCell_gb w1 B 6 _) (fun g h1 e => hVB1 (by rw [h1, ← e]))
  have hKT2 : KeepsT w (w1.setCell ⟨B, 6, none⟩ (.slice Va' (m + 1) Vc')) := ((KeepsT.of_below ((Below.refl _ w).alloc (Nat.le_refl _) _)).trans (keepsT_gb (HB.out.ownV.alloc _) hG1)).trans (keepsT_set hBlk1 6 _)
  have hBe2 : Below base w (w1.setCell ⟨B, 6, none⟩ (.slice Va' (m + 1) Vc')) := ((((Below.refl base w).alloc hbs _)).grown hG1 (by simp; omega) (fun j e => ((own_at HB.out.ownV e).choose_spec).2)).setCell HB.out.hB _
  have hsz2 : base ≤ (w1.setCell ⟨B, 6, none⟩ (.slice Va' (m + 1) Vc')).heap.size := by
    rw [World.size_setCell]
    have := hG1.size
    simp at this
    omega
  have hsV2 : ∀ g, (Value.slice Va' (m + 1) Vc').ownBlock = some g → (Value.slice Ua m Uc).ownBlock ≠ some g := fun g h1 h2 => by
    rcases hat1 with h3 | h3
    · exact HB.out.sVU g (by rw [← h3]; exact h1) h2
    · obtain ⟨c, hc, _⟩ := own_at HB.out.ownU h2
      have hlt := (Array.getElem?_eq_some_iff.1 hc).1
      rw [h3] at h1
      cases h1
      have hz : (w.alloc (.cells #[.slice va n vc] 22)).heap.size = w.heap.size + 1 := by simp
      omega
  have HH := Lib.hid (And.intro hBlk2 (And.intro hU2 (And.intro hV2 (And.intro hKT2 (And.intro hBe2 (And.intro hsz2 hsV2))))))
  clear hBlk2 hU2 hV2 hKT2 hBe2 hsz2 hsV2 hVB1 hUne hA hBlk1 hV1 hG1 hat1 hK1
  go_wp2_with fail
  obtain ⟨hBlk2, hU2, hV2, hKT2, hBe2, hsz2, hsV2⟩ := HH.out
  clear HH b6 f6 c6
  generalize w1.setCell ⟨B, 6, none⟩ (.slice Va' (m + 1) Vc') = w2 at *
  have HC := Lib.hid (copy_any base n (.slice va n vc) ds HL.out (by omega) w2.drew (hKT2.owns HO.out))
  have b7 : w2.cell? ⟨B, 7, none⟩ = some (.slice Ua m Uc) := (hBlk2.cell 7).trans rfl
  obtain ⟨i0, hi0, hz0, hz1, hz2⟩ := info_parts infoDD
  have HD := Lib.hid (And.intro hBlk2 (And.intro hU2 (And.intro hV2 (And.intro hKT2 (And.intro hBe2 (And.intro hsz2 hsV2))))))
  have HUne := Lib.hid (blk_ne hU2 hBlk2 (by decide))
  clear hV2 hKT2 hBe2 hsV2
  have HBl := Lib.hid hBlk2
  have HU2 := Lib.hid hU2
  clear hBlk2 hU2
  go_region_law (first
    | (go_simp; go_at_call 27; refine HC.out.mono ?_; rintro e w3 ⟨u, rfl, hu, hB3⟩; obtain ⟨ua, uc, rfl⟩ := ownsRow_slice' hu; have c7 : w3.cell? ⟨B, 7, none⟩ = some (.slice Ua m Uc) := (hB3.cell (p := ⟨B, 7, none⟩) HBl.out.lt).trans b7; have c7a : (w3.alloc (Obj.cells #[.slice ua n uc] 22)).cell? ⟨B, 7, none⟩ = some (.slice Ua m Uc) := (((Below.refl _ w3).alloc (Nat.le_refl _) (Obj.cells #[.slice ua n uc] 22)).cell (p := ⟨B, 7, none⟩) (Nat.lt_of_lt_of_le HBl.out.lt hB3.size)).trans c7)
    | (refine step_append_lies _ (by rfl) _ _ _ (by rfl) base 22 i0 _ 1 24 Tryd.underlying47 hi0 hz0 hz1 hz2 rfl (by omega) (.slice Ua m Uc) m _ (by rfl) ((rowKept HU2.out.drew hB3).alloc _)
        ⟨w3.heap.size, 0, none⟩ 1 1 [.slice ua n uc] (by rfl) (by rfl) (World.news_of_block (cs := #[.slice ua n uc]) (t := 22) (fr := (0, 0)) (heap_alloc_new w3 _)) (by simp [Value.oneCell'])
        (by omega) (by unfold maxLen; omega) (by omega) (by have := hB3.size; have e0 : w2.drew.heap.size = w2.heap.size := rfl; simp; omega) (w3.heap.size + 1) (by simp) ?_; intro gg cap w4 hown4 hgrow hat hlt4; have hB4 := (((HBl.out.drew.below hB3 HBl.out.lt).alloc (Obj.cells #[.slice ua n uc] 22)).grown hgrow (fun e => HUne.out e.symm)); have d7 : w4.cell? ⟨B, 7, none⟩ = some (.slice Ua m Uc) := (hB4.cell 7).trans rfl; have f7 := hB4.frozen 7))
  all_goals
    have HF := Lib.hid (diags_end HL.out hn HB.out HO.out HS.out HD.out.1 HD.out.2.1 HD.out.2.2.1 HD.out.2.2.2.1 HD.out.2.2.2.2.1 HD.out.2.2.2.2.2.1 HD.out.2.2.2.2.2.2 hu hB3 hown4 hgrow hat)
    go_wp2
    go_end0
    exact HF.out
end Go.Proofs.YtgdnibdahldekabDoor
