/- Rows of fractions; slices.SortFunc over them by rat's Cmp. -/
import Derived.Test.YtjcpfmndkeiegaaGreatDoorDtD
import Derived.Test.YtjcpfmndkeiegaaGreatDoorShelq
namespace Go.Proofs.YtjcpfmndkeiegaaGreatDoor
open Go.RowKit
set_option linter.unusedVariables false

theorem flat_at {α : Type} [Inhabited α] (f : α → List Value) (k : Nat) (hk : ∀ x, (f x).length = k) : ∀ (l : List α) (t : Nat), t < l.length * k → (l.flatMap f)[t]? = some ((f (l.toArray[t / k]!))[t % k]!)
  | [], t, h => by simp at h
  | a :: r, t, h => by
    have k0 : 0 < k := by
      rcases Nat.eq_zero_or_pos k with h0 | h0
      · rw [h0] at h; simp at h
      · exact h0
    rw [List.flatMap_cons]
    by_cases h1 : t < k
    · rw [List.getElem?_append_left (by rw [hk]; exact h1), Nat.div_eq_of_lt h1, Nat.mod_eq_of_lt h1]
      have : t < (f a).length := by rw [hk]; exact h1
      rw [List.getElem?_eq_getElem this]
      simp [this]
    · obtain ⟨u, rfl⟩ : ∃ u, t = u + k := ⟨t - k, by omega⟩
      rw [List.getElem?_append_right (by rw [hk]; omega), hk, Nat.add_sub_cancel, Nat.add_div_right _ k0, Nat.add_mod_right, flat_at f k hk r u (by rw [List.length_cons, Nat.add_mul] at h; omega)]
      simp
theorem flat_eq {α : Type} [Inhabited α] (f : α → List Value) (k : Nat) (hk : ∀ x, (f x).length = k) (l : List α) : l.flatMap f = (Go.Sort.flatK f k l.toArray).toList := by
  have hl : (l.flatMap f).length = l.length * k := by
    induction l with
    | nil => simp
    | cons a r ih => rw [List.flatMap_cons, List.length_append, ih, hk, List.length_cons, Nat.add_mul, Nat.one_mul, Nat.add_comm]
  apply List.ext_getElem?
  intro t
  by_cases h : t < l.length * k
  · rw [flat_at f k hk l t h, List.getElem?_eq_getElem (by simpa using h)]
    have := Go.Sort.get_flatK f k l.toArray t (by simpa using h)
    rw [getElem!_pos _ t (by simpa using h)] at this
    simpa using this.symm
  · rw [List.getElem?_eq_none (by omega), List.getElem?_eq_none (by simpa using h)]
/-- A fraction's three cells. -/
structure RatC where
  q : Rat
  a : Option Addr
  c : Nat
  b : Option Addr
  d : Nat
def cellsC (r : RatC) : List Value := [.bool (negQ r.q), .slice r.a (szN (numQ r.q)) r.c, .slice r.b (szN (denQ r.q)) r.d]
theorem cellsC_len (r : RatC) : (cellsC r).length = 3 := rfl
def RatIn (w : World) (r : RatC) : Prop := RdL w r.a (limbs (numQ r.q)) ∧ RdL w r.b (limbs (denQ r.q))
theorem RatIn.keep {w w' : World} {r : RatC} (h : RatIn w r) (hk : KeepT 133 w w') : RatIn w' r := ⟨h.1.keep hk, h.2.keep hk⟩
theorem RatIn.rat {w : World} {r : RatC} (h : RatIn w r) : RatAt w (.agg (cellsC r).toArray) r.q := ⟨r.a, r.c, r.b, r.d, rfl, h.1, h.2⟩
def smallQ (q : Rat) : Prop := szN (numQ q) ≤ 400000 ∧ szN q.den ≤ 400000
theorem smallQ.zero : smallQ 0 := ⟨by rw [num_zero, szN_zero]; omega, Nat.le_trans szN_one (by decide)⟩
/-- A row of fractions of the call's own. -/
def RatRow (w : World) (base : Nat) (v : Value) (qs : List Rat) : Prop := ∃ rs : List RatC, rs.map (·.q) = qs ∧ w.ownsRow base 59 3 v rs.length (rs.flatMap cellsC) ∧ ∀ r ∈ rs, RatIn w r
theorem ratLt_trans {a b c : Rat} (h1 : a < b) (h2 : b < c) : a < c := by
  rw [← Rat.not_le] at *
  exact fun h => h2 (Rat.le_trans h (Rat.le_of_lt (Rat.not_le.1 h1)))
/-- What is sorted. -/
abbrev RV (w : World) := { r : RatC // RatIn w r ∧ smallQ r.q }
instance (w : World) : Inhabited (RV w) := ⟨⟨⟨0, none, 0, none, 0⟩, ⟨by rw [num_zero, limbs_zero]; exact RdL.nil w, by rw [den_zero, limbs_zero]; exact RdL.nil w⟩, smallQ.zero⟩⟩
def encV {w : World} (x : RV w) : List Value := cellsC x.1
def cfV {w : World} (x y : RV w) : Int := cmpQ x.1.q y.1.q
theorem ltV {w : World} (x y : RV w) : Go.Proofs.ltOf cfV x y = decide (x.1.q < y.1.q) := by
  unfold Go.Proofs.ltOf cfV cmpQ
  by_cases h1 : x.1.q < y.1.q
  · simp [h1]
  · by_cases h2 : y.1.q < x.1.q <;> simp [h1, h2]
theorem swoV (w : World) : Go.Sort.SWO (Go.Proofs.ltOf (cfV (w := w))) where
  irrefl x := by rw [ltV]; simp
  trans x y z h1 h2 := by
    rw [ltV] at *
    simp only [decide_eq_true_eq] at *
    exact ratLt_trans h1 h2
  ntrans x y z h1 h2 := by
    rw [ltV] at *
    simp only [decide_eq_false_iff_not, Rat.not_lt] at *
    exact Rat.le_trans h2 h1
/-- What the sort's worlds keep. -/
theorem sortW_block {w : World} {α : Type} [Inhabited α] (enc : α → List Value) (g m : Nat) (dk : Array α) (os : Array Obj) {k : Nat} (hk : k < w.heap.size) (hne : k ≠ g) : (Go.Proofs.sortWorldK enc 3 w g 0 m dk os).heap[k]? = w.heap[k]? := by
  show ((w.heap.modify g _) ++ os)[k]? = _
  rw [Array.getElem?_append_left (by simpa using hk), Array.getElem?_modify, if_neg (Ne.symm hne)]
theorem sortW_size {w : World} {α : Type} [Inhabited α] (enc : α → List Value) (g m : Nat) (dk : Array α) (os : Array Obj) : w.heap.size ≤ (Go.Proofs.sortWorldK enc 3 w g 0 m dk os).heap.size := by
  show w.heap.size ≤ ((w.heap.modify g _) ++ os).size
  simp
theorem sortW_keep {w : World} {α : Type} [Inhabited α] (enc : α → List Value) {g m : Nat} (dk : Array α) (os : Array Obj) {cur : Array Value} (hg : BlkAt w g 59 cur) : KeepT 133 w (Go.Proofs.sortWorldK enc 3 w g 0 m dk os) := fun k c hc => by
  have hne : k ≠ g := fun e => by
    subst e
    rw [show w.heap[k]? = _ from hg] at hc
    cases hc
  rw [sortW_block enc g m dk os (Array.getElem?_eq_some_iff.1 hc).1 hne]
  exact hc
set_option maxRecDepth 20000 in
theorem enters_cmp : ∀ args w, (callFunc 104 args).run Tryz.prog w = .ok (.enter 104 args) w := enters_of Tryz.func104 (by kernel_rfl) rfl
theorem cmpLays_rat {w : World} {g n : Nat} {cur : Array Value} (hg : BlkAt w g 59 cur) : CmpLays Tryz.prog 104 #[] (encV (w := w)) 3 (cfV (w := w)) g 0 n w := fun m os dk hs x y => by
  have hk := sortW_keep (encV (w := w)) (m := m) dk os hg
  obtain ⟨W, hW⟩ : ∃ W, Go.Proofs.sortWorldK (encV (w := w)) 3 w g 0 m dk os = W := ⟨_, rfl⟩
  rw [hW] at hk ⊢
  have h := D.ratCmp_any (w := W) (D.RatAt.plain (x.2.1.keep hk).rat) (D.RatAt.plain (y.2.1.keep hk).rat) (Nat.le_trans x.2.2.1 (by decide)) (Nat.le_trans x.2.2.2 (by decide)) (Nat.le_trans y.2.2.1 (by decide)) (Nat.le_trans y.2.2.2 (by decide))
  refine h.mono ?_
  rintro e w' ⟨rfl, hB⟩
  obtain ⟨p, rfl⟩ := D.lift_of hB
  exact ⟨rfl, p.d, p.os, rfl⟩
/-- Elements with what is known of them. -/
def attach (w : World) (rs : List RatC) (h : ∀ r ∈ rs, RatIn w r ∧ smallQ r.q) : List (RV w) := rs.pmap (fun r hr => ⟨r, hr⟩) h
theorem attach_map (w : World) (rs : List RatC) (h : ∀ r ∈ rs, RatIn w r ∧ smallQ r.q) : (attach w rs h).map (·.1) = rs := by
  unfold attach
  rw [List.map_pmap]
  simp
theorem attach_len (w : World) (rs : List RatC) (h : ∀ r ∈ rs, RatIn w r ∧ smallQ r.q) : (attach w rs h).length = rs.length := by
  unfold attach; simp
theorem attach_flat (w : World) (rs : List RatC) (h : ∀ r ∈ rs, RatIn w r ∧ smallQ r.q) : (attach w rs h).flatMap encV = rs.flatMap cellsC := by
  conv => rhs; rw [← attach_map w rs h]
  rw [List.flatMap_map]
  rfl
/-- Sorted: no later one is less than an earlier one. -/
def SortedQ (qs : List Rat) : Prop := ∀ i j, i < j → j < qs.length → ¬ qs.getD j 0 < qs.getD i 0
set_option maxHeartbeats 4000000 in
theorem sortRats_any {w : World} {base : Nat} {v : Value} {qs : List Rat} (h : RatRow w base v qs) (hs : ∀ q ∈ qs, smallQ q) (hn : 0 < qs.length) (hl : qs.length ≤ 1000000) :
    Calls Tryz.prog 121 #[v, .func (.func 104) #[] #[]] w fun e w' => e = .returned (.tuple #[]) ∧ ∃ qs', qs'.Perm qs ∧ SortedQ qs' ∧ RatRow w' base v qs' ∧ Below base w w' := by
  obtain ⟨rs, rfl, ho, hin⟩ := h
  rw [List.length_map] at hn hl
  rcases ho.2 with ⟨_, h0⟩ | ⟨g, cap, cur, rfl, hb, hg, h1, h2, h3, h4⟩
  · omega
  have hG : BlkAt w g 59 cur := hg
  have hall : ∀ r ∈ rs, RatIn w r ∧ smallQ r.q := fun r hr => ⟨hin r hr, hs _ (List.mem_map_of_mem hr)⟩
  obtain ⟨d, hd⟩ : ∃ d, (attach w rs hall).toArray = d := ⟨_, rfl⟩
  have hds : d.size = rs.length := by rw [← hd]; simp [attach_len]
  have hfl : (Go.Sort.flatK encV 3 d).toList = cur.toList.take (rs.length * 3) := by
    rw [h4, ← hd, ← flat_eq encV 3 (fun x => rfl), attach_flat]
  have hH : Go.Sort.HoldsK encV 3 w g 0 d := by
    intro j hj
    rw [Go.Sort.size_flatK, hds] at hj
    refine ⟨?_, hG.frozen _⟩
    rw [hG.cell, Nat.zero_add]
    have hjl : j < (Go.Sort.flatK encV 3 d).size := by rw [Go.Sort.size_flatK, hds]; exact hj
    have e1 : (Go.Sort.flatK encV 3 d).toList[j]? = some (Go.Sort.flatK encV 3 d)[j]! := by
      rw [getElem!_pos _ j hjl]; simp
    rw [hfl, List.getElem?_take_of_lt hj] at e1
    simpa using e1
  have hc := AnyQ.slices_SortFunc Tryz.sortRat 3 (fun w => by kernel_rfl) (fun w => by kernel_rfl) (encV (w := w)) (fun x => rfl) (fun x v hv => by
    simp only [encV, cellsC, List.mem_cons, List.not_mem_nil, or_false] at hv
    rcases hv with rfl | rfl | rfl <;> rfl) cfV (swoV w) 104 #[] g 0 cap d w enters_cmp (cmpLays_rat hG) hH hG.lt (by omega)
  change Calls Tryz.prog 121 _ _ _ at hc
  rw [hds] at hc
  refine hc.mono ?_
  rintro e w' ⟨rfl, d', n, os, hp, hso, rfl⟩
  have hds' : d'.size = d.size := hp.1
  have hperm : d'.toList.Perm d.toList := by
    have := hp.2.2
    rw [Array.extract_eq_self_of_le (by omega), Array.extract_eq_self_of_le (by omega)] at this
    exact this
  refine ⟨rfl, d'.toList.map (·.1.q), ?_, ?_, ?_, ?_⟩
  · have hm := hperm.map (fun x : RV w => x.1.q)
    rw [← hd] at hm
    rw [show ((attach w rs hall).toArray.toList.map fun x : RV w => x.1.q) = rs.map (·.q) by
      conv => rhs; rw [← attach_map w rs hall]
      simp] at hm
    exact hm
  · intro i j hij hj
    rw [List.length_map, Array.length_toList] at hj
    have := hso i j (Nat.zero_le _) hij (by omega)
    rw [ltV] at this
    have h5 := of_decide_eq_false this
    rw [getElem!_pos d' j hj, getElem!_pos d' i (by omega)] at h5
    simpa [List.getD, hj, show i < d'.size by omega] using h5
  · have hk := sortW_keep (encV (w := w)) (m := n) d' os hG
    obtain ⟨cur', hcur⟩ : ∃ cur', Go.Sort.putCells id 0 (Go.Sort.flatK encV 3 d') cur = cur' := ⟨_, rfl⟩
    have hheap : (Go.Proofs.sortWorldK encV 3 w g 0 n d' os).heap[g]? = some (.cells cur' 59 (0, 0)) := by
      show ((w.heap.modify g (Go.Sort.onCells (Go.Sort.putCells id 0 (Go.Sort.flatK encV 3 d')))) ++ os)[g]? = _
      rw [Array.getElem?_append_left (by simpa using hG.lt), Array.getElem?_modify, if_pos rfl, hg, ← hcur]
      rfl
    have hsz : cur'.size = cur.size := by rw [← hcur]; simp [Go.Sort.putCells]
    have hln : (d'.toList.map (·.1)).length = rs.length := by rw [List.length_map, Array.length_toList, hds', hds]
    refine ⟨d'.toList.map (·.1), by simp, ⟨?_, .inr ⟨g, cap, cur', ?_, hb, hheap, ?_, h2, by rw [hsz]; exact h3, ?_⟩⟩, ?_⟩
    · rw [show (d'.toList.map (·.1)).flatMap cellsC = d'.toList.flatMap encV by rw [List.flatMap_map]; rfl, flat_eq encV 3 (fun x => rfl)]
      simp
    · rw [hln]
    · rw [hln]; exact h1
    · rw [show (d'.toList.map (·.1)).flatMap cellsC = d'.toList.flatMap encV by rw [List.flatMap_map]; rfl, flat_eq encV 3 (fun x => rfl), hln]
      have hfs : (Go.Sort.flatK encV 3 d'.toList.toArray).size = rs.length * 3 := by rw [Go.Sort.size_flatK]; simp; omega
      apply List.ext_getElem?
      intro j
      by_cases hj : j < rs.length * 3
      · rw [List.getElem?_take_of_lt hj]
        have hj2 : j < cur.size := by rw [h3]; exact Nat.lt_of_lt_of_le hj (Nat.mul_le_mul_right _ h1)
        rw [← hcur]
        have hjf : j < (Go.Sort.flatK encV 3 d').size := by simpa using (show j < (Go.Sort.flatK encV 3 d'.toList.toArray).size by omega)
        rw [Array.getElem?_toList, Array.getElem?_toList]
        simp only [Go.Sort.putCells, Array.getElem?_mapIdx, Array.getElem?_eq_getElem hj2, Option.map_some, Nat.zero_le, Nat.zero_add, Nat.sub_zero, hjf, and_self, if_true, id]
        rw [getElem!_pos _ j hjf, Array.getElem?_eq_getElem (by simpa using hjf)]
      · rw [List.getElem?_eq_none (by simp; omega), List.getElem?_eq_none (by rw [Array.length_toList, hfs]; omega)]
    · intro r hr
      obtain ⟨x, -, rfl⟩ := List.mem_map.1 hr
      exact x.2.1.keep hk
  · exact ⟨rfl, rfl, rfl, sortW_size _ _ _ _ _, fun k hk => by
      by_cases hkl : k < w.heap.size
      · exact sortW_block _ g n d' os hkl (by omega)
      · have := hG.lt; omega⟩
end Go.Proofs.YtjcpfmndkeiegaaGreatDoor
