/- Words for memory, once more, where draws are told too; the walks of package nat's small functions. The walks of nat's at, Cmp, where draws are told too. The walk of nat.Mul, where draws are told too. -/
import Derived.Test.YtjcpfmndkeiegaaGreatDoorRtFH
namespace Go.Proofs.YtjcpfmndkeiegaaGreatDoor.D
open Go.RowKit
set_option linter.unusedVariables false

/-- Below block number B the world w' is as w was; the streams are as they were; no block has gone; and draws only come. -/
structure Below (B : Nat) (w w' : World) : Prop where
  os : w'.os = w.os
  tape : w'.tape = w.tape
  output : w'.output = w.output
  size : w.heap.size ≤ w'.heap.size
  block : ∀ k, k < B → w'.heap[k]? = w.heap[k]?
  drawn : w.drawn ≤ w'.drawn
theorem Below.refl (B : Nat) (w : World) : Below B w w := ⟨rfl, rfl, rfl, Nat.le_refl _, fun _ _ => rfl, Nat.le_refl _⟩
theorem Below.trans {B : Nat} {a b c : World} (h : Below B a b) (k : Below B b c) : Below B a c :=
  ⟨k.os.trans h.os, k.tape.trans h.tape, k.output.trans h.output, Nat.le_trans h.size k.size, fun i hi => (k.block i hi).trans (h.block i hi), Nat.le_trans h.drawn k.drawn⟩
theorem Below.mono {B B' : Nat} {w w' : World} (h : Below B w w') (hB : B' ≤ B) : Below B' w w' := ⟨h.os, h.tape, h.output, h.size, fun k hk => h.block k (Nat.lt_of_lt_of_le hk hB), h.drawn⟩
theorem Below.drew {B : Nat} {a w : World} (h : Below B a w) : Below B a w.drew := ⟨h.os, h.tape, h.output, h.size, h.block, Nat.le_trans h.drawn (Nat.le_succ _)⟩
theorem Below.heap_alloc (w : World) (o : Obj) (k : Nat) (h : k < w.heap.size) : (w.alloc o).heap[k]? = w.heap[k]? := Go.RowKit.Below.heap_alloc w o k h
theorem Below.heap_setCell (w : World) (a : Addr) (u : Value) (k : Nat) (h : k ≠ a.block) : (w.setCell a u).heap[k]? = w.heap[k]? := Go.RowKit.Below.heap_setCell w a u k h
theorem Below.alloc {B : Nat} {a w : World} (h : Below B a w) (hB : B ≤ w.heap.size) (o : Obj) : Below B a (w.alloc o) :=
  h.trans ⟨rfl, rfl, rfl, by simp, fun k hk => Below.heap_alloc _ _ _ (by omega), Nat.le_refl _⟩
theorem Below.setCell {B : Nat} {a w : World} (h : Below B a w) {p : Addr} (hp : B ≤ p.block) (u : Value) : Below B a (w.setCell p u) :=
  h.trans ⟨rfl, rfl, rfl, by simp [World.setCell], fun k hk => Below.heap_setCell _ _ _ _ (by omega), Nat.le_refl _⟩
theorem Below.cell {B : Nat} {w w' : World} (h : Below B w w') {p : Addr} (hp : p.block < B) : w'.cell? p = w.cell? p := World.cell?_of_block (w := w) (h.block p.block hp)
theorem Below.frozen {B : Nat} {w w' : World} (h : Below B w w') {p : Addr} (hp : p.block < B) : w'.frozen? p = w.frozen? p := World.frozen?_of_block (w := w) (h.block p.block hp)
theorem Below.plain {B : Nat} {w w' : World} (h : Below B w w') : Go.RowKit.Below B w w' := ⟨h.os, h.tape, h.output, h.size, h.block⟩
/-- Block g is just the cells cs of type t, none frozen. -/
def BlkAt (w : World) (g : Nat) (t : TypeId) (cs : Array Value) : Prop := w.heap[g]? = some (.cells cs t (0, 0))
section
variable {w w' : World} {g : Nat} {t : TypeId} {cs : Array Value}
theorem BlkAt.lt (h : BlkAt w g t cs) : g < w.heap.size := (Array.getElem?_eq_some_iff.1 h).1
theorem BlkAt.cell (h : BlkAt w g t cs) (i : Nat) : w.cell? ⟨g, i, none⟩ = cs[i]? := cell_of_row w g i cs t (0, 0) h
theorem BlkAt.frozen (h : BlkAt w g t cs) (i : Nat) : w.frozen? ⟨g, i, none⟩ = false := by simp [World.frozen?, show w.heap[g]? = _ from h]
theorem BlkAt.new (w : World) (t : TypeId) (cs : Array Value) : BlkAt (w.alloc (.cells cs t)) w.heap.size t cs := heap_alloc_new w _
theorem BlkAt.drew (h : BlkAt w g t cs) : BlkAt w.drew g t cs := h
theorem BlkAt.drewN (h : BlkAt w g t cs) (n : Nat) : BlkAt (w.drewN n) g t cs := h
theorem BlkAt.alloc (h : BlkAt w g t cs) (o : Obj) : BlkAt (w.alloc o) g t cs := (Below.heap_alloc w o g h.lt).trans h
theorem BlkAt.set (h : BlkAt w g t cs) (i : Nat) (u : Value) : BlkAt (w.setCell ⟨g, i, none⟩ u) g t (cs.setIfInBounds i u) := by
  unfold BlkAt at h ⊢
  simp [World.setCell, Array.getElem?_modify, h]
theorem BlkAt.far (h : BlkAt w g t cs) {p : Addr} (hp : g ≠ p.block) (u : Value) : BlkAt (w.setCell p u) g t cs := (Below.heap_setCell w p u g hp).trans h
theorem BlkAt.below {B : Nat} (h : BlkAt w g t cs) (hb : Below B w w') (hg : g < B) : BlkAt w' g t cs := (hb.block g hg).trans h
end
/-- A struct type of n cells. -/
def AggT (P : Program) (ty : TypeId) (n : Nat) : Prop := ∃ d, P.underlying ty = some d ∧ (match d with | .struct _ | .array _ _ => true | _ => false) = true ∧ (P.info? ty).map (·.size) = some n
theorem AggT.load {P : Program} {w : World} {g : Nat} {t ty : TypeId} {cs : Array Value} {n : Nat} (T : AggT P ty n) (hn : cs.size = n) (h : BlkAt w g t cs) : (loadVar ty ⟨g, 0, none⟩).run P w = .ok (.agg cs) w := by
  obtain ⟨d, h1, h2, h3⟩ := T
  exact run_loadVar_row w g t ty cs (0, 0) d h h1 (by cases d <;> simp_all) (by rw [h3, hn])
/-- All rows of the elements' type e stay as they are. -/
def KeepT (e : TypeId) (W W' : World) : Prop := ∀ (k : Nat) (cur : Array Value), W.heap[k]? = some (.cells cur e (0, 0)) → W'.heap[k]? = some (.cells cur e (0, 0))
theorem KeepT.refl (e : TypeId) (W : World) : KeepT e W W := fun _ _ h => h
theorem KeepT.trans {e : TypeId} {a b c : World} (h : KeepT e a b) (k : KeepT e b c) : KeepT e a c := fun i cur h1 => k i cur (h i cur h1)
theorem KeepT.of_below {e : TypeId} {a b : World} (h : Below a.heap.size a b) : KeepT e a b := fun i cur h1 => (h.block i (Array.getElem?_eq_some_iff.1 h1).1).trans h1
theorem KeepT.owns {e : TypeId} {W W' : World} (h : KeepT e W W') {base size n : Nat} {v : Value} {xs : List Value} (ho : W.ownsRow base e size v n xs) : W'.ownsRow base e size v n xs := by
  refine ⟨ho.1, ?_⟩
  rcases ho.2 with h0 | ⟨g, cap, cur, hv, hb, hg, hr⟩
  · exact .inl h0
  · exact .inr ⟨g, cap, cur, hv, hb, h g cur hg, hr⟩
theorem KeepT.grown {e e' : TypeId} {W W' : World} {base size n : Nat} {v : Value} {xs : List Value} (ho : W.ownsRow base e' size v n xs) (hne : e ≠ e') (h : W.grownBy W' v.ownBlock) : KeepT e W W' := fun k cur h1 => by
  rw [h.block k (Array.getElem?_eq_some_iff.1 h1).1 (fun ek => ?_)]
  · exact h1
  · obtain ⟨c, hc, _⟩ := own_at ho ek.symm
    rw [h1] at hc
    cases hc
    exact hne rfl
theorem KeepT.blk {e t : TypeId} {W W' : World} {B : Nat} {cs : Array Value} (hb : BlkAt W B t cs) (hne : e ≠ t) (h : W.grownBy W' (some B)) : KeepT e W W' := fun k cur h1 => by
  rw [h.block k (Array.getElem?_eq_some_iff.1 h1).1 (fun ek => ?_)]
  · exact h1
  · obtain rfl : k = B := Option.some.inj ek
    rw [show W.heap[k]? = _ from hb] at h1
    cases h1
    exact hne rfl

/-- What has come behind a world: blocks, draws. -/
structure LW where
  os : Array Obj
  d : Nat
instance : Inhabited LW := ⟨⟨#[], 0⟩⟩
def lift (w : World) (p : LW) : World := { w with heap := w.heap ++ p.os, drawn := w.drawn + p.d }
theorem heap_lift (w : World) (p : LW) {k : Nat} (h : k < w.heap.size) : (lift w p).heap[k]? = w.heap[k]? := by simp [lift, Array.getElem?_append, h]
theorem below_lift (w : World) (p : LW) : Below w.heap.size w (lift w p) := ⟨rfl, rfl, rfl, by simp [lift], fun k hk => heap_lift w p hk, Nat.le_add_right _ _⟩
theorem lift_of {w w' : World} (h : Below w.heap.size w w') : ∃ p, w' = lift w p := by
  obtain ⟨h1, h2, h3, h4, h5, h6⟩ := h
  obtain ⟨heap', tape', drawn', os', output'⟩ := w'
  obtain ⟨heap, tape, drawn, os, output⟩ := w
  simp only at h1 h2 h3 h4 h5
  have h6' : drawn ≤ drawn' := h6
  subst h1 h2 h3
  have h5' : ∀ k, k < heap.size → heap'[k]? = heap[k]? := h5
  have h4' : heap.size ≤ heap'.size := h4
  clear h4 h5
  refine ⟨⟨(heap'.toList.drop heap.size).toArray, drawn' - drawn⟩, ?_⟩
  have hdr : drawn' = drawn + (drawn' - drawn) := by omega
  have hhp : heap' = heap ++ (heap'.toList.drop heap.size).toArray := by
    apply Array.ext_getElem?
    intro k
    by_cases hk : k < heap.size
    · rw [h5' k hk, Array.getElem?_append_left hk]
    · rw [Array.getElem?_append_right (show heap.size ≤ k by omega)]
      show heap'[k]? = (heap'.toList.drop heap.size).toArray[k - heap.size]?
      have e : heap.size + (k - heap.size) = k := by omega
      simp [List.getElem?_drop, e]
  unfold lift
  simp only
  rw [← hdr, ← hhp]
theorem lift_cell {w : World} {a : Addr} {v : Value} (hb : a.block < w.heap.size) (h : w.cell? a = some v) (p : LW) : (lift w p).cell? a = some v := ((below_lift w p).cell (p := a) hb).trans h
theorem lift_drew (w : World) : ∃ p, { w with drawn := w.drawn + 1 } = lift w p := ⟨⟨#[], 1⟩, by unfold lift; simp⟩
theorem calls_lift {P : Program} {f : FuncId} {args : Array Value} {w : World} {p : LW} {v : Value} (h : Calls P f args (lift w p) fun e w' => e = .returned v ∧ Below (lift w p).heap.size (lift w p) w') :
    Calls P f args (lift w p) fun e w'' => e = .returned v ∧ ∃ p', w'' = lift w p' :=
  h.mono fun _ _ ⟨he, hB⟩ => ⟨he, lift_of ((below_lift w p).trans (hB.mono (below_lift w p).size))⟩
theorem wp_region_quiet_below {P : Program} {id : Nat} {Q : Exit → Act → World → Prop} {a : Act} {w : World} {l : List Oper} (hm : P.follows .mixedOrders = true) (hB : Region.lexB .any l.toArray = true)
    (h : wpQuiet P l.toArray (fun w' => ∃ p : LW, w' = lift w p) (fun a' => ∀ w', (∃ p : LW, w' = lift w p) → Q .normal a' w') l a) : (Code.region id l.toArray true).wp P Q a w :=
  wp_region_quiet (C := fun w' => ∃ p : LW, w' = lift w p) hm hB (lift_drew w) (by simpa using h)

/-- A slice's limbs as they lie. -/
def RdL (w : World) (a : Option Addr) (l : List Nat) : Prop := (a = none ∧ l = []) ∨ ∃ g cur, a = some ⟨g, 0, none⟩ ∧ BlkAt w g 133 cur ∧ ∀ i (h : i < l.length), cur[i]? = some (uv l[i])
theorem RdL.keep {w w' : World} {a : Option Addr} {l : List Nat} (h : RdL w a l) (hk : KeepT 133 w w') : RdL w' a l := by
  rcases h with h | ⟨g, cur, h1, h2, h3⟩
  · exact .inl h
  · exact .inr ⟨g, cur, h1, hk g cur h2, h3⟩
theorem RdL.below {w w' : World} {a : Option Addr} {l : List Nat} (h : RdL w a l) (hB : Below w.heap.size w w') : RdL w' a l := h.keep (KeepT.of_below hB)
theorem RdL.nil (w : World) : RdL w none [] := .inl ⟨rfl, rfl⟩
theorem RdL.take {w : World} {a : Option Addr} {l : List Nat} (h : RdL w a l) (m : Nat) : RdL w a (l.take m) := by
  rcases h with h | ⟨g, cur, h1, h2, h3⟩
  · exact .inl ⟨h.1, by rw [h.2]; simp⟩
  · refine .inr ⟨g, cur, h1, h2, fun i hi => ?_⟩
    have hi' : i < l.length := by simp at hi; omega
    rw [h3 i hi']; simp
theorem RdL.at {w : World} {a : Option Addr} {l : List Nat} (h : RdL w a l) (i : Nat) (hi : i < l.length) : ∃ g, a = some ⟨g, 0, none⟩ ∧ g < w.heap.size ∧ w.cell? ⟨g, i, none⟩ = some (.int .u32 ((l.getD i 0 : Nat) : Int)) := by
  rcases h with h | ⟨g, cur, h1, h2, h3⟩
  · rw [h.2] at hi; simp at hi
  · refine ⟨g, h1, h2.lt, ?_⟩
    rw [h2.cell i, h3 i hi, List.getD, List.getElem?_eq_getElem hi]; rfl
/-- A number as it lies. -/
def NatAt (w : World) (v : Value) (n : Nat) : Prop := ∃ a c, v = .agg #[.slice a (szN n) c] ∧ RdL w a (limbs n)
theorem NatAt.keep {w w' : World} {v : Value} {n : Nat} (h : NatAt w v n) (hk : KeepT 133 w w') : NatAt w' v n := by
  obtain ⟨a, c, h1, h2⟩ := h
  exact ⟨a, c, h1, h2.keep hk⟩
theorem NatAt.below {w w' : World} {v : Value} {n : Nat} (h : NatAt w v n) (hB : Below w.heap.size w w') : NatAt w' v n := h.keep (KeepT.of_below hB)
theorem NatAt.zero (w : World) (c : Nat) : NatAt w (.agg #[.slice none 0 c]) 0 := ⟨none, c, by rw [szN_zero], by rw [limbs_zero]; exact RdL.nil w⟩

theorem aggNat : AggT Tryz.prog 57 1 := ⟨_, Tryz.underlying57, rfl, by kernel_rfl⟩

theorem grow_set (w : World) (b j : Nat) (u : Value) : w.grownBy (w.setCell ⟨b, j, none⟩ u) (some b) :=
  ⟨rfl, rfl, rfl, by rw [World.size_setCell]; exact Nat.le_refl _, fun k _ hne => Below.heap_setCell w ⟨b, j, none⟩ u k (fun e => hne (by rw [e]))⟩
/-- The cell of a result that is a number. -/
abbrev nat0 : Obj := .cells #[.slice none 0 0] 57
theorem res_nat {w W : World} {a : Option Addr} {s c n : Nat} (h : Below (w.heap.size + 1) (w.alloc nat0) W) (hN : NatAt W (.agg #[.slice a s c]) n) :
    (loadVar 57 ⟨w.heap.size, 0, none⟩).run Tryz.prog (W.setCell ⟨w.heap.size, 0, none⟩ (.slice a s c)) = .ok (.agg #[.slice a s c]) (W.setCell ⟨w.heap.size, 0, none⟩ (.slice a s c)) ∧
      NatAt (W.setCell ⟨w.heap.size, 0, none⟩ (.slice a s c)) (.agg #[.slice a s c]) n ∧ Below w.heap.size w (W.setCell ⟨w.heap.size, 0, none⟩ (.slice a s c)) := by
  have hb : BlkAt W w.heap.size 57 #[.slice none 0 0] := (BlkAt.new w _ _).below h (by omega)
  have hs := hb.set 0 (.slice a s c)
  exact ⟨aggNat.load rfl hs, hN.keep (KeepT.blk hb (by decide) (grow_set W w.heap.size 0 _)), (((Below.refl _ w).alloc (Nat.le_refl _) nat0).trans (h.mono (by omega))).setCell (p := ⟨w.heap.size, 0, none⟩) (Nat.le_refl _) _⟩
/-- That cell, ahead of the store. -/
theorem res_free {w W : World} (h : Below (w.heap.size + 1) (w.alloc nat0) W) : W.cell? ⟨w.heap.size, 0, none⟩ = some (.slice none 0 0) ∧ W.frozen? ⟨w.heap.size, 0, none⟩ = false := by
  have hb : BlkAt W w.heap.size 57 #[.slice none 0 0] := (BlkAt.new w _ _).below h (by omega)
  exact ⟨hb.cell 0, hb.frozen 0⟩

set_option maxRecDepth 20000 in
set_option maxHeartbeats 4000000 in
theorem trim_any {w : World} {a : Option Addr} {l : List Nat} {c : Nat} (hl : Lim l) (h : RdL w a l) (hc : l.length ≤ c) (hlen : l.length ≤ 1000000000) :
    Calls Tryz.prog 94 #[.slice a l.length c] w fun e w' => e = .returned (.agg #[.slice a (szN (valL l)) (szN (valL l))]) ∧ NatAt w' (.agg #[.slice a (szN (valL l)) (szN (valL l))]) (valL l) ∧ Below w.heap.size w w' := by
  have HL := Lib.hid hl
  have HR := Lib.hid h
  clear hl h
  go_enter Tryz.func94, Tryz.ntmps94
  go_wp2
  go_loopw [3] (fun p W => ∃ n : Nat, p = .int .i64 n ∧ n ≤ l.length ∧ (∀ x ∈ l.drop n, x = 0) ∧ W = w.alloc (.cells #[.slice none 0 0] 57)) (fun p W => (intOf p).toNat)
  case atStart => exact ⟨l.length, rfl, Nat.le_refl _, by simp, rfl⟩
  case round =>
    obtain ⟨n, rfl, hn, h0, rfl⟩ := hrel
    have H0 := Lib.hid h0
    clear h0
    by_cases hz : 0 < n
    · obtain ⟨g, rfl, hg, hcell⟩ := HR.out.at (n - 1) (by omega)
      have hcell2 : (w.alloc (.cells #[.slice none 0 0] 57)).cell? ⟨g, n - 1, none⟩ = some (.int .u32 ((l.getD (n - 1) 0 : Nat) : Int)) := by
        rw [World.cell?_of_block (Below.heap_alloc w _ g hg)]; exact hcell
      clear hcell
      obtain ⟨x, hx⟩ : ∃ x, l.getD (n - 1) 0 = x := ⟨_, rfl⟩
      rw [hx] at hcell2
      have HX := Lib.hid hx
      clear hx
      by_cases hx : x = 0
      · subst hx
        go_wp2
        go_roundw
        case rel =>
          refine ⟨n - 1, by go_num, by omega, fun y hy => ?_, trivial⟩
          have e : l.drop (n - 1) = l.getD (n - 1) 0 :: l.drop n := by
            rw [List.drop_eq_getElem_cons (by omega : n - 1 < l.length), show n - 1 + 1 = n by omega, List.getD, List.getElem?_eq_getElem (by omega)]; rfl
          rw [e, HX.out] at hy
          rcases List.mem_cons.1 hy with rfl | hy
          · rfl
          · exact H0.out y hy
        case measure => simp [intOf]; omega
      · have hxb : ((x : Int) == 0) = false := beq_eq_false_iff_ne.2 (by omega)
        have e : limbs (valL l) = l.take n := limbs_take HL.out n hn H0.out (.inr (by rw [HX.out]; exact hx))
        have hs : szN (valL l) = n := by rw [szN, e, List.length_take, Nat.min_eq_left hn]
        have HT := Lib.hid e
        have HS := Lib.hid hs
        clear e hs
        go_wp2
        refine bodyPost_ret (r_c rfl rfl (aggNat.load rfl (BlkAt.new w 57 #[.slice (some ⟨g, 0, none⟩) n n]))) rfl ?_
        refine ⟨by rw [HS.out], ⟨some ⟨g, 0, none⟩, szN (valL l), rfl, ?_⟩, (Below.refl _ w).alloc (Nat.le_refl _) _⟩
        rw [HT.out]
        exact (HR.out.take n).below ((Below.refl _ w).alloc (Nat.le_refl _) _)
    · obtain rfl : n = 0 := by omega
      have e : limbs (valL l) = l.take 0 := limbs_take HL.out 0 (Nat.zero_le _) H0.out (.inl rfl)
      have hs : szN (valL l) = 0 := by rw [szN, e]; rfl
      have HT := Lib.hid e
      have HS := Lib.hid hs
      clear e hs
      go_wp2
      refine bodyPost_ret (r_c rfl rfl (aggNat.load rfl (BlkAt.new w 57 #[.slice a 0 0]))) rfl ?_
      refine ⟨by rw [HS.out], ⟨a, szN (valL l), rfl, ?_⟩, (Below.refl _ w).alloc (Nat.le_refl _) _⟩
      rw [HT.out]
      exact (HR.out.take 0).below ((Below.refl _ w).alloc (Nat.le_refl _) _)

theorem zero_any {v : Value} {n : Nat} {w : World} (h : NatAt w v n) :
    Calls Tryz.prog 95 #[v] w fun e w' => e = .returned (.bool (decide (n = 0))) ∧ Below w.heap.size w w' := by
  obtain ⟨a, c, rfl, h⟩ := h
  have hz : decide (n = 0) = ((szN n : Int) == 0) := by
    rw [Bool.eq_iff_iff, decide_eq_true_iff, beq_iff_eq]
    constructor
    · rintro rfl; rw [szN_zero]; rfl
    · intro e; apply Decidable.byContradiction; intro hn; have := szN_pos hn; omega
  rw [hz]
  clear h hz
  go_enter Tryz.func95, Tryz.ntmps95
  go_wp2
  go_ret
  exact ⟨rfl, (Below.refl _ w).alloc (Nat.le_refl _) _⟩
set_option maxHeartbeats 4000000 in
theorem of_any (n : Nat) (hn : n < 18446744073709551616) (w : World) :
    Calls Tryz.prog 101 #[.int .u64 n] w fun e w' => ∃ v, e = .returned v ∧ NatAt w' v n ∧ Below w.heap.size w w' := by
  have hand : bits .and .u64 (n : Int) 4294967295 = (n : Int) % 4294967296 := and32 _ (by omega) (by omega)
  have hv : valL [n % 4294967296, n / 4294967296] = n := by simp [valL]; omega
  have hl : Lim [n % 4294967296, n / 4294967296] := Lim.cons (by omega) (Lim.cons (by omega) Lim.nil)
  obtain ⟨W2, hW2⟩ : ∃ W2, (w.alloc (Obj.cells #[.slice none 0 0] 57)).alloc (Obj.cells #[.int .u32 ((n : Int) % 4294967296), .int .u32 ((n : Int) / 4294967296)] 133) = W2 := ⟨_, rfl⟩
  have hB2 : Below (w.heap.size + 1) (w.alloc nat0) W2 := by rw [← hW2]; exact (Below.refl _ (w.alloc nat0)).alloc (by simp) _
  have hR : RdL W2 (some ⟨w.heap.size + 1, 0, none⟩) [n % 4294967296, n / 4294967296] := by
    have hb : BlkAt W2 (w.heap.size + 1) 133 #[.int .u32 ((n : Int) % 4294967296), .int .u32 ((n : Int) / 4294967296)] := by
      rw [← hW2]
      have := BlkAt.new (w.alloc (Obj.cells #[.slice none 0 0] 57)) 133 #[.int .u32 ((n : Int) % 4294967296), .int .u32 ((n : Int) / 4294967296)]
      simpa using this
    refine .inr ⟨w.heap.size + 1, _, rfl, hb, fun i hi => ?_⟩
    match i, hi with
    | 0, _ => rfl
    | 1, _ => rfl
  have HT := Lib.hid (trim_any (c := 2) hl hR (Nat.le_refl _) (by simp))
  rw [hv] at HT
  have HB := Lib.hid hB2
  have hwz := hB2.size
  rw [World.size_alloc] at hwz
  clear hR hl hv hB2
  go_enter Tryz.func101, Tryz.ntmps101
  go_wp2_with (go_at_call 94; refine HT.out.mono ?_; rintro e w3 ⟨rfl, hN, hB3⟩; have HB3 := Lib.hid (HB.out.trans (hB3.mono hwz)); have HN := Lib.hid hN; clear hN; obtain ⟨r0, r1⟩ := res_free HB3.out; clear hB3)
  obtain ⟨e1, e2, e3⟩ := res_nat HB3.out HN.out
  exact bodyPost_ret (r_c rfl rfl e1) rfl ⟨_, rfl, e2, e3⟩
end Go.Proofs.YtjcpfmndkeiegaaGreatDoor.D
namespace Go.Proofs.YtjcpfmndkeiegaaGreatDoor.D
open Go.RowKit
set_option linter.unusedVariables false

/-- A row of limbs of the call's own. -/
def OwnL (w : World) (base : Nat) (v : Value) (L : List Nat) : Prop := w.ownsRow base 133 1 v L.length (L.map uv)
theorem OwnL.nil (w : World) (base : Nat) : OwnL w base (.slice none 0 0) [] := World.ownsRow_nil _ _ _ _
theorem OwnL.rd {w : World} {base : Nat} {v : Value} {L : List Nat} (h : OwnL w base v L) : ∃ a c, v = .slice a L.length c ∧ L.length ≤ c ∧ RdL w a L := by
  rcases h.2 with ⟨rfl, h0⟩ | ⟨g, cap, cur, rfl, hb, hg, h1, h2, h3, h4⟩
  · exact ⟨none, 0, by rw [h0], by omega, .inl ⟨rfl, List.eq_nil_of_length_eq_zero h0⟩⟩
  · refine ⟨_, _, rfl, h1, .inr ⟨g, cur, rfl, hg, fun i hi => ?_⟩⟩
    have : (cur.toList.take (L.length * 1))[i]? = cur[i]? := by rw [List.getElem?_take_of_lt (by omega)]; simp
    rw [← this, h4, List.getElem?_map, List.getElem?_eq_getElem hi]; rfl
theorem OwnL.form {w : World} {base : Nat} {v : Value} {L : List Nat} (h : OwnL w base v L) (hn : 0 < L.length) : ∃ g c, v = .slice (some ⟨g, 0, none⟩) L.length c ∧ base ≤ g ∧ g < w.heap.size ∧ L.length ≤ c ∧ (∀ i (hi : i < L.length), w.cell? ⟨g, i, none⟩ = some (.int .u32 (L[i] : Int))) ∧ (∀ i, w.frozen? ⟨g, i, none⟩ = false) ∧
    ∀ i x, i < L.length → OwnL (w.setCell ⟨g, i, none⟩ (.int .u32 (x : Nat))) base v (L.set i x) := by
  rcases h.2 with ⟨rfl, h0⟩ | ⟨g, cap, cur, rfl, hb, hg, h1, h2, h3, h4⟩
  · omega
  · have hB : BlkAt w g 133 cur := hg
    refine ⟨g, cap, rfl, hb, hB.lt, h1, fun i hi => ?_, fun i => hB.frozen i, fun i x hi => ?_⟩
    · rw [hB.cell i]
      have : (cur.toList.take (L.length * 1))[i]? = cur[i]? := by rw [List.getElem?_take_of_lt (by omega)]; simp
      rw [← this, h4]; simp [hi, uv]
    · refine ⟨by simp, .inr ⟨g, cap, cur.setIfInBounds i (uv x), by simp, hb, hB.set i _, by simpa using h1, h2, by simpa using h3, ?_⟩⟩
      rw [List.length_set, Array.toList_setIfInBounds, List.take_set, h4, List.map_set]
theorem OwnL.mono {w : World} {base base' : Nat} {v : Value} {L : List Nat} (h : OwnL w base v L) (hb : base' ≤ base) : OwnL w base' v L := ownsRow_mono h hb
theorem OwnL.keep {w w' : World} {base : Nat} {v : Value} {L : List Nat} (h : OwnL w base v L) (hk : KeepT 133 w w') : OwnL w' base v L := hk.owns h

set_option maxRecDepth 20000 in
set_option maxHeartbeats 4000000 in
theorem at_any {v : Value} {n i : Nat} {w : World} (h : NatAt w v n) (hn : szN n ≤ 1000000000) (hi : i ≤ 1000000000) :
    Calls Tryz.prog 126 #[v, .int .i64 i] w fun e w' => e = .returned (.int .u32 (((limbs n).getD i 0 : Nat) : Int)) ∧ Below w.heap.size w w' := by
  obtain ⟨a, c, rfl, h⟩ := h
  obtain ⟨s, hs⟩ : ∃ s, szN n = s := ⟨_, rfl⟩
  have HB := Lib.hid ((Below.refl w.heap.size w).alloc (Nat.le_refl _) (.cells #[.slice a s c] 57))
  by_cases hlt : i < s
  · obtain ⟨g, rfl, hg, hcell⟩ := (h.below (by rw [← hs] at HB; exact HB.out)).at i (by rw [limbs_len, hs]; exact hlt)
    obtain ⟨x, hx⟩ : ∃ x, (limbs n).getD i 0 = x := ⟨_, rfl⟩
    rw [hx] at hcell ⊢
    rw [hs] at hn hcell ⊢
    clear h hs hx
    go_enter Tryz.func126, Tryz.ntmps126
    go_wp2
    go_ret
    exact ⟨rfl, HB.out⟩
  · have hx : (limbs n).getD i 0 = 0 := by rw [List.getD, List.getElem?_eq_none (by rw [limbs_len, hs]; omega)]; rfl
    rw [hx]
    rw [hs] at hn ⊢
    clear h hs hx
    go_enter Tryz.func126, Tryz.ntmps126
    go_wp2
    go_ret
    exact ⟨rfl, HB.out⟩
/-- The load of a number out of its box. -/
theorem load_box {W : World} {g : Nat} {v : Value} (h : W.cell? ⟨g, 0, none⟩ = some v) : Sem.run Tryz.prog (loadCellsFrom ⟨g, 0, none⟩ 0 1 #[]) W = .ok #[v] W := by
  refine run_loadCellsFrom_list Tryz.prog W ⟨g, 0, none⟩ [v] 1 rfl ?_
  intro j u hj
  match j, hj with
  | 0, hj => simp at hj; subst hj; exact h
set_option maxRecDepth 20000 in
set_option maxHeartbeats 8000000 in
theorem cmp_any {va vb : Value} {x y : Nat} {w : World} (hx : NatAt w va x) (hy : NatAt w vb y) (hxs : szN x ≤ 1000000) (hys : szN y ≤ 1000000) :
    Calls Tryz.prog 110 #[va, vb] w fun e w' => e = .returned (.int .i64 (cmpN x y)) ∧ Below w.heap.size w w' := by
  obtain ⟨a, c, rfl, ha⟩ := hx
  obtain ⟨b, d, rfl, hb⟩ := hy
  obtain ⟨W2, hW2⟩ : ∃ W2, (w.alloc (.cells #[.slice a (szN x) c] 57)).alloc (.cells #[.slice b (szN y) d] 57) = W2 := ⟨_, rfl⟩
  have hB2 : Below w.heap.size w W2 := by rw [← hW2]; exact ((Below.refl _ w).alloc (Nat.le_refl _) _).alloc (by simp) _
  have k0 : BlkAt W2 w.heap.size 57 #[.slice a (szN x) c] := by rw [← hW2]; exact (BlkAt.new w _ _).alloc _
  have k1 : BlkAt W2 (w.heap.size + 1) 57 #[.slice b (szN y) d] := by rw [← hW2]; have := BlkAt.new (w.alloc (.cells #[.slice a (szN x) c] 57)) 57 #[.slice b (szN y) d]; simpa using this
  have HA := Lib.hid (show NatAt W2 (.agg #[.slice a (szN x) c]) x from ⟨a, c, rfl, ha.below hB2⟩)
  have HB := Lib.hid (show NatAt W2 (.agg #[.slice b (szN y) d]) y from ⟨b, d, rfl, hb.below hB2⟩)
  have HK0 := Lib.hid k0
  have HK1 := Lib.hid k1
  have HB2 := Lib.hid hB2
  obtain ⟨m, hm⟩ : ∃ m, max (szN x) (szN y) = m := ⟨_, rfl⟩
  have hs0 : valL ((limbs x).drop m) = valL ((limbs y).drop m) := by
    rw [List.drop_of_length_le (by rw [limbs_len]; omega), List.drop_of_length_le (by rw [limbs_len]; omega)]
  have HS0 := Lib.hid hs0
  have hm1 : m ≤ 1000000 := by omega
  have HM := Lib.hid hm
  have HXs := Lib.hid hxs
  have HYs := Lib.hid hys
  obtain ⟨n1, hn1⟩ : ∃ n1, szN x = n1 := ⟨_, rfl⟩
  obtain ⟨n2, hn2⟩ : ∃ n2, szN y = n2 := ⟨_, rfl⟩
  rw [hn1] at hW2 hxs HA HK0 HM HXs ⊢
  rw [hn2] at hW2 hys HB HK1 HM HYs ⊢
  have HN1 := Lib.hid hn1
  have HN2 := Lib.hid hn2
  have d0 := HK0.out.cell 0
  have d1 := HK1.out.cell 0
  clear ha hb k0 k1 hB2 hs0 hm hn1 hn2
  go_enter Tryz.func110, Tryz.ntmps110
  go_wp2
  all_goals
    clear hW2 d0 d1
    go_loopw [5] (fun p W => ∃ k : Nat, p = .int .i64 ((k : Int) - 1) ∧ k ≤ m ∧ valL ((limbs x).drop k) = valL ((limbs y).drop k) ∧ Below W2.heap.size W2 W) (fun p W => (intOf p + 1).toNat)
    case atStart => exact ⟨m, by have := HM.out; simp; omega, Nat.le_refl _, HS0.out, Below.refl _ _⟩
    case round =>
      obtain ⟨k, rfl, hk, hv, hB⟩ := hrel
      have HBW := Lib.hid hB
      have HV := Lib.hid hv
      have c0 := (HK0.out.below hB HK0.out.lt).cell 0
      have c1 := (HK1.out.below hB HK1.out.lt).cell 0
      clear hB hv
      by_cases hlt : 0 < k
      · obtain ⟨j, rfl⟩ : ∃ j, k = j + 1 := ⟨k - 1, by omega⟩
        have HA1 := Lib.hid (fun (W : World) (hW : Below W2.heap.size W2 W) => at_any (i := j) (HA.out.below hW) (by rw [HN1.out]; omega) (by omega))
        have HA2 := Lib.hid (fun (W : World) (hW : Below W2.heap.size W2 W) => at_any (i := j) (HB.out.below hW) (by rw [HN2.out]; omega) (by omega))
        obtain ⟨p, hp⟩ : ∃ p, (limbs x).getD j 0 = p := ⟨_, rfl⟩
        obtain ⟨q, hq⟩ : ∃ q, (limbs y).getD j 0 = q := ⟨_, rfl⟩
        rw [hp] at HA1
        rw [hq] at HA2
        have HP := Lib.hid hp
        have HQ := Lib.hid hq
        clear hp hq
        have hpb : p < 4294967296 := by rw [← HP.out]; exact limbs_getD_lt x j
        have hqb : q < 4294967296 := by rw [← HQ.out]; exact limbs_getD_lt y j
        have hpI : (p : Int) ≤ 4294967295 := by omega
        have hqI : (q : Int) ≤ 4294967295 := by omega
        clear hpb hqb
        have hwl0 : w.heap.size < wr.heap.size := Nat.lt_of_lt_of_le HK0.out.lt HBW.out.size
        have hwl1 : w.heap.size + 1 < wr.heap.size := Nat.lt_of_lt_of_le HK1.out.lt HBW.out.size
        have p0 := lift_cell (a := ⟨w.heap.size, 0, none⟩) hwl0 c0
        have p1 := lift_cell (a := ⟨w.heap.size + 1, 0, none⟩) hwl1 c1
        have HQ1 := Lib.hid (fun q => HA1.out (lift wr q) (HBW.out.trans ((below_lift wr q).mono HBW.out.size)))
        have HQ2 := Lib.hid (fun q => HA2.out (lift wr q) (HBW.out.trans ((below_lift wr q).mono HBW.out.size)))
        have L0 := fun q => load_box (p0 q)
        have L1 := fun q => load_box (p1 q)
        clear hwl0 hwl1
        go_wp2_with fail
        refine wp_region_quiet_below mixedO (by kernel_rfl) ?_
        iterate 2 quiet_step (fail)
        quiet_step (first | (go_at_call 126; exact calls_lift (HQ1.out _)))
        iterate 2 quiet_step (fail)
        quiet_step (first | (go_at_call 126; exact calls_lift (HQ2.out _)))
        iterate 2 quiet_step (fail)
        refine wpQuiet_nil ?_
        intro _ hw'
        obtain ⟨lp, hw''⟩ := hw'
        subst hw''
        have HB4 := Lib.hid (HBW.out.trans ((below_lift wr lp).mono HBW.out.size))
        have HW4 := Lib.hid (HB2.out.trans (HB4.out.mono HB2.out.size))
        clear p0 p1 c0 c1 L0 L1
        generalize lift wr lp = w4 at *
        by_cases h1 : p < q
        · have hc : cmpN x y = -1 := by
            unfold cmpN
            rw [if_pos (cmp_less HV.out (by rw [HP.out, HQ.out]; exact h1))]
          have HC := Lib.hid hc
          have h1I : (p : Int) < (q : Int) := by omega
          clear hc h1
          go_wp2
          go_ret
          exact ⟨by rw [HC.out]; rfl, HW4.out⟩
        · by_cases h2 : q < p
          · have hc : cmpN x y = 1 := by
              have := cmp_less HV.out.symm (show (limbs y).getD j 0 < (limbs x).getD j 0 by rw [HP.out, HQ.out]; exact h2)
              unfold cmpN
              rw [if_neg (by omega), if_pos this]
            have HC := Lib.hid hc
            have h1I : (q : Int) ≤ (p : Int) := by omega
            have h2I : (q : Int) < (p : Int) := by omega
            clear hc h1 h2
            go_wp2
            go_ret
            exact ⟨by rw [HC.out]; rfl, HW4.out⟩
          · have hv2 : valL ((limbs x).drop j) = valL ((limbs y).drop j) := by
              rw [valL_step (limbs x) j, valL_step (limbs y) j, HV.out, HP.out, HQ.out]; omega
            have HV2 := Lib.hid hv2
            obtain rfl : p = q := by omega
            clear hv2 h1 h2
            go_wp2
            go_roundw
            case rel => exact ⟨j, by go_num, by omega, HV2.out, HB4.out⟩
            case measure => simp [intOf]
      · obtain rfl : k = 0 := by omega
        have hxy : x = y := by
          have := HV.out
          rwa [List.drop_zero, List.drop_zero, limbs_val, limbs_val] at this
        have hc : cmpN x y = 0 := by unfold cmpN; rw [if_neg (by omega), if_neg (by omega)]
        have HC := Lib.hid hc
        have HW4 := Lib.hid (HB2.out.trans (HBW.out.mono HB2.out.size))
        clear hc hxy
        go_wp2
        go_ret
        exact ⟨by rw [HC.out]; rfl, HW4.out⟩
end Go.Proofs.YtjcpfmndkeiegaaGreatDoor.D
namespace Go.Proofs.YtjcpfmndkeiegaaGreatDoor.D
open Go.RowKit
set_option linter.unusedVariables false

/-- The store of a result that is a number. -/
theorem res_at {w W : World} {base g : Nat} {x0 : Value} {a : Option Addr} {s c n : Nat} (hb : BlkAt W g 57 #[x0]) (hg : base ≤ g) (h : Below base w W) (hN : NatAt W (.agg #[.slice a s c]) n) :
    (loadVar 57 ⟨g, 0, none⟩).run Tryz.prog (W.setCell ⟨g, 0, none⟩ (.slice a s c)) = .ok (.agg #[.slice a s c]) (W.setCell ⟨g, 0, none⟩ (.slice a s c)) ∧
      NatAt (W.setCell ⟨g, 0, none⟩ (.slice a s c)) (.agg #[.slice a s c]) n ∧ Below base w (W.setCell ⟨g, 0, none⟩ (.slice a s c)) :=
  ⟨aggNat.load rfl (hb.set 0 (.slice a s c)), hN.keep (KeepT.blk hb (by decide) (grow_set W g 0 _)), h.setCell (p := ⟨g, 0, none⟩) hg _⟩
/-- Two boxes of numbers and a result's cell. -/
def Boxes (w W : World) (va vb : Value) : Prop := BlkAt W w.heap.size 57 #[va] ∧ BlkAt W (w.heap.size + 1) 57 #[vb] ∧ BlkAt W (w.heap.size + 1 + 1) 57 #[.slice none 0 0]
abbrev box3 (w : World) (va vb : Value) : World := ((w.alloc (.cells #[va] 57)).alloc (.cells #[vb] 57)).alloc nat0
theorem boxes_new (w : World) (va vb : Value) : Boxes w (box3 w va vb) va vb ∧ Below w.heap.size w (box3 w va vb) ∧ (box3 w va vb).heap.size = w.heap.size + 3 := by
  refine ⟨⟨((BlkAt.new w _ _).alloc _).alloc _, ?_, ?_⟩, (((Below.refl _ w).alloc (Nat.le_refl _) _).alloc (by simp) _).alloc (by simp; omega) _, by simp [box3]⟩
  · have := (BlkAt.new (w.alloc (.cells #[va] 57)) 57 #[vb]).alloc nat0
    simpa using this
  · have := BlkAt.new ((w.alloc (.cells #[va] 57)).alloc (.cells #[vb] 57)) 57 #[.slice none 0 0]
    simpa using this
theorem Boxes.below {w W W' : World} {va vb : Value} (h : Boxes w W va vb) (hB : Below W.heap.size W W') : Boxes w W' va vb :=
  ⟨h.1.below hB h.1.lt, h.2.1.below hB h.2.1.lt, h.2.2.below hB h.2.2.lt⟩


/-- 'make([]uint32, N)'. -/
theorem make_any (w : World) (N : Nat) (hN : N ≤ 4000000) : ∃ w', (Instr.makeSlice 55 (.int .i64 (N : Int)) (.int .i64 (N : Int))).run Tryz.prog w = .ok (.slice (some ⟨w.heap.size, 0, none⟩) N N) w' ∧
    OwnL w' w.heap.size (.slice (some ⟨w.heap.size, 0, none⟩) N N) (List.replicate N 0) ∧ Below w.heap.size w w' := by
  obtain ⟨i0, hi, hz0, hz1, hz2⟩ := info_parts infoU
  obtain ⟨w', h1, h2, h3⟩ := run_make_full (P := Tryz.prog) w w.heap.size 55 133 i0 _ 1 Tryz.underlying55 hi hz0 hz1 .i64 .i64 N (by rw [hz2]; omega) (by unfold maxLen; omega) (Nat.le_refl _)
  have hd : w'.drawn = w.drawn := by
    have hr := run_make (P := Tryz.prog) w 55 133 i0 _ Tryz.underlying55 hi hz0 .i64 .i64 N N (by omega) (Int.le_refl _) (by rw [hz2]; omega) (by omega)
    rw [h1] at hr
    cases hr
    rfl
  refine ⟨w', h1, ?_, ⟨h3.os, h3.tape, h3.output, h3.size, fun k hk => h3.block k hk (by simp), Nat.le_of_eq hd.symm⟩⟩
  unfold OwnL
  rw [List.length_replicate, ← made_cells]
  exact h2
/-- The inner loop of Mul. -/
def MulI (xk k m N T0 y : Nat) (w : World) (base : Nat) (v c p : Value) (W : World) : Prop :=
  ∃ j O cy, p = .int .i64 (j : Nat) ∧ c = .int .u64 (cy : Nat) ∧ j ≤ m ∧ O.length = N ∧ Lim O ∧ cy < 4294967296 ∧ valL O + 4294967296 ^ (k + j) * cy = T0 + 4294967296 ^ k * (xk * valL ((limbs y).take j)) ∧ (∀ i, k + m ≤ i → O.getD i 0 = 0) ∧ OwnL W base v O ∧ Below base w W
/-- The outer loop of Mul. -/
def MulO (x y m N : Nat) (w : World) (base : Nat) (v p : Value) (W : World) : Prop :=
  ∃ k O, p = .int .i64 (k : Nat) ∧ k ≤ szN x ∧ O.length = N ∧ Lim O ∧ valL O = valL ((limbs x).take k) * y ∧ (∀ i, k + m ≤ i → O.getD i 0 = 0) ∧ OwnL W base v O ∧ Below base w W
set_option maxRecDepth 20000 in
set_option maxHeartbeats 16000000 in
theorem mul_any {va vb : Value} {x y : Nat} {w : World} (hx : NatAt w va x) (hy : NatAt w vb y) (hxs : szN x ≤ 1000000) (hys : szN y ≤ 1000000) :
    Calls Tryz.prog 99 #[va, vb] w fun e w' => ∃ v, e = .returned v ∧ NatAt w' v (x * y) ∧ Below w.heap.size w w' := by
  obtain ⟨a, c, rfl, ha⟩ := hx
  obtain ⟨b, d, rfl, hb⟩ := hy
  obtain ⟨n, hn⟩ : ∃ n, szN x = n := ⟨_, rfl⟩
  obtain ⟨m, hm⟩ : ∃ m, szN y = m := ⟨_, rfl⟩
  rw [hn] at hxs ⊢
  rw [hm] at hys ⊢
  obtain ⟨W2, hW2⟩ : ∃ W2, ((w.alloc (.cells #[.slice a n c] 57)).alloc (.cells #[.slice b m d] 57)).alloc (.cells #[.slice none 0 0] 57) = W2 := ⟨_, rfl⟩
  obtain ⟨hbx, hB2, hz2⟩ := boxes_new w (.slice a n c) (.slice b m d)
  rw [show box3 w (.slice a n c) (.slice b m d) = W2 from hW2] at hbx hB2 hz2
  have HBx := Lib.hid hbx
  have HB2 := Lib.hid hB2
  have HAR := Lib.hid (ha.below hB2)
  have HBR := Lib.hid (hb.below hB2)
  have HN := Lib.hid hn
  have HM := Lib.hid hm
  have d0 := hbx.1.cell 0
  have d1 := hbx.2.1.cell 0
  obtain ⟨w3, hmk, ho3, hB3⟩ := make_any W2 (n + m) (by omega)
  obtain ⟨g, hg⟩ : ∃ g, W2.heap.size = g := ⟨_, rfl⟩
  rw [hg] at hmk ho3
  rw [Int.natCast_add] at hmk
  have HB3 := Lib.hid hB3
  have hbx3 := hbx.below hB3
  have e0 := hbx3.1.cell 0
  have e1 := hbx3.2.1.cell 0
  have H0 := Lib.hid (show MulO x y m (n + m) W2 g (.slice (some ⟨g, 0, none⟩) (n + m) (n + m)) (.int .i64 0) w3 from ⟨0, _, rfl, Nat.zero_le _, List.length_replicate, Lim.replicate _, by rw [valL_zero]; simp [valL], fun i _ => by rw [List.getD, List.getElem?_replicate]; split <;> rfl, ho3, by rw [← hg]; exact hB3⟩)
  have HG := Lib.hid hg
  have hgz : w.heap.size + 3 = g := by omega
  clear ha hb hbx hB2 hz2 hn hm hbx3 ho3 hB3 hg
  go_enter Tryz.func99, Tryz.ntmps99
  go_wp2
  clear hW2 d0 d1 e0 e1 hmk
  go_loopw [22] (fun p W => MulO x y m (n + m) W2 g (.slice (some ⟨g, 0, none⟩) (n + m) (n + m)) p W) (fun p W => n - (intOf p).toNat)
  case atStart => exact H0.out
  case round =>
    obtain ⟨k, O, rfl, hk, hOl, hO, hv, h0, ho, hB⟩ := hrel
    rw [HN.out] at hk
    have HBW := Lib.hid hB
    have hBw : Below W2.heap.size W2 wr := by rw [HG.out]; exact hB
    by_cases hlt : k < n
    · obtain ⟨ga, rfl, hga, hca⟩ := (HAR.out.below hBw).at k (by rw [limbs_len, HN.out]; exact hlt)
      obtain ⟨xk, hxk⟩ : ∃ xk, (limbs x).getD k 0 = xk := ⟨_, rfl⟩
      have hxb : xk < 4294967296 := by rw [← hxk]; exact limbs_getD_lt x k
      rw [hxk] at hca
      have hkL : k < (limbs x).length := by rw [limbs_len, HN.out]; exact hlt
      have htk : valL ((limbs x).take (k + 1)) = valL ((limbs x).take k) + 4294967296 ^ k * xk := by
        rw [valL_take_succ _ _ hkL]
        have : (limbs x)[k] = xk := by rw [← hxk, List.getD, List.getElem?_eq_getElem hkL]; rfl
        rw [this]
      have hbx := HBx.out.below hBw
      have c1 := hbx.2.1.cell 0
      have HTK := Lib.hid htk
      have HV := Lib.hid hv
      have H00 := Lib.hid h0
      have HXb := Lib.hid hxb
      obtain ⟨T0, hT0⟩ : ∃ T0, valL O = T0 := ⟨_, rfl⟩
      have HI := Lib.hid (show MulI xk k m (n + m) T0 y W2 g (.slice (some ⟨g, 0, none⟩) (n + m) (n + m)) (.int .u64 0) (.int .i64 0) wr from ⟨0, O, 0, rfl, rfl, Nat.zero_le _, hOl, hO, by omega, by rw [hT0]; simp [valL], h0, ho, hB⟩)
      have HT0 := Lib.hid (show T0 = valL ((limbs x).take k) * y by rw [← hT0]; exact hv)
      have hxI : (xk : Int) ≤ 4294967295 := by omega
      clear hB hBw hbx hv h0 ho hxb hxk htk hkL hO hOl hT0
      go_wp2
      clear c1 hca
      go_loopw [8, 30] (fun c' p W => MulI xk k m (n + m) T0 y W2 g (.slice (some ⟨g, 0, none⟩) (n + m) (n + m)) c' p W) (fun c' p W => m - (intOf p).toNat)
      case atStart => exact HI.out
      case round =>
        obtain ⟨j, O, cy, rfl, rfl, hj, hOl, hO, hcy, hv, h0, ho, hB⟩ := hrel
        have HBW := Lib.hid hB
        have HH0 := Lib.hid h0
        have HO := Lib.hid hO
        have HOl := Lib.hid hOl
        have hBw : Below W2.heap.size W2 wr := by rw [HG.out]; exact hB
        have hbx := HBx.out.below hBw
        have c1 := hbx.2.1.cell 0
        by_cases hjm : j < m
        · obtain ⟨gb, rfl, hgb, hcb⟩ := (HBR.out.below hBw).at j (by rw [limbs_len, HM.out]; exact hjm)
          obtain ⟨yj, hyj⟩ : ∃ yj, (limbs y).getD j 0 = yj := ⟨_, rfl⟩
          have hyb : yj < 4294967296 := by rw [← hyj]; exact limbs_getD_lt y j
          have hjL : j < (limbs y).length := by rw [limbs_len, HM.out]; exact hjm
          have htj : valL ((limbs y).take (j + 1)) = valL ((limbs y).take j) + 4294967296 ^ j * yj := by
            rw [valL_take_succ _ _ hjL]
            have : (limbs y)[j] = yj := by rw [← hyj, List.getD, List.getElem?_eq_getElem hjL]; rfl
            rw [this]
          rw [hyj] at hcb
          obtain ⟨g', c', he, hbg, hg', hc', hcell, hfr, hset⟩ := ho.form (by omega)
          simp only [Value.slice.injEq] at he
          obtain ⟨hgg, -, -⟩ := he
          obtain rfl : g = g' := by simpa using hgg
          have hc1 := hcell (k + j) (by omega)
          have hst := fun y => hset (k + j) y (by omega)
          have hfk := hfr (k + j)
          have hmi2 := mul_in (yj := yj) (show k + j < O.length by omega) hv
          rw [← htj] at hmi2
          have hob := hO.get (show k + j < O.length by omega)
          obtain ⟨o, ho'⟩ : ∃ o, O[k + j]'(by omega) = o := ⟨_, rfl⟩
          rw [ho'] at hc1 hmi2 hob
          have hmu : xk * yj ≤ 4294967295 * 4294967295 := Nat.mul_le_mul (by have := HXb.out; omega) (by omega)
          obtain ⟨mm, hmm⟩ : ∃ mm, xk * yj = mm := ⟨_, rfl⟩
          have hmmI : (xk : Int) * (yj : Int) = (mm : Int) := by rw [← hmm]; simp
          rw [hmm] at hmi2 hmu
          have hcy2 : (cy + (mm + o)) / 4294967296 < 4294967296 := by omega
          have HST := Lib.hid hmi2
          have HSet := Lib.hid hst
          have HC2 := Lib.hid hcy2
          have hz' : ∀ i, k + m ≤ i → (O.set (k + j) ((cy + (mm + o)) % 4294967296)).getD i 0 = 0 := fun i hi => by
            rw [getD_set_ne O (by omega)]; exact HH0.out i hi
          have HZ := Lib.hid hz'
          obtain ⟨cI, hcI⟩ : ∃ cI : Int, (cy : Int) = cI := ⟨_, rfl⟩
          obtain ⟨mI, hmI⟩ : ∃ mI : Int, (mm : Int) = mI := ⟨_, rfl⟩
          obtain ⟨oI, hoI⟩ : ∃ oI : Int, (o : Int) = oI := ⟨_, rfl⟩
          have hc0 : 0 ≤ cI := by omega
          have hc1' : cI ≤ 4294967295 := by omega
          have hm0 : 0 ≤ mI := by omega
          have hm1 : mI ≤ 18446744065119617025 := by omega
          have ho0 : 0 ≤ oI := by omega
          have ho1 : oI ≤ 4294967295 := by omega
          have hyI : (yj : Int) ≤ 4294967295 := by omega
          rw [hcI]
          rw [hmI] at hmmI
          rw [hoI] at hc1
          have HcI := Lib.hid hcI
          have HmI := Lib.hid hmI
          have HoI := Lib.hid hoI
          have hand : bits .and .u64 (cI + (mI + oI)) 4294967295 = (cI + (mI + oI)) % 4294967296 := and32 _ (by omega) (by omega)
          clear hB hBw h0 hO hOl hbx hyj hyb hjL htj hcell hfr hset hst hv hmi2 hob ho' hmu hmm hcy2 hz' hcI hmI hoI hcy ho hgg hc'
          go_wp2
          go_roundw
          case rel =>
            refine ⟨j + 1, O.set (k + j) ((cy + (mm + o)) % 4294967296), (cy + (mm + o)) / 4294967296, by go_num, ?_, by omega, by rw [List.length_set]; exact HOl.out, HO.out.set _ (Nat.mod_lt _ (by omega)), HC2.out, HST.out, HZ.out, ?_, ?_⟩
            · have e : (((cy + (mm + o)) / 4294967296 : Nat) : Int) = (cI + (mI + oI)) / 4294967296 := by have h1 := HcI.out; have h2 := HmI.out; have h3 := HoI.out; omega
              rw [e]
            · have h := HSet.out ((cy + (mm + o)) % 4294967296)
              have e : (((cy + (mm + o)) % 4294967296 : Nat) : Int) = (cI + (mI + oI)) % 4294967296 := by have h1 := HcI.out; have h2 := HmI.out; have h3 := HoI.out; omega
              rw [e] at h
              exact h
            · exact HBW.out.setCell (p := ⟨g, k + j, none⟩) (Nat.le_refl _) _
          case measure => simp [intOf]; omega
        · obtain rfl : j = m := by omega
          obtain ⟨g', c', he, hbg, hg', hc', hcell, hfr, hset⟩ := ho.form (by omega)
          simp only [Value.slice.injEq] at he
          obtain ⟨hgg, -, -⟩ := he
          obtain rfl : g = g' := by simpa using hgg
          have hyt : valL ((limbs y).take j) = y := by
            rw [List.take_of_length_le (by rw [limbs_len, HM.out]; omega), limbs_val]
          rw [hyt] at hv
          have hfin := mul_out (show k + j < O.length by omega) (h0 _ (Nat.le_refl _)) HT0.out hv
          rw [← HTK.out] at hfin
          have hc1 := hcell (k + j) (by omega)
          have hfk := hfr (k + j)
          have hst := fun y => hset (k + j) y (by omega)
          have HF := Lib.hid hfin
          have HSet := Lib.hid (hst cy)
          have HCy := Lib.hid hcy
          obtain ⟨o, ho'⟩ : ∃ o, O[k + j]'(by omega) = o := ⟨_, rfl⟩
          rw [ho'] at hc1
          obtain ⟨cI, hcI⟩ : ∃ cI : Int, (cy : Int) = cI := ⟨_, rfl⟩
          have hc0 : 0 ≤ cI := by omega
          have hc1' : cI ≤ 4294967295 := by omega
          rw [hcI]
          have HcI := Lib.hid hcI
          clear hB hBw h0 hO hOl hbx hcell hfr hset hst hv hfin hyt ho' hcI hcy ho hgg hc'
          go_wp2
          go_roundw
          case rel =>
            refine ⟨k + 1, O.set (k + j) cy, by go_num, by rw [HN.out]; omega, by rw [List.length_set]; exact HOl.out, HO.out.set _ HCy.out, HF.out, fun i hi => ?_, ?_, ?_⟩
            · rw [getD_set_ne O (by omega)]; exact HH0.out i (by omega)
            · have h := HSet.out
              rw [HcI.out] at h
              exact h
            · exact HBW.out.setCell (p := ⟨g, k + j, none⟩) (Nat.le_refl _) _
          case measure => simp [intOf]; omega
    · obtain rfl : k = n := by omega
      have hval : valL O = x * y := by
        rw [hv, List.take_of_length_le (by rw [limbs_len, HN.out]; omega), limbs_val]
      obtain ⟨a6, c6, he6, hc6, hr6⟩ := ho.rd
      have HT := Lib.hid (trim_any hO hr6 hc6 (by rw [hOl]; omega))
      rw [hval] at HT
      rw [hOl] at HT he6
      simp only [Value.slice.injEq] at he6
      obtain ⟨rfl, -, rfl⟩ := he6
      have HBx6 := Lib.hid (HBx.out.below hBw)
      have HBw := Lib.hid hBw
      clear hB hBw hv h0 hO hOl ho hval hc6 hr6
      go_wp2_with (go_at_call 94; refine HT.out.mono ?_; rintro e w6 ⟨rfl, hN6, hB6⟩; have HN6 := Lib.hid hN6; have hbx6 := HBx6.out.below hB6; have HB6 := Lib.hid (HBw.out.trans (hB6.mono HBw.out.size)); clear hN6 hB6; have r0 := hbx6.2.2.cell 0; have r1 := hbx6.2.2.frozen 0; have HX6 := Lib.hid hbx6.2.2; clear hbx6)
      obtain ⟨e1, e2, e3⟩ := res_at HX6.out (by omega) (HB2.out.trans (HB6.out.mono HB2.out.size)) HN6.out
      exact bodyPost_ret (r_c rfl rfl e1) rfl ⟨_, rfl, e2, e3⟩
end Go.Proofs.YtjcpfmndkeiegaaGreatDoor.D
