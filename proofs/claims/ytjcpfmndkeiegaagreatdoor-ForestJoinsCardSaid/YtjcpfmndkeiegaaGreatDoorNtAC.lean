/- Words for numbers of limbs as they lie; the walks of package nat's small functions. Rows of limbs of the call's own; the walk of nat.more, nat.number, nat.Parse. The walks of nat.less, nat.number, nat.Parse. -/
import Derived.Test.YtjcpfmndkeiegaaGreatDoorNaZ
import Derived.Test.YtjcpfmndkeiegaaGreatDoorProg
import Derived.Test.YtjcpfmndkeiegaaGreatDoorMem
import Derived.Test.YtjcpfmndkeiegaaGreatDoorRd
import Derived.Test.YtjcpfmndkeiegaaGreatDoorOw
import Derived.WalkKit
import Derived.ProofKit
import Derived.LoopTactic
import Derived.WalkSpells
import Derived.WalkLawsBesides
import Derived.Lib.Hide
import Derived.Outline
import Derived.Handy
namespace Go.Proofs.YtjcpfmndkeiegaaGreatDoor
open Go.RowKit
set_option linter.unusedVariables false

/-- 'x & (1<<32 - 1)'. -/
theorem and32 (x : Int) (h0 : 0 ≤ x) (h : x < 18446744073709551616) : bits .and .u64 x 4294967295 = x % 4294967296 := by
  obtain ⟨r, rfl⟩ : ∃ r : Nat, x = r := ⟨x.toNat, by omega⟩
  show IntKind.u64.wrap ((BitVec.ofInt 64 (r : Int) &&& BitVec.ofInt 64 4294967295).toNat : Int) = _
  rw [BitVec.toNat_and, BitVec.toNat_ofInt]
  have e1 : ((r : Int) % ((2 ^ 64 : Nat) : Int)).toNat = r := by omega
  have e2 : (BitVec.ofInt 64 4294967295).toNat = 2 ^ 32 - 1 := by decide
  rw [e1, e2, Nat.and_two_pow_sub_one_eq_mod]
  simp [IntKind.wrap, IntKind.bits, IntKind.signed]
  omega
/-- A limb as a cell. -/
def uv (x : Nat) : Value := .int .u32 (x : Int)
/-- A slice's limbs as they lie. -/
def RdL (w : World) (a : Option Addr) (l : List Nat) : Prop := (a = none ∧ l = []) ∨ ∃ g cur, a = some ⟨g, 0, none⟩ ∧ BlkAt w g 133 cur ∧ ∀ i (h : i < l.length), cur[i]? = some (uv l[i])
theorem RdL.keep {w w' : World} {a : Option Addr} {l : List Nat} (h : RdL w a l) (hk : KeepT 133 w w') : RdL w' a l := by
  rcases h with h | ⟨g, cur, h1, h2, h3⟩
  · exact .inl h
  · exact .inr ⟨g, cur, h1, hk g cur h2, h3⟩
theorem RdL.below {w w' : World} {a : Option Addr} {l : List Nat} (h : RdL w a l) (hB : Below w.heap.size w w') : RdL w' a l := h.keep (KeepT.of_below hB)
theorem RdL.nil (w : World) : RdL w none [] := .inl ⟨rfl, rfl⟩
theorem RdL.take {w : World} {a : Option Addr} {l : List Nat} (h : RdL w a l) (m : Nat) : RdL w a (l.take m) := by
  rcases h with h | ⟨g, cur, h1, h2, h3⟩
  · exact .inl ⟨h.1, by rw [h.2]; simp⟩
  · refine .inr ⟨g, cur, h1, h2, fun i hi => ?_⟩
    have hi' : i < l.length := by simp at hi; omega
    rw [h3 i hi']; simp
theorem RdL.at {w : World} {a : Option Addr} {l : List Nat} (h : RdL w a l) (i : Nat) (hi : i < l.length) : ∃ g, a = some ⟨g, 0, none⟩ ∧ g < w.heap.size ∧ w.cell? ⟨g, i, none⟩ = some (.int .u32 ((l.getD i 0 : Nat) : Int)) := by
  rcases h with h | ⟨g, cur, h1, h2, h3⟩
  · rw [h.2] at hi; simp at hi
  · refine ⟨g, h1, h2.lt, ?_⟩
    rw [h2.cell i, h3 i hi, List.getD, List.getElem?_eq_getElem hi]; rfl
/-- A number as it lies. -/
def NatAt (w : World) (v : Value) (n : Nat) : Prop := ∃ a c, v = .agg #[.slice a (szN n) c] ∧ RdL w a (limbs n)
theorem NatAt.keep {w w' : World} {v : Value} {n : Nat} (h : NatAt w v n) (hk : KeepT 133 w w') : NatAt w' v n := by
  obtain ⟨a, c, h1, h2⟩ := h
  exact ⟨a, c, h1, h2.keep hk⟩
theorem NatAt.below {w w' : World} {v : Value} {n : Nat} (h : NatAt w v n) (hB : Below w.heap.size w w') : NatAt w' v n := h.keep (KeepT.of_below hB)
theorem NatAt.zero (w : World) (c : Nat) : NatAt w (.agg #[.slice none 0 c]) 0 := ⟨none, c, by rw [szN_zero], by rw [limbs_zero]; exact RdL.nil w⟩

/-- A call's results: structs in cells, and others. -/
theorem r_c {P : Program} {fn : Func} {p : Tmp} {ty : TypeId} (hf : fn.results = #[.cell p ty]) {tmps : Array Value} {w : World} {g : Nat} {v : Value}
    (hp : tmps.getD p undef = .pointer (some ⟨g, 0, none⟩)) (h : (loadVar ty ⟨g, 0, none⟩).run P w = .ok v w) : (results fn tmps).run P w = .ok v w := by
  have hp' : tmps[p]?.getD undef = .pointer (some ⟨g, 0, none⟩) := by simpa using hp
  simp only [results, hf]
  simp [hp', asAddr, h]
theorem r_ct {P : Program} {fn : Func} {p u : Tmp} {ty : TypeId} (hf : fn.results = #[.cell p ty, .tmp u]) {tmps : Array Value} {w : World} {g : Nat} {v : Value}
    (hp : tmps.getD p undef = .pointer (some ⟨g, 0, none⟩)) (h : (loadVar ty ⟨g, 0, none⟩).run P w = .ok v w) : (results fn tmps).run P w = .ok (.tuple #[v, tmps.getD u undef]) w := by
  have hp' : tmps[p]?.getD undef = .pointer (some ⟨g, 0, none⟩) := by simpa using hp
  simp only [results, hf]
  simp [hp', asAddr, h]
theorem r_cc {P : Program} {fn : Func} {p q : Tmp} {ty ty' : TypeId} (hf : fn.results = #[.cell p ty, .cell q ty']) {tmps : Array Value} {w : World} {g g' : Nat} {v v' : Value}
    (hp : tmps.getD p undef = .pointer (some ⟨g, 0, none⟩)) (hq : tmps.getD q undef = .pointer (some ⟨g', 0, none⟩)) (h : (loadVar ty ⟨g, 0, none⟩).run P w = .ok v w) (h' : (loadVar ty' ⟨g', 0, none⟩).run P w = .ok v' w) :
    (results fn tmps).run P w = .ok (.tuple #[v, v']) w := by
  have hp' : tmps[p]?.getD undef = .pointer (some ⟨g, 0, none⟩) := by simpa using hp
  have hq' : tmps[q]?.getD undef = .pointer (some ⟨g', 0, none⟩) := by simpa using hq
  simp only [results, hf]
  simp [hp', hq', asAddr, h, h']
theorem r_cct {P : Program} {fn : Func} {p q u : Tmp} {ty ty' : TypeId} (hf : fn.results = #[.cell p ty, .cell q ty', .tmp u]) {tmps : Array Value} {w : World} {g g' : Nat} {v v' : Value}
    (hp : tmps.getD p undef = .pointer (some ⟨g, 0, none⟩)) (hq : tmps.getD q undef = .pointer (some ⟨g', 0, none⟩)) (h : (loadVar ty ⟨g, 0, none⟩).run P w = .ok v w) (h' : (loadVar ty' ⟨g', 0, none⟩).run P w = .ok v' w) :
    (results fn tmps).run P w = .ok (.tuple #[v, v', tmps.getD u undef]) w := by
  have hp' : tmps[p]?.getD undef = .pointer (some ⟨g, 0, none⟩) := by simpa using hp
  have hq' : tmps[q]?.getD undef = .pointer (some ⟨g', 0, none⟩) := by simpa using hq
  simp only [results, hf]
  simp [hp', hq', asAddr, h, h']
theorem aggNat : AggT Tryz.prog 57 1 := ⟨_, Tryz.underlying57, rfl, by kernel_rfl⟩

theorem grow_set (w : World) (b j : Nat) (u : Value) : w.grownBy (w.setCell ⟨b, j, none⟩ u) (some b) :=
  ⟨rfl, rfl, rfl, by rw [World.size_setCell]; exact Nat.le_refl _, fun k _ hne => Below.heap_setCell w ⟨b, j, none⟩ u k (fun e => hne (by rw [e]))⟩
/-- The cell of a result that is a number. -/
abbrev nat0 : Obj := .cells #[.slice none 0 0] 57
theorem res_nat {w W : World} {a : Option Addr} {s c n : Nat} (h : Below (w.heap.size + 1) (w.alloc nat0) W) (hN : NatAt W (.agg #[.slice a s c]) n) :
    (loadVar 57 ⟨w.heap.size, 0, none⟩).run Tryz.prog (W.setCell ⟨w.heap.size, 0, none⟩ (.slice a s c)) = .ok (.agg #[.slice a s c]) (W.setCell ⟨w.heap.size, 0, none⟩ (.slice a s c)) ∧
      NatAt (W.setCell ⟨w.heap.size, 0, none⟩ (.slice a s c)) (.agg #[.slice a s c]) n ∧ Below w.heap.size w (W.setCell ⟨w.heap.size, 0, none⟩ (.slice a s c)) := by
  have hb : BlkAt W w.heap.size 57 #[.slice none 0 0] := (BlkAt.new w _ _).below h (by omega)
  have hs := hb.set 0 (.slice a s c)
  exact ⟨aggNat.load rfl hs, hN.keep (KeepT.blk hb (by decide) (grow_set W w.heap.size 0 _)), (((Below.refl _ w).alloc (Nat.le_refl _) nat0).trans (h.mono (by omega))).setCell (p := ⟨w.heap.size, 0, none⟩) (Nat.le_refl _) _⟩
/-- That cell, ahead of the store. -/
theorem res_free {w W : World} (h : Below (w.heap.size + 1) (w.alloc nat0) W) : W.cell? ⟨w.heap.size, 0, none⟩ = some (.slice none 0 0) ∧ W.frozen? ⟨w.heap.size, 0, none⟩ = false := by
  have hb : BlkAt W w.heap.size 57 #[.slice none 0 0] := (BlkAt.new w _ _).below h (by omega)
  exact ⟨hb.cell 0, hb.frozen 0⟩

set_option maxRecDepth 20000 in
set_option maxHeartbeats 4000000 in
theorem trim_any {w : World} {a : Option Addr} {l : List Nat} {c : Nat} (hl : Lim l) (h : RdL w a l) (hc : l.length ≤ c) (hlen : l.length ≤ 1000000000) :
    Calls Tryz.prog 94 #[.slice a l.length c] w fun e w' => e = .returned (.agg #[.slice a (szN (valL l)) (szN (valL l))]) ∧ NatAt w' (.agg #[.slice a (szN (valL l)) (szN (valL l))]) (valL l) ∧ Below w.heap.size w w' := by
  have HL := Lib.hid hl
  have HR := Lib.hid h
  clear hl h
  go_enter Tryz.func94, Tryz.ntmps94
  go_wp2
  go_loopw [3] (fun p W => ∃ n : Nat, p = .int .i64 n ∧ n ≤ l.length ∧ (∀ x ∈ l.drop n, x = 0) ∧ W = w.alloc (.cells #[.slice none 0 0] 57)) (fun p W => (intOf p).toNat)
  case atStart => exact ⟨l.length, rfl, Nat.le_refl _, by simp, rfl⟩
  case round =>
    obtain ⟨n, rfl, hn, h0, rfl⟩ := hrel
    have H0 := Lib.hid h0
    clear h0
    by_cases hz : 0 < n
    · obtain ⟨g, rfl, hg, hcell⟩ := HR.out.at (n - 1) (by omega)
      have hcell2 : (w.alloc (.cells #[.slice none 0 0] 57)).cell? ⟨g, n - 1, none⟩ = some (.int .u32 ((l.getD (n - 1) 0 : Nat) : Int)) := by
        rw [World.cell?_of_block (Below.heap_alloc w _ g hg)]; exact hcell
      clear hcell
      obtain ⟨x, hx⟩ : ∃ x, l.getD (n - 1) 0 = x := ⟨_, rfl⟩
      rw [hx] at hcell2
      have HX := Lib.hid hx
      clear hx
      by_cases hx : x = 0
      · subst hx
        go_wp2
        go_roundw
        case rel =>
          refine ⟨n - 1, by go_num, by omega, fun y hy => ?_, trivial⟩
          have e : l.drop (n - 1) = l.getD (n - 1) 0 :: l.drop n := by
            rw [List.drop_eq_getElem_cons (by omega : n - 1 < l.length), show n - 1 + 1 = n by omega, List.getD, List.getElem?_eq_getElem (by omega)]; rfl
          rw [e, HX.out] at hy
          rcases List.mem_cons.1 hy with rfl | hy
          · rfl
          · exact H0.out y hy
        case measure => simp [intOf]; omega
      · have hxb : ((x : Int) == 0) = false := beq_eq_false_iff_ne.2 (by omega)
        have e : limbs (valL l) = l.take n := limbs_take HL.out n hn H0.out (.inr (by rw [HX.out]; exact hx))
        have hs : szN (valL l) = n := by rw [szN, e, List.length_take, Nat.min_eq_left hn]
        have HT := Lib.hid e
        have HS := Lib.hid hs
        clear e hs
        go_wp2
        refine bodyPost_ret (r_c rfl rfl (aggNat.load rfl (BlkAt.new w 57 #[.slice (some ⟨g, 0, none⟩) n n]))) rfl ?_
        refine ⟨by rw [HS.out], ⟨some ⟨g, 0, none⟩, szN (valL l), rfl, ?_⟩, (Below.refl _ w).alloc (Nat.le_refl _) _⟩
        rw [HT.out]
        exact (HR.out.take n).below ((Below.refl _ w).alloc (Nat.le_refl _) _)
    · obtain rfl : n = 0 := by omega
      have e : limbs (valL l) = l.take 0 := limbs_take HL.out 0 (Nat.zero_le _) H0.out (.inl rfl)
      have hs : szN (valL l) = 0 := by rw [szN, e]; rfl
      have HT := Lib.hid e
      have HS := Lib.hid hs
      clear e hs
      go_wp2
      refine bodyPost_ret (r_c rfl rfl (aggNat.load rfl (BlkAt.new w 57 #[.slice a 0 0]))) rfl ?_
      refine ⟨by rw [HS.out], ⟨a, szN (valL l), rfl, ?_⟩, (Below.refl _ w).alloc (Nat.le_refl _) _⟩
      rw [HT.out]
      exact (HR.out.take 0).below ((Below.refl _ w).alloc (Nat.le_refl _) _)

theorem zero_any {v : Value} {n : Nat} {w : World} (h : NatAt w v n) :
    Calls Tryz.prog 95 #[v] w fun e w' => e = .returned (.bool (decide (n = 0))) ∧ Below w.heap.size w w' := by
  obtain ⟨a, c, rfl, h⟩ := h
  have hz : decide (n = 0) = ((szN n : Int) == 0) := by
    rw [Bool.eq_iff_iff, decide_eq_true_iff, beq_iff_eq]
    constructor
    · rintro rfl; rw [szN_zero]; rfl
    · intro e; apply Decidable.byContradiction; intro hn; have := szN_pos hn; omega
  rw [hz]
  clear h hz
  go_enter Tryz.func95, Tryz.ntmps95
  go_wp2
  go_ret
  exact ⟨rfl, (Below.refl _ w).alloc (Nat.le_refl _) _⟩
set_option maxHeartbeats 4000000 in
theorem of_any (n : Nat) (hn : n < 18446744073709551616) (w : World) :
    Calls Tryz.prog 101 #[.int .u64 n] w fun e w' => ∃ v, e = .returned v ∧ NatAt w' v n ∧ Below w.heap.size w w' := by
  have hand : bits .and .u64 (n : Int) 4294967295 = (n : Int) % 4294967296 := and32 _ (by omega) (by omega)
  have hv : valL [n % 4294967296, n / 4294967296] = n := by simp [valL]; omega
  have hl : Lim [n % 4294967296, n / 4294967296] := Lim.cons (by omega) (Lim.cons (by omega) Lim.nil)
  obtain ⟨W2, hW2⟩ : ∃ W2, (w.alloc (Obj.cells #[.slice none 0 0] 57)).alloc (Obj.cells #[.int .u32 ((n : Int) % 4294967296), .int .u32 ((n : Int) / 4294967296)] 133) = W2 := ⟨_, rfl⟩
  have hB2 : Below (w.heap.size + 1) (w.alloc nat0) W2 := by rw [← hW2]; exact (Below.refl _ (w.alloc nat0)).alloc (by simp) _
  have hR : RdL W2 (some ⟨w.heap.size + 1, 0, none⟩) [n % 4294967296, n / 4294967296] := by
    have hb : BlkAt W2 (w.heap.size + 1) 133 #[.int .u32 ((n : Int) % 4294967296), .int .u32 ((n : Int) / 4294967296)] := by
      rw [← hW2]
      have := BlkAt.new (w.alloc (Obj.cells #[.slice none 0 0] 57)) 133 #[.int .u32 ((n : Int) % 4294967296), .int .u32 ((n : Int) / 4294967296)]
      simpa using this
    refine .inr ⟨w.heap.size + 1, _, rfl, hb, fun i hi => ?_⟩
    match i, hi with
    | 0, _ => rfl
    | 1, _ => rfl
  have HT := Lib.hid (trim_any (c := 2) hl hR (Nat.le_refl _) (by simp))
  rw [hv] at HT
  have HB := Lib.hid hB2
  have hwz := hB2.size
  rw [World.size_alloc] at hwz
  clear hR hl hv hB2
  go_enter Tryz.func101, Tryz.ntmps101
  go_wp2_with (go_at_call 94; refine HT.out.mono ?_; rintro e w3 ⟨rfl, hN, hB3⟩; have HB3 := Lib.hid (HB.out.trans (hB3.mono hwz)); have HN := Lib.hid hN; clear hN; obtain ⟨r0, r1⟩ := res_free HB3.out; clear hB3)
  obtain ⟨e1, e2, e3⟩ := res_nat HB3.out HN.out
  exact bodyPost_ret (r_c rfl rfl e1) rfl ⟨_, rfl, e2, e3⟩
end Go.Proofs.YtjcpfmndkeiegaaGreatDoor
namespace Go.Proofs.YtjcpfmndkeiegaaGreatDoor
open Go.RowKit
set_option linter.unusedVariables false

/-- A row of limbs of the call's own. -/
def OwnL (w : World) (base : Nat) (v : Value) (L : List Nat) : Prop := w.ownsRow base 133 1 v L.length (L.map uv)
theorem OwnL.nil (w : World) (base : Nat) : OwnL w base (.slice none 0 0) [] := World.ownsRow_nil _ _ _ _
theorem OwnL.rd {w : World} {base : Nat} {v : Value} {L : List Nat} (h : OwnL w base v L) : ∃ a c, v = .slice a L.length c ∧ L.length ≤ c ∧ RdL w a L := by
  rcases h.2 with ⟨rfl, h0⟩ | ⟨g, cap, cur, rfl, hb, hg, h1, h2, h3, h4⟩
  · exact ⟨none, 0, by rw [h0], by omega, .inl ⟨rfl, List.eq_nil_of_length_eq_zero h0⟩⟩
  · refine ⟨_, _, rfl, h1, .inr ⟨g, cur, rfl, hg, fun i hi => ?_⟩⟩
    have : (cur.toList.take (L.length * 1))[i]? = cur[i]? := by rw [List.getElem?_take_of_lt (by omega)]; simp
    rw [← this, h4, List.getElem?_map, List.getElem?_eq_getElem hi]; rfl
theorem OwnL.form {w : World} {base : Nat} {v : Value} {L : List Nat} (h : OwnL w base v L) (hn : 0 < L.length) : ∃ g c, v = .slice (some ⟨g, 0, none⟩) L.length c ∧ base ≤ g ∧ g < w.heap.size ∧ L.length ≤ c ∧ (∀ i (hi : i < L.length), w.cell? ⟨g, i, none⟩ = some (.int .u32 (L[i] : Int))) ∧ (∀ i, w.frozen? ⟨g, i, none⟩ = false) ∧
    ∀ i x, i < L.length → OwnL (w.setCell ⟨g, i, none⟩ (.int .u32 (x : Nat))) base v (L.set i x) := by
  rcases h.2 with ⟨rfl, h0⟩ | ⟨g, cap, cur, rfl, hb, hg, h1, h2, h3, h4⟩
  · omega
  · have hB : BlkAt w g 133 cur := hg
    refine ⟨g, cap, rfl, hb, hB.lt, h1, fun i hi => ?_, fun i => hB.frozen i, fun i x hi => ?_⟩
    · rw [hB.cell i]
      have : (cur.toList.take (L.length * 1))[i]? = cur[i]? := by rw [List.getElem?_take_of_lt (by omega)]; simp
      rw [← this, h4]; simp [hi, uv]
    · refine ⟨by simp, .inr ⟨g, cap, cur.setIfInBounds i (uv x), by simp, hb, hB.set i _, by simpa using h1, h2, by simpa using h3, ?_⟩⟩
      rw [List.length_set, Array.toList_setIfInBounds, List.take_set, h4, List.map_set]
theorem OwnL.mono {w : World} {base base' : Nat} {v : Value} {L : List Nat} (h : OwnL w base v L) (hb : base' ≤ base) : OwnL w base' v L := ownsRow_mono h hb
theorem OwnL.keep {w w' : World} {base : Nat} {v : Value} {L : List Nat} (h : OwnL w base v L) (hk : KeepT 133 w w') : OwnL w' base v L := hk.owns h
set_option maxRecDepth 100000 in
theorem slU : SlT Tryz.prog 55 133 1 4 := SlT.mk Tryz.underlying55 (z := .int .u32 0) (by kernel_rfl) rfl (by decide) (by decide)

theorem cdiv (a b : Nat) : (((a + b) / 4294967296 : Nat) : Int) = ((a : Int) + (b : Int)) / 4294967296 := by omega
theorem cmod (a b : Nat) : (((a + b) % 4294967296 : Nat) : Int) = ((a : Int) + (b : Int)) % 4294967296 := by omega
theorem set_mid (D : List Nat) (x : Nat) (t : List Nat) (y : Nat) : (D ++ x :: t).set D.length y = (D ++ [y]) ++ t := by
  rw [List.set_append_right _ _ (Nat.le_refl _)]; simp
theorem set_at {D L : List Nat} {k : Nat} (hk : D.length = k) (h : k < L.length) (y : Nat) : (D ++ L.drop k).set k y = (D ++ [y]) ++ L.drop (k + 1) := by
  rw [List.drop_eq_getElem_cons h]
  have := set_mid D L[k] (L.drop (k + 1)) y
  rw [hk] at this
  exact this
/-- The loop of 'more'. -/
def MoreL (w : World) (base : Nat) (v : Value) (L : List Nat) (b T : Nat) (c p : Value) (W : World) : Prop :=
  ∃ k D cy, p = .int .i64 (k : Nat) ∧ c = .int .u64 (cy : Nat) ∧ k ≤ L.length ∧ D.length = k ∧ Lim D ∧ cy < 4294967296 ∧ valL D + 4294967296 ^ k * (cy + b * valL (L.drop k)) = T ∧ OwnL W base v (D ++ L.drop k) ∧ w.grownBy W v.ownBlock ∧ Below base w W
set_option maxRecDepth 20000 in
set_option maxHeartbeats 8000000 in
theorem more_any {w : World} {base : Nat} {v : Value} {L : List Nat} {b ad : Nat} (hb : base ≤ w.heap.size) (hown : OwnL w base v L) (hL : Lim L) (hn : L.length ≤ 1000000) (hby : b < 4294967296) (had : ad < 4294967296) :
    Calls Tryz.prog 93 #[v, .int .u32 b, .int .u32 ad] w fun e w' => ∃ v' L', e = .returned v' ∧ OwnL w' base v' L' ∧ Lim L' ∧ valL L' = valL L * b + ad ∧ L'.length ≤ L.length + 1 ∧ Below base w w' := by
  obtain ⟨a, c, rfl, hc, hrd⟩ := hown.rd
  have H0 := Lib.hid (show MoreL w base (.slice a L.length c) L b (valL L * b + ad) (.int .u64 ad) (.int .i64 0) w from ⟨0, [], ad, rfl, rfl, Nat.zero_le _, rfl, Lim.nil, had, by simp [valL, Nat.mul_comm, Nat.add_comm], by simpa using hown, ⟨rfl, rfl, rfl, Nat.le_refl _, fun _ _ _ => rfl⟩, Below.refl _ _⟩)
  have HL := Lib.hid hL
  have HBY := Lib.hid hby
  have hbyI : (b : Int) ≤ 4294967295 := by omega
  have hadI : (ad : Int) ≤ 4294967295 := by omega
  clear hown hL hrd hby had
  go_enter Tryz.func93, Tryz.ntmps93
  go_wp2
  go_loopw [7, 13] (fun c' p W => MoreL w base (.slice a L.length c) L b (valL L * b + ad) c' p W) (fun c' p W => L.length - (intOf p).toNat)
  case atStart => exact H0.out
  case round =>
    obtain ⟨k, D, cy, rfl, rfl, hk, hDl, hD, hcy, hv, ho, hgr, hB⟩ := hrel
    have hml : (D ++ L.drop k).length = L.length := by simp; omega
    by_cases hlt : k < L.length
    · obtain ⟨g, c', he, hbg, hg, hc', hcell, hfr, hset⟩ := ho.form (by omega)
      simp only [Value.slice.injEq] at he
      obtain ⟨rfl, -, rfl⟩ := he
      have hgk : (D ++ L.drop k)[k]'(by omega) = L[k] := by
        rw [List.getElem_append_right (by omega)]; simp [hDl]
      have hc1 := hcell k (by omega)
      rw [hgk] at hc1
      have hst := hset k
      have hvk : valL (L.drop k) = L[k] + 4294967296 * valL (L.drop (k + 1)) := by rw [List.drop_eq_getElem_cons hlt]; rfl
      rw [hvk] at hv
      have hx := HL.out.get hlt
      obtain ⟨x, hxx⟩ : ∃ x, L[k] = x := ⟨_, rfl⟩
      rw [hxx] at hc1 hx hv
      have hfk := hfr k
      have hmu : x * b ≤ 4294967295 * 4294967295 := Nat.mul_le_mul (by omega) (by have := HBY.out; omega)
      have hst2 := more_step hDl hv
      have hcy2 : (cy + x * b) / 4294967296 < 4294967296 := by omega
      have hset2 : ∀ y : Nat, (D ++ L.drop k).set k y = (D ++ [y]) ++ L.drop (k + 1) := fun y => set_at hDl hlt y
      have HST := Lib.hid hst2
      have HSet := Lib.hid (fun y => hst y (by omega))
      have HS2 := Lib.hid hset2
      have HGr := Lib.hid hgr
      have HB := Lib.hid hB
      have hbg2 := hbg
      have HD := Lib.hid hD
      obtain ⟨m, hm⟩ : ∃ m : Nat, x * b = m := ⟨_, rfl⟩
      have hmi : (x : Int) * (b : Int) = (m : Int) := by rw [← hm]; simp
      rw [hm] at hmu hcy2 HST
      have hmuI : (m : Int) ≤ 18446744065119617025 := by omega
      have hcyI : (cy : Int) ≤ 4294967295 := by omega
      have HC2 := Lib.hid hcy2
      have hxI : (x : Int) ≤ 4294967295 := by omega
      obtain ⟨cI, hcI⟩ : ∃ cI : Int, (cy : Int) = cI := ⟨_, rfl⟩
      obtain ⟨mI, hmI⟩ : ∃ mI : Int, (m : Int) = mI := ⟨_, rfl⟩
      have hc0 : 0 ≤ cI := by omega
      have hm0 : 0 ≤ mI := by omega
      rw [hcI] at hcyI ⊢
      rw [hmI] at hmuI hmi
      have HcI := Lib.hid hcI
      have HmI := Lib.hid hmI
      have hand : bits .and .u64 (cI + mI) 4294967295 = (cI + mI) % 4294967296 := and32 _ (by omega) (by omega)
      clear ho hgr hB hcell hfr hset hst hvk hv hxx hm hset2 hst2 hgk hD hmu hcy hcy2 hx hbg2 hcI hmI hml hc'
      have HDl := Lib.hid hDl
      clear hDl
      go_wp2
      go_roundw
      case rel =>
        refine ⟨k + 1, D ++ [(cy + m) % 4294967296], (cy + m) / 4294967296, by go_num, ?_, by omega, by simp [HDl.out], HD.out.append (Lim.cons (Nat.mod_lt _ (by omega)) Lim.nil), HC2.out, HST.out, ?_, ?_, ?_⟩
        · rw [← HcI.out, ← HmI.out, cdiv]
        · rw [← HS2.out]
          have h := HSet.out ((cy + m) % 4294967296)
          rw [cmod, HcI.out, HmI.out] at h
          exact h
        · exact ⟨HGr.out.os, HGr.out.tape, HGr.out.output, by rw [World.size_setCell]; exact HGr.out.size, fun q hq hne => (Below.heap_setCell wr ⟨g, k, none⟩ _ q (fun e => hne (by rw [e]; rfl))).trans (HGr.out.block q hq hne)⟩
        · exact HB.out.setCell (p := ⟨g, k, none⟩) hbg _
      case measure => simp [intOf]; omega
    · obtain rfl : k = L.length := by omega
      rw [List.drop_length, List.append_nil] at ho
      have hv2 : valL D + 4294967296 ^ L.length * cy = valL L * b + ad := by
        rw [List.drop_length] at hv; simpa [valL] using hv
      have HV := Lib.hid hv2
      have HO := Lib.hid ho
      have HB := Lib.hid hB
      have HD := Lib.hid hD
      have HDl := Lib.hid hDl
      have hwz := hB.size
      have HCy := Lib.hid hcy
      have hos : wr.ownsRow base 133 1 (.slice a L.length c) L.length (D.map uv) := by
        have := ho; unfold OwnL at this; rwa [hDl] at this
      have HOs := Lib.hid hos
      clear hv hv2 ho hB hD hDl hgr hml hcy hos
      by_cases hz : cy = 0
      · subst hz
        go_wp2
        go_ret
        exact ⟨_, D, rfl, HO.out, HD.out, by have := HV.out; simpa using this, by rw [HDl.out]; omega, HB.out⟩
      · obtain ⟨cI, hcI⟩ : ∃ cI : Int, (cy : Int) = cI := ⟨_, rfl⟩
        have hc0 : 0 < cI := by omega
        have hc1 : cI ≤ 4294967295 := by have := HCy.out; omega
        rw [hcI]
        have HcI := Lib.hid hcI
        clear hcI hz
        go_wp2_with (at_builtin; refine wpList_app _ rfl _ _ _ _ _ _ slU rfl base w (HB.out.alloc (by omega) _) (by simp; omega) _ _ _ rfl (HOs.out.alloc _) ⟨wr.heap.size, 0, none⟩ [.int .u32 cI] rfl rfl (cell_one_new _ _ _) (by simp [Value.oneCell']) (by omega) ?_; intro v' w4 ho4 hB4 hb4 hg4)
        go_ret
        refine ⟨_, D ++ [cy], rfl, ?_, HD.out.append (Lim.cons HCy.out Lim.nil), by rw [valL_snoc, HDl.out]; exact HV.out, by simp [HDl.out], hB4⟩
        unfold OwnL
        rw [← HcI.out] at ho4
        simpa [HDl.out, uv] using ho4
end Go.Proofs.YtjcpfmndkeiegaaGreatDoor
namespace Go.Proofs.YtjcpfmndkeiegaaGreatDoor
open Go.RowKit
set_option linter.unusedVariables false

/-- '(r<<32) | x'. -/
theorem or32 (r x : Int) (h0 : 0 ≤ r) (h1 : r ≤ 4294967295) (h2 : 0 ≤ x) (h3 : x ≤ 4294967295) : bits .or .u64 (r * 4294967296) x = r * 4294967296 + x := by
  obtain ⟨a, rfl⟩ : ∃ a : Nat, r = a := ⟨r.toNat, by omega⟩
  obtain ⟨b, rfl⟩ : ∃ b : Nat, x = b := ⟨x.toNat, by omega⟩
  have e0 : (a : Int) * 4294967296 = ((a * 4294967296 : Nat) : Int) := by omega
  rw [e0]
  show IntKind.u64.wrap ((BitVec.ofInt 64 ((a * 4294967296 : Nat) : Int) ||| BitVec.ofInt 64 (b : Int)).toNat : Int) = _
  rw [BitVec.toNat_or, BitVec.toNat_ofInt, BitVec.toNat_ofInt]
  have e1 : (((a * 4294967296 : Nat) : Int) % ((2 ^ 64 : Nat) : Int)).toNat = 2 ^ 32 * a := by omega
  have e2 : ((b : Int) % ((2 ^ 64 : Nat) : Int)).toNat = b := by omega
  rw [e1, e2, ← Nat.two_pow_add_eq_or_of_lt (by omega)]
  simp [IntKind.wrap, IntKind.bits, IntKind.signed]
  omega
/-- Limbs are the first ones of a list that comes to their number. -/
theorem limbs_front : ∀ {L : List Nat}, Lim L → limbs (valL L) = L.take (szN (valL L)) ∧ szN (valL L) ≤ L.length
  | [], _ => by rw [show valL [] = 0 from rfl, szN_zero, limbs_zero]; exact ⟨rfl, Nat.le_refl _⟩
  | x :: t, h => by
    have hx := h x (by simp)
    have ih := limbs_front (L := t) (fun y hy => h y (by simp [hy]))
    have hv : valL (x :: t) = x + 4294967296 * valL t := rfl
    by_cases h0 : valL (x :: t) = 0
    · rw [h0, szN_zero, limbs_zero]; exact ⟨rfl, Nat.zero_le _⟩
    · have e1 : valL (x :: t) % 4294967296 = x := by omega
      have e2 : valL (x :: t) / 4294967296 = valL t := by omega
      have e3 : limbs (valL (x :: t)) = x :: limbs (valL t) := by rw [limbs_pos h0, e1, e2]
      have e4 : szN (valL (x :: t)) = szN (valL t) + 1 := by rw [szN, e3]; rfl
      rw [e3, e4, List.take_succ_cons]
      exact ⟨congrArg (x :: ·) ih.1, by simpa using ih.2⟩
/-- A row of limbs of the call's own, maybe with more behind it. -/
def PartL (w : World) (base : Nat) (v : Value) (L : List Nat) : Prop :=
  (v = .slice none 0 0 ∧ L = []) ∨ ∃ g c cur, v = .slice (some ⟨g, 0, none⟩) L.length c ∧ base ≤ g ∧ BlkAt w g 133 cur ∧ L.length ≤ c ∧ cur.toList.take L.length = L.map uv
theorem OwnL.part {w : World} {base : Nat} {v : Value} {L : List Nat} (h : OwnL w base v L) : PartL w base v L := by
  rcases h.2 with ⟨rfl, h0⟩ | ⟨g, cap, cur, rfl, hb, hg, h1, h2, h3, h4⟩
  · exact .inl ⟨rfl, List.eq_nil_of_length_eq_zero h0⟩
  · exact .inr ⟨g, cap, cur, rfl, hb, hg, h1, by simpa using h4⟩
theorem PartL.rd {w : World} {base : Nat} {v : Value} {L : List Nat} (h : PartL w base v L) : ∃ a c, v = .slice a L.length c ∧ L.length ≤ c ∧ RdL w a L := by
  rcases h with ⟨rfl, rfl⟩ | ⟨g, c, cur, rfl, hb, hg, h1, h4⟩
  · exact ⟨none, 0, rfl, Nat.le_refl _, .inl ⟨rfl, rfl⟩⟩
  · refine ⟨_, _, rfl, h1, .inr ⟨g, cur, rfl, hg, fun i hi => ?_⟩⟩
    have : (cur.toList.take L.length)[i]? = cur[i]? := by rw [List.getElem?_take_of_lt (by omega)]; simp
    rw [← this, h4, List.getElem?_map, List.getElem?_eq_getElem hi]; rfl
theorem PartL.form {w : World} {base : Nat} {v : Value} {L : List Nat} (h : PartL w base v L) (hn : 0 < L.length) : ∃ g c, v = .slice (some ⟨g, 0, none⟩) L.length c ∧ base ≤ g ∧ g < w.heap.size ∧ L.length ≤ c ∧ (∀ i (hi : i < L.length), w.cell? ⟨g, i, none⟩ = some (.int .u32 (L[i] : Int))) ∧ (∀ i, w.frozen? ⟨g, i, none⟩ = false) ∧
    ∀ i x, i < L.length → PartL (w.setCell ⟨g, i, none⟩ (.int .u32 (x : Nat))) base v (L.set i x) := by
  rcases h with ⟨rfl, rfl⟩ | ⟨g, c, cur, rfl, hb, hB, h1, h4⟩
  · simp at hn
  · refine ⟨g, c, rfl, hb, hB.lt, h1, fun i hi => ?_, fun i => hB.frozen i, fun i x hi => ?_⟩
    · rw [hB.cell i]
      have : (cur.toList.take L.length)[i]? = cur[i]? := by rw [List.getElem?_take_of_lt (by omega)]; simp
      rw [← this, h4]; simp [hi, uv]
    · refine .inr ⟨g, c, cur.setIfInBounds i (uv x), by simp, hb, hB.set i _, by simpa using h1, ?_⟩
      rw [List.length_set, Array.toList_setIfInBounds, List.take_set, h4, List.map_set]
theorem PartL.below {w w' : World} {base : Nat} {v : Value} {L : List Nat} (h : PartL w base v L) (hB : Below w.heap.size w w') : PartL w' base v L := by
  rcases h with h | ⟨g, c, cur, h1, hb, hg, r⟩
  · exact .inl h
  · exact .inr ⟨g, c, cur, h1, hb, hg.below hB hg.lt, r⟩
theorem PartL.mono {w : World} {base base' : Nat} {v : Value} {L : List Nat} (h : PartL w base v L) (hb : base' ≤ base) : PartL w base' v L := by
  rcases h with h | ⟨g, c, cur, h1, hb', r⟩
  · exact .inl h
  · exact .inr ⟨g, c, cur, h1, Nat.le_trans hb hb', r⟩
/-- What trim leaves. -/
theorem PartL.trim {w : World} {base : Nat} {a : Option Addr} {n c : Nat} {L : List Nat} (hL : Lim L) (h : PartL w base (.slice a n c) L) : PartL w base (.slice a (szN (valL L)) (szN (valL L))) (limbs (valL L)) := by
  obtain ⟨f1, f2⟩ := limbs_front hL
  rcases h with ⟨he, rfl⟩ | ⟨g, c', cur, he, hb, hg, h1, h4⟩
  · cases he
    exact .inl ⟨by rw [show valL [] = 0 from rfl, szN_zero], by rw [show valL [] = 0 from rfl, limbs_zero]⟩
  · cases he
    refine .inr ⟨g, szN (valL L), cur, rfl, hb, hg, Nat.le_refl _, ?_⟩
    rw [f1, List.map_take, ← h4, List.take_take, List.length_take]
/-- The loop of 'less'. -/
def LessL (w : World) (base : Nat) (v : Value) (L : List Nat) (b : Nat) (c p : Value) (W : World) : Prop :=
  ∃ k D r, p = .int .i64 ((k : Nat) - 1 : Int) ∧ c = .int .u64 (r : Nat) ∧ k ≤ L.length ∧ k + D.length = L.length ∧ Lim D ∧ r < b ∧ valL L = valL (L.take k) + 4294967296 ^ k * (b * valL D + r) ∧ PartL W base v (L.take k ++ D) ∧ w.grownBy W v.ownBlock ∧ Below base w W
set_option maxRecDepth 20000 in
set_option maxHeartbeats 8000000 in
theorem less_any {w : World} {base : Nat} {v : Value} {L : List Nat} {b : Nat} (hb : base ≤ w.heap.size) (hown : PartL w base v L) (hL : Lim L) (hn : L.length ≤ 1000000) (hby : b < 4294967296) (hb0 : 0 < b) :
    Calls Tryz.prog 107 #[v, .int .u32 b] w fun e w' => ∃ L', e = .returned (.int .u32 ((valL L % b : Nat) : Int)) ∧ PartL w' base v L' ∧ Lim L' ∧ L'.length = L.length ∧ valL L' = valL L / b ∧ w.grownBy w' v.ownBlock ∧ Below base w w' := by
  obtain ⟨a, c, rfl, hc, hrd⟩ := hown.rd
  have H0 := Lib.hid (show LessL w base (.slice a L.length c) L b (.int .u64 0) (.int .i64 ((L.length : Int) - 1)) w from ⟨L.length, [], 0, rfl, rfl, Nat.le_refl _, by simp, Lim.nil, hb0, by simp [valL], by simpa using hown, ⟨rfl, rfl, rfl, Nat.le_refl _, fun _ _ _ => rfl⟩, Below.refl _ _⟩)
  have HL := Lib.hid hL
  have HBY := Lib.hid hby
  have hbyI : (b : Int) ≤ 4294967295 := by omega
  have hb0I : (0 : Int) < (b : Int) := by omega
  clear hown hL hrd hby hb0
  go_enter Tryz.func107, Tryz.ntmps107
  go_wp2
  go_loopw [5, 6] (fun c' p W => LessL w base (.slice a L.length c) L b c' p W) (fun c' p W => (intOf p + 1).toNat)
  case atStart => exact H0.out
  case round =>
    obtain ⟨k, D, r, rfl, rfl, hk, hDl, hD, hr, hv, ho, hgr, hB⟩ := hrel
    by_cases hlt : 0 < k
    · obtain ⟨j, rfl⟩ : ∃ j, k = j + 1 := ⟨k - 1, by omega⟩
      have hml : (L.take (j + 1) ++ D).length = L.length := by simp; omega
      obtain ⟨g, c', he, hbg, hg, hc', hcell, hfr, hset⟩ := ho.form (by omega)
      simp only [Value.slice.injEq] at he
      obtain ⟨rfl, -, rfl⟩ := he
      have htk : L.take (j + 1) = L.take j ++ [L[j]'(by omega)] := List.take_succ_eq_append_getElem (by omega)
      have hjl : (L.take j).length = j := by simp; omega
      have hgk : (L.take (j + 1) ++ D)[j]'(by omega) = L[j]'(by omega) := by
        rw [List.getElem_append_left (by simp; omega)]; simp
      have hc1 := hcell j (by omega)
      rw [hgk] at hc1
      have hst := hset j
      have hx := HL.out.get (show j < L.length by omega)
      rw [valL_take_succ L j (by omega)] at hv
      have hset2 : ∀ y : Nat, (L.take (j + 1) ++ D).set j y = L.take j ++ (y :: D) := fun y => by
        have := set_mid (L.take j) (L[j]'(by omega)) D y
        rw [hjl] at this
        rw [htk, List.append_assoc]
        rw [show ([L[j]'(by omega)] ++ D) = (L[j]'(by omega)) :: D from rfl, this, List.append_assoc]
        rfl
      obtain ⟨x, hxx⟩ : ∃ x, L[j]'(by omega) = x := ⟨_, rfl⟩
      rw [hxx] at hc1 hx hv
      have hfk := hfr j
      have hv2 : valL L = valL (L.take j) + 4294967296 ^ j * (x + 4294967296 * (b * valL D + r)) := by
        rw [hv, Nat.pow_succ]
        generalize 4294967296 ^ j = P
        grind
      have hv3 := less_step hv2
      have hq : (r * 4294967296 + x) / b < 4294967296 := by
        apply Nat.div_lt_of_lt_mul
        have : r * 4294967296 + 4294967296 ≤ b * 4294967296 := by
          have := Nat.mul_le_mul_right 4294967296 (show r + 1 ≤ b from hr)
          omega
        omega
      have hrr : (r * 4294967296 + x) % b < b := Nat.mod_lt _ (by omega)
      have HV := Lib.hid hv3
      have HQ := Lib.hid hq
      have HRR := Lib.hid hrr
      have HSet := Lib.hid (fun y => hst y (by omega))
      have HS2 := Lib.hid hset2
      have HGr := Lib.hid hgr
      have HB := Lib.hid hB
      have HD := Lib.hid hD
      have HDl := Lib.hid hDl
      obtain ⟨rI, hrI⟩ : ∃ rI : Int, (r : Int) = rI := ⟨_, rfl⟩
      obtain ⟨xI, hxI⟩ : ∃ xI : Int, (x : Int) = xI := ⟨_, rfl⟩
      obtain ⟨bI, hbI⟩ : ∃ bI : Int, (b : Int) = bI := ⟨_, rfl⟩
      have hr0 : 0 ≤ rI := by omega
      have hx0 : 0 ≤ xI := by omega
      have hr1 : rI ≤ 4294967295 := by have := HBY.out; omega
      have hx1 : xI ≤ 4294967295 := by omega
      have hb0' : 1 ≤ bI := by omega
      have hb1' : bI ≤ 4294967295 := by omega
      have hor := or32 rI xI hr0 hr1 hx0 hx1
      have hqI : (rI * 4294967296 + xI) / bI ≤ 4294967295 := by
        have h : (((r * 4294967296 + x) / b : Nat) : Int) ≤ 4294967295 := by omega
        have e : (((r * 4294967296 + x) / b : Nat) : Int) = (rI * 4294967296 + xI) / bI := by rw [← hrI, ← hxI, ← hbI]; simp
        rw [← e]; exact h
      have hq0 : 0 ≤ (rI * 4294967296 + xI) / bI := Int.ediv_nonneg (by omega) (by omega)
      have HrI := Lib.hid hrI
      have HxI := Lib.hid hxI
      have HbI := Lib.hid hbI
      rw [hrI]
      rw [hxI] at hc1
      rw [hbI]
      clear ho hgr hB hcell hfr hset hst hv hv2 hv3 hxx hset2 hgk hD hr hq hrr hx hc' hml hjl htk hDl hrI hxI hbI hbyI hb0I
      go_wp2
      go_roundw
      case rel =>
        refine ⟨j, (r * 4294967296 + x) / b :: D, (r * 4294967296 + x) % b, rfl, ?_, by omega, by have := HDl.out; rw [List.length_cons, ← this]; omega, Lim.cons HQ.out HD.out, HRR.out, HV.out, ?_, ?_, ?_⟩
        · rw [← HrI.out, ← HxI.out, ← HbI.out]; simp
        · rw [← HS2.out]
          have h := HSet.out ((r * 4294967296 + x) / b)
          have e : (((r * 4294967296 + x) / b : Nat) : Int) = (rI * 4294967296 + xI) / bI := by rw [← HrI.out, ← HxI.out, ← HbI.out]; simp
          rw [e] at h
          exact h
        · exact ⟨HGr.out.os, HGr.out.tape, HGr.out.output, by rw [World.size_setCell]; exact HGr.out.size, fun q hq hne => (Below.heap_setCell wr ⟨g, j, none⟩ _ q (fun e => hne (by rw [e]; rfl))).trans (HGr.out.block q hq hne)⟩
        · exact HB.out.setCell (p := ⟨g, j, none⟩) hbg _
      case measure => simp [intOf]
    · obtain rfl : k = 0 := by omega
      have hv2 : valL L = b * valL D + r := by simpa [valL] using hv
      have e1 : valL L / b = valL D := by
        rw [hv2, Nat.mul_add_div (by omega), Nat.div_eq_of_lt hr, Nat.add_zero]
      have e2 : valL L % b = r := by rw [hv2, Nat.mul_add_mod]; exact Nat.mod_eq_of_lt hr
      have HE1 := Lib.hid e1
      have HE2 := Lib.hid e2
      have HO := Lib.hid ho
      have HB := Lib.hid hB
      have HGr := Lib.hid hgr
      have HD := Lib.hid hD
      have HDl := Lib.hid hDl
      have hrI : (r : Int) ≤ 4294967295 := by have := HBY.out; omega
      clear hv hv2 e1 e2 ho hB hgr hD hDl hr
      go_wp2
      go_ret
      exact ⟨D, by rw [HE2.out]; rfl, HO.out, HD.out, by have := HDl.out; omega, HE1.out.symm, HGr.out, HB.out⟩

/-- 'number' is this. -/
theorem numT_not {l : List UInt8} {k : Nat} {c : UInt8} (hc : l[k]? = some c) (h : isDig c = false) : numT l = false := by
  unfold numT
  have : l.all isDig = false := by
    rw [Bool.eq_false_iff]
    intro e
    have := List.all_eq_true.1 e c (List.mem_of_getElem? hc)
    rw [h] at this; cases this
  rw [this]; rfl
theorem numT_all {l : List UInt8} (h : l.all isDig = true) : numT l = (decide (l = [48]) || (decide (l ≠ []) && decide (l.head? ≠ some 48))) := by unfold numT; rw [h]; rfl
set_option maxRecDepth 20000 in
set_option maxHeartbeats 8000000 in
theorem number_any (s : ByteArray) (hs : s.size ≤ 9000000000000000000) (w : World) :
    Calls Tryz.prog 92 #[.string s] w fun e w' => e = .returned (.bool (numT s.data.toList)) ∧ Below w.heap.size w w' := by
  go_enter Tryz.func92, Tryz.ntmps92
  go_wp2
  go_loopw [6] (fun p W => ∃ k : Nat, p = .int .i64 k ∧ k ≤ s.size ∧ (s.data.toList.take k).all isDig = true ∧ Below w.heap.size w W) (fun p W => s.size - (intOf p).toNat)
  case atStart => exact ⟨0, rfl, Nat.zero_le _, by simp, Below.refl _ _⟩
  case round =>
    obtain ⟨k, rfl, hk, ha, hB⟩ := hrel
    have HA := Lib.hid ha
    clear ha
    by_cases hlt : k < s.size
    · have hget : s.data.toList[k]? = some s[k] := by
        rw [List.getElem?_eq_getElem (by simpa using hlt)]; rfl
      have HG := Lib.hid hget
      clear hget
      by_cases hd : isDig s[k] = true
      · have hd2 : 48 ≤ s[k].toNat ∧ s[k].toNat ≤ 57 := by simpa [isDig] using hd
        have hN : (s.data.toList.take (k + 1)).all isDig = true := by
          rw [List.take_add_one, List.all_append, HA.out, HG.out]; simpa using hd
        have HN := Lib.hid hN
        have h1 : (48 : Int) ≤ (s[k].toNat : Int) := by omega
        have h2 : (s[k].toNat : Int) ≤ 57 := by omega
        clear hd hd2 hN
        go_wp2
        go_roundw
        case rel => exact ⟨k + 1, by go_num, by omega, HN.out, hB⟩
        case measure => simp [intOf]; omega
      · have hN : numT s.data.toList = false := numT_not HG.out (by simpa using hd)
        have HN := Lib.hid hN
        have hd2 : ¬ (48 ≤ s[k].toNat ∧ s[k].toNat ≤ 57) := by simpa [isDig] using hd
        clear hd hN
        by_cases h1 : s[k].toNat < 48
        · have h2 : (s[k].toNat : Int) < 48 := by omega
          clear hd2 h1
          go_wp2
          go_ret
          exact ⟨by rw [HN.out]; rfl, hB⟩
        · have h2 : (48 : Int) ≤ (s[k].toNat : Int) := by omega
          have h3 : (57 : Int) < (s[k].toNat : Int) := by omega
          clear hd2 h1
          go_wp2
          go_ret
          exact ⟨by rw [HN.out]; rfl, hB⟩
    · obtain rfl : k = s.size := by omega
      have hal : s.data.toList.all isDig = true := by
        have := HA.out
        rwa [List.take_of_length_le (by simp)] at this
      have hN := numT_all hal
      have HN := Lib.hid hN
      clear hal hN HA
      by_cases h0 : s.size = 0
      · obtain rfl : s = ⟨#[]⟩ := by obtain ⟨⟨x⟩⟩ := s; simp [ByteArray.size] at h0; rw [h0]
        clear h0
        go_wp2
        go_ret
        exact ⟨rfl, hB⟩
      · have h1 : 0 < s.size := by omega
        have hv : numT s.data.toList = (s.toList == [48] || !s.toList.isEmpty && (s[0].toNat : Int) != 48) := by
          rw [HN.out, ByteArray.toList_eq]
          obtain ⟨⟨x⟩⟩ := s
          cases x with
          | nil => simp [ByteArray.size] at h1
          | cons c t =>
            show (decide (c :: t = [48]) || (decide (c :: t ≠ []) && decide ((c :: t).head? ≠ some 48))) = (c :: t == [48] || !(c :: t).isEmpty && (c.toNat : Int) != 48)
            have e1 : decide (c :: t = [48]) = (c :: t == [48]) := by
              rw [Bool.eq_iff_iff, decide_eq_true_iff, beq_iff_eq]
            have e2 : decide ((c :: t).head? ≠ some 48) = ((c.toNat : Int) != 48) := by
              rw [Bool.eq_iff_iff, decide_eq_true_iff, bne_iff_ne]
              simp only [List.head?_cons, ne_eq, Option.some.injEq]
              constructor
              · intro h e; exact h (UInt8.toNat_inj.1 (by simp; omega))
              · intro h e; apply h; rw [e]; rfl
            rw [e1, e2]; simp
        have hem : s.toList.isEmpty = false := by
          rw [ByteArray.toList_eq]
          obtain ⟨⟨x⟩⟩ := s
          cases x with
          | nil => simp [ByteArray.size] at h1
          | cons c t => rfl
        by_cases h48 : (s.toList == [48]) = true
        · have HV := Lib.hid (show numT s.data.toList = true from by rw [hv, h48]; rfl)
          clear hv h0
          go_wp2
          go_ret
          exact ⟨by rw [HV.out]; rfl, hB⟩
        · have h48' : (s.toList == [48]) = false := by simpa using h48
          obtain ⟨z, hz⟩ : ∃ z, ((s[0].toNat : Int) != 48) = z := ⟨_, rfl⟩
          have HV := Lib.hid (show numT s.data.toList = z from by rw [hv, h48', hem, hz]; rfl)
          clear hv h0 h48
          go_wp2
          go_ret
          exact ⟨by rw [HV.out]; rfl, hB⟩

theorem more_ten {w : World} {base : Nat} {v : Value} {L : List Nat} {ad : Nat} (hb : base ≤ w.heap.size) (hown : OwnL w base v L) (hL : Lim L) (hn : L.length ≤ 1000000) (had : ad < 4294967296) :
    Calls Tryz.prog 93 #[v, .int .u32 10, .int .u32 ad] w fun e w' => ∃ v' L', e = .returned v' ∧ OwnL w' base v' L' ∧ Lim L' ∧ valL L' = valL L * 10 + ad ∧ L'.length ≤ L.length + 1 ∧ Below base w w' :=
  more_any (b := 10) hb hown hL hn (by decide) had
/-- What Parse tells of a text: 0, or why it is refused. -/
def parseC (l : List UInt8) : Nat := if numT l = true then (if 1200 < l.length then 2 else 0) else 3
def parseV (l : List UInt8) : Nat := if parseC l = 0 then numV l else 0
/-- The loop of Parse. -/
def ParseL (s : ByteArray) (w : World) (v p : Value) (W : World) : Prop :=
  ∃ k L, p = .int .i64 (k : Nat) ∧ k ≤ s.size ∧ OwnL W (w.heap.size + 1) v L ∧ Lim L ∧ valL L = numV (s.data.toList.take k) ∧ L.length ≤ k ∧ Below (w.heap.size + 1) (w.alloc nat0) W
set_option maxRecDepth 20000 in
set_option maxHeartbeats 8000000 in
theorem natParse_any (s : ByteArray) (hs : s.size ≤ 1000000) (w : World) :
    Calls Tryz.prog 58 #[.string s] w fun e w' => ∃ v, e = .returned (.tuple #[v, .int .i64 (parseC s.data.toList : Nat)]) ∧ NatAt w' v (parseV s.data.toList) ∧ Below w.heap.size w w' := by
  have hls : s.data.toList.length = s.size := by simp
  have HN := Lib.hid (fun W => number_any s (by omega) W)
  by_cases hn : numT s.data.toList = true
  · by_cases hl : 1200 < s.size
    · have hpc : parseC s.data.toList = 2 := by unfold parseC; rw [if_pos hn, if_pos (by omega)]
      have hpv : parseV s.data.toList = 0 := by unfold parseV; rw [if_neg (by rw [hpc]; decide)]
      rw [hpc, hpv]
      rw [hn] at HN
      clear hpc hpv hn
      have hlI : (1200 : Int) < (s.size : Int) := by omega
      go_enter Tryz.func58, Tryz.ntmps58
      go_wp2_with (go_at_call 92; refine (HN.out _).mono ?_; rintro e w1 ⟨rfl, hB1⟩; have HB1 := Lib.hid (show Below (w.heap.size + 1) (w.alloc nat0) w1 from hB1.mono (by simp)); clear hB1; obtain ⟨r0, r1⟩ := res_free HB1.out)
      obtain ⟨e1, e2, e3⟩ := res_nat HB1.out (NatAt.zero w1 0)
      exact bodyPost_ret (r_ct rfl rfl e1) rfl ⟨_, rfl, e2, e3⟩
    · have hpc : parseC s.data.toList = 0 := by unfold parseC; rw [if_pos hn, if_neg (by omega)]
      have hpv : parseV s.data.toList = numV s.data.toList := by unfold parseV; rw [if_pos hpc]
      rw [hpc, hpv]
      rw [hn] at HN
      have hdig : s.data.toList.all isDig = true := by unfold numT at hn; rw [Bool.and_eq_true] at hn; exact hn.1
      have HDig := Lib.hid hdig
      clear hpc hpv hn hdig
      go_enter Tryz.func58, Tryz.ntmps58
      go_wp2_with (go_at_call 92; refine (HN.out _).mono ?_; rintro e w1 ⟨rfl, hB1⟩; have HB1 := Lib.hid (show Below (w.heap.size + 1) (w.alloc nat0) w1 from hB1.mono (by simp)); clear hB1)
      have H0 := Lib.hid (show ParseL s w (.slice none 0 0) (.int .i64 0) w1 from ⟨0, [], rfl, Nat.zero_le _, OwnL.nil _ _, Lim.nil, rfl, Nat.le_refl _, HB1.out⟩)
      go_loopw [4, 18] (fun v p W => ParseL s w v p W) (fun v p W => s.size - (intOf p).toNat)
      case atStart => exact H0.out
      case round =>
        obtain ⟨k, L, rfl, hk, ho, hL, hv, hLk, hB⟩ := hrel
        have hwz := hB.size
        rw [World.size_alloc] at hwz
        by_cases hlt : k < s.size
        · have hget : s.data.toList[k]? = some s[k] := by
            rw [List.getElem?_eq_getElem (by simpa using hlt)]; rfl
          have hd : isDig s[k] = true := List.all_eq_true.1 HDig.out _ (List.mem_of_getElem? hget)
          have hd2 : 48 ≤ s[k].toNat ∧ s[k].toNat ≤ 57 := by simpa [isDig] using hd
          obtain ⟨d, hdd⟩ : ∃ d : Nat, s[k].toNat = 48 + d := ⟨s[k].toNat - 48, by omega⟩
          have hnv : numV (s.data.toList.take (k + 1)) = valL L * 10 + d := by
            rw [List.take_add_one, hget, Option.toList_some, numV_snoc, ← hv, hdd]; omega
          have HNV := Lib.hid hnv
          have hdI : (s[k].toNat : Int) = 48 + (d : Int) := by omega
          have hd9 : (d : Int) ≤ 9 := by omega
          have HM := Lib.hid (more_ten (ad := d) hwz ho hL (by omega) (by omega))
          have HB := Lib.hid hB
          clear hget hd hd2 hdd hnv ho hL hv hB
          go_wp2_with (go_at_call 93; rw [show (48 : Int) + (d : Int) - 48 = (d : Int) by omega]; refine HM.out.mono ?_; rintro e w2 ⟨v2, L2, rfl, ho2, hL2, hv2, hl2, hB2⟩; have HO2 := Lib.hid ho2; have HL2 := Lib.hid hL2; have HV2 := Lib.hid hv2; have HB2 := Lib.hid (HB.out.trans hB2); clear ho2 hL2 hv2 hB2)
          go_roundw
          case rel => exact ⟨k + 1, L2, by go_num, by omega, HO2.out, HL2.out, by rw [HV2.out, HNV.out], by omega, HB2.out⟩
          case measure => simp [intOf]; omega
        · obtain rfl : k = s.size := by omega
          obtain ⟨a, c, rfl, hc, hrd⟩ := ho.rd
          have hvl : valL L = numV s.data.toList := by rw [hv, List.take_of_length_le (by simp)]
          have HT := Lib.hid (trim_any hL hrd hc (by omega))
          rw [hvl] at HT
          have HB := Lib.hid hB
          clear ho hv hvl hrd hL hB
          go_wp2_with (go_at_call 94; refine HT.out.mono ?_; rintro e w2 ⟨rfl, hN2, hB2⟩; have HN2 := Lib.hid hN2; have HB2 := Lib.hid (HB.out.trans (hB2.mono hwz)); clear hN2 hB2; obtain ⟨r0, r1⟩ := res_free HB2.out)
          obtain ⟨e1, e2, e3⟩ := res_nat HB2.out HN2.out
          exact bodyPost_ret (r_ct rfl rfl e1) rfl ⟨_, rfl, e2, e3⟩
  · have hpc : parseC s.data.toList = 3 := by unfold parseC; rw [if_neg hn]
    have hpv : parseV s.data.toList = 0 := by unfold parseV; rw [if_neg (by rw [hpc]; decide)]
    rw [hpc, hpv]
    rw [show numT s.data.toList = false by simpa using hn] at HN
    clear hpc hpv hn
    go_enter Tryz.func58, Tryz.ntmps58
    go_wp2_with (go_at_call 92; refine (HN.out _).mono ?_; rintro e w1 ⟨rfl, hB1⟩; have HB1 := Lib.hid (show Below (w.heap.size + 1) (w.alloc nat0) w1 from hB1.mono (by simp)); clear hB1; obtain ⟨r0, r1⟩ := res_free HB1.out)
    obtain ⟨e1, e2, e3⟩ := res_nat HB1.out (NatAt.zero w1 0)
    exact bodyPost_ret (r_ct rfl rfl e1) rfl ⟨_, rfl, e2, e3⟩
end Go.Proofs.YtjcpfmndkeiegaaGreatDoor
