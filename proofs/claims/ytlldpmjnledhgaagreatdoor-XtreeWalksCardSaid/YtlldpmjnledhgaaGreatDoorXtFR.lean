/- The walks of what Kids calls: the kid's test, slices.IndexFunc and DeleteFunc where none is struck. The walk of a document's Kids where none is passed over. The walks of copied and Root at an element without attributes. The walk of a document's Root, at a root without attributes. -/
import Derived.Test.YtlldpmjnledhgaaGreatDoorXtIK
namespace Go.Proofs.YtlldpmjnledhgaaGreatDoor
open Go.RowKit
set_option linter.unusedVariables false

set_option maxRecDepth 100000 in
set_option maxHeartbeats 4000000 in
/-- A kid that stays: any name, or its own. -/
theorem kid1_any {W : World} {Bn Bd g o n c k : Nat} {nm en : ByteArray} (h1 : W.cell? ⟨Bn, 0, none⟩ = some (.string nm)) (h2 : W.cell? ⟨Bd, 0, none⟩ = some (.slice (some ⟨g, o, none⟩) n c)) (hk : k < n) (h3 : W.cell? ⟨g, o + k * 6, none⟩ = some (.string en)) (hn : nm = ⟨#[]⟩ ∨ en = nm) (hb : n ≤ 1000000) :
    Calls Tryz.prog 26 #[.int .i64 k, .pointer (some ⟨Bn, 0, none⟩), .pointer (some ⟨Bd, 0, none⟩)] W fun e W' => e = .returned (.bool false) ∧ ∃ q, W' = W.drewN q := by
  have q1 : (0 : Int) ≤ (k : Int) := by omega
  have q2 : (k : Int) < (n : Int) := by omega
  by_cases hnn : nm = ⟨#[]⟩
  · subst hnn
    clear hn
    go_enter Tryz.func26, Tryz.ntmps26
    go_wp2
    go_quiet (fail)
    go_wp2
    go_ret
    exact ⟨rfl, _, rfl⟩
  · obtain rfl : en = nm := hn.resolve_left hnn
    have E1 : en.toList.isEmpty = false := by
      rw [ByteArray.toList_eq, List.isEmpty_eq_false_iff]
      exact fun h => hnn (ByteArray.ext (Array.toList_inj.1 h))
    have E2 : (en.toList == en.toList) = true := beq_iff_eq.2 rfl
    clear hn
    go_enter Tryz.func26, Tryz.ntmps26
    go_wp2
    go_quiet (fail)
    go_wp2
    go_ret
    exact ⟨by simp, _, rfl⟩

set_option maxRecDepth 100000 in
set_option maxHeartbeats 4000000 in
/-- IndexFunc where none is struck. -/
theorem index_none {W : World} {v : Value} {l : List Nat} {Bn Bd : Nat} (h : IntRd W v (l.map fun (k : Nat) => (k : Int))) (hl : l.length ≤ 1000000)
    (hF : ∀ k ∈ l, ∀ p, Calls Tryz.prog 26 #[.int .i64 (k : Nat), .pointer (some ⟨Bn, 0, none⟩), .pointer (some ⟨Bd, 0, none⟩)] (W.drewN p) fun e W' => e = .returned (.bool false) ∧ ∃ q, W' = (W.drewN p).drewN q) :
    Calls Tryz.prog 38 #[v, .func (.func 26) #[] #[.pointer (some ⟨Bn, 0, none⟩), .pointer (some ⟨Bd, 0, none⟩)]] W fun e W' => e = .returned (.int .i64 (-1)) ∧ ∃ q, W' = W.drewN q := by
  obtain ⟨a, c, rfl, h2⟩ := h
  obtain ⟨n, hnn⟩ : ∃ n, l.length = n := ⟨_, rfl⟩
  have hnm : (l.map fun (k : Nat) => (k : Int)).length = n := by rw [List.length_map]; exact hnn
  rw [hnm]
  have H2 := Lib.hid h2
  have HF := Lib.hid hF
  have HN := Lib.hid hnn
  have HNM := Lib.hid hnm
  rw [hnn] at hl
  clear h2 hF hnn hnm
  go_enter Tryz.func38, Tryz.ntmps38
  go_wp2
  go_loopw [8] (fun x V => ∃ i : Nat, x = .int .i64 (i : Nat) ∧ i ≤ n ∧ ∃ q, V = W.drewN q) (fun x V => n - (intOf x).toNat)
  case atStart => exact ⟨0, rfl, Nat.zero_le _, 0, rfl⟩
  case round =>
    obtain ⟨i, rfl, hi, q, rfl⟩ := hrel
    by_cases hlt : i < n
    · obtain ⟨b, o, rfl, _, g⟩ := H2.out (fun h0 => by have h1 := HNM.out; rw [h0] at h1; have h3 : (0 : Nat) = n := h1; omega)
      obtain ⟨k, hk⟩ : ∃ k, l[i]? = some k := ⟨_, List.getElem?_eq_getElem (by rw [HN.out]; exact hlt)⟩
      have hc : (W.drewN q).cell? ⟨b, o + i, none⟩ = some (.int .i64 (k : Nat)) := (g i (by rw [HNM.out]; exact hlt)).trans (by rw [List.getD_eq_getElem?_getD, List.getElem?_map, hk]; rfl)
      have HK := Lib.hid (HF.out k (List.mem_of_getElem? hk) q)
      clear g hk
      go_wp2_with (go_at_call 26; refine HK.out.mono ?_; rintro _ w2 ⟨rfl, q2, rfl⟩)
      go_roundw
      case rel => exact ⟨i + 1, rfl, by omega, _, rfl⟩
      case measure => simp [intOf]; omega
    · obtain rfl : n = i := by omega
      go_wp2
      go_ret
      exact ⟨rfl, _, rfl⟩
end Go.Proofs.YtlldpmjnledhgaaGreatDoor
namespace Go.Proofs.YtlldpmjnledhgaaGreatDoor
open Go.RowKit
set_option linter.unusedVariables false

set_option maxRecDepth 100000 in
set_option maxHeartbeats 4000000 in
/-- DeleteFunc where none is struck. -/
theorem delete_none {W : World} {v : Value} {l : List Nat} {Bn Bd : Nat} (h : IntRd W v (l.map fun (k : Nat) => (k : Int))) (hl : l.length ≤ 1000000)
    (hF : ∀ k ∈ l, ∀ p, Calls Tryz.prog 26 #[.int .i64 (k : Nat), .pointer (some ⟨Bn, 0, none⟩), .pointer (some ⟨Bd, 0, none⟩)] (W.drewN p) fun e W' => e = .returned (.bool false) ∧ ∃ q, W' = (W.drewN p).drewN q) :
    Calls Tryz.prog 24 #[v, .func (.func 26) #[] #[.pointer (some ⟨Bn, 0, none⟩), .pointer (some ⟨Bd, 0, none⟩)]] W fun e W' => e = .returned v ∧ ∃ q, W' = W.drewN q := by
  have HI := Lib.hid (index_none h hl hF)
  clear h hF
  go_enter Tryz.func24, Tryz.ntmps24
  go_wp2_with (go_at_call 38; refine HI.out.mono ?_; rintro _ w2 ⟨rfl, q2, rfl⟩)
  go_ret
  exact ⟨rfl, _, rfl⟩
/-- Clone of a slice of ints. -/
theorem clone_any {W : World} {v : Value} {l : List Int} (h : IntRd W v l) (hl : l.length ≤ 1000000) :
    Calls Tryz.prog 25 #[v] W fun e W' => ∃ v', e = .returned v' ∧ IntRd W' v' l ∧ Below W.heap.size W W' := by
  obtain ⟨a, c, rfl, h2⟩ := h
  by_cases h0 : l = []
  · subst h0
    cases a with
    | none => exact (Tryz.slices_Clone_int_nil 0 c W).mono fun e W' ⟨h1, h2⟩ => ⟨_, h1, ⟨none, 0, rfl, fun h => absurd rfl h⟩, by rw [h2]; exact Below.refl _ _⟩
    | some a =>
      refine (Tryz.slices_Clone_int_zero a c W).mono ?_
      rintro e W' ⟨v', h1, h2, _, h4⟩
      obtain ⟨b, d, rfl⟩ := ownsRow_slice' h2
      exact ⟨_, h1, ⟨b, d, rfl, fun h => absurd rfl h⟩, h4⟩
  · obtain ⟨b, o, rfl, _, g⟩ := h2 h0
    refine (Tryz.slices_Clone_int b o l.length c l W (Nat.le_refl _) (by omega) g).mono ?_
    rintro e W' ⟨v', h1, h3, _, h4⟩
    rw [List.take_length] at h3
    refine ⟨v', h1, ?_, h4⟩
    rcases h3.2 with ⟨k1, k2⟩ | ⟨gg, cap, cur, k1, _⟩
    · exact absurd (List.length_eq_zero_iff.1 k2) h0
    · subst k1
      refine ⟨_, _, rfl, fun _ => ⟨gg, 0, rfl, own_lt h3 rfl, fun j hj => ?_⟩⟩
      rw [Nat.zero_add, World.ownsRow.cellAt h3 j (by omega), List.getElem?_map, List.getD_eq_getElem?_getD, List.getElem?_eq_getElem hj]
      rfl

set_option maxRecDepth 100000 in
set_option maxHeartbeats 8000000 in
theorem kids_any {W : World} {ev : Value} {ys : List YE} {ks : List (List Int)} (h : DocAt W ev ys) (hn : ys.length ≤ 1000000) (hkl : ks.length = ys.length) (hkk : ∀ (i : Nat) (y : YE), ys[i]? = some y → ∃ k, ks[i]? = some k ∧ k.length ≤ 1000000 ∧ IntRd W (.slice y.kb y.kn y.kc) k)
    (hv : validX (ys.map (·.up)) ks = true) {e : Nat} (he : e < ys.length) {l : List Nat} (hl : ks[e]? = some (l.map fun (k : Nat) => (k : Int))) {nm : ByteArray} (hk : ∀ k ∈ l, ∃ y, ys[k]? = some y ∧ (nm = ⟨#[]⟩ ∨ y.nm = nm)) :
    Calls Tryz.prog 9 #[.agg #[ev], .int .i64 (e : Nat), .string nm] W fun en W' => ∃ v, en = .returned v ∧ IntRd W' v (l.map fun (k : Nat) => (k : Int)) ∧ Below W.heap.size W W' := by
  have HDOC := Lib.hid h
  obtain ⟨a, c, rfl, h2⟩ := h
  obtain ⟨n, hnn⟩ : ∃ n, ys.length = n := ⟨_, rfl⟩
  have hys : ys ≠ [] := fun e0 => by rw [e0] at he; simp at he
  obtain ⟨g, o, rfl, hg, hc⟩ := h2 hys
  obtain ⟨y, hy⟩ : ∃ y, ys[e]? = some y := ⟨_, List.getElem?_eq_getElem he⟩
  obtain ⟨p0, p1, p2, p3, p4, p5⟩ := DocAt.six hc hy
  obtain ⟨k0, hk0, hk1, hk2⟩ := hkk e y hy
  rw [hl] at hk0
  obtain rfl := Option.some.inj hk0
  rw [List.length_map] at hk1
  have HN := Lib.hid hnn
  have HKK := Lib.hid (show ∀ X, Below W.heap.size W X → ∀ (i : Nat) (y : YE), ys[i]? = some y → ∃ k, ks[i]? = some k ∧ k.length ≤ 1000000 ∧ IntRd X (.slice y.kb y.kn y.kc) k from fun X hX i y hy => by
    obtain ⟨k, k1, k2, k3⟩ := hkk i y hy
    exact ⟨k, k1, k2, k3.below hX⟩)
  have HIS := Lib.hid (show ∀ X : World, Calls Tryz.prog 22 #[.agg #[.slice (some ⟨g, o, none⟩) n c], .int .i64 (e : Nat)] X fun en W' => en = .returned (.bool true) ∧ Below X.heap.size X W' from fun X => by
    have := is_any (some ⟨g, o, none⟩) n c (e : Nat) X
    rwa [decide_eq_true (show (0 : Int) ≤ (e : Nat) ∧ ((e : Nat) : Int) < (n : Nat) from ⟨by omega, by omega⟩)] at this)
  have HVA := Lib.hid (show ∀ X : World, Below W.heap.size W X → Calls Tryz.prog 13 #[.agg #[.slice (some ⟨g, o, none⟩) n c]] X fun en W' => en = .returned (.bool true) ∧ Below X.heap.size X W' from fun X hX => by
    have h1 := valid_any (HDOC.out.below hX) hn hkl (HKK.out X hX)
    rwa [HN.out, hv] at h1)
  rw [hnn] at he hn ⊢
  have q1 : (0 : Int) ≤ (e : Int) := by omega
  have q2 : (e : Int) < (n : Int) := by omega
  have HP4 := Lib.hid p4
  have HC := Lib.hid hc
  have HK2 := Lib.hid hk2
  have HKM := Lib.hid hk
  obtain ⟨W1, hW1⟩ : ∃ W1, (W.alloc (.cells #[.slice (some ⟨g, o, none⟩) n c] 25)).alloc (.cells #[.string nm] 9) = W1 := ⟨_, rfl⟩
  have HW1 := Lib.hid hW1
  have hz : W.heap.size + 2 = W1.heap.size := by rw [← hW1]; simp
  have HB1 := Lib.hid (show Below W.heap.size W W1 by rw [← hW1]; exact ((Below.refl _ W).alloc (Nat.le_refl _) _).alloc (by simp) _)
  have HBD := Lib.hid (show BlkAt W1 W.heap.size 25 #[.slice (some ⟨g, o, none⟩) n c] by rw [← hW1]; exact (BlkAt.new _ _ _).alloc _)
  have HBN := Lib.hid (show BlkAt W1 (W.heap.size + 1) 9 #[.string nm] by rw [← hW1]; have := BlkAt.new (W.alloc (.cells #[.slice (some ⟨g, o, none⟩) n c] 25)) 9 #[.string nm]; simpa using this)
  have hd1 := HBD.out.cell 0
  have hmf : ∀ (fn : Fn) (first cap : Array Value) (w : World), (Instr.makeFunc fn first cap).run Tryz.prog w = .ok (.func fn first cap) w := fun _ _ _ _ => rfl
  have HL1 := Lib.hid hk1
  clear hW1 hz p0 p1 p2 p3 p4 p5 hc hk2 hk hkk hkl hk1 hl hv hy
  go_enter Tryz.func9, Tryz.ntmps9
  go_wp2_with (first
    | (go_at_call 22; rw [HW1.out]; refine (HIS.out _).mono ?_; rintro _ w2 ⟨rfl, hB2⟩; have hB2' := HB1.out.trans (hB2.mono HB1.out.size); have HB2 := Lib.hid hB2'; have HBD2 := Lib.hid (HBD.out.below hB2 HBD.out.lt); have HBN2 := Lib.hid (HBN.out.below hB2 HBN.out.lt); have hd2 := HBD2.out.cell 0)
    | (go_at_call 13; refine (HVA.out _ HB2.out).mono ?_; rintro _ w3 ⟨rfl, hB3⟩; have HB3 := Lib.hid (HB2.out.trans (hB3.mono HB2.out.size)); have HBD3 := Lib.hid (HBD2.out.below hB3 HBD2.out.lt); have HBN3 := Lib.hid (HBN2.out.below hB3 HBN2.out.lt); have hd3 := HBD3.out.cell 0; have k3 := (HB3.out.cell (p := ⟨g, o + e * 6 + 4, none⟩) hg).trans HP4.out)
    | (go_at_call 25; refine (clone_any (HK2.out.below HB3.out) (by rw [List.length_map]; exact HL1.out)).mono ?_; rintro _ w4 ⟨v4, rfl, hI4, hB4⟩; have HB4 := Lib.hid (HB3.out.trans (hB4.mono HB3.out.size)); have HBD4 := Lib.hid (HBD3.out.below hB4 HBD3.out.lt); have HBN4 := Lib.hid (HBN3.out.below hB4 HBN3.out.lt); have HI4 := Lib.hid hI4)
    | (go_at_call 24; refine (delete_none HI4.out HL1.out (fun k hk p => by
        obtain ⟨z, hz, hnm⟩ := HKM.out k hk
        exact kid1_any (g := g) (o := o) (n := n) (c := c) (en := z.nm) (HBN4.out.cell 0) (HBD4.out.cell 0) (by rw [← HN.out]; exact (List.getElem?_eq_some_iff.1 hz).1) ((HB4.out.cell (p := ⟨g, o + k * 6, none⟩) hg).trans (DocAt.six HC.out hz).1) hnm hn)).mono ?_; rintro _ w5 ⟨rfl, q5, rfl⟩))
  go_ret
  exact ⟨v4, rfl, HI4.out, have h := HB4.out; ⟨h.os, h.tape, h.output, h.size, h.block⟩⟩
end Go.Proofs.YtlldpmjnledhgaaGreatDoor
namespace Go.Proofs.YtlldpmjnledhgaaGreatDoor
open Go.RowKit
set_option linter.unusedVariables false

theorem aggElem : AggT Tryz.prog 36 6 := ⟨_, Tryz.underlying36, rfl, by kernel_rfl⟩

set_option maxRecDepth 100000 in
set_option maxHeartbeats 4000000 in
/-- Clone of no attributes. -/
theorem cloneA_none (b : Option Addr) (c : Nat) (W : World) :
    Calls Tryz.prog 43 #[.slice b 0 c] W fun e W' => (∃ b' c', e = .returned (.slice b' 0 c')) ∧ Below W.heap.size W W' := by
  cases b with
  | none =>
    have hnf : ∀ w : World, (binOp .eql 34 (.slice none 0 c) (.slice none 0 0)).run Tryz.prog w = .ok (.bool true) w := fun _ => rfl
    go_enter Tryz.func43, Tryz.ntmps43
    go_wp2
    go_ret
    exact ⟨⟨_, _, rfl⟩, Below.refl _ _⟩
  | some a =>
    have hnf : ∀ w : World, (binOp .eql 34 (.slice (some a) 0 c) (.slice none 0 0)).run Tryz.prog w = .ok (.bool false) w := fun _ => rfl
    go_enter Tryz.func43, Tryz.ntmps43
    go_wp2
    go_ret
    exact ⟨⟨_, _, rfl⟩, (Below.refl _ W).alloc (Nat.le_refl _) _⟩
set_option maxRecDepth 100000 in
set_option maxHeartbeats 16000000 in
/-- An element without attributes, copied. -/
theorem copied_none {W : World} {nm tx : ByteArray} {pl up : Int} {ab : Option Addr} {ac : Nat} {kb : Option Addr} {kn kc : Nat} {l : List Int} (h : IntRd W (.slice kb kn kc) l) (hl : l.length ≤ 1000000) :
    Calls Tryz.prog 32 #[.agg #[.string nm, .int .i64 pl, .int .i64 up, .slice ab 0 ac, .slice kb kn kc, .string tx]] W fun e W' => (∃ b1 d1 ka kd, e = .returned (.agg #[.string nm, .int .i64 pl, .int .i64 up, .slice b1 0 d1, .slice ka l.length kd, .string tx])) ∧ Below W.heap.size W W' := by
  obtain ⟨W1, hW1⟩ : ∃ W1, (W.alloc (.cells #[.string nm, .int .i64 pl, .int .i64 up, .slice ab 0 ac, .slice kb kn kc, .string tx] 36)).alloc (.cells #[.string ⟨#[]⟩, .int .i64 0, .int .i64 0, .slice none 0 0, .slice none 0 0, .string ⟨#[]⟩] 36) = W1 := ⟨_, rfl⟩
  have HW1 := Lib.hid hW1
  have HB1 := Lib.hid (show Below W.heap.size W W1 by rw [← hW1]; exact ((Below.refl _ W).alloc (Nat.le_refl _) _).alloc (by simp) _)
  have hE := (show BlkAt W1 W.heap.size 36 #[.string nm, .int .i64 pl, .int .i64 up, .slice ab 0 ac, .slice kb kn kc, .string tx] by rw [← hW1]; exact (BlkAt.new _ _ _).alloc _)
  have hZ := (show BlkAt W1 (W.heap.size + 1) 36 #[.string ⟨#[]⟩, .int .i64 0, .int .i64 0, .slice none 0 0, .slice none 0 0, .string ⟨#[]⟩] by rw [← hW1]; have := BlkAt.new (W.alloc (.cells #[.string nm, .int .i64 pl, .int .i64 up, .slice ab 0 ac, .slice kb kn kc, .string tx] 36)) 36 #[.string ⟨#[]⟩, .int .i64 0, .int .i64 0, .slice none 0 0, .slice none 0 0, .string ⟨#[]⟩]; simpa using this)
  have HE := Lib.hid hE
  have HZ := Lib.hid hZ
  have HF := Lib.hid (show ∀ X : World, Below W1.heap.size W1 X → (X.cell? ⟨W.heap.size, 3, none⟩ = some (.slice ab 0 ac) ∧ X.cell? ⟨W.heap.size, 4, none⟩ = some (.slice kb kn kc)) ∧ X.frozen? ⟨W.heap.size, 3, none⟩ = false ∧ X.frozen? ⟨W.heap.size, 4, none⟩ = false from fun X hX =>
    have hb := HE.out.below hX HE.out.lt
    ⟨⟨hb.cell 3, hb.cell 4⟩, hb.frozen 3, hb.frozen 4⟩)
  have HI := Lib.hid (show ∀ X : World, Below W1.heap.size W1 X → IntRd X (.slice kb kn kc) l from fun X hX => (h.below HB1.out).below hX)
  have c3 := hE.cell 3
  have c4 := hE.cell 4
  have f3 := hE.frozen 3
  have f4 := hE.frozen 4
  clear hW1 hE hZ h
  go_enter Tryz.func32, Tryz.ntmps32
  go_wp2
  rw [HW1.out]
  go_region_law (first
    | (go_simp; go_at_call 43; refine (cloneA_none _ _ _).mono ?_; rintro _ wa ⟨⟨b1, d1, rfl⟩, hA⟩; have HA := Lib.hid (show Below W1.heap.size W1 wa from by first | exact (Below.refl _ W1).drew.trans hA | exact HK.out.trans (hA.mono HK.out.size)); obtain ⟨⟨a3, a4⟩, g3, g4⟩ := HF.out wa HA.out)
    | (go_simp; go_at_call 25; refine (clone_any (by first | exact HI.out _ ((Below.refl _ W1).drew) | exact HI.out _ HA.out) hl).mono ?_; rintro _ wk ⟨vk, rfl, ⟨ka, kd, rfl, _⟩, hK⟩; have HK := Lib.hid (show Below W1.heap.size W1 wk from by first | exact (Below.refl _ W1).drew.trans hK | exact HA.out.trans (hK.mono HA.out.size)); obtain ⟨⟨a3k, a4k⟩, g3k, g4k⟩ := HF.out wk HK.out))
  all_goals first
    | (have hEY := ((HE.out.below HK.out HE.out.lt).set 3 (.slice b1 0 d1)).set 4 (.slice ka l.length kd)
       have hZY := ((HZ.out.below HK.out HZ.out.lt).far (p := ⟨W.heap.size, 3, none⟩) (by simp) (.slice b1 0 d1)).far (p := ⟨W.heap.size, 4, none⟩) (by simp) (.slice ka l.length kd)
       have hBY := ((HB1.out.trans (HK.out.mono HB1.out.size)).setCell (p := ⟨W.heap.size, 3, none⟩) (Nat.le_refl _) (.slice b1 0 d1)).setCell (p := ⟨W.heap.size, 4, none⟩) (Nat.le_refl _) (.slice ka l.length kd)
       generalize hY : (wk.setCell ⟨W.heap.size, 3, none⟩ (.slice b1 0 d1)).setCell ⟨W.heap.size, 4, none⟩ (.slice ka l.length kd) = Y
       rw [hY] at hEY hZY hBY
       have HEY := Lib.hid hEY
       have HZY := Lib.hid hZY
       have HBY := Lib.hid hBY
       have y0 := HEY.out.cell 0
       have y1 := HEY.out.cell 1
       have y2 := HEY.out.cell 2
       have y3 := HEY.out.cell 3
       have y4 := HEY.out.cell 4
       have y5 := HEY.out.cell 5
       have z0 := HZY.out.cell 0
       have zf0 := HZY.out.frozen 0
       have z1 := HZY.out.cell 1
       have zf1 := HZY.out.frozen 1
       have z2 := HZY.out.cell 2
       have zf2 := HZY.out.frozen 2
       have z3 := HZY.out.cell 3
       have zf3 := HZY.out.frozen 3
       have z4 := HZY.out.cell 4
       have zf4 := HZY.out.frozen 4
       have z5 := HZY.out.cell 5
       have zf5 := HZY.out.frozen 5
       clear hEY hZY hBY hY
       go_wp2
       have hR : BlkAt ((((((Y.setCell ⟨W.heap.size + 1, 0, none⟩ (.string nm)).setCell ⟨W.heap.size + 1, 1, none⟩ (.int .i64 pl)).setCell ⟨W.heap.size + 1, 2, none⟩ (.int .i64 up)).setCell ⟨W.heap.size + 1, 3, none⟩ (.slice b1 0 d1)).setCell ⟨W.heap.size + 1, 4, none⟩ (.slice ka l.length kd)).setCell ⟨W.heap.size + 1, 5, none⟩ (.string tx)) (W.heap.size + 1) 36 #[.string nm, .int .i64 pl, .int .i64 up, .slice b1 0 d1, .slice ka l.length kd, .string tx] := (((((HZY.out.set 0 (.string nm)).set 1 (.int .i64 pl)).set 2 (.int .i64 up)).set 3 (.slice b1 0 d1)).set 4 (.slice ka l.length kd)).set 5 (.string tx)
       refine bodyPost_ret (results_c rfl rfl aggElem rfl hR) rfl ?_
       exact ⟨⟨_, _, _, _, rfl⟩, (((((HBY.out.setCell (p := ⟨W.heap.size + 1, 0, none⟩) (by simp) _).setCell (p := ⟨W.heap.size + 1, 1, none⟩) (by simp) _).setCell (p := ⟨W.heap.size + 1, 2, none⟩) (by simp) _).setCell (p := ⟨W.heap.size + 1, 3, none⟩) (by simp) _).setCell (p := ⟨W.heap.size + 1, 4, none⟩) (by simp) _).setCell (p := ⟨W.heap.size + 1, 5, none⟩) (by simp) _⟩)
    | (have hEY := ((HE.out.below HA.out HE.out.lt).set 3 (.slice b1 0 d1)).set 4 (.slice ka l.length kd)
       have hZY := ((HZ.out.below HA.out HZ.out.lt).far (p := ⟨W.heap.size, 3, none⟩) (by simp) (.slice b1 0 d1)).far (p := ⟨W.heap.size, 4, none⟩) (by simp) (.slice ka l.length kd)
       have hBY := ((HB1.out.trans (HA.out.mono HB1.out.size)).setCell (p := ⟨W.heap.size, 3, none⟩) (Nat.le_refl _) (.slice b1 0 d1)).setCell (p := ⟨W.heap.size, 4, none⟩) (Nat.le_refl _) (.slice ka l.length kd)
       generalize hY : (wa.setCell ⟨W.heap.size, 3, none⟩ (.slice b1 0 d1)).setCell ⟨W.heap.size, 4, none⟩ (.slice ka l.length kd) = Y
       rw [hY] at hEY hZY hBY
       have HEY := Lib.hid hEY
       have HZY := Lib.hid hZY
       have HBY := Lib.hid hBY
       have y0 := HEY.out.cell 0
       have y1 := HEY.out.cell 1
       have y2 := HEY.out.cell 2
       have y3 := HEY.out.cell 3
       have y4 := HEY.out.cell 4
       have y5 := HEY.out.cell 5
       have z0 := HZY.out.cell 0
       have zf0 := HZY.out.frozen 0
       have z1 := HZY.out.cell 1
       have zf1 := HZY.out.frozen 1
       have z2 := HZY.out.cell 2
       have zf2 := HZY.out.frozen 2
       have z3 := HZY.out.cell 3
       have zf3 := HZY.out.frozen 3
       have z4 := HZY.out.cell 4
       have zf4 := HZY.out.frozen 4
       have z5 := HZY.out.cell 5
       have zf5 := HZY.out.frozen 5
       clear hEY hZY hBY hY
       go_wp2
       have hR : BlkAt ((((((Y.setCell ⟨W.heap.size + 1, 0, none⟩ (.string nm)).setCell ⟨W.heap.size + 1, 1, none⟩ (.int .i64 pl)).setCell ⟨W.heap.size + 1, 2, none⟩ (.int .i64 up)).setCell ⟨W.heap.size + 1, 3, none⟩ (.slice b1 0 d1)).setCell ⟨W.heap.size + 1, 4, none⟩ (.slice ka l.length kd)).setCell ⟨W.heap.size + 1, 5, none⟩ (.string tx)) (W.heap.size + 1) 36 #[.string nm, .int .i64 pl, .int .i64 up, .slice b1 0 d1, .slice ka l.length kd, .string tx] := (((((HZY.out.set 0 (.string nm)).set 1 (.int .i64 pl)).set 2 (.int .i64 up)).set 3 (.slice b1 0 d1)).set 4 (.slice ka l.length kd)).set 5 (.string tx)
       refine bodyPost_ret (results_c rfl rfl aggElem rfl hR) rfl ?_
       exact ⟨⟨_, _, _, _, rfl⟩, (((((HBY.out.setCell (p := ⟨W.heap.size + 1, 0, none⟩) (by simp) _).setCell (p := ⟨W.heap.size + 1, 1, none⟩) (by simp) _).setCell (p := ⟨W.heap.size + 1, 2, none⟩) (by simp) _).setCell (p := ⟨W.heap.size + 1, 3, none⟩) (by simp) _).setCell (p := ⟨W.heap.size + 1, 4, none⟩) (by simp) _).setCell (p := ⟨W.heap.size + 1, 5, none⟩) (by simp) _⟩)
end Go.Proofs.YtlldpmjnledhgaaGreatDoor
namespace Go.Proofs.YtlldpmjnledhgaaGreatDoor
open Go.RowKit
set_option linter.unusedVariables false

theorem results_ct {P : Program} {fn : Func} {p u : Tmp} {ty : TypeId} (hf : fn.results = #[.cell p ty, .tmp u]) {tmps : Array Value} {w : World} {g n : Nat} {t : TypeId} {cs : Array Value}
    (hp : tmps.getD p undef = .pointer (some ⟨g, 0, none⟩)) (T : AggT P ty n) (hn : cs.size = n) (h : BlkAt w g t cs) :
    (results fn tmps).run P w = .ok (.tuple #[.agg cs, tmps.getD u undef]) w := by
  have hl := T.load hn h
  have hp' : tmps[p]?.getD undef = .pointer (some ⟨g, 0, none⟩) := by simpa using hp
  simp only [results, hf]
  simp [hp', asAddr, hl]


set_option maxRecDepth 100000 in
set_option maxHeartbeats 16000000 in
theorem root_none {W : World} {ev : Value} {ys : List YE} {y : YE} {l : List Int} (h : DocAt W ev ys) (hn : ys.length ≤ 1000000) (hy : ys[0]? = some y) (han : y.an = 0) (hl : l.length ≤ 1000000) (hk : IntRd W (.slice y.kb y.kn y.kc) l) :
    Calls Tryz.prog 18 #[.agg #[ev]] W fun e W' => (∃ b1 d1 ka kd, e = .returned (.tuple #[.agg #[.string y.nm, .int .i64 y.pl, .int .i64 y.up, .slice b1 0 d1, .slice ka l.length kd, .string y.tx], .bool true])) ∧ Below W.heap.size W W' := by
  obtain ⟨a, c, rfl, h2⟩ := h
  obtain ⟨n, hnn⟩ : ∃ n, ys.length = n := ⟨_, rfl⟩
  obtain ⟨g, o, rfl, hg, hc⟩ := h2 (fun e0 => by rw [e0] at hy; cases hy)
  have hpos : 0 < n := by rw [← hnn]; exact (List.getElem?_eq_some_iff.1 hy).1
  obtain ⟨p0, p1, p2, p3, p4, p5⟩ := DocAt.six hc hy
  rw [Nat.zero_mul, Nat.add_zero] at p0 p1 p2 p3 p4 p5
  rw [han] at p3
  rw [hnn] at hn ⊢
  have q1 : (0 : Int) < (n : Int) := by omega
  have E1 : ((n : Int) == 0) = false := beq_eq_false_iff_ne.2 (by omega)
  obtain ⟨W1, hW1⟩ : ∃ W1, (W.alloc (.cells #[.slice (some ⟨g, o, none⟩) n c] 25)).alloc (.cells #[.string ⟨#[]⟩, .int .i64 0, .int .i64 0, .slice none 0 0, .slice none 0 0, .string ⟨#[]⟩] 36) = W1 := ⟨_, rfl⟩
  have HW1 := Lib.hid hW1
  have HB1 := Lib.hid (show Below W.heap.size W W1 by rw [← hW1]; exact ((Below.refl _ W).alloc (Nat.le_refl _) _).alloc (by simp) _)
  have hZ := (show BlkAt W1 (W.heap.size + 1) 36 #[.string ⟨#[]⟩, .int .i64 0, .int .i64 0, .slice none 0 0, .slice none 0 0, .string ⟨#[]⟩] by rw [← hW1]; have := BlkAt.new (W.alloc (.cells #[.slice (some ⟨g, o, none⟩) n c] 25)) 36 #[.string ⟨#[]⟩, .int .i64 0, .int .i64 0, .slice none 0 0, .slice none 0 0, .string ⟨#[]⟩]; simpa using this)
  have HZ := Lib.hid hZ
  have HCO := Lib.hid (copied_none (nm := y.nm) (tx := y.tx) (pl := y.pl) (up := y.up) (ab := y.ab) (ac := y.ac) (hk.below HB1.out) hl)
  have m1 : ¬ W.heap.size = g := by omega
  have m2 : ¬ W.heap.size + 1 = g := by omega
  have m3 : ¬ g = W.heap.size := by omega
  have m4 : ¬ g = W.heap.size + 1 := by omega
  have hg1 : g < W.heap.size + 1 := by omega
  clear hW1 hZ hc h2 hk hy hnn
  go_enter Tryz.func18, Tryz.ntmps18
  go_wp2_with (go_at_call 32; rw [HW1.out]; refine HCO.out.mono ?_; rintro _ w2 ⟨⟨b1, d1, ka, kd, rfl⟩, hB2⟩; have HZ2 := Lib.hid (HZ.out.below hB2 HZ.out.lt); have HB2 := Lib.hid (HB1.out.trans (hB2.mono HB1.out.size)); have z0 := HZ2.out.cell 0; have zf0 := HZ2.out.frozen 0; have z1 := HZ2.out.cell 1; have zf1 := HZ2.out.frozen 1; have z2 := HZ2.out.cell 2; have zf2 := HZ2.out.frozen 2; have z3 := HZ2.out.cell 3; have zf3 := HZ2.out.frozen 3; have z4 := HZ2.out.cell 4; have zf4 := HZ2.out.frozen 4; have z5 := HZ2.out.cell 5; have zf5 := HZ2.out.frozen 5)
  have hR : BlkAt ((((((w2.setCell ⟨W.heap.size + 1, 0, none⟩ (.string y.nm)).setCell ⟨W.heap.size + 1, 1, none⟩ (.int .i64 y.pl)).setCell ⟨W.heap.size + 1, 2, none⟩ (.int .i64 y.up)).setCell ⟨W.heap.size + 1, 3, none⟩ (.slice b1 0 d1)).setCell ⟨W.heap.size + 1, 4, none⟩ (.slice ka l.length kd)).setCell ⟨W.heap.size + 1, 5, none⟩ (.string y.tx)) (W.heap.size + 1) 36 #[.string y.nm, .int .i64 y.pl, .int .i64 y.up, .slice b1 0 d1, .slice ka l.length kd, .string y.tx] := (((((HZ2.out.set 0 (.string y.nm)).set 1 (.int .i64 y.pl)).set 2 (.int .i64 y.up)).set 3 (.slice b1 0 d1)).set 4 (.slice ka l.length kd)).set 5 (.string y.tx)
  refine bodyPost_ret (results_ct rfl rfl aggElem rfl hR) rfl ?_
  exact ⟨⟨_, _, _, _, rfl⟩, (((((HB2.out.setCell (p := ⟨W.heap.size + 1, 0, none⟩) (by simp) _).setCell (p := ⟨W.heap.size + 1, 1, none⟩) (by simp) _).setCell (p := ⟨W.heap.size + 1, 2, none⟩) (by simp) _).setCell (p := ⟨W.heap.size + 1, 3, none⟩) (by simp) _).setCell (p := ⟨W.heap.size + 1, 4, none⟩) (by simp) _).setCell (p := ⟨W.heap.size + 1, 5, none⟩) (by simp) _⟩
end Go.Proofs.YtlldpmjnledhgaaGreatDoor
