/- The text of alive: what Parse tells of it. The walk of alive. What Parse comes to for the laws: it comes to something, a refusal has a code, and a document that was read answers. The walk of the law XtreeUnclosed. -/
import Derived.Test.YtlldpmjnledhgaaGreatDoorXpMO
import Derived.Test.YtlldpmjnledhgaaGreatDoorXtFR
import Derived.Test.YtlldpmjnledhgaaGreatDoorXtIK
import Derived.Deep.DeepCutAuto
import Derived.Test.YtlldpmjnledhgaaGreatDoorXnA
namespace Go.Proofs.YtlldpmjnledhgaaGreatDoor
open Go.RowKit
set_option linter.unusedVariables false

def aliveT : List UInt8 := [60, 97, 62, 60, 98, 47, 62, 120, 60, 47, 97, 62]
def aliveB : XB := { elems := [⟨[97], 0, -1, [], [1], [120]⟩, ⟨[98], 3, 0, [], [], []⟩], opened := [], most := 2 }
theorem aliveX : parseX aliveT = .ok aliveB := by kernel_rfl
end Go.Proofs.YtlldpmjnledhgaaGreatDoor
namespace Go.Proofs.YtlldpmjnledhgaaGreatDoor
open Go.RowKit
set_option linter.unusedVariables false

theorem aliveValid : validX (upsX aliveB.elems) (kidsX aliveB.elems) = true := by kernel_rfl
theorem aliveDepth : depthX (upsX aliveB.elems) (kidsX aliveB.elems) 1 = 2 := by kernel_rfl
/-- What the document of alive's text answers. -/
theorem alive_doc {n0 : Nat} {w1 : World} {es : List QL} {ev : Value} (hE : ElemsI n0 aliveB.elems es ev w1) :
    ∃ a c, ev = .slice a 2 c ∧ ∀ X, Below w1.heap.size w1 X →
      (Calls Tryz.prog 9 #[.agg #[.slice a 2 c], .int .i64 0, .string ⟨#[98]⟩] X fun en W' => ∃ v, en = .returned v ∧ IntRd W' v [1] ∧ Below X.heap.size X W') ∧
      (Calls Tryz.prog 18 #[.agg #[.slice a 2 c]] X fun e W' => (∃ pl up b1 d1 ka kn kd, e = .returned (.tuple #[.agg #[.string ⟨#[97]⟩, .int .i64 pl, .int .i64 up, .slice b1 0 d1, .slice ka kn kd, .string ⟨#[120]⟩], .bool true])) ∧ Below X.heap.size X W') ∧
      (Calls Tryz.prog 8 #[.agg #[.slice a 2 c], .int .i64 1] X fun e W' => e = .returned (.int .i64 2) ∧ Below X.heap.size X W') ∧
      (Calls Tryz.prog 13 #[.agg #[.slice a 2 c]] X fun e W' => e = .returned (.bool true) ∧ Below X.heap.size X W') := by
  have hl : es.length = 2 := hE.len
  obtain ⟨a, c, hev⟩ := ownsRow_slice' hE.row
  rw [hl] at hev
  subst hev
  refine ⟨a, c, rfl, fun X hX => ?_⟩
  have hEX := hE.below hX
  have hD := hEX.docAt
  have hyl : (es.map toYE).length = 2 := by rw [List.length_map]; exact hl
  have hups := hEX.ups
  have hkr := hEX.kidsRd (by decide)
  obtain ⟨q0, q1, hq⟩ : ∃ q0 q1, es = [q0, q1] := by
    match es, hl with
    | [q0, q1], _ => exact ⟨_, _, rfl⟩
  subst hq
  have htold := hEX.told
  simp only [List.map_cons, List.map_nil] at htold
  have hkl : (kidsX aliveB.elems).length = ([q0, q1].map toYE).length := rfl
  obtain ⟨h0, h1⟩ : q0.1 = ⟨[97], 0, -1, [], [1], [120]⟩ ∧ q1.1 = ⟨[98], 3, 0, [], [], []⟩ := by
    have e : [q0.1, q1.1] = [⟨[97], 0, -1, [], [1], [120]⟩, ⟨[98], 3, 0, [], [], []⟩] := htold
    simp only [List.cons.injEq] at e
    exact ⟨e.1, e.2.1⟩
  refine ⟨?_, ?_, ?_, ?_⟩
  · exact kids_any hD (by rw [hyl]; omega) hkl hkr (by rw [hups]; exact aliveValid) (e := 0) (l := [1]) (by rw [hyl]; omega) rfl (fun k hk => by
      obtain rfl := List.mem_singleton.1 hk
      exact ⟨toYE q1, rfl, .inr (by show (⟨q1.1.name.toArray⟩ : ByteArray) = _; rw [h1])⟩)
  · have hA := hEX.attrs q0 (by simp)
    rw [h0] at hA
    obtain ⟨b, d, hb⟩ := hA
    obtain ⟨k, hk1, hk2, hk3⟩ := hkr 0 (toYE q0) rfl
    have := root_none hD (by rw [hyl]; omega) (y := toYE q0) rfl (by show (slOf q0.2.1).2.1 = 0; rw [hb]; rfl) hk2 hk3
    refine this.mono ?_
    rintro e W' ⟨⟨b1, d1, ka, kd, h5⟩, h6⟩
    have e0 : (toYE q0).nm = ⟨#[97]⟩ := by show (⟨q0.1.name.toArray⟩ : ByteArray) = _; rw [h0]
    have e5 : (toYE q0).tx = ⟨#[120]⟩ := by show (⟨q0.1.text.toArray⟩ : ByteArray) = _; rw [h0]
    rw [e0, e5] at h5
    exact ⟨⟨_, _, b1, d1, ka, _, kd, h5⟩, h6⟩
  · have := depth_any hD (by rw [hyl]; omega) hkl hkr 1
    rwa [hups, aliveDepth] at this
  · have := valid_any hD (by rw [hyl]; omega) hkl hkr
    rwa [hups, aliveValid] at this

set_option maxRecDepth 100000 in
set_option maxHeartbeats 16000000 in
theorem alive_any (w : World) {m : Int} (hm : w.cell? ⟨0, 0, none⟩ = some (.int .i64 m)) (hT : FoldTab w) :
    Calls Tryz.prog 6 #[] w fun e w' => e = .returned (.bool true) ∧ Below w.heap.size w w' := by
  have HP := Lib.hid (show Calls Tryz.prog 7 #[.string ⟨aliveT.toArray⟩] w fun e w' => ParR w (.ok aliveB) e w' from by
    have := parse_any ⟨aliveT.toArray⟩ (by decide) w hm hT
    rwa [show parseX (ByteArray.mk aliveT.toArray).data.toList = .ok aliveB from aliveX] at this)
  clear hm hT
  have mixed : Tryz.prog.follows .mixedOrders = true := by kernel_rfl
  go_enter Tryz.func6, Tryz.ntmps6
  go_upto_region 2 with (go_at_call 7; refine HP.out.mono ?_; rintro _ w1 ⟨es, ev, rfl, hE, hB1⟩; unfold okV; obtain ⟨a, c, rfl, hD⟩ := alive_doc hE; have HD := Lib.hid hD; have HB1 := Lib.hid hB1; clear hE hB1 hD)
  obtain ⟨W2, hW2⟩ : ∃ W2, (w1.alloc (.cells #[.slice a 2 c] 25)).alloc (.cells #[.int .i64 0, .int .i64 0, .string ⟨#[]⟩] 28) = W2 := ⟨_, rfl⟩
  have hB12 : Below w1.heap.size w1 W2 := by rw [← hW2]; exact ((Below.refl _ w1).alloc (Nat.le_refl _) _).alloc (by simp) _
  have k1 : BlkAt W2 w1.heap.size 25 #[.slice a 2 c] := by rw [← hW2]; exact (BlkAt.new w1 _ _).alloc _
  have k2 : BlkAt W2 (w1.heap.size + 1) 28 #[.int .i64 0, .int .i64 0, .string ⟨#[]⟩] := by
    rw [← hW2]
    have := BlkAt.new (w1.alloc (.cells #[.slice a 2 c] 25)) 28 #[.int .i64 0, .int .i64 0, .string ⟨#[]⟩]
    simpa using this
  rw [hW2]
  have HD2 := Lib.hid (fun X (hX : Below W2.heap.size W2 X) => HD.out X (hB12.trans (hX.mono hB12.size)))
  have HB2 := Lib.hid (HB1.out.trans (hB12.mono HB1.out.size))
  have K1 := Lib.hid k1
  have K2 := Lib.hid k2
  have c1 := k1.cell 0
  clear hW2 hB12 k1 k2 HD HB1
  generalize w1.heap.size = g1 at *
  go_upto_region 3 with (go_at_call 9; refine ((HD2.out _ (Below.refl _ _)).1).mono ?_; rintro _ w3 ⟨v3, rfl, ⟨a3, c3, rfl, h3⟩, hB3⟩)
  obtain ⟨bb, oo, rfl, hbb, gg⟩ := h3 (by simp)
  have KK := Lib.hid (show w3.cell? ⟨bb, oo, none⟩ = some (.int .i64 1) from gg 0 (by simp))
  have HB3 := Lib.hid hB3
  replace c1 := (K1.out.below hB3 K1.out.lt).cell 0
  clear h3 gg hB3
  go_upto_region 4 with (go_at_call 18; refine ((HD2.out _ HB3.out).2.1).mono ?_; rintro _ w4 ⟨⟨pl, up, b1, d1, ka, kn, kd, rfl⟩, hB4⟩)
  obtain ⟨W5, hW5⟩ : ∃ W5, w4.alloc (.cells #[.string ⟨#[97]⟩, .int .i64 pl, .int .i64 up, .slice b1 0 d1, .slice ka kn kd, .string ⟨#[120]⟩] 36) = W5 := ⟨_, rfl⟩
  have hB45 : Below w4.heap.size w4 W5 := by rw [← hW5]; exact (Below.refl _ w4).alloc (Nat.le_refl _) _
  have k5 : BlkAt W5 w4.heap.size 36 #[.string ⟨#[97]⟩, .int .i64 pl, .int .i64 up, .slice b1 0 d1, .slice ka kn kd, .string ⟨#[120]⟩] := by rw [← hW5]; exact BlkAt.new w4 _ _
  rw [hW5]
  have hB35 : Below w3.heap.size w3 W5 := hB4.trans (hB45.mono hB4.size)
  have hB25 : Below W2.heap.size W2 W5 := HB3.out.trans (hB35.mono HB3.out.size)
  have q1 := K1.out.below hB25 K1.out.lt
  have q2 := K2.out.below hB25 K2.out.lt
  have e1 : W5.cell? ⟨g1, 0, none⟩ = some (.slice a 2 c) := q1.cell 0
  have e2 : W5.cell? ⟨g1 + 1, 0, none⟩ = some (.int .i64 0) := q2.cell 0
  have e3 : W5.cell? ⟨bb, oo, none⟩ = some (.int .i64 1) := (hB35.cell (p := ⟨bb, oo, none⟩) hbb).trans KK.out
  have e4 : W5.cell? ⟨w4.heap.size, 0, none⟩ = some (.string ⟨#[97]⟩) := k5.cell 0
  have e5 : W5.cell? ⟨w4.heap.size, 5, none⟩ = some (.string ⟨#[120]⟩) := k5.cell 5
  have HDe := Lib.hid (HD2.out W5 hB25).2.2.1
  have HVa := Lib.hid (fun X (hX : Below W5.heap.size W5 X) => (HD2.out X (hB25.trans (hX.mono hB25.size))).2.2.2)
  have HB5 := Lib.hid (HB2.out.trans (hB25.mono HB2.out.size))
  have L1 := Lib.hid q1.lt
  clear hW5 hB45 k5 hB35 hB25 q2 q1 HD2 HB2 HB3 hB4 K1 K2 KK c1
  generalize w4.heap.size = g4 at *
  go_wp2_with (first
    | (go_at_call 8; refine HDe.out.mono ?_; rintro _ w6 ⟨rfl, hB6⟩; have HB6 := Lib.hid hB6; have e6 : w6.cell? ⟨g1, 0, none⟩ = some (.slice a 2 c) := (hB6.cell (p := ⟨g1, 0, none⟩) L1.out).trans e1; clear hB6)
    | (go_at_call 13; refine (HVa.out _ HB6.out).mono ?_; rintro _ w7 ⟨rfl, hB7⟩; have HB7 := Lib.hid hB7; clear hB7))
  go_ret
  exact ⟨rfl, HB5.out.trans ((HB6.out.trans (HB7.out.mono HB6.out.size)).mono HB5.out.size)⟩
end Go.Proofs.YtlldpmjnledhgaaGreatDoor
namespace Go.Proofs.YtlldpmjnledhgaaGreatDoor
open Go.RowKit
set_option linter.unusedVariables false

theorem treeX_some : ∀ (l : List XT) (b : XB), treeX l b ≠ .none
  | [], b => nofun
  | t :: l, b => by
    have h := takeX_some b t
    unfold treeX
    cases ht : takeX b t with
    | none => exact absurd ht h
    | bad e => exact nofun
    | ok c => exact treeX_some l c
theorem treeX_code : ∀ (l : List XT) (b : XB) (e : XE), treeX l b = .bad e → e.code ≠ 0
  | [], b, e, h => by cases h
  | t :: l, b, e, h => by
    unfold treeX at h
    cases ht : takeX b t with
    | none => rw [ht] at h; cases h
    | bad e' => rw [ht] at h; cases h; exact takeX_code ht
    | ok c => rw [ht] at h; exact treeX_code l c e h
theorem docX_some (n : Nat) (l : List XT) : docX n l ≠ .none := by
  unfold docX
  cases ht : treeX l b0X with
  | none => exact absurd ht (treeX_some l b0X)
  | bad e => intro h; cases h
  | ok b =>
    dsimp only
    split
    · intro h; cases h
    · intro h; cases h
theorem docX_code {n : Nat} {l : List XT} {e : XE} (h : docX n l = .bad e) : e.code ≠ 0 := by
  unfold docX at h
  cases ht : treeX l b0X with
  | none => rw [ht] at h; cases h
  | bad e' => rw [ht] at h; cases h; exact treeX_code _ _ _ ht
  | ok b =>
    rw [ht] at h
    dsimp only at h
    split at h
    · cases h; exact (by decide : (11 : Nat) ≠ 0)
    · cases h
theorem parseX_some {s : List UInt8} (h : s.length < bigF) : parseX s ≠ .none := by
  unfold parseX
  cases hc : cutF s with
  | none => exact absurd hc (cutF_some h)
  | bad e => intro h; cases h
  | ok l => exact docX_some _ _
theorem parseX_code {s : List UInt8} {e : XE} (h : parseX s = .bad e) : e.code ≠ 0 := by
  unfold parseX at h
  cases hc : cutF s with
  | none => rw [hc] at h; cases h
  | bad e' => rw [hc] at h; cases h; rw [cutF_code hc]; decide
  | ok l =>
    rw [hc] at h
    exact docX_code h
/-- A document that was read answers. -/
theorem doc_reads {n0 : Nat} {b : XB} {w1 : World} {es : List QL} {ev : Value} {D : List Nat} (hl : Lies b) (hD : Fine b D) (hE : ElemsI n0 b.elems es ev w1) (hk0 : ∀ e ∈ b.elems, e.kids.length ≤ 1000000) :
    ∃ a c, ev = .slice a b.elems.length c ∧ (b.elems ≠ [] → ∃ g o, a = some ⟨g, o, none⟩ ∧ g < w1.heap.size ∧ ∀ (i : Nat) (e : XL), b.elems[i]? = some e → w1.cell? ⟨g, o + i * 6, none⟩ = some (.string ⟨e.name.toArray⟩)) ∧ ∀ X, Below w1.heap.size w1 X →
      (∀ (i d : Nat), D[i]? = some d → Calls Tryz.prog 8 #[.agg #[.slice a b.elems.length c], .int .i64 (i : Nat)] X fun e W' => e = .returned (.int .i64 (d : Nat)) ∧ Below X.heap.size X W') ∧
      (∀ (i : Nat) (e : XL), b.elems[i]? = some e → Calls Tryz.prog 9 #[.agg #[.slice a b.elems.length c], .int .i64 (i : Nat), .string ⟨#[]⟩] X fun en W' => ∃ v, en = .returned v ∧ IntRd W' v (e.kids.map fun (k : Nat) => (k : Int)) ∧ Below X.heap.size X W') := by
  have hlen : es.length = b.elems.length := hE.len
  obtain ⟨a, c, hev⟩ := ownsRow_slice' hE.row
  rw [hlen] at hev
  subst hev
  refine ⟨a, c, rfl, fun hne => ?_, fun X hX => ?_⟩
  · obtain ⟨a', c', h1, h2⟩ := hE.docAt
    obtain ⟨g, o, h3, h4, h5⟩ := h2 (fun h => hne (List.length_eq_zero_iff.1 (by rw [← hlen, ← List.length_map (f := toYE), h]; rfl)))
    obtain ⟨rfl, -, rfl⟩ := Value.slice.inj h1
    refine ⟨g, o, h3, h4, fun i e he => ?_⟩
    rw [← hE.told, List.getElem?_map] at he
    obtain ⟨r, hr, rfl⟩ := Option.map_eq_some_iff.1 he
    exact h5 i (toYE r) (by rw [List.getElem?_map, hr]; rfl) 0 _ rfl
  have hEX := hE.below hX
  have hDo := hEX.docAt
  have hyl : (es.map toYE).length = b.elems.length := by rw [List.length_map]; exact hlen
  have hups := hEX.ups
  have hkr := hEX.kidsRd hk0
  have hsz := hl.size
  have hval := hD.valid hl.size hl.most
  have hkl : (kidsX b.elems).length = (es.map toYE).length := by rw [hyl]; unfold kidsX; rw [List.length_map]
  refine ⟨fun i d hi => ?_, fun i e hi => ?_⟩
  · have := depth_any hDo (by rw [hyl]; omega) hkl hkr (i : Int)
    rw [hups] at this
    have hlt : i < b.elems.length := by have := (List.getElem?_eq_some_iff.1 hi).1; rw [hD.len] at this; exact this
    have he : depthX (upsX b.elems) (kidsX b.elems) (i : Int) = (d : Int) := by
      unfold depthX
      rw [if_pos ⟨Int.natCast_nonneg i, by rw [upsX_len]; omega, hval⟩, hD.depths, Int.toNat_natCast]
      show ((D[i]?.getD 0 : Nat) : Int) = d
      rw [hi]; rfl
    rwa [he] at this
  · have hlt := (List.getElem?_eq_some_iff.1 hi).1
    exact kids_any hDo (by rw [hyl]; omega) hkl hkr (by rw [hups]; exact hval) (e := i) (l := e.kids) (by rw [hyl]; omega) (by unfold kidsX; rw [List.getElem?_map, hi]; rfl) (fun k hk => by
      have hkk := hD.kids i e hi
      rw [hkk] at hk
      have hkm : k < b.elems.length := by
        have := (List.mem_filter.1 hk).1
        rw [upsX_len] at this
        simpa using this
      exact ⟨_, List.getElem?_eq_getElem (by rw [hyl]; exact hkm), .inl rfl⟩)
end Go.Proofs.YtlldpmjnledhgaaGreatDoor
namespace Go.Proofs.YtlldpmjnledhgaaGreatDoor
open Go.RowKit
set_option linter.unusedVariables false

theorem two_blocks (w1 : World) (x a b c : Value) : ∃ W2, (w1.alloc (.cells #[x] 25)).alloc (.cells #[a, b, c] 28) = W2 ∧ Below w1.heap.size w1 W2 ∧ BlkAt W2 w1.heap.size 25 #[x] ∧ BlkAt W2 (w1.heap.size + 1) 28 #[a, b, c] := by
  refine ⟨_, rfl, ((Below.refl _ w1).alloc (Nat.le_refl _) _).alloc (by simp) _, (BlkAt.new w1 _ _).alloc _, ?_⟩
  have := BlkAt.new (w1.alloc (.cells #[x] 25)) 28 #[a, b, c]
  simpa using this
theorem maxLen_below {w W : World} {m : Int} (hm : w.cell? ⟨0, 0, none⟩ = some (.int .i64 m)) (hW : Below w.heap.size w W) : W.cell? ⟨0, 0, none⟩ = some (.int .i64 m) := by
  rw [hW.cell (p := ⟨0, 0, none⟩) (block_lt' hm)]; exact hm

set_option maxRecDepth 100000 in
set_option maxHeartbeats 16000000 in
theorem unclosed_off (s nm : ByteArray) (w : World) {m : Int} (hm : w.cell? ⟨0, 0, none⟩ = some (.int .i64 m)) (hT : FoldTab w) (ho : 2000 < s.size ∨ (s.size ≤ 2000 ∧ 40 < nm.size)) :
    Calls Tryz.prog 4 #[.string s, .string nm] w fun e w' => e = .returned (.bool true) ∧ Below w.heap.size w w' := by
  have HA := Lib.hid (alive_any w hm hT)
  clear hm hT
  rcases ho with ho | ⟨ho, h2⟩
  all_goals
    go_enter Tryz.func4, Tryz.ntmps4
    go_wp2_with (go_at_call 6; refine HA.out.mono ?_; rintro e w1 ⟨rfl, hB⟩)
    go_ret
    exact ⟨rfl, hB⟩

set_option maxRecDepth 100000 in
set_option maxHeartbeats 16000000 in
theorem unclosed_on (s nm : ByteArray) (w : World) {m : Int} (hm : w.cell? ⟨0, 0, none⟩ = some (.int .i64 m)) (hT : FoldTab w) (hs : s.size ≤ 2000) (hn : nm.size ≤ 40) :
    Calls Tryz.prog 4 #[.string s, .string nm] w fun e w' => e = .returned (.bool true) ∧ Below w.heap.size w w' := by
  have HA := Lib.hid (fun (W : World) (hW : Below w.heap.size w W) => alive_any W (maxLen_below hm hW) (hT.below hW))
  have HP := Lib.hid (fun (t : ByteArray) (ht : t.size ≤ 60000) (W : World) (hW : Below w.heap.size w W) => parse_any t ht W (maxLen_below hm hW) (hT.below hW))
  have HN := Lib.hid (fun W => refName_any nm (by omega) W)
  clear hm hT
  go_enter Tryz.func4, Tryz.ntmps4
  go_wp2_with fail
  refine (HN.out _).mono ?_
  rintro e w1 ⟨B, rfl, hB, hB1⟩
  have HNm := Lib.hid hB
  have HB1 := Lib.hid hB1
  clear hB hB1 HN
  cases B with
  | false =>
    go_wp2_with (go_at_call 6; refine (HA.out _ HB1.out).mono ?_; rintro e w2 ⟨rfl, hB2⟩; have HB2 := Lib.hid (HB1.out.trans (hB2.mono HB1.out.size)); clear hB2)
    go_ret
    exact ⟨rfl, HB2.out⟩
  | true =>
    go_upto_region 3 with (go_at_call 6; refine (HA.out _ HB1.out).mono ?_; rintro e w2 ⟨rfl, hB2⟩; have HB2 := Lib.hid (HB1.out.trans (hB2.mono HB1.out.size)); clear hB2)
    have hPs := HP.out s (by omega) w2 HB2.out
    cases hR : parseX s.data.toList with
    | none => exact absurd hR (parseX_some (by show s.data.toList.length < 100000; simp; omega))
    | bad er =>
      rw [hR] at hPs
      have hcode := parseX_code hR
      have HPs := Lib.hid hPs
      clear hPs hR HA HP
      go_upto_region 4 with (go_at_call 7; refine HPs.out.mono ?_; rintro _ w3 ⟨rfl, hB3⟩; unfold errV dgv)
      obtain ⟨W4, hW4, hB4, k1, k2⟩ := two_blocks w3 (.slice none 0 0) (.int .i64 er.code) (.int .i64 er.place) (.string ⟨er.what.toArray⟩)
      rw [hW4]
      have c1 := k2.cell 0
      have hz : ((er.code : Int) == 0) = false := beq_eq_false_iff_ne.2 (by omega)
      have HB4 := Lib.hid (HB2.out.trans ((hB3.trans (hB4.mono hB3.size)).mono HB2.out.size))
      clear hW4 hB3 hB4 k1 k2
      generalize w3.heap.size = g3 at *
      go_wp2
      go_ret
      exact ⟨rfl, HB4.out⟩
    | ok b =>
      rw [hR] at hPs
      obtain ⟨l0, hl1, hl2, hne, hl4⟩ := parse_ok hR
      have hLies := parse_lies hR
      obtain ⟨D, hD⟩ := hLies.fine
      have hk0 : ∀ e ∈ b.elems, e.kids.length ≤ 1000000 := fun e he => Nat.le_trans ((tree_keeps hl2).2.2.2 e he) (by decide)
      have hlen : s.data.toList.length ≤ 2000 := by simp; exact hs
      have hlaw : b.most < 100 → ∃ a1 x1 x2 x3, (∀ (W : World), Below w.heap.size w W → Calls Tryz.prog 7 #[.string ((⟨#[60]⟩ : ByteArray) ++ nm ++ ⟨#[62]⟩ ++ s)] W fun e w' => e = .returned (.tuple #[.agg #[.slice none 0 0], dgv 11 a1 x1]) ∧ Below W.heap.size W w') ∧
          (∀ (W : World), Below w.heap.size w W → Calls Tryz.prog 7 #[.string (s ++ ⟨#[60, 47]⟩ ++ nm ++ ⟨#[62]⟩)] W fun e w' => e = .returned (.tuple #[.agg #[.slice none 0 0], dgv 11 s.size x2]) ∧ Below W.heap.size W w') ∧
          (∀ (W : World), Below w.heap.size w W → Calls Tryz.prog 7 #[.string (s ++ ⟨#[60]⟩ ++ nm ++ ⟨#[47, 62]⟩)] W fun e w' => e = .returned (.tuple #[.agg #[.slice none 0 0], dgv 11 s.size x3]) ∧ Below W.heap.size W w') := fun hm => by
        obtain ⟨c, m', hnm, hok⟩ := HNm.out trivial
        have z1 : (⟨#[60]⟩ : ByteArray).size = 1 := rfl
        have z2 : (⟨#[62]⟩ : ByteArray).size = 1 := rfl
        have z3 : (⟨#[60, 47]⟩ : ByteArray).size = 2 := rfl
        have z4 : (⟨#[47, 62]⟩ : ByteArray).size = 2 := rfl
        obtain ⟨⟨a1, y1, h1⟩, ⟨y2, h2⟩, ⟨y3, h3⟩⟩ := unclosed_law hlen hR hm hok
        have hsl : s.data.toList.length = s.size := by simp
        refine ⟨a1, ⟨y1.toArray⟩, ⟨y2.toArray⟩, ⟨y3.toArray⟩, fun W hW => ?_, fun W hW => ?_, fun W hW => ?_⟩
        · have := HP.out ((⟨#[60]⟩ : ByteArray) ++ nm ++ ⟨#[62]⟩ ++ s) (by simp only [ByteArray.size_append]; omega) W hW
          rw [show ((⟨#[60]⟩ : ByteArray) ++ nm ++ ⟨#[62]⟩ ++ s).data.toList = 60 :: c :: m' ++ [62] ++ s.data.toList by simp [ByteArray.data_append, hnm], h1] at this
          exact this
        · have := HP.out (s ++ ⟨#[60, 47]⟩ ++ nm ++ ⟨#[62]⟩) (by simp only [ByteArray.size_append]; omega) W hW
          rw [show (s ++ ⟨#[60, 47]⟩ ++ nm ++ ⟨#[62]⟩).data.toList = s.data.toList ++ 60 :: 47 :: c :: m' ++ [62] by simp [ByteArray.data_append, hnm], h2, hsl] at this
          exact this
        · have := HP.out (s ++ ⟨#[60]⟩ ++ nm ++ ⟨#[47, 62]⟩) (by simp only [ByteArray.size_append]; omega) W hW
          rw [show (s ++ ⟨#[60]⟩ ++ nm ++ ⟨#[47, 62]⟩).data.toList = s.data.toList ++ 60 :: c :: m' ++ [47, 62] by simp [ByteArray.data_append, hnm], h3, hsl] at this
          exact this
      have HLaw := Lib.hid hlaw
      have HPs := Lib.hid hPs
      have hmost : (∀ d ∈ D, d < 100) → b.most < 100 := fun h => h _ (hD.mem hne)
      have HMost := Lib.hid hmost
      have hpos : 0 < b.elems.length := List.length_pos_iff.2 hne
      have hn1 := hLies.size
      have hDl := hD.len
      have HDl := Lib.hid hDl
      clear hPs hR HA HP hlaw hmost hl1 hl4 hlen hDl HNm
      go_upto_region 4 with (go_at_call 7; refine HPs.out.mono ?_; rintro _ w3 ⟨es, ev, rfl, hE, hB3⟩; unfold okV dgv; obtain ⟨a, c, rfl, -, hrd⟩ := doc_reads hLies hD hE hk0)
      obtain ⟨W4, hW4, hB4, k1, k2⟩ := two_blocks w3 (.slice a b.elems.length c) (.int .i64 0) (.int .i64 0) (.string ⟨#[]⟩)
      rw [hW4]
      have HRd := Lib.hid (fun (X : World) (hX : Below W4.heap.size W4 X) => (hrd X (hB4.trans (hX.mono hB4.size))).1)
      have HB4 := Lib.hid (HB2.out.trans ((hB3.trans (hB4.mono hB3.size)).mono HB2.out.size))
      have c1 := k2.cell 0
      have K1 := Lib.hid k1
      clear hW4 hB3 hB4 k1 k2 hE hrd HPs hk0 hl2 hne
      generalize w3.heap.size = g3 at *
      obtain ⟨n, hn⟩ : ∃ n, b.elems.length = n := ⟨_, rfl⟩
      have HDn := Lib.hid (HDl.out.trans hn)
      rw [hn] at HRd K1 hpos hn1
      rw [hn]
      clear hn HDl hLies hD
      go_wp2
      go_loopw [7] (fun p wr => ∃ i : Nat, p = .int .i64 i ∧ i ≤ n ∧ (∀ (j d : Nat), j < i → D[j]? = some d → d < 100) ∧ Below W4.heap.size W4 wr) (fun p wr => n - (intOf p).toNat)
      case atStart => exact ⟨0, rfl, Nat.zero_le _, (fun j d h => by omega), Below.refl _ _⟩
      case round =>
        obtain ⟨i, rfl, hi, hd, hB⟩ := hrel
        have HD := Lib.hid hd
        have HB := Lib.hid hB
        have d1 := (K1.out.below hB K1.out.lt).cell 0
        clear hd hB c1
        by_cases hlt : i < n
        · obtain ⟨d, hd⟩ : ∃ d, D[i]? = some d := ⟨_, List.getElem?_eq_getElem (by rw [HDn.out]; exact hlt)⟩
          have HC := Lib.hid (HRd.out wr HB.out i d hd)
          have HDd := Lib.hid hd
          clear hd
          by_cases h100 : 100 ≤ d
          · clear HLaw HMost HRd
            go_wp2_with (go_at_call 8; refine HC.out.mono ?_; rintro e w5 ⟨rfl, hB5⟩; have HB5 := Lib.hid hB5; clear hB5)
            go_ret
            exact ⟨rfl, HB4.out.trans ((HB.out.trans (HB5.out.mono HB.out.size)).mono HB4.out.size)⟩
          · go_wp2_with (go_at_call 8; refine HC.out.mono ?_; rintro e w5 ⟨rfl, hB5⟩; have HB5 := Lib.hid hB5; clear hB5)
            go_roundw
            case rel => exact ⟨i + 1, by go_num, hlt, (fun j e hj he => by
              by_cases hji : j = i
              · subst hji
                have := HDd.out
                rw [this] at he
                cases he
                omega
              · exact HD.out j e (by omega) he), HB.out.trans (HB5.out.mono HB.out.size)⟩
            case measure => simp [intOf]; omega
        · obtain rfl : i = n := by omega
          obtain ⟨a1, x1, x2, x3, hq1, hq2, hq3⟩ := HLaw.out (HMost.out fun d hd => by
            obtain ⟨j, hj⟩ := List.mem_iff_getElem?.1 hd
            exact HD.out j d (by have := (List.getElem?_eq_some_iff.1 hj).1; rw [HDn.out] at this; exact this) hj)
          have HQ1 := Lib.hid hq1
          have HQ2 := Lib.hid hq2
          have HQ3 := Lib.hid hq3
          have HBr := Lib.hid (HB4.out.trans (HB.out.mono HB4.out.size))
          have HK := Lib.hid (K1.out.below HB.out K1.out.lt)
          clear hq1 hq2 hq3 HLaw HMost HRd HD HDn HB HB4 K1
          go_upto_region 12 with (go_at_call 7; refine (HQ1.out _ HBr.out).mono ?_; rintro _ v1 ⟨rfl, hv1⟩; unfold dgv)
          obtain ⟨V1, hV1, hy1, -, p1⟩ := two_blocks v1 (.slice none 0 0) (.int .i64 11) (.int .i64 a1) (.string x1)
          rw [hV1]
          have HK1 := Lib.hid (HK.out.below (hv1.trans (hy1.mono hv1.size)) HK.out.lt)
          have HV1 := Lib.hid (HBr.out.trans ((hv1.trans (hy1.mono hv1.size)).mono HBr.out.size))
          have P1 := Lib.hid p1
          clear hV1 hv1 hy1 p1 HK HBr d1 HQ1
          generalize v1.heap.size = g11 at *
          go_upto_region 13 with (go_at_call 7; refine (HQ2.out _ HV1.out).mono ?_; rintro _ v2 ⟨rfl, hv2⟩; unfold dgv)
          obtain ⟨V2, hV2, hy2, -, p2⟩ := two_blocks v2 (.slice none 0 0) (.int .i64 11) (.int .i64 s.size) (.string x2)
          rw [hV2]
          have hz2 := hv2.trans (hy2.mono hv2.size)
          have HK2 := Lib.hid (HK1.out.below hz2 HK1.out.lt)
          have P12 := Lib.hid (P1.out.below hz2 P1.out.lt)
          have HV2 := Lib.hid (HV1.out.trans (hz2.mono HV1.out.size))
          have P2 := Lib.hid p2
          clear hV2 hv2 hy2 p2 HK1 P1 HV1 HQ2 hz2
          generalize v2.heap.size = g12 at *
          go_upto_region 14 with (go_at_call 7; refine (HQ3.out _ HV2.out).mono ?_; rintro _ v3 ⟨rfl, hv3⟩; unfold dgv)
          obtain ⟨V3, hV3, hy3, -, p3⟩ := two_blocks v3 (.slice none 0 0) (.int .i64 11) (.int .i64 s.size) (.string x3)
          rw [hV3]
          have hz3 := hv3.trans (hy3.mono hv3.size)
          have HV3 := Lib.hid (HV2.out.trans (hz3.mono HV2.out.size))
          have q0 := (HK2.out.below hz3 HK2.out.lt).cell 0
          have q1 := (P12.out.below hz3 P12.out.lt).cell 0
          have q2 := (P2.out.below hz3 P2.out.lt).cell 0
          have q3 := (P2.out.below hz3 P2.out.lt).cell 1
          have q4 := p3.cell 0
          have q5 := p3.cell 1
          clear hV3 hv3 hy3 p3 HK2 P12 P2 HV2 HQ3 hz3
          generalize v3.heap.size = g13 at *
          go_wp2
          go_ret
          exact ⟨rfl, HV3.out⟩

/-- The law XtreeUnclosed answers true. -/
theorem unclosed_any (s nm : ByteArray) (w : World) {m : Int} (hm : w.cell? ⟨0, 0, none⟩ = some (.int .i64 m)) (hT : FoldTab w) :
    Calls Tryz.prog 4 #[.string s, .string nm] w fun e w' => e = .returned (.bool true) ∧ Below w.heap.size w w' := by
  by_cases h1 : s.size ≤ 2000
  · by_cases h2 : nm.size ≤ 40
    · exact unclosed_on s nm w hm hT h1 h2
    · exact unclosed_off s nm w hm hT (.inr ⟨h1, by omega⟩)
  · exact unclosed_off s nm w hm hT (.inl (by omega))
end Go.Proofs.YtlldpmjnledhgaaGreatDoor
