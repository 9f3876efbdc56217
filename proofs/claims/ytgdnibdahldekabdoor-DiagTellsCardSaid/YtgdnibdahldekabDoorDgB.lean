/- Reasons as they lie, and the walks of First, Name, Text, the book's Room and SameDiags, and chapter 5's words alive and light. -/
import Derived.Test.YtgdnibdahldekabDoorDgA
import Derived.Deep.QuietTactic
import Derived.WalkSmall
namespace Go.Proofs.YtgdnibdahldekabDoor
open Go.RowKit
set_option linter.unusedVariables false

/-- A row of reasons as it lies. -/
def RdD (w : World) (a : Option Addr) (ds : List Di) : Prop := ∀ i, i < ds.length → ∃ g, a = some ⟨g, 0, none⟩ ∧ g < w.heap.size ∧ ∀ j, j < 3 → w.cell? ⟨g, i * 3 + j, none⟩ = (diCells (ds.getD i zeroDi))[j]?
theorem flatD : ∀ (ds : List Di) (i j : Nat), j < 3 → (ds.flatMap diCells)[i * 3 + j]? = (ds[i]?).bind fun d => (diCells d)[j]?
  | [], i, j, h => by simp
  | d :: ds, 0, j, h => by
    rw [List.flatMap_cons, List.getElem?_append_left (by simp; omega)]
    simp
  | d :: ds, i + 1, j, h => by
    rw [List.flatMap_cons, List.getElem?_append_right (by simp; omega), List.getElem?_cons_succ, ← flatD ds i j h]
    congr 1
    simp; omega
theorem rdD_of {e : TypeId} {w : World} {base : Nat} {v : Value} {ds : List Di} {n : Nat} (h : w.ownsRow base e 3 v n (ds.flatMap diCells)) (hn : n = ds.length) : ∃ a c, v = .slice a ds.length c ∧ ds.length ≤ c ∧ (a = none ∨ ∃ g, a = some ⟨g, 0, none⟩) ∧ RdD w a ds := by
  subst hn
  rcases h.2 with ⟨rfl, h0⟩ | ⟨g, cap, cur, rfl, hb, hg, h1, h2, h3, h4⟩
  · exact ⟨none, 0, by rw [h0], by omega, .inl rfl, fun i hi => by omega⟩
  · refine ⟨_, _, rfl, h1, .inr ⟨g, rfl⟩, fun i hi => ⟨g, rfl, (Array.getElem?_eq_some_iff.1 hg).1, fun j hj => ?_⟩⟩
    rw [cell_of_row w g _ cur _ _ hg]
    have e1 : (cur.toList.take (ds.length * 3))[i * 3 + j]? = cur[i * 3 + j]? := by rw [List.getElem?_take_of_lt (by omega)]; simp
    rw [← e1, h4, flatD ds i j hj, List.getElem?_eq_getElem hi]
    simp [List.getD, List.getElem?_eq_getElem hi]
theorem RdD.below {w w' : World} {a : Option Addr} {ds : List Di} (h : RdD w a ds) (hB : Below w.heap.size w w') : RdD w' a ds := fun i hi => by
  obtain ⟨g, h1, h2, h3⟩ := h i hi
  exact ⟨g, h1, Nat.lt_of_lt_of_le h2 hB.size, fun j hj => (hB.cell h2).trans (h3 j hj)⟩
theorem RdD.take {w : World} {a : Option Addr} {ds : List Di} (h : RdD w a ds) (m : Nat) : RdD w a (ds.take m) := fun i hi => by
  have hi' : i < ds.length := by simp at hi; omega
  obtain ⟨g, h1, h2, h3⟩ := h i hi'
  refine ⟨g, h1, h2, fun j hj => ?_⟩
  have : i < m := by simp at hi; omega
  rw [h3 j hj]
  simp [List.getD, List.getElem?_take_of_lt this]

theorem run_eql_di (w : World) (a0 a1 b0 b1 : Int) (s t : ByteArray) :
    (binOp .eql 31 (.agg #[.int .i64 a0, .int .i64 a1, .string s]) (.agg #[.int .i64 b0, .int .i64 b1, .string t])).run Tryd.prog w
      = .ok (.bool (decide (a0 = b0 ∧ a1 = b1 ∧ s.toList = t.toList))) w := by
  rw [run_eql_struct]
  by_cases h0 : a0 = b0
  · by_cases h1 : a1 = b1
    · by_cases h4 : s.toList = t.toList
      · simp [go_sem, h0, h1, h4]
      · simp [go_sem, h0, h1, h4]
    · simp [go_sem, h0, h1]
  · simp [go_sem, h0]
theorem run_eql_yes (a0 a1 : Int) (s : ByteArray) (w : World) : (binOp .eql 31 (.agg #[.int .i64 a0, .int .i64 a1, .string s]) (.agg #[.int .i64 a0, .int .i64 a1, .string s])).run Tryd.prog w = .ok (.bool true) w := by
  rw [run_eql_di, decide_eq_true ⟨rfl, rfl, rfl⟩]

/-- A call's results: a struct in a cell, and a number. -/
theorem results_ct {P : Program} {fn : Func} {p u : Tmp} {ty : TypeId} (hf : fn.results = #[.cell p ty, .tmp u]) {tmps : Array Value} {w : World} {g n : Nat} {t : TypeId} {cs : Array Value}
    (hp : tmps.getD p undef = .pointer (some ⟨g, 0, none⟩)) (T : AggT P ty n) (hn : cs.size = n) (h : BlkAt w g t cs) :
    (results fn tmps).run P w = .ok (.tuple #[.agg cs, tmps.getD u undef]) w := by
  have hl := T.load hn h
  have hp' : tmps[p]?.getD undef = .pointer (some ⟨g, 0, none⟩) := by simpa using hp
  simp only [results, hf]
  simp [hp', asAddr, hl]

set_option maxRecDepth 100000 in
theorem first_nil (w : World) :
    Calls Tryd.prog 12 #[.pointer none] w fun e w' => e = .returned (.tuple #[diV zeroDi, .bool false]) ∧ Below w.heap.size w w' := by
  go_enter Tryd.func12, Tryd.ntmps12
  have b0 := BlkAt.new w 31 #[.int .i64 0, .int .i64 0, .string ⟨#[]⟩]
  go_wp2_with (go_at_call 13; refine (len_nil _).mono ?_; rintro e w1 ⟨rfl, rfl⟩)
  refine bodyPost_ret (results_ct rfl rfl aggD (by rfl) b0) rfl ⟨rfl, ?_⟩
  exact (Below.refl _ w).alloc (Nat.le_refl _) _

set_option maxRecDepth 100000 in
theorem first_any (base B : Nat) (d : Di) (ds : List Di) (w : World) (h : IsL base w B (d :: ds)) :
    Calls Tryd.prog 12 #[.pointer (some ⟨B, 0, none⟩)] w fun e w' => e = .returned (.tuple #[diV d, .bool true]) ∧ Below w.heap.size w w' := by
  have H := Lib.hid h
  obtain ⟨hb, hl, v, hB, hown, hne, hnil⟩ := h
  have hBl := hB.lt
  obtain ⟨vb, vc, rfl, hvc, hv1, hr⟩ := rdD_of hown rfl
  obtain ⟨g, rfl, hg, hcs⟩ := hr 0 (by simp)
  have p0 := hcs 0 (by omega)
  have p1 := hcs 1 (by omega)
  have p2 := hcs 2 (by omega)
  obtain ⟨x0, x1, x2⟩ := d
  obtain ⟨n, hn⟩ : ∃ n, ds.length = n := ⟨_, rfl⟩
  have c0 := hB.cell 0
  simp only [diCells, List.getElem?_cons_succ, List.getElem?_cons_zero, List.getD_cons_zero, Nat.zero_mul, Nat.zero_add, List.length_cons, hn] at p0 p1 p2 c0 hl
  clear hown hnil hcs hr hv1 hB hn
  go_enter Tryd.func12, Tryd.ntmps12
  have b0 := BlkAt.new w 31 #[.int .i64 0, .int .i64 0, .string ⟨#[]⟩]
  go_wp2_with (go_at_call 13; refine (len_any base B _ _ (H.out.below ((Below.refl _ w).alloc (Nat.le_refl _) _))).mono ?_; rintro e w1 ⟨rfl, rfl⟩)
  have b1 := BlkAt.new w 31 #[.int .i64 x0, .int .i64 x1, .string ⟨x2.toArray⟩]
  refine bodyPost_ret (results_ct rfl rfl aggD (by rfl) b1) rfl ⟨rfl, ?_⟩
  exact (Below.refl _ w).alloc (Nat.le_refl _) _

set_option maxRecDepth 100000 in
set_option maxHeartbeats 800000 in
theorem name_xml (w : World) : Calls Tryd.prog 14 #[.int .i64 11] w fun e w' => e = .returned (.string ⟨#[69, 95, 88, 77, 76]⟩) ∧ w' = w := by
  go_enter Tryd.func14, Tryd.ntmps14
  go_wp2
  go_ret
  exact ⟨rfl, rfl⟩
set_option maxRecDepth 100000 in
theorem name_ok (w : World) : Calls Tryd.prog 14 #[.int .i64 0] w fun e w' => e = .returned (.string ⟨#[79, 75]⟩) ∧ w' = w := by
  go_enter Tryd.func14, Tryd.ntmps14
  go_wp2
  go_ret
  exact ⟨rfl, rfl⟩
theorem itoa7 (w : World) : Calls Tryd.prog 25 #[.int .i64 7] w fun e w' => e = .returned (.string ⟨#[55]⟩) ∧ w' = w :=
  (Tryd.strconv_Itoa_small 7 (by omega) w).mono fun e w' ⟨h1, h2⟩ => ⟨by rw [h1, Lib.decDigits_one (by omega)]; rfl, h2⟩
set_option maxRecDepth 100000 in
set_option maxHeartbeats 800000 in
theorem text_first (w : World) : Calls Tryd.prog 16 #[.agg #[.int .i64 11, .int .i64 7, .string ⟨#[116, 97, 103]⟩]] w fun e w' => e = .returned (.string ⟨#[69, 95, 88, 77, 76, 64, 55, 32, 116, 97, 103]⟩) ∧ Below w.heap.size w w' := by
  go_enter Tryd.func16, Tryd.ntmps16
  go_wp2_with fail
  go_quiet (first
    | (go_at_call 14; refine Calls.quiet_of_same (name_xml _))
    | (go_at_call 25; refine Calls.quiet_of_same (itoa7 _)))
  go_wp2
  go_ret
  refine ⟨by first | rfl | (simp; rfl), ?_⟩
  exact below_drewN ((Below.refl _ w).alloc (Nat.le_refl _) _) _

set_option maxRecDepth 20000 in
set_option maxHeartbeats 800000 in
theorem sameD_yes (a b : Option Addr) (ca cb : Nat) (l : List Di) (n : Nat) (hn : l.length = n) (h0 : n ≤ 1000000) (w : World) (ha : RdD w a l) (hb : RdD w b l) :
    Calls Tryd.prog 11 #[.slice a n ca, .slice b n cb] w fun e w' => e = .returned (.bool true) ∧ Below w.heap.size w w' := by
  have HA := Lib.hid ha
  have HB := Lib.hid hb
  have HN := Lib.hid hn
  clear ha hb hn
  go_enter Tryd.func11, Tryd.ntmps11
  go_wp2
  go_loopw [5] (fun p wr => ∃ k : Nat, p = .int .i64 k ∧ k ≤ n ∧ Below w.heap.size w wr) (fun p wr => n - (intOf p).toNat)
  case atStart => exact ⟨0, rfl, Nat.zero_le _, Below.refl _ _⟩
  case round =>
    obtain ⟨k, rfl, hk, hB⟩ := hrel
    by_cases hlt : k < n
    · obtain ⟨ga, rfl, ha1, ha2⟩ := (HA.out.below hB) k (by have := HN.out; omega)
      obtain ⟨gb, rfl, hb1, hb2⟩ := (HB.out.below hB) k (by have := HN.out; omega)
      have p0 := ha2 0 (by omega)
      have p1 := ha2 1 (by omega)
      have p2 := ha2 2 (by omega)
      have q0 := hb2 0 (by omega)
      have q1 := hb2 1 (by omega)
      have q2 := hb2 2 (by omega)
      clear ha2 hb2
      obtain ⟨d, hd⟩ : ∃ d, l.getD k zeroDi = d := ⟨_, rfl⟩
      rw [hd] at p0 p1 p2 q0 q1 q2
      clear hd
      obtain ⟨x0, x1, x2⟩ := d
      have hn := run_eql_yes x0 x1 ⟨x2.toArray⟩
      simp only [diCells, List.getElem?_cons_succ, List.getElem?_cons_zero, Nat.add_zero] at p0 p1 p2 q0 q1 q2
      go_wp2_with fail
      go_quiet (fail)
      go_wp2_with fail
      go_roundw
      case rel => exact ⟨k + 1, by go_num, by omega, below_drewN hB _⟩
      case measure => simp [intOf]; omega
    · obtain rfl : k = n := by omega
      go_wp2_with fail
      go_ret
      exact ⟨rfl, hB⟩

/-- What room is left. -/
def roomL : Int → List Int → Int
  | left, [] => left
  | left, s :: l => if left < 0 ∨ left < s then -1 else roomL (left - s) l

set_option maxRecDepth 20000 in
set_option maxHeartbeats 800000 in
theorem room_any (left : Int) (a : Option Addr) (c : Nat) (l : List Int) (h0 : l.length ≤ 4611686018427387904) (hl : -9223372036854775808 ≤ left) (hl2 : left ≤ 9223372036854775807) (hp : ∀ s ∈ l, 0 ≤ s) (w : World) (ha : RdI w a l) :
    Calls Tryd.prog 21 #[.int .i64 left, .slice a l.length c] w fun e w' => e = .returned (.int .i64 (roomL left l)) ∧ w = w' := by
  have HA := Lib.hid ha
  have HP := Lib.hid hp
  obtain ⟨n, hn⟩ : ∃ n, l.length = n := ⟨_, rfl⟩
  rw [hn] at h0 ⊢
  have HN := Lib.hid hn
  obtain ⟨r, hr⟩ : ∃ r, roomL left l = r := ⟨_, rfl⟩
  rw [hr]
  have HR := Lib.hid hr
  clear ha hp hn hr
  go_enter Tryd.func21, Tryd.ntmps21
  go_wp2
  go_loop [0, 5] (fun v p => ∃ (k : Nat) (m : Int), p = .int .i64 k ∧ v = .int .i64 m ∧ k ≤ n ∧ -9223372036854775808 ≤ m ∧ m ≤ 9223372036854775807 ∧ roomL left l = roomL m (l.drop k)) (fun v p => n - (intOf p).toNat)
  case atStart => exact ⟨0, left, rfl, rfl, Nat.zero_le _, hl, hl2, rfl⟩
  case round =>
    obtain ⟨k, m, rfl, rfl, hk, hm1, hm2, h⟩ := hrel
    have H := Lib.hid h
    clear h
    by_cases hlt : k < n
    · have hkl : k < l.length := by have := HN.out; omega
      obtain ⟨g, rfl, hg1, hg2⟩ := HA.out k hkl
      have hs : l.getD k 0 = l[k] := by rw [List.getD, List.getElem?_eq_getElem hkl]; rfl
      have hd : l.drop k = l[k] :: l.drop (k + 1) := List.drop_eq_getElem_cons hkl
      have hpos := HP.out _ (List.getElem_mem hkl)
      rw [hs] at hg2
      have hst : roomL left l = if m < 0 ∨ m < l[k] then -1 else roomL (m - l[k]) (l.drop (k + 1)) := by rw [H.out, hd]; rfl
      generalize l[k] = s at *
      have HST := Lib.hid hst
      clear hs hd hst hkl
      by_cases h1 : m < 0
      · have hr : r = -1 := by rw [← HR.out, HST.out, if_pos (.inl h1)]
        subst hr
        go_wp2
        go_ret
        exact ⟨rfl, rfl⟩
      · by_cases h2 : m < s
        · have hr : r = -1 := by rw [← HR.out, HST.out, if_pos (.inr h2)]
          subst hr
          go_wp2
          go_ret
          exact ⟨rfl, rfl⟩
        · have hst2 : roomL left l = roomL (m - s) (l.drop (k + 1)) := by rw [HST.out, if_neg (by omega)]
          have HS2 := Lib.hid hst2
          clear hst2
          go_wp2
          go_round
          case rel => exact ⟨k + 1, m - s, by go_num, rfl, by omega, by omega, by omega, HS2.out⟩
          case measure => simp [intOf]; omega
    · obtain rfl : k = n := by omega
      have hr : r = m := by
        rw [← HR.out, H.out, List.drop_eq_nil_of_le (by have := HN.out; omega)]; rfl
      subst hr
      go_wp2
      go_ret
      exact ⟨rfl, rfl⟩

theorem roomL_one (m s : Int) (hm : -1 ≤ m) (hm2 : m ≤ 6000) (hs : 0 ≤ s) : -1 ≤ roomL m [s] ∧ roomL m [s] ≤ 6000 := by
  simp only [roomL]
  split <;> omega
theorem rdI_one (w : World) (s : Int) (t : TypeId) : RdI (w.alloc (.cells #[.int .i64 s] t)) (some ⟨w.heap.size, 0, none⟩) [s] := fun i hi => by
  obtain rfl : i = 0 := by simp at hi; omega
  exact ⟨_, rfl, by simp, (BlkAt.new w t #[.int .i64 s]).cell 0⟩
/-- A reason that came in. -/
structure DI where
  code : Int
  at_ : Int
  what : ByteArray
abbrev dIcells (d : DI) : List Value := [.int .i64 d.code, .int .i64 d.at_, .string d.what]
def diOk (d : DI) : Prop := (-9223372036854775808 ≤ d.code ∧ d.code ≤ 9223372036854775807) ∧ (-9223372036854775808 ≤ d.at_ ∧ d.at_ ≤ 9223372036854775807) ∧ d.what.size ≤ 9223372036854775807
/-- A slice of reasons that came in. -/
def IsDIs (w : World) (a : Option Addr) (zs : List DI) : Prop := ∀ i (h : i < zs.length), diOk zs[i] ∧ ∃ x, a = some x ∧ ∀ j, j < 3 → w.cell? (x.add (i * 3 + j)) = (dIcells zs[i])[j]?
/-- One of them, in each later world. -/
theorem isDI_at {w : World} {a : Option Addr} {zs : List DI} (h : IsDIs w a zs) {k : Nat} (hk : k < zs.length) : ∃ (x : Addr) (z0 z1 : Int) (z2 : ByteArray), a = some x ∧ zs[k] = ⟨z0, z1, z2⟩ ∧ diOk ⟨z0, z1, z2⟩ ∧ ∀ w' : World, Below w.heap.size w w' →
    w'.cell? (x.add (k * 3)) = some (.int .i64 z0) ∧ w'.cell? ⟨(x.add (k * 3)).block, (x.add (k * 3)).off + 1, none⟩ = some (.int .i64 z1) ∧ w'.cell? ⟨(x.add (k * 3)).block, (x.add (k * 3)).off + 2, none⟩ = some (.string z2) := by
  obtain ⟨hok, x, rfl, hx⟩ := h k hk
  obtain ⟨f, hf⟩ : ∃ f, zs[k] = f := ⟨_, rfl⟩
  rw [hf] at hok hx
  obtain ⟨z0, z1, z2⟩ := f
  refine ⟨x, z0, z1, z2, rfl, hf, hok, fun w' hb => ?_⟩
  have h0 := hx 0 (by omega)
  have hxb : x.block < w.heap.size := by rw [← add_block x (k * 3 + 0)]; exact block_lt h0
  have hj : ∀ j, j < 3 → w'.cell? ((x.add (k * 3)).add j) = (dIcells ⟨z0, z1, z2⟩)[j]? := by
    intro j hj
    rw [add_sum]
    exact (hb.cell (by rw [add_block]; exact hxb)).trans (hx j hj)
  have e0 : (x.add (k * 3)).add 0 = x.add (k * 3) := by rw [add_sum]; rfl
  exact ⟨by rw [← e0]; exact hj 0 (by omega), hj 1 (by omega), hj 2 (by omega)⟩

/-- A call that answers yes or no. -/
def IsBool (e : Ending) : Prop := ∃ b : Bool, e = .returned (.bool b)
theorem isBool (b : Bool) : IsBool (.returned (.bool b)) := ⟨b, rfl⟩

set_option maxRecDepth 100000 in
set_option maxHeartbeats 1600000 in
theorem light_any (a : Option Addr) (c n : Nat) (ds : List DI) (hn : ds.length = n) (hm : n ≤ 9223372036854775807) (w : World) (h : IsDIs w a ds) :
    Calls Tryd.prog 5 #[.slice a n c] w fun e w' => IsBool e ∧ Below w.heap.size w w' := by
  have H := Lib.hid h
  have HN := Lib.hid hn
  clear h hn
  go_enter Tryd.func5, Tryd.ntmps5
  go_wp2
  go_loopw [3, 4] (fun v p wr => ∃ (k : Nat) (m : Int), p = .int .i64 k ∧ v = .int .i64 m ∧ k ≤ n ∧ -1 ≤ m ∧ m ≤ 6000 ∧ Below w.heap.size w wr ∧ w.heap.size ≤ wr.heap.size) (fun v p wr => n - (intOf p).toNat)
  case atStart => exact ⟨0, 6000, rfl, rfl, Nat.zero_le _, by omega, by omega, Below.refl _ _, Nat.le_refl _⟩
  case round =>
    obtain ⟨k, m, rfl, rfl, hk, hm1, hm2, hB, hsz⟩ := hrel
    by_cases hlt : k < n
    · by_cases h200 : k < 200
      · by_cases hm0 : 0 ≤ m
        · obtain ⟨x, z0, z1, z2, rfl, hzk, hok, hc⟩ := isDI_at H.out (k := k) (by have := HN.out; omega)
          obtain ⟨p0, p1, p2⟩ := hc wr hB
          have hw := hok.2.2
          simp only at hw
          have KR := Lib.hid fun W hR => room_any m (some ⟨wr.heap.size, 0, none⟩) 1 [(z2.size : Int)] (by simp) (by omega) (by omega) (by intro s hs; simp at hs; omega) W hR
          have hrb := roomL_one m (z2.size : Int) hm1 hm2 (by omega)
          obtain ⟨r, hr⟩ : ∃ r, roomL m [(z2.size : Int)] = r := ⟨_, rfl⟩
          rw [hr] at hrb KR
          clear hc hr hzk hok p0 p1
          go_wp2_with fail
          refine (KR.out _ (rdI_one _ _ _)).mono ?_
          rintro e w' ⟨rfl, rfl⟩
          go_wp2_with fail
          go_roundw
          case rel => exact ⟨k + 1, r, by go_num, rfl, by omega, hrb.1, hrb.2, hB.alloc hsz _, by simp; omega⟩
          case measure => simp [intOf]; omega
        · go_wp2_with fail
          all_goals
            go_ret
            exact ⟨isBool _, hB⟩
      · by_cases hm0 : 0 ≤ m
        · go_wp2_with fail
          all_goals
            go_ret
            exact ⟨isBool _, hB⟩
        · go_wp2_with fail
          all_goals
            go_ret
            exact ⟨isBool _, hB⟩
    · obtain rfl : k = n := by omega
      by_cases hm0 : 0 ≤ m
      · go_wp2_with fail
        all_goals
          go_ret
          exact ⟨isBool _, hB⟩
      · go_wp2_with fail
        all_goals
          go_ret
          exact ⟨isBool _, hB⟩

set_option maxRecDepth 100000 in
set_option maxHeartbeats 1600000 in
theorem alive5_any (w : World) :
    Calls Tryd.prog 6 #[] w fun e w' => e = .returned (.bool true) ∧ Below w.heap.size w w' := by
  have k0 := IsL.new w.heap.size w (Nat.le_refl _)
  have A1 := fun W h => add_any w.heap.size w.heap.size [] 11 7 ⟨#[116, 97, 103]⟩ (by decide) W h
  have e1 : addL [] 11 7 (⟨#[116, 97, 103]⟩ : ByteArray).data.toList = [⟨11, 7, [116, 97, 103]⟩] := by
    unfold addL
    rw [if_neg (by decide)]
    rfl
  rw [e1] at A1
  have KA := Lib.hid A1
  have KF := Lib.hid fun W h => first_any w.heap.size w.heap.size ⟨11, 7, [116, 97, 103]⟩ [] W h
  have KL := Lib.hid fun W h => len_any w.heap.size w.heap.size [⟨11, 7, [116, 97, 103]⟩] W h
  clear A1 e1
  go_enter Tryd.func6, Tryd.ntmps6
  go_wp2_with fail
  refine (KA.out _ k0).mono ?_
  rintro e w1 ⟨⟨v1, rfl⟩, k1, B1⟩
  have z1 := B1.size
  simp only [World.size_alloc] at z1
  go_wp2_with fail
  refine (KF.out _ k1).mono ?_
  rintro e w2 ⟨rfl, B2⟩
  have k2 := k1.below B2
  have z2 := B2.size
  go_wp2_with fail
  refine (text_first _).mono ?_
  rintro e w3 ⟨rfl, B3⟩
  have k3 := (k2.below ((Below.refl _ w2).alloc (Nat.le_refl _) _)).below B3
  have z3 := B3.size
  simp only [World.size_alloc] at z3
  go_wp2_with fail
  refine (KL.out _ k3).mono ?_
  rintro e w4 ⟨rfl, rfl⟩
  go_wp2_with fail
  refine (name_ok _).mono ?_
  rintro e w4 ⟨rfl, rfl⟩
  go_wp2_with fail
  go_ret
  refine ⟨rfl, ?_⟩
  exact ((((((Below.refl _ w).alloc (Nat.le_refl _) _).trans B1).trans (B2.mono (by omega))).alloc (by omega) _).trans (B3.mono (by simp; omega)))

end Go.Proofs.YtgdnibdahldekabDoor
