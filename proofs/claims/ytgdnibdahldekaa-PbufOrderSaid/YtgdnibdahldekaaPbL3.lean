/- The walk of the law PbufOrder. -/
import Derived.Test.YtgdnibdahldekaaPfF
import Derived.Test.YtgdnibdahldekaaPbL1
import Derived.WalkKit
import Derived.ProofKit
import Derived.LoopTactic
import Derived.WalkSpells
import Derived.WalkLawsBesides
import Derived.Lib.Hide
import Derived.Outline
import Derived.Handy
namespace Go.Proofs.Ytgdnibdahldekaa
open Go.RowKit Go.Shelf
set_option linter.unusedVariables false

/-- What Fields tells of a text put behind another. -/
theorem fields_behind {a b : List UInt8} (ha : a.length ≤ 1000) (hb : b.length ≤ 1000) (h : (fieldsD a).code = 0) :
    ((fieldsD b).code ≠ 0 → fieldsF (a ++ b) = [] ∧ (fieldsD (a ++ b)).code = (fieldsD b).code ∧ (fieldsD (a ++ b)).at_ = (fieldsD b).at_ + a.length) ∧
    ((fieldsD b).code = 0 → (fieldsD (a ++ b)).code = 0 ∧ fieldsF (a ++ b) = fieldsF a ++ (fieldsF b).map (shiftF a.length)) := by
  unfold fieldsD fieldsF at *
  rw [if_neg (by omega)] at h
  simp only [List.length_append]
  rw [if_neg (by omega), if_neg (by omega), if_neg (by omega), if_neg (by omega), if_neg (by omega)]
  cases hA : (fieldsGo 0 a).2 with
  | some k => rw [hA] at h; simp [wireD] at h
  | none =>
    rw [fieldsGo_append _ 0 a b (Nat.le_refl _) hA, show (0 : Nat) + a.length = 0 + a.length from rfl, fieldsGo_shift _ 0 a.length b (Nat.le_refl _)]
    cases hB : (fieldsGo 0 b).2 with
    | none => simp [zeroD]
    | some k => simp [wireD]
theorem fieldsF_len (l : List UInt8) (h : l.length ≤ 1000) : (fieldsF l).length ≤ 1000 := by
  unfold fieldsF
  rw [if_neg (by omega)]
  split
  · exact Nat.le_trans (fieldsGo_len _ 0 l (Nat.le_refl _)) h
  · simp
theorem flat5 : ∀ (fs : List Fld) (i j : Nat), j < 5 → (fs.flatMap fldCells)[i * 5 + j]? = (fs[i]?).bind fun f => (fldCells f)[j]?
  | [], i, j, h => by simp
  | f :: fs, 0, j, h => by
    rw [List.flatMap_cons, List.getElem?_append_left (by simpa using h)]
    simp
  | f :: fs, i + 1, j, h => by
    rw [List.flatMap_cons, List.getElem?_append_right (by simp; omega)]
    have : (i + 1) * 5 + j - (fldCells f).length = i * 5 + j := by simp; omega
    rw [this, flat5 fs i j h]
    simp
theorem ownsRow_below {W W' : World} {base : Nat} {e : TypeId} {size : Nat} {v : Value} {n : Nat} {xs : List Value} (h : W.ownsRow base e size v n xs) (hB : Below W.heap.size W W') : W'.ownsRow base e size v n xs := by
  refine ⟨h.1, ?_⟩
  rcases h.2 with h' | ⟨g, cap, cur, hv, hb, hg, hr⟩
  · exact .inl h'
  · exact .inr ⟨g, cap, cur, hv, hb, by rw [hB.block g (Array.getElem?_eq_some_iff.1 hg).1]; exact hg, hr⟩
theorem below_next {n : Nat} {w w1 w2 : World} (o : Obj) (h : Below n w w1 ∧ n ≤ w1.heap.size) (hB : Below w1.heap.size w1 w2) : Below n w (w2.alloc o) ∧ n ≤ (w2.alloc o).heap.size := by
  have h1 := hB.size
  exact ⟨(h.1.trans (hB.mono h.2)).alloc (by omega) _, by simp; omega⟩
theorem ownsRow_len {w : World} {base : Nat} {e : TypeId} {size : Nat} {v : Value} {n : Nat} {xs : List Value} (h : w.ownsRow base e size v n xs) : ∃ b c, v = .slice b n c := by
  rcases h.2 with ⟨rfl, h0⟩ | ⟨g, cap, cur, rfl, _⟩
  · exact ⟨none, 0, by rw [h0]⟩
  · exact ⟨_, _, rfl⟩
/-- A row of fields, cell by cell. -/
theorem fld_cell {w : World} {base : Nat} {v : Value} {fs : List Fld} (h : w.ownsRow base 40 5 v fs.length (fs.flatMap fldCells)) {i : Nat} (hi : i < fs.length) :
    ∃ g cap, v = .slice (some ⟨g, 0, none⟩) fs.length cap ∧ g < w.heap.size ∧ ∀ j, j < 5 → w.cell? ⟨g, i * 5 + j, none⟩ = (fldCells (fs.getD i zeroF))[j]? := by
  rcases h.2 with ⟨rfl, h0⟩ | ⟨g, cap, cur, rfl, hb, hg, h1, h2, h3, h4⟩
  · omega
  · refine ⟨g, cap, rfl, (Array.getElem?_eq_some_iff.1 hg).1, fun j hj => ?_⟩
    rw [cell_of_row w g _ cur _ _ hg]
    have h5 := flat5 fs i j hj
    have : (cur.toList.take (fs.length * 5))[i * 5 + j]? = cur[i * 5 + j]? := by
      rw [List.getElem?_take_of_lt (by omega)]; simp
    rw [← this, h4, h5]
    simp [List.getD, List.getElem?_eq_getElem hi]
theorem fieldsGo_at : ∀ (m k : Nat) (l : List UInt8), l.length ≤ m → (∀ f ∈ (fieldsGo k l).1, f.at_ ≤ k + l.length) ∧ (∀ j, (fieldsGo k l).2 = some j → j ≤ k + l.length)
  | 0, k, l, h => by
    obtain rfl : l = [] := List.eq_nil_of_length_eq_zero (by omega)
    rw [fieldsGo_nil]; simp
  | m + 1, k, l, h => by
    by_cases hl : l = []
    · subst hl; rw [fieldsGo_nil]; simp
    cases ho : oneL l with
    | none => rw [fieldsGo_none hl ho]; simp
    | some p =>
      obtain ⟨f, n⟩ := p
      have hb := oneL_bd ho
      have ih := fieldsGo_at m (k + n) (l.drop n) (by simp; omega)
      have hk : k + n + (l.drop n).length = k + l.length := by simp; omega
      rw [fieldsGo_some ho]
      rw [hk] at ih
      refine ⟨fun g hg => ?_, ih.2⟩
      rw [List.mem_cons] at hg
      rcases hg with rfl | hg
      · simp
      · exact ih.1 g hg
theorem fieldsF_at (l : List UInt8) (h : l.length ≤ 1000) (i : Nat) : ((fieldsF l).getD i zeroF).at_ ≤ 1000 := by
  by_cases hi : i < (fieldsF l).length
  · rw [List.getD, List.getElem?_eq_getElem hi]
    simp only [Option.getD_some]
    have hm : (fieldsF l)[i] ∈ fieldsF l := List.getElem_mem hi
    have : ∀ f ∈ fieldsF l, f.at_ ≤ 1000 := by
      unfold fieldsF
      rw [if_neg (by omega)]
      split
      · intro f hf; have := (fieldsGo_at _ 0 l (Nat.le_refl _)).1 f hf; omega
      · simp
    exact this _ hm
  · rw [List.getD, List.getElem?_eq_none (by omega)]; simp [zeroF]
theorem fieldsD_at (l : List UInt8) (h : l.length ≤ 1000) : (fieldsD l).at_ ≤ 1000 ∧ (fieldsD l).code ≤ 10 := by
  unfold fieldsD
  rw [if_neg (by omega)]
  cases hk : (fieldsGo 0 l).2 with
  | none => simp [zeroD]
  | some k => have := (fieldsGo_at _ 0 l (Nat.le_refl _)).2 k hk; simp [wireD]; omega

set_option maxRecDepth 100000 in
set_option maxHeartbeats 2000000 in
theorem pbufOrder_walk (a b : ByteArray) (wa : a.size ≤ maxLen) (wb : b.size ≤ maxLen) (w : World) :
    Calls Try.prog 6 #[.string a, .string b] w fun e w' => e = .returned (.bool true) ∧ Below w.heap.size w w' := by
  unfold maxLen at wa wb
  by_cases hl : 1000 < a.size ∨ 1000 < b.size
  · by_cases ha : 1000 < a.size
    all_goals
      go_enter Try.func6, Try.ntmps6
      go_wp2_with (go_at_call 9; refine (alive10_any _).mono ?_; rintro e w1 ⟨rfl, hB⟩)
      go_ret
      exact ⟨rfl, hB⟩
  · have ha : a.size ≤ 1000 := by omega
    have hb : b.size ≤ 1000 := by omega
    have sA : a.data.toList.length = a.size := by simp
    have sB : b.data.toList.length = b.size := by simp
    have hab : (a ++ b).data.toList = a.data.toList ++ b.data.toList := by simp
    have hsz : (a ++ b).size = a.size + b.size := ByteArray.size_append
    have KA := fun w => fields_any a (by omega) w
    have KB := fun w => fields_any b (by omega) w
    have KC := fun w => fields_any (a ++ b) (by omega) w
    rw [hab] at KC
    have la := fieldsF_len a.data.toList (by omega)
    have lb := fieldsF_len b.data.toList (by omega)
    have ab := fieldsF_at b.data.toList (by omega)
    have db := fieldsD_at b.data.toList (by omega)
    have hbe := fun h => fields_behind (a := a.data.toList) (b := b.data.toList) (by omega) (by omega) h
    rw [sA] at hbe
    generalize fieldsF a.data.toList = A at *
    generalize fieldsF b.data.toList = B at *
    generalize fieldsF (a.data.toList ++ b.data.toList) = C at *
    generalize fieldsD a.data.toList = dA at *
    generalize fieldsD b.data.toList = dB at *
    generalize fieldsD (a.data.toList ++ b.data.toList) = dC at *
    have HBE := Lib.hid hbe
    have HAB := Lib.hid ab
    have HKA := Lib.hid KA
    have HKB := Lib.hid KB
    have HKC := Lib.hid KC
    clear hbe ab KA KB KC hab sA sB
    go_enter Try.func6, Try.ntmps6
    go_wp2_with (go_at_call 9; refine (alive10_any _).mono ?_; rintro e w1 ⟨rfl, hB1⟩)
    refine (HKA.out _).mono ?_
    rintro e w2 ⟨vl, rfl, hl2, hB2⟩
    obtain ⟨bl, cl, rfl⟩ := ownsRow_len hl2
    go_wp2_with fail
    refine (HKB.out _).mono ?_
    rintro e w3 ⟨vm, rfl, hm3, hB3⟩
    obtain ⟨bm, cm, rfl⟩ := ownsRow_len hm3
    have kd : BlkAt w3 w2.heap.size 36 #[.int .i64 dA.code, .int .i64 dA.at_, .string ⟨dA.what.toArray⟩] := (BlkAt.new w2 _ _).below hB3 (by simp)
    have kd0 : w3.cell? ⟨w2.heap.size, 0, none⟩ = some (.int .i64 dA.code) := kd.cell 0
    have h23 : w2.heap.size < w3.heap.size := kd.lt
    by_cases hA : dA.code = 0
    · have HX := HBE.out hA
      have hA' : (dA.code : Int) = 0 := by omega
      by_cases hE : dB.code = 0
      · have hE' : (dB.code : Int) = 0 := by omega
        obtain ⟨cc, ca, cw⟩ := dC
        obtain ⟨h1, h2⟩ := HX.2 hE
        simp only at h1
        subst h1
        have hlc : C.length = A.length + B.length := by rw [h2]; simp
        have HY := Lib.hid h2
        clear HX kd h2
        go_wp2_with fail
        refine (HKC.out _).mono ?_
        rintro e w4 ⟨vn, rfl, hn4, hB4⟩
        obtain ⟨bn, cn, rfl⟩ := ownsRow_len hn4
        have ke : BlkAt w4 w3.heap.size 36 _ := (BlkAt.new w3 _ _).below hB4 (by simp)
        have ke0 := ke.cell 0
        have h34 : w3.heap.size < w4.heap.size := ke.lt
        clear ke
        go_wp2_with fail
        have q5 := below_next (.cells #[.int .i64 0, .int .i64 ca, .string ⟨cw.toArray⟩] 36) (below_next _ (below_next _ ⟨hB1, hB1.size⟩ hB2) hB3) hB4
        have rl := (ownsRow_below ((ownsRow_below (hl2.alloc _) hB3).alloc _) hB4).alloc (.cells #[.int .i64 0, .int .i64 ca, .string ⟨cw.toArray⟩] 36)
        have rm := (ownsRow_below (hm3.alloc _) hB4).alloc (.cells #[.int .i64 0, .int .i64 ca, .string ⟨cw.toArray⟩] 36)
        have rn := hn4.alloc (.cells #[.int .i64 0, .int .i64 ca, .string ⟨cw.toArray⟩] 36)
        obtain ⟨w5, hw5⟩ : ∃ w5, w4.alloc (.cells #[.int .i64 0, .int .i64 ca, .string ⟨cw.toArray⟩] 36) = w5 := ⟨_, rfl⟩
        rw [hw5] at q5 rl rm rn ⊢
        clear hw5 hl2 hm3 hn4 hB1 hB2 hB3 hB4 kd0 ke0 h23 h34 HKA HKB HKC hA hE hA' hE' hl
        go_loopw [11] (fun p wr => ∃ k : Nat, p = .int .i64 k ∧ k ≤ C.length ∧ Below w5.heap.size w5 wr) (fun p wr => C.length - (intOf p).toNat)
        case atStart => exact ⟨0, rfl, Nat.zero_le _, Below.refl _ _⟩
        case round =>
          obtain ⟨k, rfl, hk, hB⟩ := hrel
          by_cases hlt : k < C.length
          · obtain ⟨gn, capn, en, hgn, fn⟩ := fld_cell (ownsRow_below rn hB) hlt
            obtain ⟨rfl, rfl⟩ : bn = some ⟨gn, 0, none⟩ ∧ cn = capn := by injection en with e1 e2 e3; exact ⟨e1, e3⟩
            by_cases hka : k < A.length
            · obtain ⟨gl, capl, el, hgl, fl⟩ := fld_cell (ownsRow_below rl hB) hka
              obtain ⟨rfl, rfl⟩ : bl = some ⟨gl, 0, none⟩ ∧ cl = capl := by injection el with e1 e2 e3; exact ⟨e1, e3⟩
              have hCA : C.getD k zeroF = A.getD k zeroF := by rw [HY.out, List.getD, List.getD, List.getElem?_append_left hka]
              rw [hCA] at fn
              generalize A.getD k zeroF = F at fn fl
              have n0 : wr.cell? ⟨gn, k * 5, none⟩ = some (.int .i64 F.num) := fn 0 (by decide)
              have n1 := fn 1 (by decide)
              have n2 := fn 2 (by decide)
              have n3 := fn 3 (by decide)
              have n4 := fn 4 (by decide)
              have l0 : wr.cell? ⟨gl, k * 5, none⟩ = some (.int .i64 F.num) := fl 0 (by decide)
              have l1 := fl 1 (by decide)
              have l2 := fl 2 (by decide)
              have l3 := fl 3 (by decide)
              have l4 := fl 4 (by decide)
              clear fn fl el en hCA
              go_wp2_with fail
              go_region
              all_goals
                go_wp2_with fail
                go_roundw
                case rel => exact ⟨k + 1, by go_num, by omega, (hB.alloc hB.size _).drew⟩
                case measure => simp [intOf]; omega
            · obtain ⟨j, rfl⟩ : ∃ j, k = A.length + j := ⟨k - A.length, by omega⟩
              have hjb : j < B.length := by omega
              obtain ⟨gl, capl, el, hgl, fl⟩ := fld_cell (ownsRow_below rm hB) hjb
              obtain ⟨rfl, rfl⟩ : bm = some ⟨gl, 0, none⟩ ∧ cm = capl := by injection el with e1 e2 e3; exact ⟨e1, e3⟩
              have hCA : C.getD (A.length + j) zeroF = shiftF a.size (B.getD j zeroF) := by
                rw [HY.out, List.getD, List.getD, List.getElem?_append_right (by omega), List.getElem?_map, Nat.add_sub_cancel_left]
                rw [List.getElem?_eq_getElem hjb]; rfl
              rw [hCA] at fn
              have hF := HAB.out j
              generalize B.getD j zeroF = F at fn fl hF
              have n0 : wr.cell? ⟨gn, (A.length + j) * 5, none⟩ = some (.int .i64 F.num) := fn 0 (by decide)
              have n1 : wr.cell? ⟨gn, (A.length + j) * 5 + 1, none⟩ = some (.int .i64 F.kind) := fn 1 (by decide)
              have n2 : wr.cell? ⟨gn, (A.length + j) * 5 + 2, none⟩ = some (.int .i64 ((F.at_ : Int) + (a.size : Int))) := fn 2 (by decide)
              have n3 : wr.cell? ⟨gn, (A.length + j) * 5 + 3, none⟩ = some (.int .u64 F.val) := fn 3 (by decide)
              have n4 : wr.cell? ⟨gn, (A.length + j) * 5 + 4, none⟩ = some (.string ⟨F.data.toArray⟩) := fn 4 (by decide)
              have l0 : wr.cell? ⟨gl, j * 5, none⟩ = some (.int .i64 F.num) := fl 0 (by decide)
              have l1 := fl 1 (by decide)
              have l2 := fl 2 (by decide)
              have l3 := fl 3 (by decide)
              have l4 := fl 4 (by decide)
              clear fn fl el en hCA
              go_wp2_with fail
              go_region
              all_goals
                go_wp2_with fail
                go_roundw
                case rel => exact ⟨A.length + j + 1, by go_num, by omega, (hB.alloc hB.size _).drew⟩
                case measure => simp [intOf]; omega
          · obtain rfl : k = C.length := by omega
            go_wp2_with fail
            go_ret
            exact ⟨rfl, q5.1.trans (hB.mono q5.2)⟩
      · have hE' : ¬ (dB.code : Int) = 0 := by omega
        obtain ⟨cc, ca, cw⟩ := dC
        obtain ⟨h1, h2, h3⟩ := HX.1 hE
        simp only at h2 h3
        subst h1 h2 h3
        clear HX kd
        go_wp2_with fail
        refine (HKC.out _).mono ?_
        rintro e w4 ⟨vn, rfl, hn4, hB4⟩
        obtain ⟨bn, cn, rfl⟩ := ownsRow_len hn4
        have ke : BlkAt w4 w3.heap.size 36 _ := (BlkAt.new w3 _ _).below hB4 (by simp)
        have ke0 := ke.cell 0
        have ke1 := ke.cell 1
        have h34 : w3.heap.size < w4.heap.size := ke.lt
        clear ke
        go_wp2_with fail
        go_ret
        exact ⟨rfl, (below_next _ (below_next _ (below_next _ ⟨hB1, hB1.size⟩ hB2) hB3) hB4).1⟩
    · have hA' : ¬ (dA.code : Int) = 0 := by omega
      go_wp2_with fail
      go_ret
      exact ⟨rfl, (below_next _ (below_next _ ⟨hB1, hB1.size⟩ hB2) hB3).1⟩
end Go.Proofs.Ytgdnibdahldekaa
