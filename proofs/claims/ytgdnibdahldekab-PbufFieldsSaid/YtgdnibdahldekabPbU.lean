/- Plain facts for the law PbufFields: what Each, Fields and the document's own Fields tell of the same bytes. -/
import Derived.Test.YtgdnibdahldekabPfT
import Derived.Test.YtgdnibdahldekabPbT
import Derived.Test.YtgdnibdahldekabPbR
import Derived.Test.YtgdnibdahldekabPfK
namespace Go.Proofs.Ytgdnibdahldekab
open Go.RowKit
set_option linter.unusedVariables false

theorem each_shape (l : List UInt8) (h : l.length ≤ 60000) :
    eachL l = (rfF l).map (fun f => (f, zeroD)) ++ (if (fieldsD l).code = 0 then [] else [(zeroF, fieldsD l)]) ∧ ((fieldsD l).code = 0 → fieldsF l = rfF l) ∧ ((fieldsD l).code ≠ 0 → fieldsF l = []) ∧ (fieldsD l).code ≤ 10 := by
  have hn : ¬ 60000 < l.length := by omega
  unfold eachL rfF fieldsD fieldsF eachGo
  rw [if_neg hn, if_neg hn, if_neg hn, if_neg hn]
  cases (fieldsGo 0 l).2 with
  | none => simp [endF, zeroD]
  | some k => simp [endF, wireD]
theorem rdF_of {e : TypeId} {w : World} {base : Nat} {v : Value} {fs : List Fld} {n : Nat} (h : w.ownsRow base e 5 v n (fs.flatMap fldCells)) (hn : n = fs.length) : ∃ a c, v = .slice a fs.length c ∧ RdF w a fs := by
  subst hn
  rcases h.2 with ⟨rfl, h0⟩ | ⟨g, cap, cur, rfl, hb, hg, h1, h2, h3, h4⟩
  · exact ⟨none, 0, by rw [h0], fun i hi => by omega⟩
  · refine ⟨_, _, rfl, fun i hi => ⟨g, rfl, (Array.getElem?_eq_some_iff.1 hg).1, fun j hj => ?_⟩⟩
    rw [cell_of_row w g _ cur _ _ hg]
    have e1 : (cur.toList.take (fs.length * 5))[i * 5 + j]? = cur[i * 5 + j]? := by rw [List.getElem?_take_of_lt (by omega)]; simp
    rw [← e1, h4, flat5 fs i j hj, List.getElem?_eq_getElem hi]
    simp [List.getD, List.getElem?_eq_getElem hi]
/-- A row of reasons as it lies. -/
def RdG (w : World) (a : Option Addr) (ds : List Dg) : Prop := ∀ i, i < ds.length → ∃ g, a = some ⟨g, 0, none⟩ ∧ g < w.heap.size ∧ ∀ j, j < 3 → w.cell? ⟨g, i * 3 + j, none⟩ = (dgCells (ds.getD i zeroD))[j]?
theorem flat3 : ∀ (ds : List Dg) (i j : Nat), j < 3 → (ds.flatMap dgCells)[i * 3 + j]? = (ds[i]?).bind fun d => (dgCells d)[j]?
  | [], i, j, h => by simp
  | d :: ds, 0, j, h => by
    rw [List.flatMap_cons, List.getElem?_append_left (by simp; omega)]
    simp
  | d :: ds, i + 1, j, h => by
    rw [List.flatMap_cons, List.getElem?_append_right (by simp; omega), List.getElem?_cons_succ, ← flat3 ds i j h]
    congr 1
    simp; omega
theorem rdG_of {e : TypeId} {w : World} {base : Nat} {v : Value} {ds : List Dg} {n : Nat} (h : w.ownsRow base e 3 v n (ds.flatMap dgCells)) (hn : n = ds.length) : ∃ a c, v = .slice a ds.length c ∧ RdG w a ds := by
  subst hn
  rcases h.2 with ⟨rfl, h0⟩ | ⟨g, cap, cur, rfl, hb, hg, h1, h2, h3, h4⟩
  · exact ⟨none, 0, by rw [h0], fun i hi => by omega⟩
  · refine ⟨_, _, rfl, fun i hi => ⟨g, rfl, (Array.getElem?_eq_some_iff.1 hg).1, fun j hj => ?_⟩⟩
    rw [cell_of_row w g _ cur _ _ hg]
    have e1 : (cur.toList.take (ds.length * 3))[i * 3 + j]? = cur[i * 3 + j]? := by rw [List.getElem?_take_of_lt (by omega)]; simp
    rw [← e1, h4, flat3 ds i j hj, List.getElem?_eq_getElem hi]
    simp [List.getD, List.getElem?_eq_getElem hi]
theorem RdG.below {w w' : World} {a : Option Addr} {ds : List Dg} (h : RdG w a ds) (hB : Below w.heap.size w w') : RdG w' a ds := fun i hi => by
  obtain ⟨g, h1, h2, h3⟩ := h i hi
  exact ⟨g, h1, Nat.lt_of_lt_of_le h2 hB.size, fun j hj => (hB.cell h2).trans (h3 j hj)⟩
/-- What two Puts answer alike. -/
theorem puts_alike (num kind at_ : Int) (val : Nat) (s : ByteArray) (hv : val < 18446744073709551616) (hs : s.size ≤ 500) :
    ∃ (tb : ByteArray) (ec : Int), (ec = 0 ∨ ec = 1) ∧
      (∀ w, Calls Try.prog 26 #[.agg #[.int .i64 num, .int .i64 kind, .int .i64 at_, .int .u64 val, .string s]] w fun e w' => e = .returned (.tuple #[.string tb, .int .i64 ec]) ∧ Below w.heap.size w w') ∧
      (∀ w, Calls Try.prog 27 #[.agg #[.int .i64 num, .int .i64 kind, .int .i64 0, .int .u64 val, .string s]] w fun e w' => e = .returned (.tuple #[.string tb, .int .i64 ec]) ∧ Below w.heap.size w w') := by
  by_cases h : okF num kind val s.size
  · obtain ⟨n, rfl⟩ : ∃ n : Nat, num = n := ⟨num.toNat, by have := h.1; omega⟩
    exact ⟨_, 0, .inl rfl, fun w => pput_ok n kind at_ val s hv (by omega) h w, fun w => rput_ok n kind 0 val s hv (by omega) h w⟩
  · exact ⟨⟨#[]⟩, 1, .inr rfl, fun w => pput_bad num kind at_ val s hv (by omega) h w, fun w => rput_bad num kind 0 val s hv (by omega) h w⟩
end Go.Proofs.Ytgdnibdahldekab
