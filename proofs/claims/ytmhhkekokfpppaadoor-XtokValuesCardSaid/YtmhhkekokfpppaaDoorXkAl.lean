/- The walk of the law's alive. -/
import Derived.Test.YtmhhkekokfpppaaDoorXkZ
import Derived.Test.YtmhhkekokfpppaaDoorXkK
import Derived.Laws.StructEq
namespace Go.Proofs.YtmhhkekokfpppaaDoor
open Go.RowKit
set_option linter.unusedVariables false

def AsciiOr (s : ByteArray) : Prop := ∀ (j : Nat) b, s.data.toList[j]? = some b → b.toNat < 128
theorem cut_ascii {s : ByteArray} {w : World} {f : Nat} {m : Int} {R : XR (List XT)} (hs : s.size ≤ 60000) (has : AsciiOr s) (hm : w.cell? ⟨0, 0, none⟩ = some (.int .i64 m)) (hc : charsX s.data.toList = none) (hrun : CutRun (f + 1) s.data.toList ⟨0, [], [], 0⟩ R) :
    Calls Tryd.prog 7 #[.string s] w fun e w' => CutR w R e w' := cut_any hs hm hc hrun
theorem asciiOr_of {l : List UInt8} (h : ∀ c ∈ l, c.toNat < 128) : AsciiOr ⟨l.toArray⟩ := fun j b hb => h b (List.mem_of_getElem? hb)
theorem map_one {α β : Type} {f : α → β} {l : List α} {x : β} (h : l.map f = [x]) : ∃ a, l = [a] ∧ f a = x := by
  match l, h with
  | [a], h => exact ⟨a, rfl, by simpa using h⟩
  | a :: b :: l, h => simp at h
theorem cell_own {W : World} {base size n g c : Nat} {e : TypeId} {xs : List Value} (h : W.ownsRow base e size (.slice (some ⟨g, 0, none⟩) n c) n xs) {j : Nat} {u : Value} (hj : xs[j]? = some u) : W.cell? ⟨g, j, none⟩ = some u := by
  have := h.cells (g := g) rfl j u hj
  have hadd : (⟨g, 0, none⟩ : Addr).add j = ⟨g, j, none⟩ := by unfold Addr.add; split <;> simp_all
  rw [hadd] at this
  exact this

theorem attrs_one {base : Nat} {W : World} {a : XA} {v : Value} (h : AttrsAt base W [a] v) : ∃ g cap, v = .slice (some ⟨g, 0, none⟩) 1 cap ∧ g < W.heap.size ∧ W.cell? ⟨g, 1, none⟩ = some (.string ⟨a.value.toArray⟩) := by
  unfold AttrsAt at h
  simp only [List.length_cons, List.length_nil, Nat.zero_add] at h
  obtain ⟨g, cap, rfl, hg, hgl⟩ := World.ownsRow.form h (by decide)
  exact ⟨g, cap, rfl, hgl, cell_own h (j := 1) rfl⟩
theorem told_one {base : Nat} {W : World} {out : Value} {T : XT} (h : ToldAt base W out [T]) : ∃ g cap v, out = .slice (some ⟨g, 0, none⟩) 1 cap ∧ g < W.heap.size ∧ W.cell? ⟨g, 0, none⟩ = some (.int .i64 T.kind) ∧ W.cell? ⟨g, 4, none⟩ = some v ∧ W.cell? ⟨g, 5, none⟩ = some (.bool T.empty) ∧ AttrsAt base W T.attrs v := by
  obtain ⟨ts, ho, ht, hat⟩ := h
  obtain ⟨⟨T', v⟩, rfl, ha⟩ := map_one ht
  obtain rfl : T' = T := ha
  have hA := hat _ (List.mem_singleton.2 rfl)
  simp only [List.length_cons, List.length_nil, Nat.zero_add] at ho
  obtain ⟨g, cap, rfl, hg, hgl⟩ := World.ownsRow.form ho (by decide)
  exact ⟨g, cap, v, rfl, hgl, cell_own ho (j := 0) rfl, cell_own ho (j := 4) rfl, cell_own ho (j := 5) rfl, hA⟩
theorem map_three {α β : Type} {f : α → β} {l : List α} {x y z : β} (h : l.map f = [x, y, z]) : ∃ a b c, l = [a, b, c] ∧ f a = x ∧ f b = y ∧ f c = z := by
  match l, h with
  | [a, b, c], h => simp at h; exact ⟨a, b, c, rfl, h⟩
  | [], h => simp at h
  | [a], h => simp at h
  | [a, b], h => simp at h
  | a :: b :: c :: d :: l, h => simp at h
theorem told_three {base : Nat} {W : World} {out : Value} {T1 T2 T3 : XT} (h : ToldAt base W out [T1, T2, T3]) : ∃ g cap, out = .slice (some ⟨g, 0, none⟩) 3 cap ∧ g < W.heap.size ∧ W.cell? ⟨g, 9, none⟩ = some (.string ⟨T2.text.toArray⟩) := by
  obtain ⟨ts, ho, ht, hat⟩ := h
  obtain ⟨a, b, c, rfl, ha, hb, hc⟩ := map_three ht
  simp only [List.length_cons, List.length_nil, Nat.zero_add, Nat.reduceAdd] at ho
  obtain ⟨g, cap, rfl, hg, hgl⟩ := World.ownsRow.form ho (by decide)
  subst hb
  exact ⟨g, cap, rfl, hgl, cell_own ho (j := 9) rfl⟩

set_option maxRecDepth 100000 in
set_option maxHeartbeats 16000000 in
theorem alive_any {m : Int} (w : World) (hm : w.cell? ⟨0, 0, none⟩ = some (.int .i64 m)) :
    Calls Tryd.prog 6 #[] w fun e w' => e = .returned (.bool true) ∧ Below w.heap.size w w' := by
  have hml := block_lt' hm
  have HA := Lib.hid (cut_ascii (s := ⟨aliveT.toArray⟩) (w := w) (by decide) (asciiOr_of (by decide)) hm run_alive.1 run_alive.2)
  have HD := Lib.hid (fun (W : World) (hW : Below w.heap.size w W) => cut_ascii (s := ⟨[60, 97].toArray⟩) (w := W) (by decide) (asciiOr_of (by decide)) (by rw [hW.cell (p := ⟨0, 0, none⟩) hml]; exact hm) run_dead.1 run_dead.2)
  go_enter Tryd.func6, Tryd.ntmps6
  go_wp2_with fail
  refine HA.out.mono ?_
  rintro e w1 ⟨out, rfl, hT, hB1⟩
  obtain ⟨g, cap, v, rfl, hgl, a0, a4, a5, hA⟩ := told_one hT
  obtain ⟨g2, cap2, rfl, hg2l, b1⟩ := attrs_one hA
  have HB1 := Lib.hid hB1
  clear hT hA hB1
  go_wp2_with fail
  refine (HD.out _ (HB1.out.alloc HB1.out.size _)).mono ?_
  rintro e w2 ⟨rfl, hB2⟩
  have kp : ∀ (k o : Nat) (u : Value), k < w1.heap.size → w1.cell? ⟨k, o, none⟩ = some u → w2.cell? ⟨k, o, none⟩ = some u := fun k o u hk h => by
    rw [hB2.cell (p := ⟨k, o, none⟩) (by rw [World.size_alloc]; exact Nat.lt_succ_of_lt hk), World.cell?_of_block (Below.heap_alloc w1 _ k hk)]
    exact h
  have kq : ∀ (k o : Nat) (u : Value), w2.cell? ⟨k, o, none⟩ = some u → (w2.alloc (Obj.cells #[.int .i64 11, .int .i64 0, .string ⟨wBegin.toArray⟩] 27)).cell? ⟨k, o, none⟩ = some u := fun k o u h => by
    rw [World.cell?_of_block (Below.heap_alloc w2 _ k (block_lt' h))]
    exact h
  have c0 := kq _ _ _ (kp g 0 _ hgl a0)
  have c4 := kq _ _ _ (kp g 4 _ hgl a4)
  have c5 := kq _ _ _ (kp g 5 _ hgl a5)
  have e1 := kq _ _ _ (kp g2 1 _ hg2l b1)
  have hd := (BlkAt.new w1 27 #[.int .i64 0, .int .i64 0, .string ⟨#[]⟩]).below hB2 (by simp)
  obtain ⟨⟨d0, d1, d2⟩, _, _, _⟩ := res_cells hd
  have d0' := kq _ _ _ d0
  have d1' := kq _ _ _ d1
  have d2' := kq _ _ _ d2
  obtain ⟨⟨e0', e1', e2'⟩, _, _, _⟩ := res_cells (BlkAt.new w2 27 #[.int .i64 11, .int .i64 0, .string ⟨wBegin.toArray⟩])
  have HB2 := Lib.hid (HB1.out.alloc HB1.out.size dg0 |>.trans (hB2.mono (by have := HB1.out.size; simp; omega)))
  clear hB2 kp kq hd a0 a4 a5 b1 d0 d1 d2
  go_wp2
  go_ret
  exact ⟨rfl, HB2.out.alloc HB2.out.size _⟩
end Go.Proofs.YtmhhkekokfpppaaDoor
