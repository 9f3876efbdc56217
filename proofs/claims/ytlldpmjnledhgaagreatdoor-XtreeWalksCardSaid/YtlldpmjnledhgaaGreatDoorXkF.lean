/- The Text's builder that lies within the cutter: its calls. -/
import Derived.Test.YtlldpmjnledhgaaGreatDoorProg
import Derived.Test.YtlldpmjnledhgaaGreatDoorMem
import Derived.Test.YtlldpmjnledhgaaGreatDoorOw
import Derived.Lib.Builder
import Derived.Lib.AppendStr
import Derived.Lib.AppendIntMem
import Derived.Lib.UnsafeStr
import Derived.Laws.Externs
import Derived.RegionTactic
import Derived.BigRegion
import Derived.WalkKit
import Derived.ProofKit
import Derived.LoopTactic
import Derived.WalkSpells
import Derived.WalkLawsBesides
import Derived.Lib.Hide
import Derived.Outline
import Derived.Handy
namespace Go.Proofs.YtlldpmjnledhgaaGreatDoor
open Go.RowKit
set_option linter.unusedVariables false

/-- What the cutter's block holds: the text, the place, the tokens, the Text's builder, where that Text began. -/
abbrev cutCells (s : ByteArray) (at_ : Int) (out p v : Value) (from_ : Int) : Array Value := #[.string s, .int .i64 at_, out, p, v, .int .i64 from_]
abbrev selfV (cb : Nat) : Value := .pointer (some ⟨cb, 3, none⟩)
def SelfP (cb : Nat) (p : Value) : Prop := p = .pointer none ∨ p = selfV cb
/-- Only these two blocks turn. -/
def FrB (w w' : World) (cb : Nat) (v : Value) : Prop := ∀ k, k < w.heap.size → k ≠ cb → v.ownBlock ≠ some k → w'.heap[k]? = w.heap[k]?

theorem sizeBld : (Tryz.prog.info? 93).map (·.size) = some 2 := by kernel_rfl
theorem liesBld : liesAt Tryz.prog Tryz.prog.depth 95 (6 / Tryz.prog.cellsOf 95) 3 93 1 = true := by kernel_rfl

set_option maxHeartbeats 1000000 in
set_option maxRecDepth 100000 in
theorem copy_used (b : Nat) (w : World) (h0 : w.cell? ⟨b, 3, none⟩ = some (selfV b)) :
    Calls Tryz.prog 87 #[.pointer (some ⟨b, 3, none⟩)] w fun e w' => e = .returned (.tuple #[]) ∧ w' = w := by
  obtain ⟨j, hj, _⟩ := Option.map_eq_some_iff.1 sizeBld
  go_enter Tryz.func87, Tryz.ntmps87
  go_wp2
  rw [Lib.run_neq_ptr_same w _ Tryz.underlying90 hj]
  go_wp2
  go_end0
  exact ⟨rfl, rfl⟩

set_option maxHeartbeats 1000000 in
set_option maxRecDepth 100000 in
theorem copy_fresh (b : Nat) (w : World) (h0 : w.cell? ⟨b, 3, none⟩ = some (.pointer none)) (hsh : w.shape? b = some (95, 6)) (hfz : w.frozen? ⟨b, 3, none⟩ = false) :
    Calls Tryz.prog 87 #[.pointer (some ⟨b, 3, none⟩)] w fun e w' => e = .returned (.tuple #[]) ∧ w' = w.setCell ⟨b, 3, none⟩ (selfV b) := by
  obtain ⟨j, hj, hjs⟩ := Option.map_eq_some_iff.1 sizeBld
  go_enter Tryz.func87, Tryz.ntmps87
  go_wp2
  rw [Lib.run_to_unsafe w ⟨b, 3, none⟩ Tryz.underlying90 Tryz.underlying135 hj (by rw [hjs]; decide) hsh (show 3 < 6 from by decide)]
  simp only [Result.andThen]
  rw [Oper.upon_value]
  go_wp2
  rw [run_callFunc_extern Tryz.func101 (by kernel_rfl) (by kernel_rfl) (by kernel_rfl) (e := Extern.AbiNoEscape.same) (by kernel_rfl)]
  rw [Lib.run_noEscape]
  simp only [Result.andThen]
  rw [Oper.upon_value]
  go_wp2
  rw [Lib.run_from_unsafe w ⟨b, 3, none⟩ Tryz.underlying135 Tryz.underlying90 hj hsh liesBld]
  simp only [Result.andThen]
  rw [Oper.upon_value]
  go_wp2
  go_end0
  exact ⟨rfl, rfl⟩
theorem shape_blk {w : World} {g : Nat} {t : TypeId} {cs : Array Value} (h : BlkAt w g t cs) : w.shape? g = some (t, cs.size) := by
  simp [World.shape?, show w.heap[g]? = _ from h]
theorem grown_set (w : World) (b j : Nat) (u : Value) : w.grownBy (w.setCell ⟨b, j, none⟩ u) (some b) :=
  ⟨rfl, rfl, rfl, by rw [World.size_setCell]; exact Nat.le_refl _, fun k _ hne => Below.heap_setCell w ⟨b, j, none⟩ u k (fun e => hne (by rw [e]))⟩
theorem copy_in {cb : Nat} {s : ByteArray} {at_ from_ : Int} {out p v : Value} {w : World} (hp : SelfP cb p) (hb : BlkAt w cb 95 (cutCells s at_ out p v from_)) :
    Calls Tryz.prog 87 #[selfV cb] w fun e w' => e = .returned (.tuple #[]) ∧ w.grownBy w' (some cb) ∧ w'.heap.size = w.heap.size ∧ BlkAt w' cb 95 (cutCells s at_ out (selfV cb) v from_) := by
  rcases hp with rfl | rfl
  · refine (copy_fresh cb w (hb.cell 3) (shape_blk hb) (hb.frozen 3)).mono ?_
    rintro e w' ⟨rfl, rfl⟩
    exact ⟨rfl, grown_set _ _ _ _, World.size_setCell _ _ _, hb.set 3 _⟩
  · refine (copy_used cb w (hb.cell 3)).mono ?_
    rintro e w' ⟨rfl, rfl⟩
    exact ⟨rfl, ⟨rfl, rfl, rfl, Nat.le_refl _, fun _ _ _ => rfl⟩, rfl, hb⟩

set_option maxHeartbeats 1000000 in
set_option maxRecDepth 100000 in
theorem len_in {base cb n : Nat} {s : ByteArray} {at_ from_ : Int} {out p v : Value} {xs : List Value} {w : World} (hb : BlkAt w cb 95 (cutCells s at_ out p v from_)) (hv : w.ownsRow base 5 1 v n xs) :
    Calls Tryz.prog 62 #[selfV cb] w fun e w' => e = .returned (.int .i64 n) ∧ w' = w := by
  obtain ⟨a, c, rfl⟩ := ownsRow_slice' hv
  have c1 : w.cell? ⟨cb, 4, none⟩ = some (.slice a n c) := hb.cell 4
  go_enter Tryz.func62, Tryz.ntmps62
  go_wp2
  go_ret
  exact ⟨rfl, rfl⟩

/-- What comes of writing: the cutter's block and the buffer, and that nothing else turned. -/
def WriteR (base cb : Nat) (s : ByteArray) (at_ : Int) (out v : Value) (from_ : Int) (n : Nat) (l : List UInt8) (w w' : World) : Prop :=
  ∃ v', BlkAt w' cb 95 (cutCells s at_ out (selfV cb) v' from_) ∧ w'.ownsRow base 5 1 v' n (Lib.byteCells l) ∧ Below base w w' ∧ FrB w w' cb v
set_option maxHeartbeats 2000000 in
set_option maxRecDepth 100000 in
theorem write_in {base cb : Nat} {s x : ByteArray} {at_ from_ : Int} {out p v : Value} {l : List UInt8} {w : World} (hcb : base ≤ cb) (hp : SelfP cb p) (hb : BlkAt w cb 95 (cutCells s at_ out p v from_))
    (hv : w.ownsRow base 5 1 v l.length (Lib.byteCells l)) (hlen : l.length + x.size ≤ 140737488355328) :
    Calls Tryz.prog 70 #[selfV cb, .string x] w fun e w' => e = .returned (.tuple #[.int .i64 x.size, .nilIface]) ∧ WriteR base cb s at_ out v from_ (l.length + x.size) (l ++ x.data.toList) w w' := by
  obtain ⟨i0, hi, hz0, hz1, hz2⟩ := info_parts (show (Tryz.prog.info? 5).map (fun i => (i.zero, i.size, i.bytes)) = some (some (.int .u8 0), 1, 1) from by kernel_rfl)
  have hlt := hb.lt
  have hvc := blk_ne hv hb (by decide)
  go_enter Tryz.func70, Tryz.ntmps70
  go_wp2_with (go_at_call 87; refine (copy_in hp hb).mono ?_)
  rintro e w1 ⟨rfl, hg1, hs1, hb1⟩
  have hv1 := hv.kept hg1 (.inr hvc)
  have c1 : w1.cell? ⟨cb, 4, none⟩ = some v := hb1.cell 4
  go_wp2_with (at_builtin; refine Lib.wpList_append_own_string _ rfl _ _ 91 9 rfl base 5 i0 Tryz.underlying91 Tryz.underlying9 hi hz0 hz1 hz2 _ _ _ rfl hv1 x rfl ?c3 ?c4 ?c5 ?_)
  case c3 => unfold maxLen; omega
  case c4 => omega
  case c5 => omega
  intro v' w2 hv2 hg2 _
  have hb2 := hb1.grown hg2 (fun e => hvc e.symm)
  have f1 : w2.frozen? ⟨cb, 4, none⟩ = false := hb2.frozen 4
  have d1 : w2.cell? ⟨cb, 4, none⟩ = some v := hb2.cell 4
  obtain ⟨a, c, rfl⟩ := ownsRow_slice' hv2
  go_wp2
  go_ret2
  have hvc2 := blk_ne hv2 hb2 (by decide)
  refine ⟨rfl, _, hb2.set 4 _, ?_, ?_, ?_⟩
  · rw [Lib.byteCells_append]
    exact hv2.kept (grown_set w2 cb 4 _) (.inr hvc2)
  · exact (((Below.refl base w).grown hg1 (by omega) (fun k e => by cases e; exact hcb)).grown hg2 (by omega) (fun k e => (hv1.lt k e).1)).setCell (p := ⟨cb, 4, none⟩) hcb _
  · intro k hk k1 k2
    rw [Below.heap_setCell w2 ⟨cb, 4, none⟩ _ k k1, hg2.block k (by omega) (fun e => k2 e.symm), hg1.block k hk (fun e => k1 (Option.some.inj e))]

/-- What comes of reading: the text; only the buffer turned. -/
def ReadR (base : Nat) (v : Value) (l : List UInt8) (w : World) (e : Ending) (w' : World) : Prop :=
  e = .returned (.string ⟨l.toArray⟩) ∧ Below base w w' ∧ ∀ k, k < w.heap.size → v.ownBlock ≠ some k → w'.heap[k]? = w.heap[k]?
theorem below_frz {B : Nat} {w : World} (p : Addr) (n : Nat) : ∀ k, k ≠ p.block → (w.freeze p n).heap[k]? = w.heap[k]? := by
  intro k hk
  unfold World.freeze
  split
  · rfl
  · simp [Array.getElem?_modify, Ne.symm hk]
set_option maxHeartbeats 2000000 in
set_option maxRecDepth 100000 in
theorem string_in {base cb : Nat} {s : ByteArray} {at_ from_ : Int} {out p v : Value} {l : List UInt8} {w : World} (hb : BlkAt w cb 95 (cutCells s at_ out p v from_))
    (hv : w.ownsRow base 5 1 v l.length (Lib.byteCells l)) (h0 : l ≠ []) :
    Calls Tryz.prog 63 #[selfV cb] w (ReadR base v l w) := by
  have hl0 : l.length ≠ 0 := by simpa using h0
  obtain ⟨g, cap, cur, rfl, hbg, hg, hnc, hcm, hcs, htake⟩ : ∃ g cap cur, v = .slice (some ⟨g, 0, none⟩) l.length cap ∧ base ≤ g ∧ w.heap[g]? = some (.cells cur 5 (0, 0)) ∧ l.length ≤ cap ∧ cap ≤ maxLen ∧ cur.size = cap * 1 ∧ cur.toList.take (l.length * 1) = Lib.byteCells l := by
    rcases hv.2 with ⟨_, hz⟩ | ⟨g, cap, cur, hv, r⟩
    · exact absurd hz hl0
    · exact ⟨g, cap, cur, hv, r⟩
  have c1 : w.drew.cell? ⟨cb, 4, none⟩ = some (.slice (some ⟨g, 0, none⟩) l.length cap) := hb.drew.cell 4
  have hSD : (Builtin.unsafeSliceData_ #[91] 103 #[.slice (some ⟨g, 0, none⟩) l.length cap]).run Tryz.prog w.drew = .ok (.pointer (some ⟨g, 0, none⟩)) w.drew :=
    Lib.run_unsafeSliceData_row _ _ _ _ _ _ (by omega)
  have hUS : (Builtin.unsafeString_ #[103, 3] 9 #[.pointer (some ⟨g, 0, none⟩), .int .i64 l.length]).run Tryz.prog w.drew = .ok (.string ⟨l.toArray⟩) (w.drew.freeze ⟨g, 0, none⟩ l.length) := by
    refine Lib.run_unsafeString_row w.drew 103 3 9 5 Tryz.underlying103 (by kernel_rfl) g cur.size (by have hg' : w.drew.heap[g]? = some (.cells cur 5 (0, 0)) := hg; simp [World.shape?, hg']) l h0 (by omega) (by unfold maxLen at hcm; omega) ?_
    intro j x hx
    have := hv.cells (g := g) rfl j (.int .u8 x.toNat) (by simp [Lib.byteCells, hx])
    exact this
  go_enter Tryz.func63, Tryz.ntmps63
  go_wp2
  go_region
  all_goals
    go_wp2
    go_ret
    refine ⟨rfl, Lib.below_freeze (Below.drew (Below.refl base w)) (p := ⟨g, 0, none⟩) hbg _, ?_⟩
    intro k hk k1
    rw [below_frz (B := 0) ⟨g, 0, none⟩ _ k (fun e => k1 (by rw [e]; rfl))]
    rfl

set_option maxHeartbeats 1000000 in
set_option maxRecDepth 100000 in
theorem reset_in {cb : Nat} {s : ByteArray} {at_ from_ : Int} {out p v : Value} {w : World} (hb : BlkAt w cb 95 (cutCells s at_ out p v from_)) :
    Calls Tryz.prog 64 #[selfV cb] w fun e w' => e = .returned (.tuple #[]) ∧ w.grownBy w' (some cb) ∧ w'.heap.size = w.heap.size ∧ BlkAt w' cb 95 (cutCells s at_ out (.pointer none) (.slice none 0 0) from_) := by
  have c3 : w.cell? ⟨cb, 3, none⟩ = some p := hb.cell 3
  have c4 : w.cell? ⟨cb, 4, none⟩ = some v := hb.cell 4
  have f3 : w.frozen? ⟨cb, 3, none⟩ = false := hb.frozen 3
  have f4 : w.frozen? ⟨cb, 4, none⟩ = false := hb.frozen 4
  have hb3 := hb.set 3 (.pointer none)
  have c4' : (w.setCell ⟨cb, 3, none⟩ (.pointer none)).cell? ⟨cb, 4, none⟩ = some v := hb3.cell 4
  have f4' : (w.setCell ⟨cb, 3, none⟩ (.pointer none)).frozen? ⟨cb, 4, none⟩ = false := hb3.frozen 4
  go_enter Tryz.func64, Tryz.ntmps64
  go_wp2
  go_end0
  refine ⟨rfl, ⟨rfl, rfl, rfl, by simp [World.size_setCell], fun k hk hne => ?_⟩, by simp [World.size_setCell], hb3.set 4 _⟩
  have h1 : k ≠ cb := fun e => hne (by rw [e])
  rw [Below.heap_setCell _ ⟨cb, 4, none⟩ _ k h1, Below.heap_setCell _ ⟨cb, 3, none⟩ _ k h1]
end Go.Proofs.YtlldpmjnledhgaaGreatDoor
