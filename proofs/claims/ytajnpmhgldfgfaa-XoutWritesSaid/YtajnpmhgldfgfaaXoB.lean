/- A builder of one's own: its calls, with all that stays. -/
import Derived.Test.YtajnpmhgldfgfaaXkVb
import Derived.Test.YtajnpmhgldfgfaaXtBi
namespace Go.Proofs.Ytajnpmhgldfgfaa
open Go.RowKit
set_option linter.unusedVariables false

/-- A builder in a block of its own: its first cell, its bytes. -/
structure BdAt (base b : Nat) (v : Value) (l : List UInt8) (w : World) : Prop where
  lo : base ≤ b
  blk : ∃ p, (p = .pointer none ∨ p = .pointer (some ⟨b, 0, none⟩)) ∧ BlkAt w b 64 #[p, v]
  row : w.ownsRow base 5 1 v l.length (Lib.byteCells l)
theorem copy0_in {b : Nat} {p v : Value} {w : World} (hp : p = .pointer none ∨ p = .pointer (some ⟨b, 0, none⟩)) (hb : BlkAt w b 64 #[p, v]) :
    Calls Try.prog 31 #[.pointer (some ⟨b, 0, none⟩)] w fun e w' => e = .returned (.tuple #[]) ∧ w.grownBy w' (some b) ∧ w'.heap.size = w.heap.size ∧ BlkAt w' b 64 #[.pointer (some ⟨b, 0, none⟩), v] := by
  rcases hp with rfl | rfl
  · refine (copy0_fresh b w (hb.cell 0) (shape_blk hb) (hb.frozen 0)).mono ?_
    rintro e w' ⟨rfl, rfl⟩
    exact ⟨rfl, grown_set _ _ _ _, World.size_setCell _ _ _, hb.set 0 _⟩
  · refine (copy0_used b w (hb.cell 0)).mono ?_
    rintro e w' ⟨rfl, rfl⟩
    exact ⟨rfl, ⟨rfl, rfl, rfl, Nat.le_refl _, fun _ _ _ => rfl⟩, rfl, hb⟩

set_option maxHeartbeats 1000000 in
set_option maxRecDepth 100000 in
theorem bd_len {base cb : Nat} {v : Value} {l : List UInt8} {w : World} (h : BdAt base cb v l w) :
    Calls Try.prog 24 #[.pointer (some ⟨cb, 0, none⟩)] w fun e w' => e = .returned (.int .i64 l.length) ∧ w' = w := by
  obtain ⟨p, hp, hb⟩ := h.blk
  have hv := h.row
  obtain ⟨a, c, rfl⟩ := ownsRow_slice' hv
  obtain ⟨n, hn⟩ : ∃ n, l.length = n := ⟨_, rfl⟩
  rw [hn] at hb ⊢
  clear hn hv h
  have c1 : w.cell? ⟨cb, 1, none⟩ = some (.slice a n c) := hb.cell 1
  go_enter Try.func24, Try.ntmps24
  go_wp2
  go_ret
  exact ⟨rfl, rfl⟩


set_option maxHeartbeats 2000000 in
set_option maxRecDepth 100000 in
theorem bd_write {base cb : Nat} {x : ByteArray} {v : Value} {l : List UInt8} {w : World} (h : BdAt base cb v l w) (hlen : l.length + x.size ≤ 140737488355328) :
    Calls Try.prog 21 #[.pointer (some ⟨cb, 0, none⟩), .string x] w fun e w' => e = .returned (.tuple #[.int .i64 x.size, .nilIface]) ∧ ∃ v', BdAt base cb v' (l ++ x.data.toList) w' ∧ Below base w w' ∧ FrB w w' cb v := by
  obtain ⟨i0, hi, hz0, hz1, hz2⟩ := info_parts (show (Try.prog.info? 5).map (fun i => (i.zero, i.size, i.bytes)) = some (some (.int .u8 0), 1, 1) from by kernel_rfl)
  obtain ⟨p, hp, hb⟩ := h.blk
  have hv := h.row
  have hcb := h.lo
  clear h
  have hlt := hb.lt
  have hvc := blk_ne hv hb (by decide)
  go_enter Try.func21, Try.ntmps21
  go_wp2_with (go_at_call 31; refine (copy0_in hp hb).mono ?_)
  rintro e w1 ⟨rfl, hg1, hs1, hb1⟩
  have hv1 := hv.kept hg1 (.inr hvc)
  have c1 : w1.cell? ⟨cb, 1, none⟩ = some v := hb1.cell 1
  go_wp2_with (at_builtin; refine Lib.wpList_append_own_string _ rfl _ _ 62 9 rfl base 5 i0 Try.underlying62 Try.underlying9 hi hz0 hz1 hz2 _ _ _ rfl hv1 x rfl ?c3 ?c4 ?c5 ?_)
  case c3 => unfold maxLen; omega
  case c4 => omega
  case c5 => omega
  intro v' w2 hv2 hg2 _
  have hb2 := hb1.grown hg2 (fun e => hvc e.symm)
  have f1 : w2.frozen? ⟨cb, 1, none⟩ = false := hb2.frozen 1
  have d1 : w2.cell? ⟨cb, 1, none⟩ = some v := hb2.cell 1
  obtain ⟨a, c, rfl⟩ := ownsRow_slice' hv2
  go_wp2
  go_ret2
  have hvc2 := blk_ne hv2 hb2 (by decide)
  refine ⟨rfl, _, ⟨hcb, ⟨_, .inr rfl, hb2.set 1 _⟩, ?_⟩, ?_, ?_⟩
  · rw [Lib.byteCells_append, List.length_append, show x.data.toList.length = x.size by simp]
    exact hv2.kept (grown_set w2 cb 1 _) (.inr hvc2)
  · exact (((Below.refl base w).grown hg1 (by omega) (fun k e => by cases e; exact hcb)).grown hg2 (by omega) (fun k e => (hv1.lt k e).1)).setCell (p := ⟨cb, 1, none⟩) hcb _
  · intro k hk k1 k2
    rw [Below.heap_setCell w2 ⟨cb, 1, none⟩ _ k k1, hg2.block k (by omega) (fun e => k2 e.symm), hg1.block k hk (fun e => k1 (Option.some.inj e))]


set_option maxHeartbeats 2000000 in
set_option maxRecDepth 100000 in
theorem bd_string {base cb : Nat} {v : Value} {l : List UInt8} {w : World} (h : BdAt base cb v l w) (h0 : l ≠ []) :
    Calls Try.prog 25 #[.pointer (some ⟨cb, 0, none⟩)] w fun e w' => e = .returned (.string ⟨l.toArray⟩) ∧ Below base w w' ∧ ∀ k, k < w.heap.size → v.ownBlock ≠ some k → w'.heap[k]? = w.heap[k]? := by
  obtain ⟨p, hp, hb⟩ := h.blk
  have hv := h.row
  clear h
  have hl0 : l.length ≠ 0 := by simpa using h0
  obtain ⟨g, cap, cur, rfl, hbg, hg, hnc, hcm, hcs, htake⟩ : ∃ g cap cur, v = .slice (some ⟨g, 0, none⟩) l.length cap ∧ base ≤ g ∧ w.heap[g]? = some (.cells cur 5 (0, 0)) ∧ l.length ≤ cap ∧ cap ≤ maxLen ∧ cur.size = cap * 1 ∧ cur.toList.take (l.length * 1) = Lib.byteCells l := by
    rcases hv.2 with ⟨_, hz⟩ | ⟨g, cap, cur, hv, r⟩
    · exact absurd hz hl0
    · exact ⟨g, cap, cur, hv, r⟩
  have c1 : w.drew.cell? ⟨cb, 1, none⟩ = some (.slice (some ⟨g, 0, none⟩) l.length cap) := hb.drew.cell 1
  have hSD : (Builtin.unsafeSliceData_ #[62] 86 #[.slice (some ⟨g, 0, none⟩) l.length cap]).run Try.prog w.drew = .ok (.pointer (some ⟨g, 0, none⟩)) w.drew :=
    Lib.run_unsafeSliceData_row _ _ _ _ _ _ (by omega)
  have hUS : (Builtin.unsafeString_ #[86, 3] 9 #[.pointer (some ⟨g, 0, none⟩), .int .i64 l.length]).run Try.prog w.drew = .ok (.string ⟨l.toArray⟩) (w.drew.freeze ⟨g, 0, none⟩ l.length) := by
    refine Lib.run_unsafeString_row w.drew 86 3 9 5 Try.underlying86 (by kernel_rfl) g cur.size (by have hg' : w.drew.heap[g]? = some (.cells cur 5 (0, 0)) := hg; simp [World.shape?, hg']) l h0 (by omega) (by unfold maxLen at hcm; omega) ?_
    intro j x hx
    have := hv.cells (g := g) rfl j (.int .u8 x.toNat) (by simp [Lib.byteCells, hx])
    exact this
  go_enter Try.func25, Try.ntmps25
  go_wp2
  go_region
  all_goals
    go_wp2
    go_ret
    refine ⟨rfl, Lib.below_freeze (Below.drew (Below.refl base w)) (p := ⟨g, 0, none⟩) hbg _, ?_⟩
    intro k hk k1
    rw [below_frz (B := 0) ⟨g, 0, none⟩ _ k (fun e => k1 (by rw [e]; rfl))]
    rfl


theorem BdAt.new (w : World) : BdAt w.heap.size w.heap.size (.slice none 0 0) [] (w.alloc bld0) := ⟨Nat.le_refl _, ⟨_, .inl rfl, BlkAt.new w _ _⟩, World.ownsRow_nil _ _ _ _⟩
theorem BdAt.lt {base b : Nat} {v : Value} {l : List UInt8} {w : World} (h : BdAt base b v l w) : b < w.heap.size := by
  obtain ⟨p, -, hb⟩ := h.blk
  exact hb.lt
theorem BdAt.grown {base b : Nat} {v : Value} {l : List UInt8} {w w' : World} {row : Option Nat} (h : BdAt base b v l w) (hg : w.grownBy w' row) (h1 : row ≠ some b) (h2 : v.ownBlock = none ∨ v.ownBlock ≠ row) : BdAt base b v l w' := by
  obtain ⟨p, hp, hb⟩ := h.blk
  exact ⟨h.lo, ⟨p, hp, hb.grown hg (fun e => h1 e.symm)⟩, h.row.kept hg h2⟩
theorem BdAt.below {base b : Nat} {v : Value} {l : List UInt8} {w w' : World} (h : BdAt base b v l w) (hB : Below w.heap.size w w') : BdAt base b v l w' := by
  obtain ⟨p, hp, hb⟩ := h.blk
  exact ⟨h.lo, ⟨p, hp, hb.below hB hb.lt⟩, own_below h.row hB⟩
end Go.Proofs.Ytajnpmhgldfgfaa
