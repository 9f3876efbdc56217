/- The walks of forest's clean, one. -/
import Derived.Test.YtjcpfmndkeiegaaGreatDoorRtK
namespace Go.Proofs.YtjcpfmndkeiegaaGreatDoor
open Go.RowKit
set_option linter.unusedVariables false

/-- What clean leaves of a text. -/
def cleanS (s : ByteArray) : ByteArray := if parseRC s.data.toList = 0 then s else ⟨#[]⟩
set_option maxRecDepth 20000 in
set_option maxHeartbeats 8000000 in
theorem clean_any (s : ByteArray) (hs : s.size ≤ 100000) (w : World) :
    Calls Tryz.prog 17 #[.string s] w fun e w' => e = .returned (.string (cleanS s)) ∧ Below w.heap.size w w' := by
  have HP := Lib.hid (fun W => ratParse_any s hs W)
  by_cases h : parseRC s.data.toList = 0
  · have hc : cleanS s = s := if_pos h
    rw [hc]
    rw [h] at HP
    clear h hc
    go_enter Tryz.func17, Tryz.ntmps17
    go_wp2_with (go_at_call 19; refine (HP.out _).mono ?_; clear HP; rintro e w3 ⟨v3, rfl, hN3, hB3⟩; obtain ⟨a3, c3, b3, d3, rfl, hr3, hs3⟩ := hN3; have HB3 := Lib.hid hB3; clear hr3 hs3 hB3)
    go_ret
    exact ⟨rfl, HB3.out.alloc HB3.out.size _⟩
  · have hc : cleanS s = ⟨#[]⟩ := if_neg h
    rw [hc]
    have h0 : (((parseRC s.data.toList : Nat) : Int) != 0) = true := bne_iff_ne.2 (by omega)
    obtain ⟨z, hz⟩ : ∃ z : Int, ((parseRC s.data.toList : Nat) : Int) = z := ⟨_, rfl⟩
    rw [hz] at HP h0
    clear h hc hz
    go_enter Tryz.func17, Tryz.ntmps17
    go_wp2_with (go_at_call 19; refine (HP.out _).mono ?_; clear HP; rintro e w3 ⟨v3, rfl, hN3, hB3⟩; obtain ⟨a3, c3, b3, d3, rfl, hr3, hs3⟩ := hN3; have HB3 := Lib.hid hB3; clear hr3 hs3 hB3)
    go_ret
    exact ⟨rfl, HB3.out.alloc HB3.out.size _⟩
theorem aggRes : AggT Tryz.prog 27 1 := ⟨_, Tryz.underlying27, rfl, by kernel_rfl⟩
set_option maxRecDepth 20000 in
set_option maxHeartbeats 8000000 in
theorem one_any (s : ByteArray) (w : World) :
    Calls Tryz.prog 18 #[.string s] w fun e w' => ∃ g, e = .returned (.agg #[.slice (some ⟨g, 0, none⟩) 1 1]) ∧ BlkAt w' g 9 #[.string s] ∧ w.heap.size ≤ g ∧ Below w.heap.size w w' := by
  go_enter Tryz.func18, Tryz.ntmps18
  go_wp2
  have hb := BlkAt.new (w.alloc (.cells #[.slice (some ⟨w.heap.size + 1, 0, none⟩) 1 1] 27)) 9 #[.string s]
  rw [World.size_alloc] at hb
  exact bodyPost_ret (r_c rfl rfl (aggRes.load rfl ((BlkAt.new w 27 #[.slice (some ⟨w.heap.size + 1, 0, none⟩) 1 1]).alloc _))) rfl ⟨_, rfl, hb, by omega, ((Below.refl _ w).alloc (Nat.le_refl _) _).alloc (by simp) _⟩
end Go.Proofs.YtjcpfmndkeiegaaGreatDoor
