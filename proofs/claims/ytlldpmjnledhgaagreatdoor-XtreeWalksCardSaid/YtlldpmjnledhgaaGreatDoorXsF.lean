/- strings.EqualFold of whatever text and one of small letters that have no forms but their capitals. -/
import Derived.Test.YtlldpmjnledhgaaGreatDoorXkN
import Derived.ScopeJumps
import Derived.Lib.OthersKept
import Derived.Lib.Fold
import Derived.Lib.TrimU
import Derived.Deep.LoopGhost
namespace Go.Proofs.YtlldpmjnledhgaaGreatDoor
open Go.RowKit
set_option linter.unusedVariables false

theorem jump_ret {l : Nat} {J : Act → World → Prop} {Q : Exit → Act → World → Prop} {a : Act} {w : World} (h : Q .ret a w) : Exit.jump l J Q .ret a w := h
theorem decode_big (s : ByteArray) (h : 0 < s.size) (hb : 128 ≤ (s[0]'h).toNat) : 128 ≤ (Utf8.decode s 0).1 := by
  rw [Lib.decode_at]
  have h0 : (s.get! 0).toNat = (s[0]'h).toNat := by
    have : s.get! 0 = s[0]'h := by
      show s.data[0]! = s.data[0]'h
      exact getElem!_pos s.data 0 h
    rw [this]
  rw [h0]
  unfold Lib.decodeN
  repeat' split
  all_goals (dsimp only; omega)
set_option maxRecDepth 100000 in
theorem sfold_any (r v : Nat) (hr : r < 128) (hv : v < 128) (w : World) (hc : w.cell? ⟨1, r, none⟩ = some (.int .u16 v)) :
    Calls Tryz.prog 94 #[.int .i32 r] w fun e w' => e = .returned (.int .i32 v) ∧ w = w' := by
  go_enter Tryz.func94, Tryz.ntmps94
  go_wp2
  go_ret
  exact ⟨rfl, rfl⟩
set_option maxRecDepth 100000 in
theorem dec_any (s : ByteArray) (h : 0 < s.size) (hb : (s[0]'h).toNat < 128) (w : World) :
    Calls Tryz.prog 93 #[.string s] w fun e w' => e = .returned (.tuple #[.int .i32 (s[0]'h).toNat, .int .i64 1]) ∧ w = w' := by
  have h1 : (0 : Int) < (s.size : Int) := by omega
  have h2 : ¬ s.toList = [] := by
    intro e
    rw [ByteArray.toList_eq] at e
    have h5 : s.data.toList.length = s.size := by simp
    rw [e] at h5; simp at h5; omega
  have h3 : s.toList.isEmpty = false := by simpa using h2
  go_enter Tryz.func93, Tryz.ntmps93
  go_wp2
  go_ret2
  exact ⟨rfl, rfl⟩
/-- unicode's table of the ASCII letters, at those that have no forms but their capitals. -/
def FoldTab (w : World) : Prop := ∀ k : Nat, 97 ≤ k → k ≤ 122 → k ≠ 107 → k ≠ 115 → w.cell? ⟨1, k, none⟩ = some (.int .u16 ((k - 32 : Nat) : Int)) ∧ w.cell? ⟨1, k - 32, none⟩ = some (.int .u16 (k : Int))
def FoldJ (s t : ByteArray) (w : World) (a : Act) (wx : World) : Prop := wx = w ∧ ∃ i : Nat, ∃ (hi : i < s.size) (ht : i < t.size), 128 ≤ (s[i]'hi).toNat ∧ Lib.equalFold s.data.toList t.data.toList = false ∧ ∃ u4 u6 u7 u8 u14 u15 u16 u17 u18 u19 u20 u21 u22 u23 u24 u25 u26 u27 u28 u29 u30 u31 u32 u33 u34 u35 u36 u37 u38 u39 u40 u41 u42 u43 u44 u45 u46 u47 u48 u49 u50 u51 u52 u53 u54 : Value, a = { tmps := #[.string s, .string t, undef, undef, u4, .int .i64 (i : Nat), u6, u7, u8, undef, undef, undef, undef, undef, u14, u15, u16, u17, u18, u19, u20, u21, u22, u23, u24, u25, u26, u27, u28, u29, u30, u31, u32, u33, u34, u35, u36, u37, u38, u39, u40, u41, u42, u43, u44, u45, u46, u47, u48, u49, u50, u51, u52, u53, u54, undef, undef, undef, undef, undef, undef, undef, undef, undef, undef, undef, undef, undef, undef, undef, undef, undef, undef, undef, undef, undef, undef, undef, undef, undef, undef, undef, undef, undef, undef, undef, undef, undef, undef, undef, undef, undef, undef, undef, undef, undef, undef, undef, undef, undef, undef, undef, undef, undef, undef, undef, undef, undef, undef, undef, undef, undef, undef, undef, undef, undef, undef, undef, undef, undef, undef, undef, undef], defers := [] }
theorem FoldTab.below {w w' : World} (h : FoldTab w) (hb : Below w.heap.size w w') : FoldTab w' := fun k h1 h2 h3 h4 => by
  obtain ⟨g1, g2⟩ := h k h1 h2 h3 h4
  exact ⟨by rw [hb.cell (p := ⟨1, k, none⟩) (block_lt' g1)]; exact g1, by rw [hb.cell (p := ⟨1, k - 32, none⟩) (block_lt' g2)]; exact g2⟩

set_option maxHeartbeats 16000000 in
set_option maxRecDepth 1000000 in
theorem fold_any (s t : ByteArray) (w : World) (hs : s.size < 4294967281) (hat : ∀ (j : Nat) b, t.data.toList[j]? = some b → 97 ≤ b.toNat ∧ b.toNat ≤ 122 ∧ b.toNat ≠ 107 ∧ b.toNat ≠ 115) (hT : FoldTab w) :
    Calls Tryz.prog 78 #[.string s, .string t] w fun e w' => e = .returned (.bool (Lib.equalFold s.data.toList t.data.toList)) ∧ Below w.heap.size w w' := by
  have HT := Lib.hid hat
  have HTab := Lib.hid hT
  obtain ⟨M, hM⟩ : ∃ M : Nat, min (s.size : Int) (t.size : Int) = (M : Int) := ⟨min s.size t.size, by omega⟩
  have hMs : M ≤ s.size := by omega
  have hMt : M ≤ t.size := by omega
  have hMe : M = s.size ∨ M = t.size := by omega
  clear hat hT
  go_enter Tryz.func78, Tryz.ntmps78
  go_wp2
  refine wp_scope_jumps 0 (FoldJ s t w) (fun a wx => 0) (by rfl) ?first ?pass
  case first =>
    go_wp2
    go_loopg [5] M (fun g s5 wx => w = wx ∧ ∃ i : Nat, i + g = M ∧ s5 = .int .i64 i ∧ Lib.equalFold (s.data.toList.drop i) (t.data.toList.drop i) = Lib.equalFold s.data.toList t.data.toList)
    case atStart => exact ⟨rfl, 0, by omega, rfl, rfl⟩
    case round =>
      obtain ⟨rfl, i, hig, rfl, hinv⟩ := hrel
      have HI := Lib.hid hinv
      clear hinv hM
      cases gk with
      | zero =>
        have hiM : ¬ ((i : Int) < (M : Int)) := by omega
        obtain rfl : i = M := by omega
        have hE : Lib.equalFold s.data.toList t.data.toList = decide (s.size = t.size) := by
          rw [← HI.out, Lib.equalFold_end _ _ (by
            rcases hMe with h | h
            · exact Or.inl (List.drop_eq_nil_of_le (by rw [← Lib.size_eq]; omega))
            · exact Or.inr (List.drop_eq_nil_of_le (by rw [← Lib.size_eq]; omega))), List.length_drop, List.length_drop, ← Lib.size_eq, ← Lib.size_eq]
          exact decide_eq_decide.2 (by omega)
        have HE := Lib.hid hE
        clear hE
        by_cases hst : s.size = t.size
        · have hb : ((s.size : Int) == (t.size : Int)) = true := beq_iff_eq.2 (by omega)
          have HST := Lib.hid hst
          clear hst
          go_wp2
          refine jump_ret ?_
          go_ret
          exact ⟨by rw [HE.out]; simp [HST.out], Below.refl _ _⟩
        · have hb : ((s.size : Int) == (t.size : Int)) = false := beq_eq_false_iff_ne.2 (by omega)
          have HST := Lib.hid hst
          clear hst
          go_wp2
          refine jump_ret ?_
          go_ret
          exact ⟨by rw [HE.out]; simp [HST.out], Below.refl _ _⟩
      | succ g =>
        have hiM : (i : Int) < (M : Int) := by omega
        have hisz : (i : Int) < (s.size : Int) := by omega
        have hitz : (i : Int) < (t.size : Int) := by omega
        have hi2 : i < s.size := by omega
        have ht2 : i < t.size := by omega
        obtain ⟨x, hx⟩ : ∃ x : UInt8, s[i]'hi2 = x := ⟨_, rfl⟩
        obtain ⟨y, hy⟩ : ∃ y : UInt8, t[i]'ht2 = y := ⟨_, rfl⟩
        have hxl : s.data.toList[i]? = some x := by rw [← hx]; exact Lib.data_getElem? s i (by omega)
        have hyl : t.data.toList[i]? = some y := by rw [← hy]; exact Lib.data_getElem? t i (by omega)
        obtain ⟨y1, y2, y3, y4⟩ := HT.out i y hyl
        have Hx := Lib.hid (And.intro hxl hyl)
        have Hxy := Lib.hid (And.intro hx hy)
        clear hxl hyl y3 y4
        by_cases hx128 : x.toNat < 128
        · have hor : bits .or .u8 (x.toNat : Int) (y.toNat : Int) = ((x.toNat ||| y.toNat : Nat) : Int) := u8_or_nat _ _ (by omega) (by omega)
          have hor128 : ¬ ((128 : Int) ≤ ((x.toNat ||| y.toNat : Nat) : Int)) := by have := Nat.or_lt_two_pow (n := 7) hx128 (show y.toNat < 2 ^ 7 by omega); omega
          go_wp2
          all_goals (try simp only [beq_iff_eq, beq_eq_false_iff_ne, ne_eq] at *)
          all_goals first
            | (go_roundg g
               case measure => omega
               case rel => exact ⟨rfl, i + 1, by omega, by first | rfl | simp, by rw [← HI.out, Lib.drop_at Hx.out.1, Lib.drop_at Hx.out.2, Lib.equalFold_yes _ _ _ _ (decide_eq_true (by omega))]⟩)
            | (refine jump_ret ?_
               go_ret
               refine ⟨?_, Below.refl _ _⟩
               rw [← HI.out, Lib.drop_at Hx.out.1, Lib.drop_at Hx.out.2, Lib.equalFold_no _ _ _ _ (decide_eq_false (by omega))]
               rfl)
        · have hor : bits .or .u8 (x.toNat : Int) (y.toNat : Int) = ((x.toNat ||| y.toNat : Nat) : Int) := u8_or_nat _ _ (by have := x.toNat_lt; omega) (by omega)
          have hor128 : (128 : Int) ≤ ((x.toNat ||| y.toNat : Nat) : Int) := by have := Nat.left_le_or (n := x.toNat) (m := y.toNat); omega
          have HN := Lib.hid (show Lib.equalFold s.data.toList t.data.toList = false by rw [← HI.out, Lib.drop_at Hx.out.1, Lib.drop_at Hx.out.2, Lib.equalFold_no _ _ _ _ (decide_eq_false (by omega))])
          have HX := Lib.hid (show 128 ≤ x.toNat by omega)
          go_wp2
          refine wp_goto ?_
          refine ⟨rfl, rfl, i, hi2, ht2, ?_, HN.out, _, _, _, _, _, _, _, _, _, _, _, _, _, _, _, _, _, _, _, _, _, _, _, _, _, _, _, _, _, _, _, _, _, _, _, _, _, _, _, _, _, _, _, _, _, rfl⟩
          rw [Hxy.out.1]
          exact HX.out
  case pass =>
    rintro a wx ⟨rfl, i, hi2, ht2, hx128, hno, u4, u6, u7, u8, u14, u15, u16, u17, u18, u19, u20, u21, u22, u23, u24, u25, u26, u27, u28, u29, u30, u31, u32, u33, u34, u35, u36, u37, u38, u39, u40, u41, u42, u43, u44, u45, u46, u47, u48, u49, u50, u51, u52, u53, u54, rfl⟩
    have HN := Lib.hid hno
    have hg := get_list t i ht2
    obtain ⟨y1, y2, y3, y4⟩ := HT.out i _ hg
    obtain ⟨c1, c2⟩ := HTab.out _ y1 y2 y3 y4
    have hsx : 0 < (s.extract i s.size).size := by simp; omega
    have htx : 0 < (t.extract i t.size).size := by simp; omega
    have hs0 : (s.extract i s.size)[0]'hsx = s[i]'hi2 := by
      have h1 := get_list (s.extract i s.size) 0 hsx
      rw [extract_drop, List.getElem?_drop, Nat.add_zero, get_list s i hi2] at h1
      exact (Option.some.inj h1).symm
    have ht0 : (t.extract i t.size)[0]'htx = t[i]'ht2 := by
      have h1 := get_list (t.extract i t.size) 0 htx
      rw [extract_drop, List.getElem?_drop, Nat.add_zero, get_list t i ht2] at h1
      exact (Option.some.inj h1).symm
    have hbig := decode_big (s.extract i s.size) hsx (by rw [hs0]; exact hx128)
    have hle := Lib.rune_le (s.extract i s.size) 0
    obtain ⟨y, hy⟩ : ∃ y : UInt8, t[i]'ht2 = y := ⟨_, rfl⟩
    rw [hy] at y1 y2 y3 y4 c1 c2 ht0 hg
    have hs' : i ≤ s.size := by omega
    have ht' : i ≤ t.size := by omega
    have HS0 := Lib.hid hs0
    have HT0 := Lib.hid ht0
    obtain ⟨r, hr⟩ : ∃ r, (Utf8.decode (s.extract i s.size) 0).1 = r := ⟨_, rfl⟩
    obtain ⟨q, hq⟩ : ∃ q, (Utf8.decode (s.extract i s.size) 0).2 = q := ⟨_, rfl⟩
    rw [hr] at hbig hle
    have HDec := Lib.hid (fun W => dec_any (t.extract i t.size) htx (by rw [ht0]; omega) W)
    rw [ht0] at HDec
    have HFold := Lib.hid (fun (W : World) (hW : Below wx.heap.size wx W) => (show Calls Tryz.prog 94 #[.int .i32 y.toNat] W (fun e w' => e = .returned (.int .i32 ((y.toNat - 32 : Nat) : Int)) ∧ W = w') ∧ Calls Tryz.prog 94 #[.int .i32 ((y.toNat - 32 : Nat) : Int)] W (fun e w' => e = .returned (.int .i32 y.toNat) ∧ W = w') from by
      obtain ⟨d1, d2⟩ := (HTab.out.below hW) _ y1 y2 y3 y4
      exact ⟨sfold_any _ _ (by omega) (by omega) W d1, sfold_any _ _ (by omega) (by omega) W d2⟩))
    have hnx : ∀ ty, (Instr.next (.pointer (some ⟨wx.heap.size, 0, none⟩)) true ty).run Tryz.prog (wx.iter (s.extract i s.size) 0) = _ := fun ty => Lib.run_next_any_at (wx.iter (s.extract i s.size) 0) wx.heap.size (s.extract i s.size) 0 ty (World.iter_heap wx _ 0) hsx
    have hbw : Below wx.heap.size wx (wx.iter (s.extract i s.size) 0) := (Below.refl _ wx).alloc (Nat.le_refl _) _
    rw [hr, hq] at hnx
    have hbw2 := Lib.below_iterAt hbw (k := wx.heap.size) (Nat.le_refl _) (s.extract i s.size) (0 + q)
    have HB2 := Lib.hid hbw2
    obtain ⟨m, hm⟩ : ∃ m, y.toNat - 32 = m := ⟨_, rfl⟩
    rw [hm] at HFold
    have hm1 : m < y.toNat := by omega
    have hm2 : 65 ≤ m := by omega
    have e1 : ((y.toNat : Int) == (r : Int)) = false := beq_eq_false_iff_ne.2 (by omega)
    have e2 : ((m : Int) != (y.toNat : Int)) = true := by rw [bne_iff_ne]; omega
    have e3 : ((y.toNat : Int) != (y.toNat : Int)) = false := by simp
    have e4 : (((t.extract i t.size).size : Int) == 0) = false := beq_eq_false_iff_ne.2 (by omega)
    have e5 : (((t.size : Int) - (i : Int)) == 0) = false := beq_eq_false_iff_ne.2 (by omega)
    have z1 : (0 : Int) ≤ i := by omega
    have z2 : (i : Int) ≤ s.size := by omega
    have z3 : (i : Int) ≤ t.size := by omega
    clear hno hM hMe hs0 ht0 hr hq hm hy hg c1 c2 hbw hbw2 hx128 y3 y4
    go_wp2
    obtain ⟨W1, hW1⟩ : ∃ W1, (wx.iter (s.extract i s.size) 0) = W1 := ⟨_, rfl⟩
    obtain ⟨W2, hW2⟩ : ∃ W2, (W1.iterAt wx.heap.size (s.extract i s.size) (0 + q)) = W2 := ⟨_, rfl⟩
    rw [hW1] at hnx HB2 ⊢
    rw [hW2] at hnx HB2
    go_loopw [1] (fun a W => a = .string (t.extract i t.size) ∧ W = W1) (fun a W => 0)
    case atStart => exact ⟨rfl, rfl⟩
    case round =>
      obtain ⟨rfl, rfl⟩ := hrel
      go_wp2_with (first
        | (go_at_call 93; refine (HDec.out _).mono ?_; rintro en w3 ⟨rfl, rfl⟩)
        | (go_at_call 94; refine ((HFold.out _ HB2.out).1).mono ?_; rintro en w4 ⟨rfl, rfl⟩))
      go_loopw [13] (fun a W => (a = .int .i32 (m : Nat) ∨ a = .int .i32 (y.toNat : Nat)) ∧ W = W2) (fun a W => y.toNat - (intOf a).toNat)
      case atStart => exact ⟨.inl rfl, rfl⟩
      case round =>
        obtain ⟨h, rfl⟩ := hrel
        rcases h with rfl | rfl
        · go_wp2_with (go_at_call 94; refine ((HFold.out _ HB2.out).2).mono ?_; rintro en w4 ⟨rfl, rfl⟩)
          go_roundw
          case rel => exact ⟨.inr rfl, by first | rfl | trivial⟩
          case measure => simp [intOf]; omega
        · go_wp2
          refine jump_ret ?_
          go_ret
          rw [HN.out]
          exact ⟨rfl, HB2.out⟩
end Go.Proofs.YtlldpmjnledhgaaGreatDoor
