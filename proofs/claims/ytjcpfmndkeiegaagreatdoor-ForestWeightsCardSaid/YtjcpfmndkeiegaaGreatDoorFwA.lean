/- The walk of the law ForestWeights. -/
import Derived.Test.YtjcpfmndkeiegaaGreatDoorFoXZ
import Derived.Test.YtjcpfmndkeiegaaGreatDoorFoVW
import Derived.Test.YtjcpfmndkeiegaaGreatDoorRfLM
namespace Go.Proofs.YtjcpfmndkeiegaaGreatDoor
open Go.RowKit
set_option linter.unusedVariables false

set_option maxRecDepth 100000 in
set_option maxHeartbeats 8000000 in
theorem weights_off (w : World) (x : Option Addr) (n c : Nat) (ns : List ByteArray) (wt nm : ByteArray) (hr : RdS w x ns) (hn : ns.length = n) (h : 40 < wt.size ∨ 60 < nm.size) :
    Calls Tryz.prog 4 #[.slice x n c, .string wt, .string nm] w fun e w' => e = .returned (.bool true) ∧ Below w.heap.size w w' := by
  have HS := Lib.hid (short_any (c := c) 15 500 (by decide) (by decide) hr hn)
  clear hr hn
  by_cases h1 : 40 < wt.size
  · have h1I : (40 : Int) < (wt.size : Int) := by omega
    clear h
    go_enter Tryz.func4, Tryz.ntmps4
    go_wp2_with fail
    refine HS.out.mono ?_
    rintro e w1 ⟨q, rfl, -, hB1⟩
    have HB1 := Lib.hid hB1
    clear HS hB1
    cases q
    all_goals
      go_wp2_with fail
      refine (alive_any _).mono ?_
      rintro e w2 ⟨rfl, hB2⟩
      go_wp2
      go_ret
      exact ⟨rfl, HB1.out.trans (hB2.mono HB1.out.size)⟩
  have h1I : (wt.size : Int) ≤ 40 := by omega
  have h2I : (60 : Int) < (nm.size : Int) := by omega
  clear h
  go_enter Tryz.func4, Tryz.ntmps4
  go_wp2_with fail
  refine HS.out.mono ?_
  rintro e w1 ⟨q, rfl, -, hB1⟩
  have HB1 := Lib.hid hB1
  clear HS hB1
  cases q
  all_goals
    go_wp2_with fail
    refine (alive_any _).mono ?_
    rintro e w2 ⟨rfl, hB2⟩
    go_wp2
    go_ret
    exact ⟨rfl, HB1.out.trans (hB2.mono HB1.out.size)⟩
/-- What the average of texts is told as. -/
noncomputable def avgT (ns : List ByteArray) : ByteArray := open Classical in if ns = [] ∨ ∃ s ∈ ns, parseRC s.data.toList ≠ 0 then ⟨#[]⟩ else ⟨(textQ (divP (sumQ (ns.map fun s => parseRQ s.data.toList)) ((ns.length : Int) : Rat))).toArray⟩
theorem avg_two {w : World} {a : Option Addr} {n c : Nat} {ns : List ByteArray} (wt : Value) (hr : RdS w a ns) (hn : ns.length = n) (hlim : n ≤ 60) (hs : ∀ s ∈ ns, s.size ≤ 100000) :
    Calls Tryz.prog 8 #[.int .i64 2, .slice a n c, wt] w fun e w' => OneAt w w' e (avgT ns) := by
  refine (join_any (c := c) 2 wt (by decide) hr hn (by omega) hs).mono ?_
  rintro e w' ⟨t, ht, ho⟩
  have : t = avgT ns := by
    unfold avgT
    rcases ht with ⟨h1, rfl⟩ | ⟨⟨h1, h2⟩, q, hq, rfl⟩
    · rw [if_pos h1]
    · rw [if_neg (by rintro (h | ⟨s, hs, h⟩); exact h1 h; exact h (h2 s hs))]
      rcases hq with ⟨h, -⟩ | ⟨-, rfl⟩ | ⟨h, -⟩ | ⟨h, -⟩ | ⟨h, -⟩
      · omega
      · rw [List.length_map]
      all_goals omega
  rw [← this]
  exact ho
theorem avg_three {w : World} {a y : Option Addr} {n c d : Nat} {ns : List ByteArray} {s : ByteArray} (hr : RdS w a ns) (hn : ns.length = n) (hlim : n ≤ 60) (hs : ∀ s ∈ ns, s.size ≤ 100000) (hw : RdS w y (List.replicate n s)) (hsz : s.size ≤ 100000) (hc : parseRC s.data.toList = 0) (hq : parseRQ s.data.toList ≠ 0) :
    Calls Tryz.prog 8 #[.int .i64 3, .slice a n c, .slice y n d] w fun e w' => OneAt w w' e (avgT ns) := by
  by_cases hbad : ns = [] ∨ ∃ s ∈ ns, parseRC s.data.toList ≠ 0
  · have e : avgT ns = ⟨#[]⟩ := by unfold avgT; exact if_pos hbad
    rw [e]
    exact joinNum_any (c := c) 3 (.slice y n d) (by decide) (by decide) hr hn (by omega) hs hbad
  · have h1 : ns ≠ [] := fun h => hbad (.inl h)
    have h2 : ∀ s ∈ ns, parseRC s.data.toList = 0 := fun s hs => Classical.byContradiction fun h => hbad (.inr ⟨s, hs, h⟩)
    have h0 : 0 < n := by rw [← hn]; exact List.length_pos_iff.2 h1
    have hat : ∀ i, i < n → wAt (List.replicate n s) i = parseRQ s.data.toList := fun i hi => wAt_of (s := s) (by rw [List.getElem?_replicate, if_pos hi]) hc
    have ea := wAll_alike hat
    have es := wSum_alike (qs := ns.map fun s => parseRQ s.data.toList) (by rw [List.length_map, hn]; exact Nat.le_refl _) hat
    rw [List.take_of_length_le (by rw [List.length_map, hn]; exact Nat.le_refl _)] at es
    have hne : ((n : Int) : Rat) * parseRQ s.data.toList ≠ 0 := fun e => by rcases Rat.mul_eq_zero.1 e with h | h; exact intQ_ne h0 h; exact hq h
    have e : avgT ns = ⟨(textQ (divP (wSum (ns.map fun s => parseRQ s.data.toList) (List.replicate n s) n) (wAll (List.replicate n s) n))).toArray⟩ := by
      unfold avgT
      rw [if_neg hbad, ea, es, div_alike hq (intQ_ne h0), hn]
    rw [e]
    exact joinW_any (c := c) (d := d) hr hn hlim hs hw (List.length_replicate ..) (fun u hu => by rw [(List.mem_replicate.1 hu).2]; exact hsz) (by omega) h2 h0 (by rw [ea]; exact hne)
/-- The loops of the law. -/
def WtL (w : World) (wt : ByteArray) (n : Nat) (v p : Value) (W : World) : Prop := ∃ k : Nat, p = .int .i64 k ∧ k ≤ n ∧ StrRow W w.heap.size v (List.replicate k wt) ∧ Below w.heap.size w W
def MeL (w : World) (p : Value) (W : World) : Prop := ∃ m : Int, p = .int .i64 m ∧ 1 ≤ m ∧ m ≤ 10 ∧ Below w.heap.size w W
set_option maxRecDepth 100000 in
set_option maxHeartbeats 8000000 in
theorem weights_on (w : World) (x : Option Addr) (n c : Nat) (ns : List ByteArray) (wt nm : ByteArray) (hr : RdS w x ns) (hn : ns.length = n) (h1 : wt.size ≤ 40) (h2 : nm.size ≤ 60) :
    Calls Tryz.prog 4 #[.slice x n c, .string wt, .string nm] w fun e w' => e = .returned (.bool true) ∧ Below w.heap.size w w' := by
  have HS := Lib.hid (short_any (c := c) 15 500 (by decide) (by decide) hr hn)
  have HR := Lib.hid hr
  have HN := Lib.hid hn
  have h1I : (wt.size : Int) ≤ 40 := by omega
  have h2I : (nm.size : Int) ≤ 60 := by omega
  have HPw := Lib.hid (fun W => Rf.refParse_any wt (by omega) W)
  have HPn := Lib.hid (fun W => Rf.refParse_any nm (by omega) W)
  clear hr hn
  go_enter Tryz.func4, Tryz.ntmps4
  go_wp2_with fail
  refine HS.out.mono ?_
  rintro e w1 ⟨q, rfl, hq, hB1⟩
  have HB1 := Lib.hid hB1
  clear HS hB1
  cases q with
  | false =>
    clear hq HPw HPn
    go_wp2_with fail
    refine (alive_any _).mono ?_
    rintro e w2 ⟨rfl, hB2⟩
    go_wp2
    go_ret
    exact ⟨rfl, HB1.out.trans (hB2.mono HB1.out.size)⟩
  | true =>
  obtain ⟨hn15, hsz⟩ := hq rfl
  have HSz := Lib.hid hsz
  clear hq hsz
  go_wp2_with fail
  refine (alive_any _).mono ?_
  rintro e w2 ⟨rfl, hB2⟩
  have HB2 := Lib.hid (HB1.out.trans (hB2.mono HB1.out.size))
  clear hB2 HB1
  go_wp2_with fail
  refine (HPw.out _).mono ?_
  rintro e w3 ⟨v3, rfl, hN3, hB3⟩
  obtain ⟨v1, v2, rfl, hn1, hn2⟩ := hN3
  have hn1' := hn1
  have hn2' := hn2
  obtain ⟨a1, c1, rfl, -⟩ := hn1'
  obtain ⟨a2, c2, rfl, -⟩ := hn2'
  have HB3 := Lib.hid (HB2.out.trans (hB3.mono HB2.out.size))
  clear hn1 hn2 hB3 HPw
  have hne : Rf.szN (numQ (parseRQ wt.data.toList)) ≠ 0 → parseRQ wt.data.toList ≠ 0 := fun h e => h (by rw [e, num_zero, Rf.szN_zero])
  obtain ⟨s1, hs1⟩ : ∃ s1, Rf.szN (numQ (parseRQ wt.data.toList)) = s1 := ⟨_, rfl⟩
  obtain ⟨s2, hs2⟩ : ∃ s2, Rf.szN (parseRQ wt.data.toList).den = s2 := ⟨_, rfl⟩
  obtain ⟨ng, hng⟩ : ∃ ng, negQ (parseRQ wt.data.toList) = ng := ⟨_, rfl⟩
  rw [hs1] at hne ⊢
  rw [hs2, hng]
  clear hs1 hs2 hng
  by_cases hz : parseRC wt.data.toList ≠ 0
  · have hz0 : (((parseRC wt.data.toList : Nat) : Int) != 0) = true := bne_iff_ne.2 (by omega)
    obtain ⟨z, hzz⟩ : ∃ z : Int, ((parseRC wt.data.toList : Nat) : Int) = z := ⟨_, rfl⟩
    rw [hzz] at hz0 ⊢
    clear hz hzz hne HPn
    go_wp2
    go_ret
    exact ⟨rfl, HB3.out.alloc HB3.out.size _⟩
  have hz : parseRC wt.data.toList = 0 := Classical.not_not.1 hz
  rw [hz]
  by_cases hq0 : s1 = 0
  · subst hq0
    clear hne HPn
    go_wp2
    go_ret
    exact ⟨rfl, HB3.out.alloc HB3.out.size _⟩
  have hq0I : ((s1 : Int) == 0) = false := beq_eq_false_iff_ne.2 (by omega)
  have HQ := Lib.hid (hne hq0)
  have HZ := Lib.hid hz
  clear hq0 hne hz
  go_wp2
  go_loopw [9, 10] (fun v p W => WtL w wt n v p W) (fun v p W => n - (intOf p).toNat)
  case atStart => exact ⟨0, rfl, Nat.zero_le _, strRow_nil _ _, HB3.out.alloc HB3.out.size _⟩
  case round =>
    obtain ⟨k, rfl, hk, ho, hB⟩ := hrel
    obtain ⟨vb, vc, rfl⟩ := ownsRow_slice' ho
    have HO := Lib.hid ho
    have HB := Lib.hid hB
    have hkl : (List.replicate k wt).length = k := List.length_replicate ..
    rw [hkl]
    clear ho hB
    by_cases hlt : k < n
    · go_wp2_with (at_builtin; refine wpList_appS rfl _ _ rfl rfl w.heap.size (.slice vb k vc) (.slice (some ⟨wr.heap.size, 0, none⟩) 1 1) (List.replicate k wt) [wt] rfl rfl (by have := HO.out.alloc (Obj.cells #[.string wt] 9); unfold StrRow at *; rwa [hkl] at this ⊢) (RdX.blk (l := [wt]) (BlkAt.new wr 9 #[.string wt])) (by rw [hkl]; simp; omega) (by have := HB.out.size; rw [World.size_alloc]; omega) ?_; intro v5 w5 ho5 hB5)
      have hB6 := (HB.out.alloc HB.out.size (Obj.cells #[.string wt] 9)).trans hB5
      refine ⟨⟨k + 1, by go_num, by omega, ?_, hB6⟩, by simp only [intOf]; omega⟩
      rw [show List.replicate (k + 1) wt = List.replicate k wt ++ [wt] by rw [List.replicate_succ']]
      exact ho5
    · obtain rfl : k = n := by omega
      have hO : StrRow wr w.heap.size (.slice vb k vc) (List.replicate k wt) := by have := HO.out; rwa [hkl] at this
      have hs5 : ∀ s ∈ ns, s.size ≤ 100000 := fun s hs => Nat.le_trans (HSz.out s hs) (by decide)
      have HJ1 := Lib.hid (avg_three (c := c) (d := vc) (HR.out.below HB.out) HN.out (by omega) hs5 (rdS_own hO) (by omega) HZ.out HQ.out)
      have HJ2 := Lib.hid (fun (W : World) (hW : Below w.heap.size w W) => avg_two (c := c) (.slice none 0 0) (HR.out.below hW) HN.out (by omega) hs5)
      obtain ⟨T, hT⟩ : ∃ T, avgT ns = T := ⟨_, rfl⟩
      rw [hT] at HJ1 HJ2
      clear hO hs5 hT HO HR HSz HN HQ HZ hkl
      go_wp2_with fail
      refine HJ1.out.mono ?_
      rintro e w6 ⟨g6, rfl, hb6, hg6, hB6⟩
      have HB6 := Lib.hid (HB.out.trans (hB6.mono HB.out.size))
      have HK6 := Lib.hid hb6
      clear hb6 hg6 hB6 HJ1
      go_wp2_with fail
      refine (HJ2.out _ HB6.out).mono ?_
      rintro e w7 ⟨g7, rfl, hb7, hg7, hB7⟩
      have HB7 := Lib.hid (HB6.out.trans (hB7.mono HB6.out.size))
      have HK6' := Lib.hid (HK6.out.below hB7 HK6.out.lt)
      have HK7 := Lib.hid hb7
      clear hB7 hb7 hg7 HJ2
      go_wp2_with fail
      obtain ⟨W8, hW8⟩ : ∃ W8, ((w7.alloc (.cells #[.slice (some ⟨g6, 0, none⟩) 1 1] 27)).alloc (.cells #[.slice (some ⟨g7, 0, none⟩) 1 1] 27)) = W8 := ⟨_, rfl⟩
      have hB8 : Below w.heap.size w W8 := by rw [← hW8]; exact (HB7.out.alloc HB7.out.size _).alloc (by have := HB7.out.size; simp; omega) _
      have k6 : BlkAt W8 g6 9 #[.string T] := by rw [← hW8]; exact (HK6'.out.alloc _).alloc _
      have k7 : BlkAt W8 g7 9 #[.string T] := by rw [← hW8]; exact (HK7.out.alloc _).alloc _
      rw [hW8]
      have HS8 := Lib.hid (sameTexts_any (l := [T]) (r := [T]) (c := 1) (d := 1) (RdS.blk (l := [T]) k6) rfl (RdS.blk (l := [T]) k7) rfl (by simp) (by simp))
      have HB8 := Lib.hid hB8
      clear hW8 k6 k7 hB8
      refine HS8.out.mono ?_
      rintro e w9 ⟨rfl, hB9⟩
      have HB9 := Lib.hid (HB8.out.trans (hB9.mono HB8.out.size))
      rw [decide_eq_true rfl]
      clear hB9
      go_wp2_with fail
      refine (HPn.out _).mono ?_
      rintro e w10 ⟨v10, rfl, hN10, hB10⟩
      obtain ⟨v1, v2, rfl, hn1, hn2⟩ := hN10
      obtain ⟨a3, c3, rfl, -⟩ := hn1
      obtain ⟨a4, c4, rfl, -⟩ := hn2
      have HB10 := Lib.hid (HB9.out.trans (hB10.mono HB9.out.size))
      clear hB10
      obtain ⟨s3, hs3⟩ : ∃ s3, Rf.szN (numQ (parseRQ nm.data.toList)) = s3 := ⟨_, rfl⟩
      obtain ⟨s4, hs4⟩ : ∃ s4, Rf.szN (parseRQ nm.data.toList).den = s4 := ⟨_, rfl⟩
      obtain ⟨ng', hng'⟩ : ∃ ng, negQ (parseRQ nm.data.toList) = ng := ⟨_, rfl⟩
      rw [hs3, hs4, hng']
      clear hs3 hs4 hng' HPn
      by_cases hz : parseRC nm.data.toList ≠ 0
      · have hz0 : (((parseRC nm.data.toList : Nat) : Int) == 0) = false := beq_eq_false_iff_ne.2 (by omega)
        obtain ⟨z, hzz⟩ : ∃ z : Int, ((parseRC nm.data.toList : Nat) : Int) = z := ⟨_, rfl⟩
        rw [hzz] at hz0 ⊢
        clear hz hzz
        go_wp2
        go_loopw [15] (fun p W => MeL w p W) (fun p W => 10 - (intOf p).toNat)
        case atStart => exact ⟨1, rfl, by decide, by decide, HB10.out.alloc HB10.out.size _⟩
        case round =>
          obtain ⟨m, rfl, hm1, hm2, hB⟩ := hrel
          have HBe := Lib.hid hB
          clear hB
          by_cases hm : m ≤ 9
          all_goals
            go_wp2
            go_ret
            exact ⟨rfl, HBe.out⟩
      have hz : parseRC nm.data.toList = 0 := Classical.not_not.1 hz
      rw [hz]
      have HZn := Lib.hid hz
      clear hz
      go_wp2
      go_loopw [15] (fun p W => MeL w p W) (fun p W => 10 - (intOf p).toNat)
      case atStart => exact ⟨1, rfl, by decide, by decide, HB10.out.alloc HB10.out.size _⟩
      case round =>
        obtain ⟨m, rfl, hm1, hm2, hB⟩ := hrel
        have HBe := Lib.hid hB
        clear hB
        by_cases hm : m ≤ 9
        · have HJ := Lib.hid (fun (W : World) => joinOne_any (w := (W.alloc (Obj.cells #[.string nm] 9)).alloc (Obj.cells #[.string ⟨#[51]⟩] 9)) (x := ⟨W.heap.size, 0, none⟩) (y := ⟨W.heap.size + 1, 0, none⟩) (c := 1) (d := 1) (s := nm) m hm1 hm (RdS.blk (l := [nm]) ((BlkAt.new W _ _).alloc _)) (RdS.blk (l := [⟨#[51]⟩]) (by have := BlkAt.new (W.alloc (Obj.cells #[.string nm] 9)) 9 #[.string ⟨#[51]⟩]; rwa [World.size_alloc] at this)) (by omega) HZn.out)
          go_wp2_with fail
          refine (HJ.out _).mono ?_
          rintro e w12 ⟨g12, c12, rfl, hc12, hl12, -, hB12⟩
          have hB13 : Below w.heap.size w w12 := ((HBe.out.alloc HBe.out.size (Obj.cells #[.string nm] 9)).alloc (by have := HBe.out.size; rw [World.size_alloc]; omega) (Obj.cells #[.string ⟨#[51]⟩] 9)).trans (hB12.mono (by have := HBe.out.size; rw [World.size_alloc, World.size_alloc]; omega))
          have HB13 := Lib.hid (hB13.alloc hB13.size (Obj.cells #[.slice (some ⟨g12, 0, none⟩) 1 c12] 27))
          have e1 : (w12.alloc (Obj.cells #[.slice (some ⟨g12, 0, none⟩) 1 c12] 27)).cell? ⟨g12, 0, none⟩ = some (.string nm) := (((Below.refl _ w12).alloc (Nat.le_refl _) _).cell (p := ⟨g12, 0, none⟩) hl12).trans hc12
          clear hB12 hB13 hc12 HJ
          go_wp2
          exact ⟨⟨m + 1, rfl, by omega, by omega, HB13.out⟩, by simp only [intOf]; omega⟩
        · have hm' : ¬ m ≤ 9 := hm
          go_wp2
          go_ret
          exact ⟨rfl, HBe.out⟩
end Go.Proofs.YtjcpfmndkeiegaaGreatDoor
