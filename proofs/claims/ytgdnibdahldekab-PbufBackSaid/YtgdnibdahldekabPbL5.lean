/- The walk of the law PbufBack. -/
import Derived.Test.YtgdnibdahldekabPbX
import Derived.Test.YtgdnibdahldekabPbV
import Derived.Test.YtgdnibdahldekabPfK
import Derived.Test.YtgdnibdahldekabPfR
import Derived.Test.YtgdnibdahldekabRd
import Derived.Deep.Cut
import Derived.BigRegion
import Derived.Deep.QuietTactic
import Derived.BigQuiet
import Derived.WalkKit
import Derived.ProofKit
import Derived.LoopTactic
import Derived.WalkSpells
import Derived.WalkLawsBesides
import Derived.Lib.Hide
import Derived.Outline
import Derived.Handy
import Derived.WalkSmall
namespace Go.Proofs.Ytgdnibdahldekab
open Go.RowKit
set_option linter.unusedVariables false

/-- A field that came in. -/
structure FI where
  num : Int
  kind : Int
  at_ : Int
  val : Nat
  data : ByteArray
abbrev fiCells (f : FI) : List Value := [.int .i64 f.num, .int .i64 f.kind, .int .i64 f.at_, .int .u64 f.val, .string f.data]
def fiOk (f : FI) : Prop := (-9223372036854775808 ≤ f.num ∧ f.num ≤ 9223372036854775807) ∧ (-9223372036854775808 ≤ f.kind ∧ f.kind ≤ 9223372036854775807) ∧ (-9223372036854775808 ≤ f.at_ ∧ f.at_ ≤ 9223372036854775807) ∧ f.val < 18446744073709551616 ∧ f.data.size ≤ 9223372036854775807
/-- A slice of fields that came in. -/
def IsFIs (w : World) (a : Option Addr) (zs : List FI) : Prop := ∀ i (h : i < zs.length), fiOk zs[i] ∧ ∃ x, a = some x ∧ ∀ j, j < 5 → w.cell? (x.add (i * 5 + j)) = (fiCells zs[i])[j]?
def goodI (f : FI) : Bool := decide (okF f.num f.kind f.val f.data.size)
def toFld (f : FI) : Fld := ⟨f.num.toNat, f.kind.toNat, 0, f.val, f.data.data.toList⟩
def pickF (zs : List FI) : List Fld := (zs.filter goodI).map toFld
/-- Where each field ends. -/
def endsF : Nat → List Fld → List Nat
  | _, [] => []
  | k, f :: fs => (k + (encF f).length) :: endsF (k + (encF f).length) fs
theorem endsF_snoc : ∀ (fs : List Fld) (k : Nat) (f : Fld), endsF k (fs ++ [f]) = endsF k fs ++ [k + (fs.flatMap encF).length + (encF f).length]
  | [], k, f => by simp [endsF]
  | g :: fs, k, f => by
    rw [List.cons_append, endsF, endsF_snoc fs, endsF, List.flatMap_cons, List.length_append]
    simp only [List.cons_append, Nat.add_assoc]
theorem endsF_len : ∀ (fs : List Fld) (k : Nat), (endsF k fs).length = fs.length
  | [], _ => rfl
  | f :: fs, k => by rw [endsF, List.length_cons, endsF_len fs, List.length_cons]
theorem pickF_step {zs : List FI} {k : Nat} (hk : k < zs.length) : pickF (zs.take (k + 1)) = pickF (zs.take k) ++ (if goodI zs[k] = true then [toFld zs[k]] else []) := by
  rw [List.take_add_one, List.getElem?_eq_getElem hk]
  unfold pickF
  rw [List.filter_append, List.map_append]
  by_cases h : goodI zs[k] = true
  · rw [if_pos h]; simp [List.filter, h]
  · rw [if_neg h]; simp [List.filter, h]
theorem toFld_good {f : FI} (h : goodI f = true) (hv : f.val < 18446744073709551616) : goodF (toFld f) ∧ f.num = ((f.num.toNat : Nat) : Int) ∧ f.kind = ((f.kind.toNat : Nat) : Int) := by
  have h := of_decide_eq_true h
  have hk := okF_kind h
  have e1 : f.num = ((f.num.toNat : Nat) : Int) := by have := h.1; omega
  have e2 : f.kind = ((f.kind.toNat : Nat) : Int) := by omega
  refine ⟨⟨?_, hv⟩, e1, e2⟩
  show okF ((f.num.toNat : Nat) : Int) ((f.kind.toNat : Nat) : Int) f.val f.data.data.toList.length
  rw [← e1, ← e2, show f.data.data.toList.length = f.data.size by simp]
  exact h
theorem other_row {w : World} {b1 b2 : Nat} {e1 e2 : TypeId} {s1 s2 : Nat} {v1 v2 : Value} {n1 n2 : Nat} {x1 x2 : List Value} (h1 : w.ownsRow b1 e1 s1 v1 n1 x1) (h2 : w.ownsRow b2 e2 s2 v2 n2 x2) (hne : e1 ≠ e2) : v1.ownBlock = none ∨ v1.ownBlock ≠ v2.ownBlock := by
  rcases h1.2 with ⟨rfl, _⟩ | ⟨g, cap, cur, rfl, _, hg, _⟩
  · exact .inl rfl
  · refine .inr fun e => ?_
    rcases h2.2 with ⟨rfl, _⟩ | ⟨g', cap', cur', rfl, _, hg', _⟩
    · simp [Value.ownBlock] at e
    · simp only [Value.ownBlock, Option.some.injEq] at e
      subst e
      rw [hg] at hg'
      simp only [Option.some.injEq, Obj.cells.injEq] at hg'
      exact hne hg'.2.1

theorem endsF_get : ∀ (fs : List Fld) (k i : Nat), (endsF k fs)[i]? = (fs[i]?).map fun _ => k + lenF fs (i + 1)
  | [], k, i => by simp [endsF]
  | f :: fs, k, 0 => by simp [endsF, lenF]
  | f :: fs, k, i + 1 => by
    rw [endsF, List.getElem?_cons_succ, endsF_get fs, List.getElem?_cons_succ]
    congr 1
    funext g
    have : lenF (f :: fs) (i + 1 + 1) = (encF f).length + lenF fs (i + 1) := by unfold lenF; rw [List.take_succ_cons, List.flatMap_cons, List.length_append]
    rw [this, Nat.add_assoc]
theorem lenF_pos {fs : List Fld} (hg : ∀ f ∈ fs, goodF f) {n : Nat} (h : 0 < n) (hn : n ≤ fs.length) : 0 < lenF fs n := by
  have h1 := lenF_succ (fs := fs) (n := 0) (by omega)
  have h0 : 0 < fs.length := by omega
  have h2 := (putF_len (hg fs[0] (List.getElem_mem h0)).1 (hg fs[0] (List.getElem_mem h0)).2).1
  have h3 := lenF_le fs (n - 1) 1 (by omega)
  rw [show 1 + (n - 1) = n by omega] at h3
  unfold encF at h1
  rw [Nat.zero_add] at h1
  omega
theorem rdF_own {w : World} {base : Nat} {v : Value} {fs : List Fld} {n : Nat} (h : w.ownsRow base 39 5 v n (fs.flatMap fldCells)) (hn : n = fs.length) : ∃ a c, v = .slice a fs.length c ∧ RdF w a fs := by
  subst hn
  rcases h.2 with ⟨rfl, h0⟩ | ⟨g, cap, cur, rfl, _⟩
  · exact ⟨none, 0, by rw [h0], fun i hi => by omega⟩
  · refine ⟨_, _, rfl, fun i hi => ?_⟩
    obtain ⟨g', cap', e, h1, h2⟩ := fld_cell h hi
    cases e
    exact ⟨g, rfl, h1, h2⟩
theorem slI10 : SlT Try.prog 25 3 1 8 := SlT.mk Try.underlying25 (z := .int .i64 0) (by kernel_rfl) rfl (by decide) (by decide)
theorem row_far {w : World} {base : Nat} {e : TypeId} {size : Nat} {v : Value} {n : Nat} {xs : List Value} {g : Nat} {t : TypeId} {cs : Array Value} (h : w.ownsRow base e size v n xs) (hg : BlkAt w g t cs) (hne : e ≠ t) : v.ownBlock ≠ some g := by
  rcases h.2 with ⟨rfl, _⟩ | ⟨g', cap, cur, rfl, _, hg', _⟩
  · simp [Value.ownBlock]
  · intro e
    simp only [Value.ownBlock, Option.some.injEq] at e
    subst e
    unfold BlkAt at hg
    rw [hg'] at hg
    simp only [Option.some.injEq, Obj.cells.injEq] at hg
    exact hne hg.2.1
theorem str_list (s : ByteArray) : (⟨s.data.toList.toArray⟩ : ByteArray) = s := by cases s; simp

set_option maxRecDepth 100000 in
set_option maxHeartbeats 2000000 in
theorem pbufBack_walk (a0 : Option Addr) (len0 cap0 : Nat) (zs : List FI) (cut : Int) (w : World) (hlen : zs.length = len0) (hmax : len0 ≤ 9223372036854775807) (hz : IsFIs w a0 zs) (hc1 : -9223372036854775808 ≤ cut) (hc2 : cut ≤ 9223372036854775807) :
    Calls Try.prog 5 #[.slice a0 len0 cap0, .int .i64 cut] w fun e w' => e = .returned (.bool true) ∧ Below w.heap.size w w' := by
  by_cases hl : 40 < len0 ∨ cut < 0
  · by_cases hl1 : 40 < len0
    all_goals
      clear hz hlen
      go_enter Try.func5, Try.ntmps5
      go_wp2_with (go_at_call 25; refine (alive10_any _).mono ?_; rintro e w1 ⟨rfl, hB⟩)
      go_ret
      exact ⟨rfl, hB⟩
  · have hl1 : len0 ≤ 40 := by omega
    have hc0 : 0 ≤ cut := by omega
    have HZ := Lib.hid hz
    have HL := Lib.hid hlen
    clear hz hlen hl
    go_enter Try.func5, Try.ntmps5
    go_wp2_with (go_at_call 25; refine (alive10_any _).mono ?_; rintro e w1 ⟨rfl, hB1⟩)
    go_loopw [5, 6, 7, 8, 9] (fun s6 v6 v7 v8 p wr => ∃ (k : Nat) (m : Int), p = .int .i64 k ∧ v8 = .int .i64 m ∧ k ≤ len0 ∧ -1 ≤ m ∧ m ≤ 5000 ∧ (∃ sb : ByteArray, s6 = .string sb ∧ sb.data.toList = (pickF (zs.take k)).flatMap encF ∧ sb.size ≤ 70000 ∧ (0 ≤ m → (sb.size : Int) ≤ 20 * k + 5000 - m)) ∧
        wr.ownsRow w1.heap.size 3 1 v6 (pickF (zs.take k)).length ((endsF 0 (pickF (zs.take k))).map fun n => Value.int .i64 (n : Nat)) ∧ wr.ownsRow w1.heap.size 39 5 v7 (pickF (zs.take k)).length ((atFs 0 (pickF (zs.take k))).flatMap fldCells) ∧
        (∀ f ∈ pickF (zs.take k), goodF f) ∧ Below w1.heap.size w1 wr ∧ w1.heap.size ≤ wr.heap.size)
      (fun _ _ _ _ p _ => len0 - (intOf p).toNat)
    case atStart => exact ⟨0, 5000, rfl, rfl, Nat.zero_le _, by omega, by omega, ⟨_, rfl, rfl, by decide, by decide⟩, World.ownsRow_nil _ _ _ _, World.ownsRow_nil _ _ _ _, by simp [pickF], Below.refl _ _, Nat.le_refl _⟩
    case round =>
      obtain ⟨k, m, rfl, rfl, hk, hm1, hm2, ⟨sb, rfl, hsb, hs7, hsm⟩, hr6, hr7, hgood, hB, hsz⟩ := hrel
      have HSB := Lib.hid hsb
      have HG := Lib.hid hgood
      clear hsb hgood
      have hpl : (pickF (zs.take k)).length ≤ k := by
        unfold pickF
        rw [List.length_map]
        exact Nat.le_trans (List.length_filter_le _ _) (by rw [List.length_take]; omega)
      obtain ⟨b6, c6, rfl, q6⟩ : ∃ b c, u6 = .slice b (pickF (zs.take k)).length c ∧ True := by
        rcases hr6.2 with ⟨rfl, h0⟩ | ⟨g, cap, cur, rfl, _⟩
        · exact ⟨none, 0, by rw [h0], trivial⟩
        · exact ⟨_, _, rfl, trivial⟩
      by_cases hlt : k < len0
      · by_cases hm0 : 0 ≤ m
        · have hkz : k < zs.length := by have := HL.out; omega
          obtain ⟨hok, x, rfl, hx⟩ := HZ.out k hkz
          have HP := Lib.hid (pickF_step hkz)
          obtain ⟨f, hf⟩ : ∃ f, zs[k] = f := ⟨_, rfl⟩
          rw [hf] at hok hx HP
          obtain ⟨n1, n2, n3, n4, n5⟩ := hok
          obtain ⟨z0, z1, z2, z3, z4⟩ := f
          have hxr : ∀ w' : World, Below w.heap.size w w' → w'.cell? (x.add (k * 5)) = some (.int .i64 z0) ∧ w'.cell? ⟨(x.add (k * 5)).block, (x.add (k * 5)).off + 1, none⟩ = some (.int .i64 z1) ∧ w'.cell? ⟨(x.add (k * 5)).block, (x.add (k * 5)).off + 2, none⟩ = some (.int .i64 z2) ∧
              w'.cell? ⟨(x.add (k * 5)).block, (x.add (k * 5)).off + 3, none⟩ = some (.int .u64 z3) ∧ w'.cell? ⟨(x.add (k * 5)).block, (x.add (k * 5)).off + 4, none⟩ = some (.string z4) := by
            intro w' hb
            have h0 := hx 0 (by omega)
            have hxb : x.block < w.heap.size := by rw [← add_block x (k * 5 + 0)]; exact block_lt h0
            have hj : ∀ j, j < 5 → w'.cell? ((x.add (k * 5)).add j) = (fiCells ⟨z0, z1, z2, z3, z4⟩)[j]? := by
              intro j hj
              rw [add_sum]
              exact (hb.cell (by rw [add_block]; exact hxb)).trans (hx j hj)
            have e0 : (x.add (k * 5)).add 0 = x.add (k * 5) := by rw [add_sum]; rfl
            exact ⟨by rw [← e0]; exact hj 0 (by omega), hj 1 (by omega), hj 2 (by omega), hj 3 (by omega), hj 4 (by omega)⟩
          have q1 := hB1.trans (hB.mono hB1.size)
          have HX := Lib.hid hxr
          clear hx hxr
          obtain ⟨_, _, _, _, x4⟩ := HX.out wr q1
          simp only at n1 n2 n3 n4 n5
          have KR := fun W hR => room_any m (some ⟨wr.heap.size, 0, none⟩) 1 [(z4.size : Int)] (by simp) (by omega) (by omega) (by intro s hs; simp at hs; omega) W hR
          obtain ⟨r, hr⟩ : ∃ r, roomL m [(z4.size : Int)] = r := ⟨_, rfl⟩
          have hrr : (r = -1 ∧ m < (z4.size : Int)) ∨ (r = m - z4.size ∧ (z4.size : Int) ≤ m) := by
            rw [← hr]
            unfold roomL
            by_cases h : m < 0 ∨ m < (z4.size : Int)
            · rw [if_pos h]; omega
            · rw [if_neg h]; unfold roomL; omega
          rw [hr] at KR
          have HR := Lib.hid KR
          clear KR hr
          generalize pickF (zs.take k) = fs at *
          go_wp2_with fail
          refine (HR.out _ (fun i hi => ⟨_, rfl, by simp, by simp at hi; subst hi; exact (BlkAt.new wr 3 #[.int .i64 (z4.size : Int)]).cell 0⟩)).mono ?_
          rintro e w' ⟨rfl, rfl⟩
          clear x4
          obtain ⟨x0, x1, x2, x3, x4⟩ := HX.out (wr.alloc (.cells #[.int .i64 (z4.size : Int)] 3)) (q1.alloc (q1.size) _)
          by_cases hok : goodI ⟨z0, z1, z2, z3, z4⟩ = true
          · obtain ⟨g1, g2, g3⟩ := toFld_good hok n4
            rw [if_pos hok] at HP
            have hok' : okF z0 z1 z3 z4.size := of_decide_eq_true hok
            simp only at g2 g3
            have e1 : toFld ⟨z0, z1, z2, z3, z4⟩ = ⟨z0.toNat, z1.toNat, 0, z3, z4.data.toList⟩ := rfl
            rw [e1] at HP g1
            clear e1 hok
            generalize z0.toNat = y0 at *
            generalize z1.toNat = y1 at *
            subst g2 g3
            have hpl2 := putF_len g1.1 g1.2
            simp only at hpl2
            rw [show z4.data.toList.length = z4.size by simp] at hpl2
            have hz4 : z4.size ≤ 60000 := by have := hok'.2.2; omega
            have KP := fun W => pput_ok y0 (y1 : Int) z2 z3 z4 n4 n5 hok' W
            rw [show ((y1 : Int)).toNat = y1 from rfl] at KP
            obtain ⟨tb, htb, htl⟩ : ∃ tb : ByteArray, str (putF y0 y1 z3 z4.data.toList) = .string tb ∧ tb.data.toList = putF y0 y1 z3 z4.data.toList := ⟨_, rfl, rfl⟩
            rw [htb] at KP
            have htsz : tb.size = (putF y0 y1 z3 z4.data.toList).length := by rw [← htl]; simp
            rw [← htsz] at hpl2
            have HPB := Lib.hid KP
            have HTL := Lib.hid htl
            have hcat : sb.size + tb.size ≤ 9223372036854775807 := by omega
            have hcat2 : (sb ++ tb).size = sb.size + tb.size := ByteArray.size_append
            have HC2 := Lib.hid hcat2
            clear KP hok' htb htl htsz hcat2
            go_wp2_with fail
            refine (HPB.out _).mono ?_
            rintro e w3 ⟨rfl, hB3⟩
            clear x0 x1 x2 x3 x4
            have p2 : Below w1.heap.size w1 w3 := (hB.alloc hsz _).trans (hB3.mono (by simp; omega))
            have p3 : Below wr.heap.size wr w3 := ((Below.refl _ wr).alloc (Nat.le_refl _) _).trans (hB3.mono (by simp))
            have s3 : w1.heap.size ≤ w3.heap.size := Nat.le_trans hsz p3.size
            have r6 := rowKept hr6 p3
            have r7 := rowKept hr7 p3
            obtain ⟨x0, x1, x2, x3, x4⟩ := HX.out w3 (q1.trans (p3.mono q1.size))
            have hbl := BlkAt.new w3 39 #[.int .i64 y0, .int .i64 y1, .int .i64 sb.size, .int .u64 z3, .string z4]
            have r6b := r6.alloc (.cells #[.int .i64 y0, .int .i64 y1, .int .i64 sb.size, .int .u64 z3, .string z4] 39)
            have r7b := r7.alloc (.cells #[.int .i64 y0, .int .i64 y1, .int .i64 sb.size, .int .u64 z3, .string z4] 39)
            have B4 := p2.alloc s3 (.cells #[.int .i64 y0, .int .i64 y1, .int .i64 sb.size, .int .u64 z3, .string z4] 39)
            go_wp2_with (at_builtin; refine wpList_app _ rfl _ _ _ _ _ _ slI10 rfl _ w1 (B4.alloc (by simp; omega) _) (by simp; omega) _ _ _ rfl (r6b.alloc _) ⟨w3.heap.size + 1, 0, none⟩ [.int .i64 (sb.size + tb.size)] rfl rfl ?c0 ?c1 ?c2 ?_)
            case c0 =>
              have := cell_one_new (w3.alloc (.cells #[.int .i64 y0, .int .i64 y1, .int .i64 sb.size, .int .u64 z3, .string z4] 39)) (.int .i64 (sb.size + tb.size)) 3
              rw [World.size_alloc] at this
              exact this
            case c1 => intro u hu; simp at hu; subst hu; rfl
            case c2 => omega
            intro v6 w4 hr6c hB5 hs5 hgr
            have ra := r6b.alloc (.cells #[.int .i64 (sb.size + tb.size)] 3)
            have rb := r7b.alloc (.cells #[.int .i64 (sb.size + tb.size)] 3)
            have ba := hbl.alloc (.cells #[.int .i64 (sb.size + tb.size)] 3)
            have hb4 := ba.grown hgr (Ne.symm (row_far ra ba (by decide)))
            have r7c := rb.kept hgr (other_row rb ra (by decide))
            clear ra rb ba
            clear x0 x1 x2 x3 x4 hbl r6b r7b r6 r7 B4 hgr
            have y0c := hb4.cell 0
            have y1c := hb4.cell 1
            have y2c := hb4.cell 2
            have y3c := hb4.cell 3
            have y4c := hb4.cell 4
            go_wp2_with (at_builtin; refine wpList_app _ rfl _ _ _ _ _ _ slF rfl _ w1 (hB5.alloc hs5 _) (by simp; omega) _ _ _ rfl (r7c.alloc _) ⟨w4.heap.size, 0, none⟩ [.int .i64 y0, .int .i64 y1, .int .i64 sb.size, .int .u64 z3, .string z4] rfl rfl ?c0 ?c1 ?c2 ?_)
            case c0 => exact news_blk (BlkAt.new w4 39 #[.int .i64 y0, .int .i64 y1, .int .i64 sb.size, .int .u64 z3, .string z4])
            case c1 => intro u hu; simp at hu; rcases hu with rfl | rfl | rfl | rfl | rfl <;> rfl
            case c2 => omega
            intro v7 w5 hr7d hB6 hs6 hgr
            have ra := hr6c.alloc (.cells #[.int .i64 y0, .int .i64 y1, .int .i64 sb.size, .int .u64 z3, .string z4] 39)
            have rb := r7c.alloc (.cells #[.int .i64 y0, .int .i64 y1, .int .i64 sb.size, .int .u64 z3, .string z4] 39)
            have r6d := ra.kept hgr (other_row ra rb (by decide))
            clear ra rb
            clear y0c y1c y2c y3c y4c hgr hb4
            go_wp2_with fail
            go_roundw
            case rel =>
              have hsl : sb.size = (fs.flatMap encF).length := by rw [← HSB.out]; simp
              have hte : tb.size = (encF ⟨y0, y1, 0, z3, z4.data.toList⟩).length := by rw [show encF ⟨y0, y1, 0, z3, z4.data.toList⟩ = putF y0 y1 z3 z4.data.toList from rfl, ← HTL.out]; simp
              refine ⟨k + 1, r, by go_num, rfl, by omega, by omega, by omega, ⟨sb ++ tb, rfl, ?_, by rw [HC2.out]; omega, ?_⟩, ?_, ?_, ?_, hB6, hs6⟩
              · rw [HP.out, List.flatMap_append, show ([⟨y0, y1, 0, z3, z4.data.toList⟩] : List Fld).flatMap encF = putF y0 y1 z3 z4.data.toList by simp [encF], ← HSB.out, ← HTL.out]
                simp
              · intro h; rw [HC2.out]; omega
              · rw [HP.out, List.length_append, endsF_snoc, List.map_append]
                have : (Value.int .i64 ((0 + (fs.flatMap encF).length + (encF ⟨y0, y1, 0, z3, z4.data.toList⟩).length : Nat) : Int)) = .int .i64 (sb.size + tb.size) := by congr 1; omega
                rw [List.map_cons, this]
                exact r6d
              · rw [HP.out, List.length_append, atFs_snoc, List.flatMap_append]
                have : ([{ (⟨y0, y1, 0, z3, z4.data.toList⟩ : Fld) with at_ := 0 + (fs.flatMap encF).length }] : List Fld).flatMap fldCells = [.int .i64 y0, .int .i64 y1, .int .i64 sb.size, .int .u64 z3, .string z4] := by
                  simp [hsl]
                rw [this]
                exact hr7d
              · rw [HP.out]
                intro f hf
                rw [List.mem_append] at hf
                rcases hf with hf | hf
                · exact HG.out f hf
                · simp at hf; subst hf; exact g1
            case measure => simp [intOf]; omega
          · have hok' : ¬ okF z0 z1 z3 z4.size := of_decide_eq_false (by cases h : goodI ⟨z0, z1, z2, z3, z4⟩ <;> simp_all [goodI])
            rw [if_neg hok, List.append_nil] at HP
            have KP := fun W => pput_bad z0 z1 z2 z3 z4 n4 n5 hok' W
            have HPB := Lib.hid KP
            clear KP hok hok'
            go_wp2_with fail
            refine (HPB.out _).mono ?_
            rintro e w3 ⟨rfl, hB3⟩
            clear x0 x1 x2 x3 x4
            have p2 : Below w1.heap.size w1 w3 := (hB.alloc hsz _).trans (hB3.mono (by simp; omega))
            have p3 : Below wr.heap.size wr w3 := ((Below.refl _ wr).alloc (Nat.le_refl _) _).trans (hB3.mono (by simp))
            go_wp2_with fail
            go_roundw
            case rel =>
              refine ⟨k + 1, r, by go_num, rfl, by omega, by omega, by omega, ⟨sb, rfl, ?_, hs7, by omega⟩, ?_, ?_, ?_, p2, Nat.le_trans hsz p3.size⟩
              · rw [HP.out]; exact HSB.out
              · rw [HP.out]; exact rowKept hr6 p3
              · rw [HP.out]; exact rowKept hr7 p3
              · rw [HP.out]; exact HG.out
            case measure => simp [intOf]; omega
        · clear HZ HL hl1 hr6 hr7
          go_wp2_with fail
          go_ret
          exact ⟨rfl, hB1.trans (hB.mono hB1.size)⟩
      · obtain rfl : k = len0 := by omega
        have q1 := hB1.trans (hB.mono hB1.size)
        by_cases hm0 : 0 ≤ m
        · have hs6 := hsm hm0
          have hs8 : sb.size ≤ 5800 := by omega
          clear hsm hs7 hs6 HZ HL hl1 hm1 hm2 hk
          obtain ⟨fs, hfs⟩ : ∃ fs, pickF (zs.take k) = fs := ⟨_, rfl⟩
          rw [hfs] at HSB HG hr6 hr7 hpl ⊢
          clear hfs
          have hsl : sb.size = (fs.flatMap encF).length := by rw [← HSB.out]; simp
          obtain ⟨e1, e2⟩ := fields_encs fs HG.out (by omega)
          have KF := fun W => fields_any sb (by omega) W
          rw [HSB.out, e1, e2, atFs_len] at KF
          obtain ⟨lE, hlE⟩ : ∃ lE : List Int, (endsF 0 fs).map (fun n => ((n : Nat) : Int)) = lE := ⟨_, rfl⟩
          have eE : lE.length = fs.length := by rw [← hlE, List.length_map, endsF_len]
          have hr6' : wr.ownsRow w1.heap.size 3 1 (.slice b6 fs.length c6) lE.length (lE.map (Value.int .i64)) := by
            rw [eE, ← hlE, List.map_map]; exact hr6
          obtain ⟨a6, c6', e6, hR6⟩ := rdI_own hr6'
          simp only [Value.slice.injEq] at e6
          obtain ⟨rfl, hh, rfl⟩ := e6
          clear hh
          have hgE : ∀ i, i < fs.length → lE.getD i 0 = (lenF fs (i + 1) : Nat) := by
            intro i hi
            rw [← hlE, List.getD, List.getElem?_map, endsF_get, List.getElem?_eq_getElem hi]
            simp
          obtain ⟨a7, c7, rfl, hR7⟩ := rdF_own hr7 (atFs_len fs 0).symm
          rw [atFs_len]
          obtain ⟨at7, hat7⟩ : ∃ l, atFs 0 fs = l := ⟨_, rfl⟩
          have e7 : at7.length = fs.length := by rw [← hat7, atFs_len]
          rw [hat7] at hR7 KF
          have KF' : ∀ W : World, Calls Try.prog 28 #[.string sb] W fun e W' => ∃ v, e = .returned (.tuple #[v, .agg #[.int .i64 0, .int .i64 0, .string ⟨#[]⟩]]) ∧ W'.ownsRow W.heap.size 39 5 v fs.length (at7.flatMap fldCells) ∧ Below W.heap.size W W' := KF
          have HKF := Lib.hid KF'
          have HSL := Lib.hid hsl
          have HGE := Lib.hid hgE
          have HAT := Lib.hid hat7
          have HE7 := Lib.hid e7
          have HEE := Lib.hid eE
          clear KF KF' hsl hgE hat7 hlE hr6 hr6' hr7 e1 e2 e7 eE
          generalize zs = zz at *
          go_wp2_with fail
          refine (HKF.out _).mono ?_
          rintro e w2 ⟨v, rfl, hrv, hB2⟩
          obtain ⟨av, cv, rfl, hRv⟩ := rdF_own hrv HE7.out.symm
          rw [HE7.out]
          clear hrv
          have KS := fun W ha hb => same10_yes av a7 cv c7 at7 fs.length HE7.out (by omega) W ha hb
          have HKS := Lib.hid KS
          clear KS
          have hR7b := hR7.below hB2
          have q2 := q1.trans (hB2.mono q1.size)
          have hR6b := hR6.below hB2
          go_wp2_with fail
          have hall := (Below.refl _ w2).alloc (Nat.le_refl _) (.cells #[.int .i64 0, .int .i64 0, .string ⟨#[]⟩] 47)
          refine (HKS.out _ (hRv.below hall) (hR7b.below hall)).mono ?_
          rintro e w3 ⟨rfl, hB3⟩
          have hB3' := hall.trans (hB3.mono (by simp))
          have q3 := q2.trans (hB3'.mono q2.size)
          have hR6c := hR6b.below hB3'
          have hR7c := hR7b.below hB3'
          clear hall hB3 hB3' hR6b hR7b hR6 hR7 hRv
          obtain ⟨kk, hkk⟩ : ∃ kk : Nat, (kk : Int) = cut ∧ cut < (sb.size : Int) ∨ kk = sb.size ∧ (sb.size : Int) ≤ cut := by
            by_cases h : cut < (sb.size : Int)
            · exact ⟨cut.toNat, .inl ⟨by omega, h⟩⟩
            · exact ⟨sb.size, .inr ⟨rfl, by omega⟩⟩
          have hks : kk ≤ sb.size := by omega
          have hmin : min cut (sb.size : Int) = (kk : Int) := by omega
          have hmono := lenF_le fs
          have HMO := Lib.hid hmono
          clear hmono
          go_upto_region 24 with (fail)
          clear hmin
          go_wp2
          go_loop [16] (fun p => ∃ n : Nat, p = .int .i64 n ∧ n ≤ fs.length ∧ lenF fs n ≤ kk) (fun p => fs.length - (intOf p).toNat)
          case atStart => exact ⟨0, rfl, Nat.zero_le _, Nat.zero_le _⟩
          case round =>
            obtain ⟨n, rfl, hn, hle⟩ := hrel
            by_cases hstep : n < fs.length ∧ lenF fs (n + 1) ≤ kk
            · obtain ⟨hn1, hn2⟩ := hstep
              obtain ⟨g, rfl, hg1, hg2⟩ := hR6c n (by have := HEE.out; omega)
              rw [HGE.out n hn1] at hg2
              have hn3 : ((lenF fs (n + 1) : Nat) : Int) ≤ (kk : Int) := by omega
              go_wp2
              go_round
              case rel => exact ⟨n + 1, by go_num, by omega, hn2⟩
              case measure => simp [intOf]; omega
            · have hal : lenF fs fs.length = sb.size := by rw [lenF_all, HSL.out]
              have hfc := fields_cut HG.out (n := n) (k := kk) hn hle (fun h => by
                apply Decidable.byContradiction
                intro h'
                exact hstep ⟨h, by omega⟩) (by rw [← HSL.out]; exact hks) (by rw [← HSL.out]; omega)
              have hx0 : n = 0 → lenF fs n = 0 := fun e => by rw [e]; rfl
              have hx1 : 0 < n → 0 < lenF fs n := fun h => lenF_pos HG.out h hn
              have KF2 := fun W => fields_any (sb.extract 0 kk) (by simp; omega) W
              rw [show (sb.extract 0 kk).data.toList = (fs.flatMap encF).take kk by rw [extract_list, HSB.out]; simp] at KF2
              have hcellp : ∀ W, Below w3.heap.size w3 W → 0 < n → ∃ g, b6 = some ⟨g, 0, none⟩ ∧ g < W.heap.size ∧ W.cell? ⟨g, n - 1, none⟩ = some (.int .i64 (lenF fs n : Nat)) := by
                intro W hW h
                obtain ⟨g, h1, h2, h3⟩ := (hR6c.below hW) (n - 1) (by have := HEE.out; omega)
                rw [HGE.out (n - 1) (by omega), show n - 1 + 1 = n by omega] at h3
                exact ⟨g, h1, h2, h3⟩
              have hcella : ∀ W, Below w3.heap.size w3 W → n < fs.length → ∃ g, a7 = some ⟨g, 0, none⟩ ∧ g < W.heap.size ∧ W.cell? ⟨g, n * 5 + 2, none⟩ = some (.int .i64 (lenF fs n : Nat)) := by
                intro W hW h
                obtain ⟨g, h1, h2, h3⟩ := (hR7c.below hW) n (by have := HE7.out; omega)
                have h4 := h3 2 (by omega)
                have h5 : at7.getD n zeroF = { fs[n] with at_ := lenF fs n } := by
                  rw [← HAT.out, List.getD, atFs_get, List.getElem?_eq_getElem h]
                  simp
                rw [h5] at h4
                exact ⟨g, h1, h2, h4⟩
              have hfin : n < fs.length → ∃ g, b6 = some ⟨g, 0, none⟩ ∧ g < w3.heap.size ∧ w3.cell? ⟨g, n, none⟩ = some (.int .i64 (lenF fs (n + 1) : Nat)) ∧ ¬ ((lenF fs (n + 1) : Nat) : Int) ≤ (kk : Int) := by
                intro h
                obtain ⟨g, h1, h2, h3⟩ := hR6c n (by have := HEE.out; omega)
                rw [HGE.out n h] at h3
                exact ⟨g, h1, h2, h3, fun h' => hstep ⟨h, by omega⟩⟩
              obtain ⟨L, hL⟩ : ∃ L, lenF fs n = L := ⟨_, rfl⟩
              obtain ⟨M, hM⟩ : ∃ M, lenF fs (n + 1) = M := ⟨_, rfl⟩
              have hLM : n = fs.length → L = kk := by
                intro e
                rw [← hL, e, hal]
                have := hle
                rw [e, hal] at this
                omega
              rw [hL] at hfc hx0 hx1 hcellp hcella hle
              rw [hM] at hfin
              clear hal hstep hL hM hR6c hR7c
              have HFC := Lib.hid hfc
              have HX0 := Lib.hid hx0
              have HX1 := Lib.hid hx1
              have HCP := Lib.hid hcellp
              have HCA := Lib.hid hcella
              have HFI := Lib.hid hfin
              have HLM := Lib.hid hLM
              have HKF2 := Lib.hid KF2
              clear hfc hx0 hx1 hcellp hcella hfin hLM KF2 HKF HKS HSL HGE HAT HE7 HEE HMO
              have hcase : (L = kk ∧ n = 0) ∨ (L = kk ∧ 0 < n) ∨ (L ≠ kk ∧ n = 0) ∨ (L ≠ kk ∧ 0 < n) := by omega
              by_cases hend : n < fs.length
              · obtain ⟨g, rfl, hg1, hg2, hg3⟩ := HFI.out hend
                rcases hcase with ⟨he, hn0⟩ | ⟨he, hn0⟩ | ⟨he, hn0⟩ | ⟨he, hn0⟩
                · subst he
                  have HD := Lib.hid (HFC.out.1 rfl)
                  have K2 := HKF2.out
                  rw [HD.out] at K2
                  have K3 : ∀ W : World, Calls Try.prog 28 #[.string (sb.extract 0 L)] W fun e W' => ∃ v, e = .returned (.tuple #[v, .agg #[.int .i64 0, .int .i64 0, .string ⟨#[]⟩]]) ∧ Below W.heap.size W W' := fun W => (K2 W).mono fun e W' ⟨v, h1, _, h2⟩ => ⟨v, h1, h2⟩
                  have HK3 := Lib.hid K3
                  have hL0 := HX0.out hn0
                  have hLz : (L : Int) = 0 := by omega
                  have hn1 : ¬ 0 < (n : Int) := by omega
                  clear hn0
                  clear K2 K3 HKF2 HFC HX0 HX1 HLM HFI
                  have HLZ := Lib.hid hLz
                  clear hLz hL0
                  go_wp2_with fail
                  refine (HK3.out _).mono ?_
                  rintro e w4 ⟨v, rfl, hB4⟩
                  clear hg1 hg2 hg3
                  have hB5 := hB4.alloc hB4.size (.cells #[.int .i64 0, .int .i64 0, .string ⟨#[]⟩] 47)
                  have hLz := HLZ.out
                  go_wp2_with fail
                  go_quiet (fail)
                  go_wp2
                  go_ret
                  exact ⟨rfl, below_drewN (q3.trans (hB5.mono q3.size)) _⟩
                · subst he
                  have HD := Lib.hid (HFC.out.1 rfl)
                  have K2 := HKF2.out
                  rw [HD.out] at K2
                  have K3 : ∀ W : World, Calls Try.prog 28 #[.string (sb.extract 0 L)] W fun e W' => ∃ v, e = .returned (.tuple #[v, .agg #[.int .i64 0, .int .i64 0, .string ⟨#[]⟩]]) ∧ Below W.heap.size W W' := fun W => (K2 W).mono fun e W' ⟨v, h1, _, h2⟩ => ⟨v, h1, h2⟩
                  have HK3 := Lib.hid K3
                  have hL1 := HX1.out hn0
                  have hn1 : 0 < (n : Int) := by omega
                  clear K2 K3 HKF2 HFC HX0 HX1 HLM HFI
                  go_wp2_with fail
                  refine (HK3.out _).mono ?_
                  rintro e w4 ⟨v, rfl, hB4⟩
                  clear hg1 hg2 hg3
                  have hB5 := hB4.alloc hB4.size (.cells #[.int .i64 0, .int .i64 0, .string ⟨#[]⟩] 47)
                  obtain ⟨g4, hgg, hg4, hg5⟩ := HCP.out _ hB5 hn0
                  simp only [Option.some.injEq, Addr.mk.injEq, and_true] at hgg
                  subst hgg
                  go_wp2_with fail
                  go_quiet (fail)
                  go_wp2
                  go_ret
                  exact ⟨rfl, below_drewN (q3.trans (hB5.mono q3.size)) _⟩
                · have HD := Lib.hid (HFC.out.2 he).2
                  have K2 := HKF2.out
                  rw [HD.out] at K2
                  have K3 : ∀ W : World, Calls Try.prog 28 #[.string (sb.extract 0 kk)] W fun e W' => ∃ v, e = .returned (.tuple #[v, .agg #[.int .i64 10, .int .i64 L, .string ⟨#[102, 105, 101, 108, 100]⟩]]) ∧ Below W.heap.size W W' := fun W => (K2 W).mono fun e W' ⟨v, h1, _, h2⟩ => ⟨v, h1, h2⟩
                  have HK3 := Lib.hid K3
                  have hL0 := HX0.out hn0
                  have hk0 : ((kk : Int) == 0) = false := beq_eq_false_iff_ne.2 (by omega)
                  have hk1 : ¬ (kk : Int) = 0 := by omega
                  have hn1 : ¬ 0 < (n : Int) := by omega
                  clear hn0
                  clear K2 K3 HKF2 HFC HX0 HX1 HLM HFI
                  clear hL0
                  go_wp2_with fail
                  refine (HK3.out _).mono ?_
                  rintro e w4 ⟨v, rfl, hB4⟩
                  clear hg1 hg2 hg3
                  have hB5 := hB4.alloc hB4.size (.cells #[.int .i64 10, .int .i64 L, .string ⟨#[102, 105, 101, 108, 100]⟩] 47)
                  obtain ⟨g7, rfl, hg7, hg8⟩ := HCA.out _ hB5 hend
                  go_wp2_with fail
                  go_quiet (fail)
                  go_wp2
                  go_ret
                  exact ⟨rfl, below_drewN (q3.trans (hB5.mono q3.size)) _⟩
                · have HD := Lib.hid (HFC.out.2 he).2
                  have K2 := HKF2.out
                  rw [HD.out] at K2
                  have K3 : ∀ W : World, Calls Try.prog 28 #[.string (sb.extract 0 kk)] W fun e W' => ∃ v, e = .returned (.tuple #[v, .agg #[.int .i64 10, .int .i64 L, .string ⟨#[102, 105, 101, 108, 100]⟩]]) ∧ Below W.heap.size W W' := fun W => (K2 W).mono fun e W' ⟨v, h1, _, h2⟩ => ⟨v, h1, h2⟩
                  have HK3 := Lib.hid K3
                  have hL1 := HX1.out hn0
                  have hn1 : 0 < (n : Int) := by omega
                  have hk0 : ((kk : Int) == 0) = false := beq_eq_false_iff_ne.2 (by omega)
                  have hk1 : ¬ (kk : Int) = 0 := by omega
                  have hk2 : ((L : Int) == (kk : Int)) = false := beq_eq_false_iff_ne.2 (by omega)
                  have hk3 : ¬ (L : Int) = (kk : Int) := by omega
                  clear K2 K3 HKF2 HFC HX0 HX1 HLM HFI
                  go_wp2_with fail
                  refine (HK3.out _).mono ?_
                  rintro e w4 ⟨v, rfl, hB4⟩
                  clear hg1 hg2 hg3
                  have hB5 := hB4.alloc hB4.size (.cells #[.int .i64 10, .int .i64 L, .string ⟨#[102, 105, 101, 108, 100]⟩] 47)
                  obtain ⟨g4, hgg, hg4, hg5⟩ := HCP.out _ hB5 hn0
                  simp only [Option.some.injEq, Addr.mk.injEq, and_true] at hgg
                  subst hgg
                  obtain ⟨g7, rfl, hg7, hg8⟩ := HCA.out _ hB5 hend
                  go_wp2_with fail
                  go_quiet (fail)
                  go_wp2
                  go_ret
                  exact ⟨rfl, below_drewN (q3.trans (hB5.mono q3.size)) _⟩
              · have hnn : n = fs.length := by omega
                have hLk := HLM.out hnn
                rcases hcase with ⟨he, hn0⟩ | ⟨he, hn0⟩ | ⟨he, hn0⟩ | ⟨he, hn0⟩
                · clear hnn hLk
                  subst he
                  have HD := Lib.hid (HFC.out.1 rfl)
                  have K2 := HKF2.out
                  rw [HD.out] at K2
                  have K3 : ∀ W : World, Calls Try.prog 28 #[.string (sb.extract 0 L)] W fun e W' => ∃ v, e = .returned (.tuple #[v, .agg #[.int .i64 0, .int .i64 0, .string ⟨#[]⟩]]) ∧ Below W.heap.size W W' := fun W => (K2 W).mono fun e W' ⟨v, h1, _, h2⟩ => ⟨v, h1, h2⟩
                  have HK3 := Lib.hid K3
                  have hL0 := HX0.out hn0
                  have hLz : (L : Int) = 0 := by omega
                  have hn1 : ¬ 0 < (n : Int) := by omega
                  clear hn0
                  clear K2 K3 HKF2 HFC HX0 HX1 HLM HFI
                  have HLZ := Lib.hid hLz
                  clear hLz hL0
                  go_wp2_with fail
                  refine (HK3.out _).mono ?_
                  rintro e w4 ⟨v, rfl, hB4⟩
                  have hB5 := hB4.alloc hB4.size (.cells #[.int .i64 0, .int .i64 0, .string ⟨#[]⟩] 47)
                  have hLz := HLZ.out
                  go_wp2_with fail
                  go_quiet (fail)
                  go_wp2
                  go_ret
                  exact ⟨rfl, below_drewN (q3.trans (hB5.mono q3.size)) _⟩
                · clear hnn hLk
                  subst he
                  have HD := Lib.hid (HFC.out.1 rfl)
                  have K2 := HKF2.out
                  rw [HD.out] at K2
                  have K3 : ∀ W : World, Calls Try.prog 28 #[.string (sb.extract 0 L)] W fun e W' => ∃ v, e = .returned (.tuple #[v, .agg #[.int .i64 0, .int .i64 0, .string ⟨#[]⟩]]) ∧ Below W.heap.size W W' := fun W => (K2 W).mono fun e W' ⟨v, h1, _, h2⟩ => ⟨v, h1, h2⟩
                  have HK3 := Lib.hid K3
                  have hL1 := HX1.out hn0
                  have hn1 : 0 < (n : Int) := by omega
                  clear K2 K3 HKF2 HFC HX0 HX1 HLM HFI
                  go_wp2_with fail
                  refine (HK3.out _).mono ?_
                  rintro e w4 ⟨v, rfl, hB4⟩
                  have hB5 := hB4.alloc hB4.size (.cells #[.int .i64 0, .int .i64 0, .string ⟨#[]⟩] 47)
                  obtain ⟨g4, rfl, hg4, hg5⟩ := HCP.out _ hB5 hn0
                  go_wp2_with fail
                  go_quiet (fail)
                  go_wp2
                  go_ret
                  exact ⟨rfl, below_drewN (q3.trans (hB5.mono q3.size)) _⟩
                · omega
                · omega
        · clear HZ HL hl1 hr6 hr7
          go_wp2_with fail
          go_ret
          exact ⟨rfl, q1⟩
end Go.Proofs.Ytgdnibdahldekab
