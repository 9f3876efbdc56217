/- The walk of the document's own Fields. -/
import Derived.Test.YtgdnibdahldekabProg
import Derived.Test.YtgdnibdahldekabPbW
import Derived.Test.YtgdnibdahldekabPfB
import Derived.Test.YtgdnibdahldekabPfS
import Derived.Test.YtgdnibdahldekabRd
import Derived.Test.YtgdnibdahldekabMem
import Derived.WalkKit
import Derived.ProofKit
import Derived.LoopTactic
import Derived.WalkSpells
import Derived.WalkLawsBesides
import Derived.Lib.Hide
import Derived.Outline
import Derived.Handy
namespace Go.Proofs.Ytgdnibdahldekab
open Go.RowKit
set_option linter.unusedVariables false

theorem slR : SlT Try.prog 50 44 5 48 := SlT.mk Try.underlying50 (z := .agg #[.int .i64 0, .int .i64 0, .int .i64 0, .int .u64 0, .string ⟨#[]⟩]) (by kernel_rfl) rfl (by decide) (by decide)
/-- What the document's own Fields tells. -/
def rfF (l : List UInt8) : List Fld := if 60000 < l.length then [] else (fieldsGo 0 l).1
def endD : Option Nat → Dg
  | none => zeroD
  | some k => wireD k
theorem rf_end {l : List UInt8} {pre : List Fld} {o : Option Nat} (hl : ¬ 60000 < l.length) (h : fieldsGo 0 l = (pre, o)) : rfF l = pre ∧ fieldsD l = endD o := by
  unfold rfF fieldsD
  rw [if_neg hl, if_neg hl]
  have h1 : (fieldsGo 0 l).1 = pre := by rw [h]
  have h2 : (fieldsGo 0 l).2 = o := by rw [h]
  refine ⟨h1, ?_⟩
  rw [h2]
  cases o <;> rfl
theorem str_back (s : ByteArray) : (⟨s.data.toList.toArray⟩ : ByteArray) = s := by cases s; simp
def RfPost (w : World) (l : List UInt8) (e : Ending) (W' : World) : Prop := ∃ v, e = .returned (.tuple #[v, .int .i64 ((fieldsD l).code : Nat), .int .i64 ((fieldsD l).at_ : Nat)]) ∧
      W'.ownsRow w.heap.size 44 5 v (rfF l).length ((rfF l).flatMap fldCells) ∧ Below w.heap.size w W'
theorem rf_fail {w W : World} {l : List UInt8} {pre : List Fld} {k : Nat} {v : Value} (hl : ¬ 60000 < l.length) (h : fieldsGo 0 l = (pre, some k)) (hr : W.ownsRow w.heap.size 44 5 v pre.length (pre.flatMap fldCells)) (hB : Below w.heap.size w W) :
    RfPost w l (.returned (.tuple #[v, .int .i64 10, .int .i64 k])) W := by
  obtain ⟨e1, e2⟩ := rf_end hl h
  unfold RfPost
  rw [e1, e2]
  exact ⟨v, rfl, hr, hB⟩

set_option maxRecDepth 200000 in
set_option maxHeartbeats 6400000 in
theorem refFields_any (s : ByteArray) (hs : s.size ≤ 9223372036854775807) (w : World) :
    Calls Try.prog 29 #[.string s] w (RfPost w s.data.toList) := by
  have hls : s.data.toList.length = s.size := by simp
  by_cases hlim : 60000 < s.size
  · have e1 : rfF s.data.toList = [] := by unfold rfF; rw [if_pos (by omega)]
    have e2 : fieldsD s.data.toList = limD := by unfold fieldsD; rw [if_pos (by omega)]
    have HP : RfPost w s.data.toList (.returned (.tuple #[.slice none 0 0, .int .i64 2, .int .i64 0])) w := by
      unfold RfPost; rw [e1, e2]; exact ⟨_, rfl, World.ownsRow_nil _ _ _ _, Below.refl _ _⟩
    have HPP := Lib.hid HP
    clear e1 e2 HP hls
    go_enter Try.func29, Try.ntmps29
    go_wp2
    go_ret3
    exact HPP.out
  · have hll : ¬ 60000 < s.data.toList.length := by omega
    have HLL := Lib.hid hll
    have hlim' : s.size ≤ 60000 := by omega
    clear hll hlim hs
    have HLS := Lib.hid hls
    clear hls
    go_enter Try.func29, Try.ntmps29
    go_wp2
    go_loopw [5, 6] (fun b p wr => ∃ (k : Nat) (pre : List Fld), p = .int .i64 k ∧ k ≤ s.size ∧ pre.length ≤ k ∧ fieldsGo 0 s.data.toList = (pre ++ (fieldsGo k (s.data.toList.drop k)).1, (fieldsGo k (s.data.toList.drop k)).2) ∧
        wr.ownsRow w.heap.size 44 5 b pre.length (pre.flatMap fldCells) ∧ Below w.heap.size w wr ∧ w.heap.size ≤ wr.heap.size)
      (fun _ p _ => s.size - (intOf p).toNat)
    case atStart => exact ⟨0, [], rfl, by omega, by simp, by rw [List.drop_zero]; rfl, World.ownsRow_nil _ _ _ _, Below.refl _ _, Nat.le_refl _⟩
    case round =>
      obtain ⟨k, pre, rfl, hk, hpk, h, hown, hB, hsz⟩ := hrel
      have H := Lib.hid h
      clear h
      by_cases hlt : k < s.size
      · have hne : s.data.toList.drop k ≠ [] := fun e => by have := congrArg List.length e; rw [List.length_drop, HLS.out] at this; simp at this; omega
        have hX : (s.extract k s.size).data.toList = s.data.toList.drop k := extract_drop s k
        have hXl : (s.data.toList.drop k).length = s.size - k := by rw [List.length_drop, HLS.out]
        have hes : (s.extract k s.size).size ≤ 9223372036854775807 := by simp; omega
        have hfail : oneL (s.data.toList.drop k) = none → fieldsGo 0 s.data.toList = (pre, some k) := fun e => by rw [H.out, fieldsGo_none hne e]; simp
        have hgood : ∀ f m, oneL (s.data.toList.drop k) = some (f, m) → m ≤ s.size - k ∧ fieldsGo 0 s.data.toList = ((pre ++ [{ f with at_ := k }]) ++ (fieldsGo (k + m) (s.data.toList.drop (k + m))).1, (fieldsGo (k + m) (s.data.toList.drop (k + m))).2) := fun f m e => by
          have hb := oneL_bd e
          refine ⟨by omega, ?_⟩
          rw [H.out, fieldsGo_some e, List.drop_drop]; simp
        have HF := Lib.hid hfail
        have HG := Lib.hid hgood
        have HXL := Lib.hid hXl
        clear hfail hgood
        cases hg : gvar (s.data.toList.drop k) with
        | none =>
          have hone := HF.out (oneL_none hg)
          have HV := Lib.hid (fun w => refGetVarint_none (s.extract k s.size) hes (by rw [hX]; exact hg) w)
          have HO := Lib.hid hone
          clear hg hone hne hX hXl hes
          go_wp2_with fail
          refine (HV.out _).mono ?_
          rintro e w' ⟨rfl, rfl⟩
          go_wp2
          go_ret3
          exact rf_fail (v := u5) (k := k) HLL.out HO.out (hown.alloc _) (hB.alloc hsz _)
        | some p =>
          obtain ⟨tag, n⟩ := p
          have hb := gvar_bd hg
          have hv := gvar_val hg
          rw [hXl] at hb
          have HV := Lib.hid (fun w => refGetVarint_some (s.extract k s.size) tag n hes (by rw [hX]; exact hg) w)
          have HGV := Lib.hid hg
          have HTV := Lib.hid hv
          have hXd : (s.data.toList.drop k).drop n = s.data.toList.drop (k + n) := by rw [List.drop_drop]
          have HXD := Lib.hid hXd
          have hX2 : (s.extract (k + n) s.size).data.toList = (s.data.toList.drop k).drop n := by rw [extract_drop, hXd]
          have HX2 := Lib.hid hX2
          have hes2 : (s.extract (k + n) s.size).size ≤ 9223372036854775807 := by simp; omega
          have HES2 := Lib.hid hes2
          obtain ⟨q, hq⟩ : ∃ q : Nat, tag / 8 = q := ⟨_, rfl⟩
          have hqi : (tag : Int) / 8 = (q : Int) := by omega
          have hq2 : q < 2305843009213693952 := by omega
          have HQ := Lib.hid hq
          have HQI := Lib.hid hqi
          have HQ2 := Lib.hid hq2
          clear hg hv hne hX hXl hes hXd hX2 hes2 hq hqi hq2
          by_cases hbad : q < 1 ∨ 536870911 < q
          · have HO := Lib.hid (HF.out (oneL_bad HGV.out (by rw [HQ.out]; exact hbad)))
            have hqi := HQI.out
            have hqn : (q : Int) < 2305843009213693952 := by have := HQ2.out; omega
            rcases hbad with hbad | hbad
            · have hb1 : (q : Int) < 1 := by omega
              clear hbad
              go_wp2_with fail
              refine (HV.out _).mono ?_
              rintro e w' ⟨rfl, rfl⟩
              go_wp2
              go_ret3
              exact rf_fail (v := u5) (k := k) HLL.out HO.out (hown.alloc _) (hB.alloc hsz _)
            · have hb1 : ¬ (q : Int) < 1 := by omega
              have hb2 : 536870911 < (q : Int) := by omega
              clear hbad
              go_wp2_with fail
              refine (HV.out _).mono ?_
              rintro e w' ⟨rfl, rfl⟩
              go_wp2
              go_ret3
              exact rf_fail (v := u5) (k := k) HLL.out HO.out (hown.alloc _) (hB.alloc hsz _)
          · have hnb : ¬ (tag / 8 < 1 ∨ 536870911 < tag / 8) := by rw [HQ.out]; exact hbad
            have HNB := Lib.hid hnb
            have hb1 : 1 ≤ (q : Int) := by omega
            have hb2 : (q : Int) ≤ 536870911 := by omega
            have hqi := HQI.out
            clear hnb hbad
            by_cases a0 : tag % 8 = 0
            · have hmi : (tag : Int) % 8 = 0 := by omega
              cases h3 : gvar ((s.data.toList.drop k).drop n) with
              | none =>
                have HO := Lib.hid (HF.out (oneL_v0 HGV.out HNB.out a0 h3))
                have HV2 := Lib.hid (fun w => refGetVarint_none (s.extract (k + n) s.size) HES2.out (by rw [HX2.out]; exact h3) w)
                clear h3 a0
                go_wp2_with fail
                refine (HV.out _).mono ?_
                rintro e w' ⟨rfl, rfl⟩
                go_wp2_with fail
                all_goals try (exfalso; omega)
                refine (HV2.out _).mono ?_
                rintro e w' ⟨rfl, rfl⟩
                go_wp2
                go_ret3
                exact rf_fail (v := u5) (k := k) HLL.out HO.out (hown.alloc _) (hB.alloc hsz _)
              | some p =>
                obtain ⟨v, m⟩ := p
                have HO := Lib.hid (HQ.out ▸ oneL_v1 HGV.out HNB.out a0 h3 : oneL (s.data.toList.drop k) = some (⟨q, 0, 0, v, []⟩, n + m))
                have hvb := gvar_bd h3
                have HV2 := Lib.hid (fun w => refGetVarint_some (s.extract (k + n) s.size) v m HES2.out (by rw [HX2.out]; exact h3) w)
                rw [List.length_drop, HXL.out] at hvb
                clear h3 a0
                have S1 : w.heap.size ≤ (wr.alloc (.cells #[.int .i64 q, .int .i64 0, .int .i64 k, .int .u64 v, .string ⟨#[]⟩] 44)).heap.size := by rw [World.size_alloc]; omega
                have B2 := (hB.alloc hsz (.cells #[.int .i64 q, .int .i64 0, .int .i64 k, .int .u64 v, .string ⟨#[]⟩] 44)).alloc S1 (.cells #[.int .i64 q, .int .i64 0, .int .i64 k, .int .u64 v, .string ⟨#[]⟩] 44)
                have S2 : w.heap.size ≤ ((wr.alloc (.cells #[.int .i64 q, .int .i64 0, .int .i64 k, .int .u64 v, .string ⟨#[]⟩] 44)).alloc (.cells #[.int .i64 q, .int .i64 0, .int .i64 k, .int .u64 v, .string ⟨#[]⟩] 44)).heap.size := by rw [World.size_alloc, World.size_alloc]; omega
                have O2 := (hown.alloc (.cells #[.int .i64 q, .int .i64 0, .int .i64 k, .int .u64 v, .string ⟨#[]⟩] 44)).alloc (.cells #[.int .i64 q, .int .i64 0, .int .i64 k, .int .u64 v, .string ⟨#[]⟩] 44)
                have N2 := news_blk (BlkAt.new (wr.alloc (.cells #[.int .i64 q, .int .i64 0, .int .i64 k, .int .u64 v, .string ⟨#[]⟩] 44)) 44 #[.int .i64 q, .int .i64 0, .int .i64 k, .int .u64 v, .string ⟨#[]⟩])
                rw [World.size_alloc] at N2
                have L2 : (pre.length + 1) * 48 ≤ 140737488355328 := by omega
                have HN2 := Lib.hid N2
                clear N2 S1
                go_wp2_with fail
                refine (HV.out _).mono ?_
                rintro e w' ⟨rfl, rfl⟩
                go_wp2_with fail
                all_goals try (exfalso; omega)
                refine (HV2.out _).mono ?_
                rintro e w' ⟨rfl, rfl⟩
                go_wp2_with (at_builtin; refine wpList_app _ rfl _ _ _ _ _ _ slR rfl w.heap.size w B2 S2 _ _ _ rfl O2 ⟨wr.heap.size + 1, 0, none⟩ [.int .i64 q, .int .i64 0, .int .i64 k, .int .u64 v, .string ⟨#[]⟩] rfl rfl HN2.out ?c1 L2 ?_)
                case c1 => intro u hu; simp at hu; rcases hu with rfl | rfl | rfl | rfl | rfl <;> rfl
                intro v' w3 hown3 hB3 hsz3 _
                go_wp2_with fail
                go_roundw
                case rel =>
                  obtain ⟨g1, g2⟩ := HG.out (⟨q, 0, 0, v, []⟩ : Fld) (n + m) HO.out
                  refine ⟨k + (n + m), pre ++ [{ (⟨q, 0, 0, v, []⟩ : Fld) with at_ := k }], by (congr 1; try omega), by omega, by (rw [List.length_append]; simp; try omega), g2, ?_, hB3, hsz3⟩
                  rw [List.length_append, List.flatMap_append]
                  have hc : ([{ (⟨q, 0, 0, v, []⟩ : Fld) with at_ := k }] : List Fld).flatMap fldCells = [.int .i64 q, .int .i64 0, .int .i64 k, .int .u64 v, .string ⟨#[]⟩] := by simp
                  rw [hc]
                  exact hown3
                case measure => simp [intOf]; omega
            by_cases a1 : tag % 8 = 1
            · have hmi : (tag : Int) % 8 = 1 := by omega
              by_cases h3 : s.size < k + n + 8
              · have HO := Lib.hid (HF.out (oneL_f8n HGV.out HNB.out a1 (by rw [HXL.out]; omega)))
                have hdec : decide ((8 : Int) ≤ (s.size : Int) - ((k : Int) + (n : Int))) = false := decide_eq_false (by omega)
                clear a1 a0
                go_wp2_with fail
                refine (HV.out _).mono ?_
                rintro e w' ⟨rfl, rfl⟩
                go_wp2
                go_ret3
                exact rf_fail (v := u5) (k := k) HLL.out HO.out (hown.alloc _) (hB.alloc hsz _)
              · have HO := Lib.hid (HQ.out ▸ oneL_f8 HGV.out HNB.out a1 (by rw [HXL.out]; omega) : oneL (s.data.toList.drop k) = some (⟨q, 1, 0, leN (((s.data.toList.drop k).drop n).take 8), []⟩, n + 8))
                have hli : (s.extract (k + n) (k + n + 8)).data.toList = ((s.data.toList.drop k).drop n).take 8 := by rw [extract_list, HXD.out, show k + n + 8 - (k + n) = 8 by omega]
                obtain ⟨vv, hvv⟩ : ∃ vv, leN (((s.data.toList.drop k).drop n).take 8) = vv := ⟨_, rfl⟩
                have HV2 := Lib.hid (fun w => refLit_any (s.extract (k + n) (k + n + 8)) (by simp; omega) w)
                rw [hli, hvv] at HV2
                rw [hvv] at HO
                have hdec : decide ((8 : Int) ≤ (s.size : Int) - ((k : Int) + (n : Int))) = true := decide_eq_true (by omega)
                clear hli hvv a1 a0
                have S1 : w.heap.size ≤ (wr.alloc (.cells #[.int .i64 q, .int .i64 1, .int .i64 k, .int .u64 vv, .string ⟨#[]⟩] 44)).heap.size := by rw [World.size_alloc]; omega
                have B2 := (hB.alloc hsz (.cells #[.int .i64 q, .int .i64 1, .int .i64 k, .int .u64 vv, .string ⟨#[]⟩] 44)).alloc S1 (.cells #[.int .i64 q, .int .i64 1, .int .i64 k, .int .u64 vv, .string ⟨#[]⟩] 44)
                have S2 : w.heap.size ≤ ((wr.alloc (.cells #[.int .i64 q, .int .i64 1, .int .i64 k, .int .u64 vv, .string ⟨#[]⟩] 44)).alloc (.cells #[.int .i64 q, .int .i64 1, .int .i64 k, .int .u64 vv, .string ⟨#[]⟩] 44)).heap.size := by rw [World.size_alloc, World.size_alloc]; omega
                have O2 := (hown.alloc (.cells #[.int .i64 q, .int .i64 1, .int .i64 k, .int .u64 vv, .string ⟨#[]⟩] 44)).alloc (.cells #[.int .i64 q, .int .i64 1, .int .i64 k, .int .u64 vv, .string ⟨#[]⟩] 44)
                have N2 := news_blk (BlkAt.new (wr.alloc (.cells #[.int .i64 q, .int .i64 1, .int .i64 k, .int .u64 vv, .string ⟨#[]⟩] 44)) 44 #[.int .i64 q, .int .i64 1, .int .i64 k, .int .u64 vv, .string ⟨#[]⟩])
                rw [World.size_alloc] at N2
                have L2 : (pre.length + 1) * 48 ≤ 140737488355328 := by omega
                have HN2 := Lib.hid N2
                clear N2 S1
                go_wp2_with fail
                refine (HV.out _).mono ?_
                rintro e w' ⟨rfl, rfl⟩
                go_wp2_with fail
                all_goals try (exfalso; omega)
                refine (HV2.out _).mono ?_
                rintro e w' ⟨rfl, rfl⟩
                go_wp2_with (at_builtin; refine wpList_app _ rfl _ _ _ _ _ _ slR rfl w.heap.size w B2 S2 _ _ _ rfl O2 ⟨wr.heap.size + 1, 0, none⟩ [.int .i64 q, .int .i64 1, .int .i64 k, .int .u64 vv, .string ⟨#[]⟩] rfl rfl HN2.out ?c1 L2 ?_)
                case c1 => intro u hu; simp at hu; rcases hu with rfl | rfl | rfl | rfl | rfl <;> rfl
                intro v' w3 hown3 hB3 hsz3 _
                go_wp2_with fail
                go_roundw
                case rel =>
                  obtain ⟨g1, g2⟩ := HG.out (⟨q, 1, 0, vv, []⟩ : Fld) (n + 8) HO.out
                  refine ⟨k + (n + 8), pre ++ [{ (⟨q, 1, 0, vv, []⟩ : Fld) with at_ := k }], by (congr 1; try omega), by omega, by (rw [List.length_append]; simp; try omega), g2, ?_, hB3, hsz3⟩
                  rw [List.length_append, List.flatMap_append]
                  have hc : ([{ (⟨q, 1, 0, vv, []⟩ : Fld) with at_ := k }] : List Fld).flatMap fldCells = [.int .i64 q, .int .i64 1, .int .i64 k, .int .u64 vv, .string ⟨#[]⟩] := by simp
                  rw [hc]
                  exact hown3
                case measure => simp [intOf]; omega
            by_cases a5 : tag % 8 = 5
            · have hmi : (tag : Int) % 8 = 5 := by omega
              by_cases h3 : s.size < k + n + 4
              · have HO := Lib.hid (HF.out (oneL_f4n HGV.out HNB.out a5 (by rw [HXL.out]; omega)))
                have hdec : decide ((4 : Int) ≤ (s.size : Int) - ((k : Int) + (n : Int))) = false := decide_eq_false (by omega)
                clear a5 a0 a1
                go_wp2_with fail
                refine (HV.out _).mono ?_
                rintro e w' ⟨rfl, rfl⟩
                go_wp2
                go_ret3
                exact rf_fail (v := u5) (k := k) HLL.out HO.out (hown.alloc _) (hB.alloc hsz _)
              · have HO := Lib.hid (HQ.out ▸ oneL_f4 HGV.out HNB.out a5 (by rw [HXL.out]; omega) : oneL (s.data.toList.drop k) = some (⟨q, 5, 0, leN (((s.data.toList.drop k).drop n).take 4), []⟩, n + 4))
                have hli : (s.extract (k + n) (k + n + 4)).data.toList = ((s.data.toList.drop k).drop n).take 4 := by rw [extract_list, HXD.out, show k + n + 4 - (k + n) = 4 by omega]
                obtain ⟨vv, hvv⟩ : ∃ vv, leN (((s.data.toList.drop k).drop n).take 4) = vv := ⟨_, rfl⟩
                have HV2 := Lib.hid (fun w => refLit_any (s.extract (k + n) (k + n + 4)) (by simp; omega) w)
                rw [hli, hvv] at HV2
                rw [hvv] at HO
                have hdec : decide ((4 : Int) ≤ (s.size : Int) - ((k : Int) + (n : Int))) = true := decide_eq_true (by omega)
                clear hli hvv a5 a0 a1
                have S1 : w.heap.size ≤ (wr.alloc (.cells #[.int .i64 q, .int .i64 5, .int .i64 k, .int .u64 vv, .string ⟨#[]⟩] 44)).heap.size := by rw [World.size_alloc]; omega
                have B2 := (hB.alloc hsz (.cells #[.int .i64 q, .int .i64 5, .int .i64 k, .int .u64 vv, .string ⟨#[]⟩] 44)).alloc S1 (.cells #[.int .i64 q, .int .i64 5, .int .i64 k, .int .u64 vv, .string ⟨#[]⟩] 44)
                have S2 : w.heap.size ≤ ((wr.alloc (.cells #[.int .i64 q, .int .i64 5, .int .i64 k, .int .u64 vv, .string ⟨#[]⟩] 44)).alloc (.cells #[.int .i64 q, .int .i64 5, .int .i64 k, .int .u64 vv, .string ⟨#[]⟩] 44)).heap.size := by rw [World.size_alloc, World.size_alloc]; omega
                have O2 := (hown.alloc (.cells #[.int .i64 q, .int .i64 5, .int .i64 k, .int .u64 vv, .string ⟨#[]⟩] 44)).alloc (.cells #[.int .i64 q, .int .i64 5, .int .i64 k, .int .u64 vv, .string ⟨#[]⟩] 44)
                have N2 := news_blk (BlkAt.new (wr.alloc (.cells #[.int .i64 q, .int .i64 5, .int .i64 k, .int .u64 vv, .string ⟨#[]⟩] 44)) 44 #[.int .i64 q, .int .i64 5, .int .i64 k, .int .u64 vv, .string ⟨#[]⟩])
                rw [World.size_alloc] at N2
                have L2 : (pre.length + 1) * 48 ≤ 140737488355328 := by omega
                have HN2 := Lib.hid N2
                clear N2 S1
                go_wp2_with fail
                refine (HV.out _).mono ?_
                rintro e w' ⟨rfl, rfl⟩
                go_wp2_with fail
                all_goals try (exfalso; omega)
                refine (HV2.out _).mono ?_
                rintro e w' ⟨rfl, rfl⟩
                go_wp2_with (at_builtin; refine wpList_app _ rfl _ _ _ _ _ _ slR rfl w.heap.size w B2 S2 _ _ _ rfl O2 ⟨wr.heap.size + 1, 0, none⟩ [.int .i64 q, .int .i64 5, .int .i64 k, .int .u64 vv, .string ⟨#[]⟩] rfl rfl HN2.out ?c1 L2 ?_)
                case c1 => intro u hu; simp at hu; rcases hu with rfl | rfl | rfl | rfl | rfl <;> rfl
                intro v' w3 hown3 hB3 hsz3 _
                go_wp2_with fail
                go_roundw
                case rel =>
                  obtain ⟨g1, g2⟩ := HG.out (⟨q, 5, 0, vv, []⟩ : Fld) (n + 4) HO.out
                  refine ⟨k + (n + 4), pre ++ [{ (⟨q, 5, 0, vv, []⟩ : Fld) with at_ := k }], by (congr 1; try omega), by omega, by (rw [List.length_append]; simp; try omega), g2, ?_, hB3, hsz3⟩
                  rw [List.length_append, List.flatMap_append]
                  have hc : ([{ (⟨q, 5, 0, vv, []⟩ : Fld) with at_ := k }] : List Fld).flatMap fldCells = [.int .i64 q, .int .i64 5, .int .i64 k, .int .u64 vv, .string ⟨#[]⟩] := by simp
                  rw [hc]
                  exact hown3
                case measure => simp [intOf]; omega
            by_cases a2 : tag % 8 = 2
            · have hmi : (tag : Int) % 8 = 2 := by omega
              cases h3 : gvar ((s.data.toList.drop k).drop n) with
              | none =>
                have HO := Lib.hid (HF.out (oneL_b0 HGV.out HNB.out a2 h3))
                have HV2 := Lib.hid (fun w => refGetVarint_none (s.extract (k + n) s.size) HES2.out (by rw [HX2.out]; exact h3) w)
                clear h3 a0 a1 a5 a2
                go_wp2_with fail
                refine (HV.out _).mono ?_
                rintro e w' ⟨rfl, rfl⟩
                go_wp2_with fail
                all_goals try (exfalso; omega)
                refine (HV2.out _).mono ?_
                rintro e w' ⟨rfl, rfl⟩
                go_wp2
                go_ret3
                exact rf_fail (v := u5) (k := k) HLL.out HO.out (hown.alloc _) (hB.alloc hsz _)
              | some p =>
                obtain ⟨v, m⟩ := p
                have hvb := gvar_bd h3
                have hvv := gvar_val h3
                have HV2 := Lib.hid (fun w => refGetVarint_some (s.extract (k + n) s.size) v m HES2.out (by rw [HX2.out]; exact h3) w)
                rw [List.length_drop, HXL.out] at hvb
                have HVV := Lib.hid hvv
                clear hvv
                by_cases h4 : s.size < k + n + m + v
                · have HO := Lib.hid (HF.out (oneL_b1 HGV.out HNB.out a2 h3 (by rw [HXL.out]; omega)))
                  have hdec : decide ((v : Int) ≤ (s.size : Int) - ((k : Int) + (n : Int)) - (m : Int)) = false := decide_eq_false (by omega)
                  clear h3 h4 a0 a1 a5 a2
                  go_wp2_with fail
                  refine (HV.out _).mono ?_
                  rintro e w' ⟨rfl, rfl⟩
                  go_wp2_with fail
                  all_goals try (exfalso; omega)
                  refine (HV2.out _).mono ?_
                  rintro e w' ⟨rfl, rfl⟩
                  go_wp2
                  go_ret3
                  exact rf_fail (v := u5) (k := k) HLL.out HO.out (hown.alloc _) (hB.alloc hsz _)
                · have HO := Lib.hid (HQ.out ▸ oneL_b2 HGV.out HNB.out a2 h3 (by rw [HXL.out]; omega) : oneL (s.data.toList.drop k) = some (⟨q, 2, 0, 0, ((s.data.toList.drop k).drop (n + m)).take v⟩, n + m + v))
                  have hli : (s.extract (k + n + m) (k + n + m + v)).data.toList = ((s.data.toList.drop k).drop (n + m)).take v := by rw [extract_list, List.drop_drop, show k + n + m + v - (k + n + m) = v by omega, Nat.add_assoc]
                  rw [← hli] at HO
                  have hsd := str_back (s.extract (k + n + m) (k + n + m + v))
                  have HSD := Lib.hid hsd
                  have hdec : decide ((v : Int) ≤ (s.size : Int) - ((k : Int) + (n : Int)) - (m : Int)) = true := decide_eq_true (by omega)
                  clear h3 hli hsd a0 a1 a5 a2
                  have S1 : w.heap.size ≤ (wr.alloc (.cells #[.int .i64 q, .int .i64 2, .int .i64 k, .int .u64 0, .string (s.extract (k + n + m) (k + n + m + v))] 44)).heap.size := by rw [World.size_alloc]; omega
                  have B2 := (hB.alloc hsz (.cells #[.int .i64 q, .int .i64 2, .int .i64 k, .int .u64 0, .string (s.extract (k + n + m) (k + n + m + v))] 44)).alloc S1 (.cells #[.int .i64 q, .int .i64 2, .int .i64 k, .int .u64 0, .string (s.extract (k + n + m) (k + n + m + v))] 44)
                  have S2 : w.heap.size ≤ ((wr.alloc (.cells #[.int .i64 q, .int .i64 2, .int .i64 k, .int .u64 0, .string (s.extract (k + n + m) (k + n + m + v))] 44)).alloc (.cells #[.int .i64 q, .int .i64 2, .int .i64 k, .int .u64 0, .string (s.extract (k + n + m) (k + n + m + v))] 44)).heap.size := by rw [World.size_alloc, World.size_alloc]; omega
                  have O2 := (hown.alloc (.cells #[.int .i64 q, .int .i64 2, .int .i64 k, .int .u64 0, .string (s.extract (k + n + m) (k + n + m + v))] 44)).alloc (.cells #[.int .i64 q, .int .i64 2, .int .i64 k, .int .u64 0, .string (s.extract (k + n + m) (k + n + m + v))] 44)
                  have N2 := news_blk (BlkAt.new (wr.alloc (.cells #[.int .i64 q, .int .i64 2, .int .i64 k, .int .u64 0, .string (s.extract (k + n + m) (k + n + m + v))] 44)) 44 #[.int .i64 q, .int .i64 2, .int .i64 k, .int .u64 0, .string (s.extract (k + n + m) (k + n + m + v))])
                  rw [World.size_alloc] at N2
                  have L2 : (pre.length + 1) * 48 ≤ 140737488355328 := by omega
                  have HN2 := Lib.hid N2
                  clear N2 S1
                  go_wp2_with fail
                  refine (HV.out _).mono ?_
                  rintro e w' ⟨rfl, rfl⟩
                  go_wp2_with fail
                  all_goals try (exfalso; omega)
                  refine (HV2.out _).mono ?_
                  rintro e w' ⟨rfl, rfl⟩
                  go_wp2_with (at_builtin; refine wpList_app _ rfl _ _ _ _ _ _ slR rfl w.heap.size w B2 S2 _ _ _ rfl O2 ⟨wr.heap.size + 1, 0, none⟩ [.int .i64 q, .int .i64 2, .int .i64 k, .int .u64 0, .string (s.extract (k + n + m) (k + n + m + v))] rfl rfl HN2.out ?c1 L2 ?_)
                  case c1 => intro u hu; simp at hu; rcases hu with rfl | rfl | rfl | rfl | rfl <;> rfl
                  intro v' w3 hown3 hB3 hsz3 _
                  go_wp2_with fail
                  go_roundw
                  case rel =>
                    obtain ⟨g1, g2⟩ := HG.out (⟨q, 2, 0, 0, (s.extract (k + n + m) (k + n + m + v)).data.toList⟩ : Fld) (n + m + v) HO.out
                    refine ⟨k + (n + m + v), pre ++ [{ (⟨q, 2, 0, 0, (s.extract (k + n + m) (k + n + m + v)).data.toList⟩ : Fld) with at_ := k }], by (congr 1; try omega), by omega, by (rw [List.length_append]; simp; try omega), g2, ?_, hB3, hsz3⟩
                    rw [List.length_append, List.flatMap_append]
                    have hc : ([{ (⟨q, 2, 0, 0, (s.extract (k + n + m) (k + n + m + v)).data.toList⟩ : Fld) with at_ := k }] : List Fld).flatMap fldCells = [.int .i64 q, .int .i64 2, .int .i64 k, .int .u64 0, .string (s.extract (k + n + m) (k + n + m + v))] := by simp only [fldCells, List.flatMap_cons, List.flatMap_nil, List.append_nil]; exact congrArg (fun z => [Value.int .i64 q, .int .i64 2, .int .i64 k, .int .u64 0, .string z]) (str_back _)
                    rw [hc]
                    exact hown3
                  case measure => simp [intOf]; omega
            · have HO := Lib.hid (HF.out (oneL_else HGV.out a0 a1 a5 a2))
              obtain ⟨t8, ht8⟩ : ∃ t8 : Int, (tag : Int) % 8 = t8 := ⟨_, rfl⟩
              have b0 : ¬ t8 = 0 := by omega
              have b1 : ¬ t8 = 1 := by omega
              have b2 : ¬ t8 = 2 := by omega
              have b5 : ¬ t8 = 5 := by omega
              have b6 : 0 ≤ t8 := by omega
              have b7 : t8 < 8 := by omega
              clear a0 a1 a5 a2
              go_wp2_with fail
              refine (HV.out _).mono ?_
              rintro e w' ⟨rfl, rfl⟩
              go_wp2
              go_ret3
              exact rf_fail (v := u5) (k := k) HLL.out HO.out (hown.alloc _) (hB.alloc hsz _)
      · obtain rfl : k = s.size := by omega
        have hfin : fieldsGo 0 s.data.toList = (pre, none) := by rw [H.out, List.drop_eq_nil_of_le (by rw [HLS.out]; exact Nat.le_refl _), fieldsGo_nil]; simp
        obtain ⟨e1, e2⟩ := rf_end HLL.out hfin
        have HP : ∀ (v : Value) (W : World), W.ownsRow w.heap.size 44 5 v pre.length (pre.flatMap fldCells) → Below w.heap.size w W → RfPost w s.data.toList (.returned (.tuple #[v, .int .i64 0, .int .i64 0])) W := by
          intro v W h1 h2
          unfold RfPost; rw [e1, e2]; exact ⟨_, rfl, h1, h2⟩
        have HPP := Lib.hid HP
        clear e1 e2 HP hfin
        go_wp2
        go_ret3
        exact HPP.out _ _ hown hB
end Go.Proofs.Ytgdnibdahldekab
