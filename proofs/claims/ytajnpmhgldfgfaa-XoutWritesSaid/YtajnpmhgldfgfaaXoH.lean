/- The walk of xout.Print. -/
import Derived.Test.YtajnpmhgldfgfaaXoH0
import Derived.Test.YtajnpmhgldfgfaaXoR
import Derived.Shelf.RegionOpen
import Derived.Laws.EntriesVeiled
namespace Go.Proofs.Ytajnpmhgldfgfaa
open Go.RowKit Go.Shelf
set_option linter.unusedVariables false
attribute [local go_sem] Oper.semAt_some

theorem walk0_ne {D : List Nat} {n : Nat} (h : 0 < n) : walkY D n 0 ≠ [] := by
  unfold walkY
  rw [if_pos ⟨by omega, by omega⟩]
  intro h0
  have h1 := congrArg List.length h0
  unfold segY segN at h1
  rw [List.length_map, List.length_range] at h1
  simp at h1

set_option maxRecDepth 100000 in
set_option maxHeartbeats 32000000 in
theorem print_any {w : World} {ev : Value} {els : List XW} {ys : List YE} (h : WDoc w ev els ys) (hs : SmX els) :
    Calls Try.prog 13 #[.agg #[ev]] w (PrintR els w) := by
  have hmx : Try.prog.follows .mixedOrders = true := by kernel_rfl
  have hmf : ∀ (fn : Fn) (first cap : Array Value) (w : World), (Instr.makeFunc fn first cap).run Try.prog w = .ok (.func fn first cap) w := fun _ _ _ _ => rfl
  have HW := Lib.hid h
  have HS := Lib.hid hs
  obtain ⟨n, hnn⟩ : ∃ n, els.length = n := ⟨_, rfl⟩
  have hn1 : n ≤ 10000 := by rw [← hnn]; exact hs.1
  have hyn : ys.length = n := by rw [h.len]; exact hnn
  obtain ⟨a, c, rfl, h2⟩ := h.doc
  rw [hyn] at HW ⊢
  have HN := Lib.hid hnn
  have HYN := Lib.hid hyn
  have H2 := Lib.hid h2
  obtain ⟨M, hM⟩ : ∃ M, (mayE els && (!els.isEmpty && validE els)) = M := ⟨_, rfl⟩
  have HM := Lib.hid hM
  obtain ⟨W1, hW1⟩ : ∃ W1, w.alloc (.cells #[.slice a n c] 32) = W1 := ⟨_, rfl⟩
  have hB1 : Below w.heap.size w W1 := by rw [← hW1]; exact (Below.refl _ w).alloc (Nat.le_refl _) _
  have hb1 : BlkAt W1 w.heap.size 32 #[.slice a n c] := by rw [← hW1]; exact BlkAt.new _ _ _
  have HB1 := Lib.hid hB1
  have HBK1 := Lib.hid hb1
  have hMay := may_any (HW.out.below hB1) hs
  rw [hM] at hMay
  have HMay := Lib.hid hMay
  have c1 := hb1.cell 0
  clear h hs hnn hyn h2 hM hB1 hb1 hMay
  refine (callsIn_wide (n := 3)).1 ?_
  refine callsIn_of_wp_marks Try.func13 rfl trivial ?_ rfl
  simp only [Try.ntmps13, List.size_toArray, List.length_cons, List.length_nil, Nat.reduceAdd, Nat.reduceSub, Array.replicate_succ, Array.replicate_zero, List.push_toArray, List.append_toArray, List.nil_append, List.cons_append]
  gi_wp2
  refine wpIn_scope_wide ?_
  cases M with
  | false =>
    have HR := Lib.hid (show printE els = ([], 1) by unfold printE printX; rw [if_neg (by rw [HM.out]; decide)])
    gi_wp2_with (refine ⟨trivial, ?_⟩; gi_at_call 18; refine (callsIn_wide.2 HMay.out).mono ?_; rintro _ w2 ⟨rfl, hB2⟩; have HB2 := Lib.hid (HB1.out.trans (hB2.mono HB1.out.size)); clear hB2)
    rw [Exit.noGoto_ret]
    exact ⟨_, results_tmp2 rfl _ _ _, by rw [HR.out]; rfl, HB2.out⟩
  | true =>
    gi_wp2_with (refine ⟨trivial, ?_⟩; gi_at_call 18; refine (callsIn_wide.2 HMay.out).mono ?_; rintro _ w2 ⟨rfl, hB2⟩; have HB2 := Lib.hid (HB1.out.trans (hB2.mono HB1.out.size)); have HBK2 := Lib.hid (HBK1.out.below hB2 HBK1.out.lt); have d2 := HBK2.out.cell 0; clear hB2)
    have hm2 : mayE els = true ∧ els.isEmpty = false ∧ validE els = true := by
      have := HM.out
      simp only [Bool.and_eq_true, Bool.not_eq_true'] at this
      exact this
    obtain ⟨D, hD, hWl, -⟩ := validX_well hm2.2.2
    have HDl := Lib.hid (show D.length = n by rw [hWl.len]; unfold upsE; rw [List.length_map, HN.out])
    clear hWl
    have hn0 : 0 < n := by
      have h1 := hm2.2.1
      rw [List.isEmpty_eq_false_iff] at h1
      have := List.length_pos_iff.2 h1
      rw [HN.out] at this
      exact this
    have HR := Lib.hid (show printE els = prR (eAt els) (walkY D n 0) by unfold printE printX; rw [if_pos HM.out, hD, HN.out]; rfl)
    have HSt := Lib.hid (fun (W2 : World) (Bd Be : Nat) (hw : Below w.heap.size w W2) hb hb2 => walk_stopsS (w2 := W2) (Bd := Bd) (Be := Be) HYN.out HW.out.doc (by unfold kidsE; rw [List.length_map, HN.out]) (HW.out.kidsRd HS.out) (by rw [HW.out.ups]; exact hm2.2.2) (by rw [HW.out.ups]; exact hD) hn0 hw hb hb2)
    obtain ⟨B, hB⟩ : ∃ B, w2.heap.size = B := ⟨_, rfl⟩
    obtain ⟨fv, hfv⟩ : ∃ fv, Value.func (.func 19) #[] #[.pointer (some ⟨B + 1, 0, none⟩), .pointer (some ⟨B, 0, none⟩)] = fv := ⟨_, rfl⟩
    obtain ⟨W0, hW0⟩ : ∃ W0, ((w2.alloc bld0).alloc (.cells #[.slice none 0 0] 30)).alloc (.cells #[.func (.func 19) #[] #[.pointer (some ⟨w2.heap.size + 1, 0, none⟩), .pointer (some ⟨w2.heap.size, 0, none⟩)]] 70) = W0 := ⟨_, rfl⟩
    have hB20 : Below w2.heap.size w2 W0 := by rw [← hW0]; exact (((Below.refl _ w2).alloc (Nat.le_refl _) _).alloc (by simp) _).alloc (by simp; omega) _
    have k1 : BlkAt W0 B 64 #[.pointer none, .slice none 0 0] := by rw [← hW0, ← hB]; exact ((BlkAt.new w2 _ _).alloc _).alloc _
    have k2 : BlkAt W0 (B + 1) 30 #[.slice none 0 0] := by
      rw [← hW0, ← hB]
      have := (BlkAt.new (w2.alloc bld0) 30 #[.slice none 0 0])
      rw [World.size_alloc] at this
      exact this.alloc _
    have k3 : BlkAt W0 (B + 1 + 1) 70 #[fv] := by
      rw [← hW0, ← hfv, ← hB]
      have := (BlkAt.new ((w2.alloc bld0).alloc (.cells #[.slice none 0 0] 30)) 70 #[.func (.func 19) #[] #[.pointer (some ⟨w2.heap.size + 1, 0, none⟩), .pointer (some ⟨w2.heap.size, 0, none⟩)]])
      rw [World.size_alloc, World.size_alloc] at this
      exact this
    have hz0 : W0.heap.size = B + 3 := by rw [← hW0]; simp; omega
    have z01 : W0.heap.size ≤ B + 3 := by omega
    have z02 : B + 3 ≤ W0.heap.size := by omega
    have d0 := (HBK2.out.below hB20 HBK2.out.lt).cell 0
    have HBK0 := Lib.hid (HBK2.out.below hB20 HBK2.out.lt)
    have HB0 := Lib.hid (HB2.out.trans (hB20.mono HB2.out.size))
    have hwB : w.heap.size ≤ B := by rw [← hB]; exact HB2.out.size
    rw [hW0, hB, hfv]
    have HFV := Lib.hid hfv
    clear hW0 hm2 hB20 d2 c1 hW1 hD hfv hB hz0
    refine wpIn_label ?_
    gi_wp2_with (refine ⟨trivial, ?_⟩; gi_at_call 22; refine (callsIn_wide.2 (walk_any a n c 0 W0)).mono ?_; rintro _ W9 ⟨rfl, h9⟩; have H9 := Lib.hid h9; clear h9)
    have b9 : Boxed W9 W0.heap.size 32 (.slice a n c) := by rw [← H9.out]; exact (Boxed.new W0 _ _).alloc _
    have b9' : Boxed W9 (W0.heap.size + 1) 3 (.int .i64 0) := by
      rw [← H9.out]
      have := Boxed.new (W0.alloc (.cells #[.slice a n c] 32)) 3 (.int .i64 0)
      simpa only [World.size_alloc] using this
    have hB09 : Below W0.heap.size W0 W9 := by rw [← H9.out]; exact ((Below.refl _ W0).alloc (Nat.le_refl _) _).alloc (by simp) _
    have hz9 : B + 5 ≤ W9.heap.size := by rw [← H9.out]; simp; omega
    have hw9 : Below w.heap.size w W9 := HB0.out.trans (hB09.mono HB0.out.size)
    have hP0 : PrI w (.slice a n c) (eAt els) (yAt ys) B (B + 1) (B + 1 + 1) fv [] W9 :=
      ⟨⟨.slice none 0 0, ⟨by omega, k2.below hB09 k2.lt, World.ownsRow_nil _ _ _ _⟩⟩, ⟨.slice none 0 0, ⟨hwB, ⟨_, .inl rfl, k1.below hB09 k1.lt⟩, World.ownsRow_nil _ _ _ _⟩⟩, k3.below hB09 k3.lt, HBK0.out.below hB09 HBK0.out.lt, hw9⟩
    have HP0 := Lib.hid hP0
    have HBx := Lib.hid b9
    have HBy := Lib.hid b9'
    have hzz : W0.heap.size + 1 < W9.heap.size := by omega
    have hzw : w.heap.size ≤ W9.heap.size := hw9.size
    refine wpIn_rangeFunc_R rwW_else rfl (by omega) (gf := 32) (lb := #[.pointer (some ⟨W0.heap.size, 0, none⟩), .pointer (some ⟨W0.heap.size + 1, 0, none⟩)]) rfl trivial (enters_of Try.func32 (by kernel_rfl) rfl)
      (HSt.out W9 W0.heap.size (W0.heap.size + 1) hw9 b9 b9') KeepWB.trans (fun Z q q' h1 h2 => keepWB_put (by omega) (by omega) (by omega) Z q q' h1 h2) (Below.refl _ _) (fun _ => rfl)
      (fun pre V => (PrI w (.slice a n c) (eAt els) (yAt ys) B (B + 1) (B + 1 + 1) fv (pre.map (·.1)) V ∧ Boxed V W0.heap.size 32 (.slice a n c) ∧ Boxed V (W0.heap.size + 1) 3 (.int .i64 0) ∧ W9.heap.size ≤ V.heap.size) ∧ (prAll (eAt els) (pre.map (·.1))).1.length ≤ 60000)
      (fun cc pre V => PrI w (.slice a n c) (eAt els) (yAt ys) B (B + 1) (B + 1 + 1) fv (pre.map (·.1)) V ∧ cc = .exit 0 ∧ 60000 < (prAll (eAt els) (pre.map (·.1))).1.length ∧ (prAll (eAt els) (pre.map (·.1))).1.length ≤ 1000000000000)
      ?hI ?hIx ⟨⟨HP0.out, b9, b9', Nat.le_refl _⟩, Nat.zero_le _⟩
      (fun x => { tmps := #[.agg #[.slice a n c], .pointer (some ⟨w.heap.size, 0, none⟩), .string ⟨#[]⟩, .int .i64 0, .pointer (some ⟨B, 0, none⟩), .pointer (some ⟨B + 1, 0, none⟩), .pointer (some ⟨B + 1 + 1, 0, none⟩), .int .i64 x.1.1, .int .i64 x.1.2, .agg #[.slice a n c], .bool true, .bool false, fv, .agg #[.slice a n c], .func (.func 32) #[] #[.pointer (some ⟨W0.heap.size, 0, none⟩), .pointer (some ⟨W0.heap.size + 1, 0, none⟩)], .int .i64 x.1.1, .int .i64 x.1.2, undef, undef, undef, undef, undef, undef, undef, undef, undef, undef, undef, undef, undef, undef, undef, undef, undef, undef, undef, undef, undef, undef, undef, undef], defers := [] }) ?assign ?body ?done ?stop
    case hI =>
      intro pre W W' row hs hg hr
      exact ⟨⟨hs.1.1.ownR hzw hg hr, boxed_abides (by decide) (by decide) hs.1.2.1 hg hr, boxed_abides (by decide) (by decide) hs.1.2.2.1 hg hr, Nat.le_trans hs.1.2.2.2 hg.size⟩, hs.2⟩
    case hIx =>
      intro cc pre W W' row hs hg hr
      exact ⟨hs.1.ownR hzw hg hr, hs.2⟩
    case assign =>
      rintro l ⟨⟨x1, x2⟩, hx⟩ W K hK
      simp only [encII]
      gi_wp2
      exact hK
    case body =>
      rintro l pre ⟨⟨x1, x2⟩, hx⟩ W ⟨⟨hP, hb9, hb9', hz⟩, hl6⟩ hlt
      have hx1 : x1 < n := hx
      obtain ⟨ov, hO⟩ := hP.opened
      obtain ⟨v, hBd⟩ := hP.text
      have hmem : ∀ k ∈ (prAll (eAt els) (pre.map (·.1))).2, k < els.length := fun k hk => by
        have h1 := (prAll_op (eAt els) _ (pre.map (·.1)) rfl).2 k hk
        obtain ⟨y, hy, rfl⟩ := List.mem_map.1 h1
        obtain ⟨z, hz, rfl⟩ := List.mem_map.1 hy
        rw [HN.out]
        exact z.2
      have hop : (prAll (eAt els) (pre.map (·.1))).2.length ≤ 10000 := by
        have h1 := (prAll_op (eAt els) _ (pre.map (·.1)) rfl).1
        rw [List.length_map] at h1
        omega
      have hap : prAll (eAt els) ((pre ++ [(⟨(x1, x2), hx⟩ : { x : Nat × Nat // x.1 < n })]).map (·.1)) = prStep (eAt els) (prAll (eAt els) (pre.map (·.1))) (x1, x2) := by rw [List.map_append, List.map_cons, List.map_nil, prAll_snoc]
      obtain ⟨S, hS⟩ : ∃ S, prAll (eAt els) (pre.map (·.1)) = S := ⟨_, rfl⟩
      rw [hS] at hO hBd hmem hop hl6 hap
      have HAp := Lib.hid hap
      have hszW : w.heap.size ≤ W.heap.size := hP.below.size
      have HSh := Lib.hid (shut_any (d := x2) hO hBd hszW (HW.out.nmOk HS.out hmem) (by omega) (by omega))
      have hshl := shutT_le (E := eAt els) (d := x2) (m := 1000003) S.2 (fun k hk => by
        have h1 := (HS.out.at_ (hmem k hk)).name
        have h2 := endT_len (eAt els k)
        omega)
      have hbgl := beginT_len (HS.out.at_ (show x1 < els.length by rw [HN.out]; exact hx1))
      have hmul := Nat.mul_le_mul_right 1000003 hop
      have cs := hP.shut.cell 0
      have HPd := Lib.hid hP
      have HB9 := Lib.hid hb9
      have HB9' := Lib.hid hb9'
      have hxl : x1 < els.length := by rw [HN.out]; exact hx1
      have HE := Lib.hid (HW.out.at_ hxl)
      have HSm := Lib.hid (HS.out.at_ hxl)
      obtain ⟨g, o, rfl, hg, hc⟩ := H2.out (fun e0 => by have h1 := HYN.out; rw [e0] at h1; have h3 : (0 : Nat) = n := h1; omega)
      obtain ⟨y, hy⟩ : ∃ y, ys[x1]? = some y := ⟨_, List.getElem?_eq_getElem (by rw [HYN.out]; exact hx1)⟩
      have hyA : yAt ys x1 = y := by unfold yAt; rw [hy]; rfl
      have HYA := Lib.hid hyA
      obtain ⟨p0, p1, p2, p3, p4, p5⟩ := DocAt.six hc hy
      have q1 : (0 : Int) ≤ (x1 : Int) := by omega
      have q2 : (x1 : Int) < (n : Int) := by omega
      have HC5 := Lib.hid (fun (X : World) (hX : KeepV w.heap.size W X) => show X.cell? ⟨w.heap.size, 0, none⟩ = some (.slice (some ⟨g, o, none⟩) n c) ∧ X.cell? ⟨g, o + x1 * 6, none⟩ = some (.string y.nm) ∧ X.cell? ⟨g, o + x1 * 6 + 1, none⟩ = some (.int .i64 y.pl) ∧ X.cell? ⟨g, o + x1 * 6 + 2, none⟩ = some (.int .i64 y.up) ∧ X.cell? ⟨g, o + x1 * 6 + 3, none⟩ = some (.slice y.ab y.an y.ac) ∧ X.cell? ⟨g, o + x1 * 6 + 4, none⟩ = some (.slice y.kb y.kn y.kc) ∧ X.cell? ⟨g, o + x1 * 6 + 5, none⟩ = some (.string y.tx) from by
        have hXw := HPd.out.below.trans hX.below
        have hd : BlkAt X w.heap.size 32 #[.slice (some ⟨g, o, none⟩) n c] := hX.types _ (by decide) (by decide) (by decide) (by decide) _ _ HPd.out.doc
        exact ⟨hd.cell 0, (hXw.cell (p := ⟨g, o + x1 * 6, none⟩) hg).trans p0, (hXw.cell (p := ⟨g, o + x1 * 6 + 1, none⟩) hg).trans p1, (hXw.cell (p := ⟨g, o + x1 * 6 + 2, none⟩) hg).trans p2, (hXw.cell (p := ⟨g, o + x1 * 6 + 3, none⟩) hg).trans p3, (hXw.cell (p := ⟨g, o + x1 * 6 + 4, none⟩) hg).trans p4, (hXw.cell (p := ⟨g, o + x1 * 6 + 5, none⟩) hg).trans p5⟩)
      clear hP hb9 hb9' hO hBd hmem hap hS hc hy hyA p0 p1 p2 p3 p4 p5 b9 b9' hP0 hw9 hB09 k1 k2 k3 d0
      have HEy := Lib.hid (show WEl w y (eAt els x1) by have := HE.out; rwa [HYA.out] at this)
      have HL3 := Lib.hid (show (S.1 ++ (shutT (eAt els) x2 S.2).1).length ≤ 1000000000000 by rw [List.length_append]; omega)
      obtain rfl := HFV.out
      gi_wp2_with (first
        | (refine ⟨trivial, ?_⟩; gi_at_call 19; refine (callsIn_wide.2 HSh.out).mono ?_; rintro _ w3 ⟨rfl, ov3, v3, hO3, hB3, hK3⟩; have HO3 := Lib.hid hO3; have HB3 := Lib.hid hB3; have HK3 := Lib.hid hK3; obtain ⟨f0, f1, f2, f3, f4, f5, f6⟩ := HC5.out w3 hK3; clear hO3 hB3 hK3)
        | (refine ⟨trivial, ?_⟩; gi_at_call 23; refine (callsIn_wide.2 (begin_any HB3.out (HPd.out.below.trans HK3.out.below) HEy.out HSm.out HL3.out)).mono ?_; rintro _ w4 ⟨rfl, v4, hb4, hU4⟩; have HBd4 := Lib.hid hb4; have HO4 := Lib.hid (HO3.out.keepU hU4); have HK4 := Lib.hid (HK3.out.trans hU4.v); obtain ⟨f0, f1, f2, f3, f4, f5, f6⟩ := HC5.out w4 (HK3.out.trans hU4.v); clear hb4 hU4))
      have hbw4 : w.heap.size ≤ w4.heap.size := Nat.le_trans hszW HK4.out.below.size
      have hO4d := HO4.out.below ((Below.refl _ w4).drew)
      obtain ⟨L, hL⟩ : ∃ L, (shutT (eAt els) x2 S.2).2.length = L := ⟨_, rfl⟩
      have hLn : L ≤ 10000 := by rw [← hL]; exact Nat.le_trans (shutT_len _) hop
      have HOd := Lib.hid hO4d
      have c9 := hO4d.box.cell 0
      have hrow := hO4d.row
      rw [hL] at hrow
      have HRow := Lib.hid hrow
      have HLL := Lib.hid hL
      have hLb : (L + 1) * 96 ≤ 140737488355328 := by omega
      clear hO4d hrow hL cs
      have HF4 := Lib.hid (fun (X : World) (hX : KeepE w.heap.size w4.drew X) => HC5.out X (HK4.out.trans ((KeepV.of_below ((Below.refl _ w4).drew) hbw4).trans hX.v)))
      have hR0 : RowE w.heap.size (B + 1) w4.drew ov3 ov3 L (oCells (yAt ys) (shutT (eAt els) x2 S.2).2) w4.drew := ⟨by omega, HOd.out.box, HRow.out, ⟨Below.refl _ _, fun _ _ _ => KeepT.refl _ _, fun _ _ h _ => h⟩, hbw4⟩
      have HR0 := Lib.hid hR0
      clear hR0 f0 f1 f2 f3 f4 f5 f6 c9
      refine wpIn_region_any hmx ?_
      change wpAnyIn _ _ _ _ _ _ 9 (Array.replicate 9 false) _ _
      refine wpAnyIn_inv (ElInv _ _ _ _ _ _ _ _ _ _ _ _ _ _ _ _ _ _ _ _ _ _ _ w.heap.size (B + 1) g o n c x1 w.heap.size L ov3 (oCells (yAt ys) (shutT (eAt els) x2 S.2).2) y w4.drew)
        ?rdone ?rstep 9 _ _ _ ⟨false, false, false, false, false, false, false, false, false, 0, undef, rfl, by simp, by simp, by simp, by simp, by simp, by simp, rfl, HR0.out, by simp⟩ (by show List.countP (fun i => !(Array.replicate 9 false).getD i true) (List.range 9) ≤ 9; decide)
      case rdone =>
        rintro l9 a9 Wz ⟨b0, b1, b2, b3, b4, b5, b6, b7, b8, gT, v', rfl, d2, d4, d5, d6, d7, d8, rfl, h, hg⟩ hr
        obtain rfl : b0 = true := listed_of (i := 0) hr rfl rfl rfl
        obtain rfl : b1 = true := listed_of (i := 1) hr rfl rfl rfl
        obtain rfl : b2 = true := listed_of (i := 2) hr rfl rfl rfl
        obtain rfl : b3 = true := listed_of (i := 3) hr rfl rfl rfl
        obtain rfl : b4 = true := listed_of (i := 4) hr rfl rfl rfl
        obtain rfl : b5 = true := listed_of (i := 5) hr rfl rfl rfl
        obtain rfl : b6 = true := listed_of (i := 6) hr rfl rfl rfl
        obtain rfl : b7 = true := listed_of (i := 7) hr rfl rfl rfl
        obtain rfl : b8 = true := listed_of (i := 8) hr rfl rfl rfl
        obtain ⟨vb, vc, rfl⟩ := ownsRow_slice' h.row
        have hKz : KeepV w.heap.size W Wz := HK4.out.trans ((KeepV.of_below ((Below.refl _ w4).drew) hbw4).trans h.keep.v)
        have hBz := (HBd4.out.below ((Below.refl _ w4).drew)).keepE h.keep
        have hOz : OpI w.heap.size (B + 1) (yAt ys) (x1 :: (shutT (eAt els) x2 S.2).2) (.slice vb (L + 1) vc) Wz := ⟨h.lo, h.box, by
          have hr := h.row
          rw [oCells_cons, HYA.out, List.length_cons, HLL.out]
          exact hr⟩
        have hPz : PrI w (.slice (some ⟨g, o, none⟩) n c) (eAt els) (yAt ys) B (B + 1) (B + 1 + 1) (.func (.func 19) #[] #[.pointer (some ⟨B + 1, 0, none⟩), .pointer (some ⟨B, 0, none⟩)]) ((pre ++ [(⟨(x1, x2), hx⟩ : { x : Nat × Nat // x.1 < n })]).map (·.1)) Wz := by
          refine ⟨?_, ?_, hKz.types _ (by decide) (by decide) (by decide) (by decide) _ _ HPd.out.shut, hKz.types _ (by decide) (by decide) (by decide) (by decide) _ _ HPd.out.doc, HPd.out.below.trans hKz.below⟩
          · rw [HAp.out]; exact ⟨_, hOz⟩
          · rw [HAp.out]; exact ⟨_, hBz⟩
        have hz1 : Boxed Wz W0.heap.size 32 (.slice (some ⟨g, o, none⟩) n c) := hKz.types _ (by decide) (by decide) (by decide) (by decide) _ _ HB9.out
        have hz2 : Boxed Wz (W0.heap.size + 1) 3 (.int .i64 0) := hKz.types _ (by decide) (by decide) (by decide) (by decide) _ _ HB9'.out
        have HPz := Lib.hid hPz
        have HKz := Lib.hid hKz
        have HZ1 := Lib.hid hz1
        have HZ2 := Lib.hid hz2
        obtain ⟨acc4, hacc4⟩ : ∃ acc4, (S.1 ++ (shutT (eAt els) x2 S.2).1) ++ beginT (eAt els x1) = acc4 := ⟨_, rfl⟩
        rw [hacc4] at hBz
        have hlen4 : acc4.length ≤ 1000000000000 := by rw [← hacc4, List.length_append, List.length_append]; omega
        have HA4 := Lib.hid (show (prAll (eAt els) ((pre ++ [(⟨(x1, x2), hx⟩ : { x : Nat × Nat // x.1 < n })]).map (·.1))).1 = acc4 by rw [HAp.out]; exact hacc4)
        have HLen := Lib.hid (bd_len hBz)
        clear hOz hPz hKz hz1 hz2 hBz h hg hacc4 hl6 hshl hbgl hmul hop hLn hLb
        by_cases hbig : 60000 < acc4.length
        · have hbigI : (60000 : Int) < (acc4.length : Int) := by omega
          have HSm4 := Lib.hid (And.intro hbig hlen4)
          clear hbig hlen4
          gi_wp2_with (refine ⟨trivial, ?_⟩; gi_at_call 24; refine (callsIn_wide.2 HLen.out).mono ?_; rintro _ w9 ⟨rfl, rfl⟩)
          exact ⟨HKz.out.from, HPz.out, rfl, by rw [HA4.out]; exact HSm4.out.1, by rw [HA4.out]; exact HSm4.out.2⟩
        · have hbigI : (acc4.length : Int) ≤ 60000 := by omega
          have HSm4 := Lib.hid (show acc4.length ≤ 60000 by omega)
          clear hbig hlen4
          gi_wp2_with (refine ⟨trivial, ?_⟩; gi_at_call 24; refine (callsIn_wide.2 HLen.out).mono ?_; rintro _ w9 ⟨rfl, rfl⟩)
          exact ⟨HKz.out.from, HKz.out.wb (Nat.le_refl _) HB9.out HB9'.out, ⟨HPz.out, HZ1.out, HZ2.out, Nat.le_trans hz HKz.out.below.size⟩, by rw [HA4.out]; exact HSm4.out⟩
      case rstep =>
        rintro l a W i ⟨b0, b1, b2, b3, b4, b5, b6, b7, b8, gT, v', rfl, d2, d4, d5, d6, d7, d8, rfl, h, hg⟩ hi
        obtain ⟨hi, hb, hd⟩ := ready_mem hi
        have hi : i < 9 := hi
        have hc : i = 0 ∨ i = 1 ∨ i = 2 ∨ i = 3 ∨ i = 4 ∨ i = 5 ∨ i = 6 ∨ i = 7 ∨ i = 8 := by omega
        obtain ⟨f0, f1, f2, f3, f4, f5, f6⟩ := HF4.out W h.keep
        rcases hc with rfl | rfl | rfl | rfl | rfl | rfl | rfl | rfl | rfl
        · obtain rfl : b0 = false := hb
          obtain rfl : b7 = false := nf fun e => (d7 e).1
          obtain rfl : b8 = false := nf d8
          refine op_step rfl rfl (op_load rfl rfl Try.underlying30 h.box ?_)
          exact ⟨true, b1, b2, b3, b4, b5, b6, false, false, gT, v', rfl, d2, d4, d5, d6, by simp, by simp, rfl, h, hg⟩
        · obtain rfl : b1 = false := hb
          obtain rfl : b2 = false := nf d2
          obtain rfl : b4 = false := nf fun e => (d4 e).1
          obtain rfl : b5 = false := nf d5
          obtain rfl : b6 = false := nf d6
          obtain rfl : b7 = false := nf fun e => (d7 e).2
          obtain rfl : b8 = false := nf d8
          refine op_step rfl rfl ?_
          unfold Oper.wpIn
          refine ⟨by simp [Oper.about], ?_⟩
          rw [Oper.semAt_plain _ _ _ (by intro c hc'; cases hc')]
          simp only [execOp]
          go_simp
          exact ⟨b0, true, false, b3, false, false, false, false, false, gT, v', rfl, by simp, by simp, by simp, by simp, by simp, by simp, rfl, h, by simp⟩
        · obtain rfl : b2 = false := hb
          obtain rfl : b1 = true := hd _ rfl 0 _ rfl rfl
          obtain rfl : b4 = false := nf fun e => (d4 e).1
          obtain rfl : b5 = false := nf d5
          obtain rfl : b6 = false := nf d6
          obtain rfl : b7 = false := nf fun e => (d7 e).2
          obtain rfl : b8 = false := nf d8
          refine op_step rfl rfl ?_
          unfold Oper.wpIn
          refine ⟨by simp [Oper.about], ?_⟩
          rw [Oper.semAt_plain _ _ _ (by intro c hc'; cases hc')]
          simp only [execOp]
          go_simp
          exact ⟨b0, true, true, b3, false, false, false, false, false, gT, v', rfl, by simp, by simp, by simp, by simp, by simp, by simp, rfl, h, by simp⟩
        · obtain rfl : b3 = false := hb
          obtain rfl : b4 = false := nf fun e => (d4 e).2
          obtain rfl : b5 = false := nf d5
          obtain rfl : b6 = false := nf d6
          obtain rfl : b7 = false := nf fun e => (d7 e).2
          obtain rfl : b8 = false := nf d8
          refine op_step rfl rfl ?_
          unfold Oper.wpIn
          refine ⟨by simp [Oper.about], ?_⟩
          rw [Oper.semAt_plain _ _ _ (by intro c hc'; cases hc')]
          simp only [execOp]
          go_simp
          exact ⟨b0, b1, b2, true, false, false, false, false, false, gT, v', rfl, d2, by simp, by simp, by simp, by simp, by simp, rfl, h, by simp⟩
        · obtain rfl : b4 = false := hb
          obtain rfl : b2 = true := hd _ rfl 0 _ rfl rfl
          obtain rfl : b3 = true := hd _ rfl 1 _ rfl rfl
          obtain rfl : b1 = true := d2 rfl
          obtain rfl : b5 = false := nf d5
          obtain rfl : b6 = false := nf d6
          obtain rfl : b7 = false := nf fun e => (d7 e).2
          obtain rfl : b8 = false := nf d8
          refine op_step rfl rfl ?_
          unfold Oper.wpIn
          refine ⟨by simp [Oper.about], ?_⟩
          rw [Oper.semAt_plain _ _ _ (by intro c hc'; cases hc')]
          simp only [execOp]
          go_simp
          exact ⟨b0, true, true, true, true, false, false, false, false, gT, v', rfl, by simp, by simp, by simp, by simp, by simp, by simp, rfl, h, by simp⟩
        · obtain rfl : b5 = false := hb
          obtain rfl : b4 = true := hd _ rfl 0 _ rfl rfl
          obtain ⟨rfl, rfl⟩ := d4 rfl
          obtain rfl : b1 = true := d2 rfl
          obtain rfl : b6 = false := nf d6
          obtain rfl : b7 = false := nf fun e => (d7 e).2
          obtain rfl : b8 = false := nf d8
          refine op_step rfl rfl ?_
          unfold Oper.wpIn
          refine ⟨by simp [Oper.about], ?_⟩
          rw [Oper.semAt_plain _ _ _ (by intro c hc'; cases hc')]
          simp only [execOp]
          go_simp
          exact ⟨b0, true, true, true, true, true, false, false, false, gT, v', rfl, by simp, by simp, by simp, by simp, by simp, by simp, rfl, h, by simp⟩
        · obtain rfl : b6 = false := hb
          obtain rfl : b5 = true := hd _ rfl 0 _ rfl rfl
          obtain rfl : b4 = true := d5 rfl
          obtain ⟨rfl, rfl⟩ := d4 rfl
          obtain rfl : b1 = true := d2 rfl
          obtain rfl : b7 = false := nf fun e => (d7 e).2
          obtain rfl : b8 = false := nf d8
          refine op_step rfl rfl ?_
          unfold Oper.wpIn
          refine ⟨by simp [Oper.about], ?_⟩
          rw [Oper.semAt_plain _ _ _ (by intro c hc'; cases hc')]
          simp only [execOp]
          go_simp
          exact ⟨b0, true, true, true, true, true, true, false, false, W.heap.size, v', rfl, by simp, by simp, by simp, by simp, by simp, by simp, rfl, h.alloc _, fun _ _ => BlkAt.new W _ _⟩
        · obtain rfl : b7 = false := hb
          obtain rfl : b0 = true := hd _ rfl 0 _ rfl rfl
          obtain rfl : b6 = true := hd _ rfl 1 _ rfl rfl
          obtain rfl : b8 = false := nf d8
          refine op_step rfl rfl (op_append slE rfl rfl h.row h.size rfl rfl (news_blk (hg rfl rfl)) (by simp [Value.oneCell']) hLb fun v' w' r1 r2 r3 => ?_)
          exact ⟨true, b1, b2, b3, b4, b5, true, true, false, gT, v', rfl, d2, d4, d5, d6, by simp, by simp, rfl, h.app r1 r2, by simp⟩
        · obtain rfl : b8 = false := hb
          obtain rfl : b7 = true := hd _ rfl 0 _ rfl rfl
          obtain ⟨rfl, rfl⟩ := d7 rfl
          obtain rfl : b5 = true := d6 rfl
          obtain rfl : b4 = true := d5 rfl
          obtain ⟨rfl, rfl⟩ := d4 rfl
          obtain rfl : b1 = true := d2 rfl
          obtain ⟨vb, vc, rfl⟩ := ownsRow_slice' h.row
          have z1 := h.box.cell 0
          have z2 := h.box.frozen 0
          refine op_step rfl rfl ?_
          unfold Oper.wpIn
          refine ⟨by simp [Oper.about], ?_⟩
          rw [Oper.semAt_plain _ _ _ (by intro c hc'; cases hc')]
          simp only [execOp]
          go_simp
          exact ⟨true, true, true, true, true, true, true, true, true, gT, _, rfl, by simp, by simp, by simp, by simp, by simp, by simp, rfl, h.set, by simp⟩
    case done =>
      rintro D' xs Wd hD hxs ⟨⟨hP, hb9, hb9', hz⟩, HL⟩ hK
      have hxl : xs.length ≤ n := by
        have h1 := congrArg List.length hxs
        rw [List.length_map] at h1
        rw [h1]
        exact walkY_len HDl.out _
      obtain ⟨ov, hO⟩ := hP.opened
      obtain ⟨v, hBd⟩ := hP.text
      have hmem : ∀ k ∈ (prAll (eAt els) (xs.map (·.1))).2, k < els.length := fun k hk => by
        have h1 := (prAll_op (eAt els) _ (xs.map (·.1)) rfl).2 k hk
        obtain ⟨y, hy, rfl⟩ := List.mem_map.1 h1
        obtain ⟨z, hz, rfl⟩ := List.mem_map.1 hy
        rw [HN.out]
        exact z.2
      obtain ⟨S, hS⟩ : ∃ S, prAll (eAt els) (xs.map (·.1)) = S := ⟨_, rfl⟩
      have hop : S.2.length ≤ 1000000 := by
        have h1 := (prAll_op (eAt els) _ (xs.map (·.1)) rfl).1
        rw [hS, List.length_map] at h1
        omega
      rw [hS] at hO hBd hmem HL
      have hszW : w.heap.size ≤ Wd.heap.size := hP.below.size
      have HSh := Lib.hid (show Calls Try.prog 19 #[.int .i64 0, .pointer (some ⟨B + 1, 0, none⟩), .pointer (some ⟨B, 0, none⟩)] Wd (ShutR w.heap.size (B + 1) B (eAt els) (yAt ys) 0 S.2 S.1 Wd) from shut_any (d := 0) hO hBd hszW (HW.out.nmOk HS.out hmem) hop (by omega))
      have cs := hP.shut.cell 0
      have HPd := Lib.hid hP
      have HSS := Lib.hid hS
      have hD2 : w.heap.size ≤ D' := by omega
      have HKd := Lib.hid hK
      have hmul := Nat.mul_le_mul_right 1000003 hop
      have hshl := shutT_le (E := eAt els) (d := 0) (m := 1000003) S.2 (fun k hk => by
        have h1 := (HS.out.at_ (hmem k hk)).name
        have h2 := endT_len (eAt els k)
        omega)
      have HXS := Lib.hid hxs
      clear hO hBd hmem hS hP hK hxs hb9 hb9' b9 b9' hP0 hw9 hB09 k1 k2 k3 d0 hop hxl
      obtain rfl := HFV.out
      obtain ⟨T, hT⟩ : ∃ T, S.1 ++ (shutT (eAt els) 0 S.2).1 = T := ⟨_, rfl⟩
      have hTl : T.length ≤ 2000000000000 := by rw [← hT, List.length_append]; omega
      have HT := Lib.hid (show prText (eAt els) (walkY D n 0) = T by
        have h1 := HXS.out
        unfold prText
        rw [show walkY D n 0 = xs.map (·.1) from h1.symm, HSS.out]
        exact hT)
      have HTT := Lib.hid hT
      clear hT HL hshl hmul
      by_cases hbig : 60000 < T.length
      · have HR2 := Lib.hid (show printE els = ([], 2) by rw [HR.out]; unfold prR; rw [HT.out, if_pos hbig])
        have hbI : (60000 : Int) < (T.length : Int) := by omega
        clear hbig hTl
        gi_wp2_with (first
          | (refine ⟨trivial, ?_⟩; gi_at_call 19; refine (callsIn_wide.2 HSh.out).mono ?_; rintro _ w3 ⟨rfl, ov3, v3, hO3, hB3, hK3⟩; have HK3 := Lib.hid hK3; have HLen := Lib.hid (show Calls Try.prog 24 #[.pointer (some ⟨B, 0, none⟩)] w3 fun e w' => e = .returned (.int .i64 T.length) ∧ w' = w3 from by rw [← HTT.out]; exact bd_len hB3); have HB3 := Lib.hid (show BdAt w.heap.size B v3 T w3 by have := hB3; rwa [HTT.out] at this); clear hO3 hB3 hK3)
          | (refine ⟨trivial, ?_⟩; gi_at_call 24; refine (callsIn_wide.2 HLen.out).mono ?_; rintro _ w9 ⟨rfl, rfl⟩))
        rw [Exit.noGoto_ret]
        have hDz : w9.heap[D']? = _ := HK3.out.others D' _ HKd.out rfl
        refine ⟨by simp, .inl ⟨_, _, rfl, run_takeDeferred hDz, ?_⟩⟩
        exact ⟨_, results_tmp2 rfl _ _ _, by rw [HR2.out]; rfl, (HPd.out.below.trans HK3.out.below).trans (belowK_b (w := w) (Nat.le_refl _) w9 D' _ _ hD2 hDz rfl rfl)⟩
      · have HR2 := Lib.hid (show printE els = (T, 0) by rw [HR.out]; unfold prR; rw [HT.out, if_neg hbig])
        have HTn := Lib.hid (show T ≠ [] by
          rw [← HT.out]
          exact prText_ne (walk0_ne hn0))
        have hbI : (T.length : Int) ≤ 60000 := by omega
        clear hbig hTl
        gi_wp2_with (first
          | (refine ⟨trivial, ?_⟩; gi_at_call 19; refine (callsIn_wide.2 HSh.out).mono ?_; rintro _ w3 ⟨rfl, ov3, v3, hO3, hB3, hK3⟩; have HK3 := Lib.hid hK3; have HLen := Lib.hid (show Calls Try.prog 24 #[.pointer (some ⟨B, 0, none⟩)] w3 fun e w' => e = .returned (.int .i64 T.length) ∧ w' = w3 from by rw [← HTT.out]; exact bd_len hB3); have HB3 := Lib.hid (show BdAt w.heap.size B v3 T w3 by have := hB3; rwa [HTT.out] at this); clear hO3 hB3 hK3)
          | (refine ⟨trivial, ?_⟩; gi_at_call 24; refine (callsIn_wide.2 HLen.out).mono ?_; rintro _ w9 ⟨rfl, rfl⟩)
          | (refine ⟨trivial, ?_⟩; gi_at_call 25; refine (callsIn_wide.2 (bd_string HB3.out HTn.out)).mono ?_; rintro _ w10 ⟨rfl, hB10, hk10⟩; have HB10 := Lib.hid hB10; have HK10 := Lib.hid hk10; clear hB10 hk10))
        rw [Exit.noGoto_ret]
        have hDz9 : w9.heap[D']? = _ := HK3.out.others D' _ HKd.out rfl
        have hDz : w10.heap[D']? = some (.deferred (some [])) := by
          rw [HK10.out D' (Array.getElem?_eq_some_iff.1 hDz9).1 (fun e => ?_)]
          · exact hDz9
          · rcases HB3.out.row.2 with ⟨e2, _⟩ | ⟨g9, cap9, cur9, e2, _, hg9, _⟩
            · rw [e2] at e; simp [Value.ownBlock] at e
            · rw [e2] at e
              simp only [Value.ownBlock, Option.some.injEq] at e
              subst e
              rw [hDz9] at hg9
              cases hg9
        refine ⟨by simp, .inl ⟨_, _, rfl, run_takeDeferred hDz, ?_⟩⟩
        exact ⟨_, results_tmp2 rfl _ _ _, by rw [HR2.out]; rfl, ((HPd.out.below.trans HK3.out.below).trans HB10.out).trans (belowK_b (w := w) (Nat.le_refl _) w10 D' _ _ hD2 hDz rfl rfl)⟩
    case stop =>
      rintro D' cc xs Wd hD hxs ⟨hP, rfl, h60, HL⟩ hK
      have hxl : xs.length ≤ n := by
        have h1 := hxs.length_le
        rw [List.length_map] at h1
        exact Nat.le_trans h1 (walkY_len HDl.out _)
      obtain ⟨ov, hO⟩ := hP.opened
      obtain ⟨v, hBd⟩ := hP.text
      have hmem : ∀ k ∈ (prAll (eAt els) (xs.map (·.1))).2, k < els.length := fun k hk => by
        have h1 := (prAll_op (eAt els) _ (xs.map (·.1)) rfl).2 k hk
        obtain ⟨y, hy, rfl⟩ := List.mem_map.1 h1
        obtain ⟨z, hz, rfl⟩ := List.mem_map.1 hy
        rw [HN.out]
        exact z.2
      obtain ⟨S, hS⟩ : ∃ S, prAll (eAt els) (xs.map (·.1)) = S := ⟨_, rfl⟩
      have hop : S.2.length ≤ 1000000 := by
        have h1 := (prAll_op (eAt els) _ (xs.map (·.1)) rfl).1
        rw [hS, List.length_map] at h1
        omega
      rw [hS] at hO hBd hmem HL h60
      have hszW : w.heap.size ≤ Wd.heap.size := hP.below.size
      have HSh := Lib.hid (show Calls Try.prog 19 #[.int .i64 0, .pointer (some ⟨B + 1, 0, none⟩), .pointer (some ⟨B, 0, none⟩)] Wd (ShutR w.heap.size (B + 1) B (eAt els) (yAt ys) 0 S.2 S.1 Wd) from shut_any (d := 0) hO hBd hszW (HW.out.nmOk HS.out hmem) hop (by omega))
      have cs := hP.shut.cell 0
      have HPd := Lib.hid hP
      have HSS := Lib.hid hS
      have hD2 : w.heap.size ≤ D' := by omega
      have HKd := Lib.hid hK
      have hmul := Nat.mul_le_mul_right 1000003 hop
      have hshl := shutT_le (E := eAt els) (d := 0) (m := 1000003) S.2 (fun k hk => by
        have h1 := (HS.out.at_ (hmem k hk)).name
        have h2 := endT_len (eAt els k)
        omega)
      have HR2 := Lib.hid (show printE els = ([], 2) by rw [HR.out]; exact prR_stop hxs (by rw [hS]; exact h60))
      clear hO hBd hmem hS hP hK hxs b9 b9' hP0 hw9 hB09 k1 k2 k3 d0 hop hxl
      obtain rfl := HFV.out
      obtain ⟨T, hT⟩ : ∃ T, S.1 ++ (shutT (eAt els) 0 S.2).1 = T := ⟨_, rfl⟩
      have hbI : (60000 : Int) < (T.length : Int) := by rw [← hT, List.length_append]; omega
      have HTT := Lib.hid hT
      clear hT HL hshl hmul h60
      gi_wp2_with (first
        | (refine ⟨trivial, ?_⟩; gi_at_call 19; refine (callsIn_wide.2 HSh.out).mono ?_; rintro _ w3 ⟨rfl, ov3, v3, hO3, hB3, hK3⟩; have HK3 := Lib.hid hK3; have HLen := Lib.hid (show Calls Try.prog 24 #[.pointer (some ⟨B, 0, none⟩)] w3 fun e w' => e = .returned (.int .i64 T.length) ∧ w' = w3 from by rw [← HTT.out]; exact bd_len hB3); have HB3 := Lib.hid (show BdAt w.heap.size B v3 T w3 by have := hB3; rwa [HTT.out] at this); clear hO3 hB3 hK3)
        | (refine ⟨trivial, ?_⟩; gi_at_call 24; refine (callsIn_wide.2 HLen.out).mono ?_; rintro _ w9 ⟨rfl, rfl⟩))
      rw [Exit.noGoto_ret]
      have hDz : w9.heap[D']? = _ := HK3.out.others D' _ HKd.out rfl
      refine ⟨by simp, .inl ⟨_, _, rfl, run_takeDeferred hDz, ?_⟩⟩
      exact ⟨_, results_tmp2 rfl _ _ _, by rw [HR2.out]; rfl, (HPd.out.below.trans HK3.out.below).trans (belowK_b (w := w) (Nat.le_refl _) w9 D' _ _ hD2 hDz rfl rfl)⟩
end Go.Proofs.Ytajnpmhgldfgfaa
