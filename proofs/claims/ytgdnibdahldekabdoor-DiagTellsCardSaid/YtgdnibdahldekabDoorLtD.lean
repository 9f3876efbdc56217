/- Words for the walk of the law DiagTells. -/
import Derived.Test.YtgdnibdahldekabDoorDgL
import Derived.Test.YtgdnibdahldekabDoorDgM
import Derived.Test.YtgdnibdahldekabDoorLtB
import Derived.Test.YtgdnibdahldekabDoorBkE
import Derived.Test.YtgdnibdahldekabDoorNmP
import Derived.Deep.RegionHeld3
namespace Go.Proofs.YtgdnibdahldekabDoor
open Go.RowKit
set_option linter.unusedVariables false

/-- How far the lists have come. -/
def TlA (w : World) (base Bx Bb n : Nat) (zs : List DI) (p q : Value) (wr : World) : Prop :=
  ∃ (k : Nat) (vx : Value), q = .int .i64 k ∧ k ≤ n ∧ IsLv base wr Bx (addAll (zs.take k)) vx ∧ wr.ownsRow base 31 3 p (addAll (zs.take k)).length ((addAll (zs.take k)).flatMap diCells) ∧ (∀ g, p.ownBlock = some g → vx.ownBlock ≠ some g) ∧
    BlkAt wr Bb 51 (bookCells nilV nilV) ∧ Below base w wr ∧ base ≤ wr.heap.size
set_option maxRecDepth 100000 in
theorem first_none (base B : Nat) (w : World) (h : IsL base w B []) :
    Calls Tryd.prog 12 #[.pointer (some ⟨B, 0, none⟩)] w fun e w' => e = .returned (.tuple #[diV zeroDi, .bool false]) ∧ Below w.heap.size w w' := by
  have H := Lib.hid h
  clear h
  go_enter Tryd.func12, Tryd.ntmps12
  have b0 := BlkAt.new w 31 #[.int .i64 0, .int .i64 0, .string ⟨#[]⟩]
  go_wp2_with (go_at_call 13; refine (len_any base B [] _ (H.out.below ((Below.refl _ w).alloc (Nat.le_refl _) _))).mono ?_; rintro e w1 ⟨rfl, rfl⟩)
  refine bodyPost_ret (results_ct rfl rfl aggD (by rfl) b0) rfl ⟨rfl, ?_⟩
  exact (Below.refl _ w).alloc (Nat.le_refl _) _
theorem run_neq_yes (a0 a1 : Int) (s : ByteArray) (w : World) : (binOp .neq 31 (.agg #[.int .i64 a0, .int .i64 a1, .string s]) (.agg #[.int .i64 a0, .int .i64 a1, .string s])).run Tryd.prog w = .ok (.bool false) w := by
  have h := run_eql_yes a0 a1 s w
  simp [go_sem] at h ⊢
theorem IsLv.below {base B : Nat} {w w' : World} {ds : List Di} {v : Value} (h : IsLv base w B ds v) (hB : Below w.heap.size w w') : IsLv base w' B ds v :=
  ⟨h.1, h.2.1, h.2.2.1.below hB h.2.2.1.lt, rowKept h.2.2.2.1 hB, h.2.2.2.2⟩
theorem TlA.below {w W W' : World} {base Bx Bb n : Nat} {zs : List DI} {p q : Value} (h : TlA w base Bx Bb n zs p q W) (hB : Below W.heap.size W W') : TlA w base Bx Bb n zs p q W' := by
  obtain ⟨k, vx, h1, h2, h3, h4, h5, h6, h7, h8⟩ := h
  exact ⟨k, vx, h1, h2, h3.below hB, rowKept h4 hB, h5, h6.below hB h6.lt, h7.trans (hB.mono h8), Nat.le_trans h8 hB.size⟩
/-- Behind Add: what has been added is not wanted, or is. -/
theorem tl_add {w wr w3 : World} {base Bx Bb n k : Nat} {zs : List DI} {pw vx vx3 : Value} {ds ds3 : List Di} (hk : k < n) (hds3 : addAll (zs.take (k + 1)) = ds3) (hL : IsLv base wr Bx ds vx) (hwt : wr.ownsRow base 31 3 pw ds.length (ds.flatMap diCells))
    (hsep : ∀ g, pw.ownBlock = some g → vx.ownBlock ≠ some g) (hBk : BlkAt wr Bb 51 (bookCells nilV nilV)) (hB : Below base w wr) (hsz : base ≤ wr.heap.size)
    (hL3 : IsLv base w3 Bx ds3 vx3) (hB3 : Below base wr.drew w3) (hat3 : vx3.ownBlock = vx.ownBlock ∨ ∃ g, wr.drew.heap.size ≤ g ∧ vx3.ownBlock = some g) (hfr3 : ∀ k, k < wr.drew.heap.size → k ≠ Bx → vx.ownBlock ≠ some k → w3.heap[k]? = wr.drew.heap[k]?) :
    (w3.ownsRow base 31 3 pw ds.length (ds.flatMap diCells)) ∧ (∀ g, pw.ownBlock = some g → vx3.ownBlock ≠ some g) ∧ (ds3 = ds → TlA w base Bx Bb n zs pw (.int .i64 ((k : Int) + 1)) w3) := by
  have hwz : wr.drew.heap.size = wr.heap.size := rfl
  have hsp3 : ∀ g, pw.ownBlock = some g → vx3.ownBlock ≠ some g := fun g h1 h2 => by
    obtain ⟨c, hc, _⟩ := own_at hwt h1
    have hlt := (Array.getElem?_eq_some_iff.1 hc).1
    rcases hat3 with h3 | ⟨g', h3, h4⟩
    · exact hsep g h1 (by rw [← h3]; exact h2)
    · rw [h4] at h2
      cases h2
      omega
  have hw3 : w3.ownsRow base 31 3 pw ds.length (ds.flatMap diCells) := by
    refine ⟨hwt.1, ?_⟩
    rcases hwt.2 with h0 | ⟨g, cap, cur, hv, hb, hg, hr⟩
    · exact .inl h0
    · refine .inr ⟨g, cap, cur, hv, hb, ?_, hr⟩
      have hgb : pw.ownBlock = some g := by rw [hv]; rfl
      rw [hfr3 g (Array.getElem?_eq_some_iff.1 hg).1 (fun e => blk_ne hwt hL.2.2.1 (by decide) (by rw [hgb, e])) (hsep g hgb)]
      exact hg
  refine ⟨hw3, hsp3, fun e => ?_⟩
  have hBk3 : BlkAt w3 Bb 51 (bookCells nilV nilV) := by
    have h1 : Bb ≠ Bx := fun e => by
      have a := hL.2.2.1
      have b := hBk
      unfold BlkAt at a b
      rw [e, a] at b
      cases b
    exact (hfr3 Bb hBk.lt h1 (blk_ne hL.2.2.2.1 hBk (by decide))).trans hBk
  exact ⟨k + 1, vx3, by simp, hk, by rw [hds3]; exact hL3, by rw [hds3, e]; exact hw3, hsp3, hBk3, hB.drew.trans hB3, Nat.le_trans hsz hB3.size⟩
theorem tl_yes {w wr w3 w4 : World} {base Bx Bb n k gg cap : Nat} {zs : List DI} {pw vx vx3 u : Value} {cs : Array Value} {ds ds3 : List Di} {nw : List Value} (hk : k < n) (hds3 : addAll (zs.take (k + 1)) = ds3) (hL : IsLv base wr Bx ds vx) (hwt : wr.ownsRow base 31 3 pw ds.length (ds.flatMap diCells))
    (hsep : ∀ g, pw.ownBlock = some g → vx.ownBlock ≠ some g) (hBk : BlkAt wr Bb 51 (bookCells nilV nilV)) (hB : Below base w wr) (hsz : base ≤ wr.heap.size)
    (hL3 : IsLv base w3 Bx ds3 vx3) (hB3 : Below base wr.drew w3) (hat3 : vx3.ownBlock = vx.ownBlock ∨ ∃ g, wr.drew.heap.size ≤ g ∧ vx3.ownBlock = some g) (hfr3 : ∀ k, k < wr.drew.heap.size → k ≠ Bx → vx.ownBlock ≠ some k → w3.heap[k]? = wr.drew.heap[k]?)
    (he : ds3.length = ds.length + 1) (hc : ds3.flatMap diCells = ds.flatMap diCells ++ nw)
    (hown : w4.ownsRow base 31 3 (.slice (some ⟨gg, 0, none⟩) (ds.length + 1) cap) (ds.length + 1) (ds.flatMap diCells ++ nw)) (hgr : (w3.drew.alloc (.cells cs 31)).grownBy w4 pw.ownBlock) (hat : pw.ownBlock = some gg ∨ gg = w3.heap.size + 1) :
    TlA w base Bx Bb n zs (.slice (some ⟨gg, 0, none⟩) (ds.length + 1) cap) (.int .i64 ((k : Int) + 1)) w4 := by
  obtain ⟨hw3, hsp3, _⟩ := tl_add (Bb := Bb) hk hds3 hL hwt hsep hBk hB hsz hL3 hB3 hat3 hfr3
  have hA : Below w3.heap.size w3 (w3.drew.alloc (.cells cs 31)) := (Below.refl w3.heap.size w3).drew.alloc (Nat.le_refl _) _
  have hL4a := hL3.below hA
  have hwa := rowKept hw3 hA
  have hBx : pw.ownBlock ≠ some Bx := blk_ne hwa hL4a.2.2.1 (by decide)
  have hL4 : IsLv base w4 Bx ds3 vx3 := ⟨hL4a.1, hL4a.2.1, hL4a.2.2.1.grown hgr (fun e => hBx e.symm), owns_gb hL4a.2.2.2.1 hgr (fun g h1 e => hsp3 g e h1), hL4a.2.2.2.2⟩
  have hBk3 : BlkAt w3 Bb 51 (bookCells nilV nilV) := by
    have h1 : Bb ≠ Bx := fun e => by
      have a := hL.2.2.1
      have b := hBk
      unfold BlkAt at a b
      rw [e, a] at b
      cases b
    exact (hfr3 Bb hBk.lt h1 (blk_ne hL.2.2.2.1 hBk (by decide))).trans hBk
  have hBka := hBk3.below hA hBk3.lt
  have hs3 := Nat.le_trans hsz (show wr.heap.size ≤ w3.heap.size from hB3.size)
  refine ⟨k + 1, vx3, by simp, hk, by rw [hds3]; exact hL4, by rw [hds3, he, hc]; exact hown, fun g h1 h2 => ?_, hBka.grown hgr (fun e => blk_ne hwa hBka (by decide) e.symm), ((hB.drew.trans hB3).trans (hA.mono hs3)).grown hgr (Nat.le_trans hs3 hA.size) (fun j e => (own_at hwa e).choose_spec.2), Nat.le_trans hs3 (Nat.le_trans hA.size hgr.size)⟩
  have hgg : gg = g := Option.some.inj h1
  rcases hat with h3 | h3
  · exact hsp3 g (by rw [h3, hgg]) h2
  · obtain ⟨c, hc, _⟩ := own_at hL3.2.2.2.1 h2
    have := (Array.getElem?_eq_some_iff.1 hc).1
    omega
/-- 's[c:]' of a slice at its block's begin. -/
theorem run_back {g i oc cc : Nat} (h : cc ≤ i) (hc : i ≤ oc) : ∃ y : Addr, y.block = g ∧ (∀ j, j < (i - cc) * 3 → y.add j = ⟨g, cc * 3 + j, none⟩) ∧
    ∀ w : World, (Instr.slice 22 (.slice (some ⟨g, 0, none⟩) i oc) (some (.int .i64 cc)) none none).run Tryd.prog w = .ok (.slice (some y) (i - cc) (oc - cc)) w := by
  have hz : ∀ w, (Go.sizeOf (Tryd.prog.elem 22)).run Tryd.prog w = .ok 3 w := fun w => by kernel_rfl
  have hu : Tryd.prog.underlying 22 = some (.slice (Tryd.prog.elem 22)) := by rw [Tryd.underlying22]; simp [Program.elem, Tryd.underlying22]
  by_cases e : oc = cc
  · refine ⟨⟨g, 0, none⟩, rfl, fun j hj => by omega, fun w => ?_⟩
    rw [run_slice_l w 22 _ _ _ hu .i64 cc (by omega) (by omega), hz]
    simp [Result.andThen, sliced, e]
  · refine ⟨(⟨g, 0, none⟩ : Addr).add (cc * 3), add_block _ _, fun j hj => ?_, fun w => ?_⟩
    · rw [add_sum]
      unfold Addr.add
      split <;> simp_all
    · rw [run_slice_l w 22 _ _ _ hu .i64 cc (by omega) (by omega), hz]
      simp [Result.andThen, sliced, e]
/-- An append in a region that draws its order. -/
theorem step_app_kept {P : Program} {w : World} {ops : Array Oper} {o : Oper} {a : Act} {K : Act → World → Prop} {Q : Exit → Act → World → Prop} {E : Prop} (hgd : o.guard = none) (s x : Operand) (t e : TypeId) (size bytes : Nat)
    (T : SlT P t e size bytes) (ho : o.op = .call { callee := .builtin .append, args := #[s, x], argTypes := #[t, t] })
    (base : Nat) (hbase : base ≤ w.heap.size) (v : Value) (n : Nat) (xs : List Value) (hs : a.eval s = v) (hown : w.ownsRow base e size v n xs)
    (ad : Addr) (m c : Nat) (news : List Value) (hx : a.eval x = .slice (some ad) m c) (hl : news.length = m * size) (hnews : ∀ j u, news[j]? = some u → w.cell? (ad.add j) = some u) (h1 : ∀ u ∈ news, u.oneCell' = true)
    (hbytes : (n + m) * bytes ≤ 140737488355328) (len : Nat) (hlen : n + m = len)
    (h : ∀ b c' w', w'.ownsRow base e size (.slice b len c') len (xs ++ news) → w.grownBy w' v.ownBlock → ((Value.slice b len c').ownBlock = v.ownBlock ∨ (Value.slice b len c').ownBlock = some w.heap.size) → K (a.put o.dst (.slice b len c')) w') :
    if Region.wanted o (yielded ops a.tmps) = true then Oper.wp P o a w K Q else E := by
  subst hlen
  have hw : Region.wanted o (yielded ops a.tmps) = true := by simp [Region.wanted, hgd]
  rw [if_pos hw]
  obtain ⟨v', w', hr, h2, h3, h4, _⟩ := run_app_kept (P := P) w base t o.type e size bytes T v n xs hown ad m c news hl hnews h1 hbytes hbase
  obtain ⟨b, c', rfl⟩ := ownsRow_slice' h2
  unfold Oper.wp execOp
  simp only [ho, resolve, invoke, builtin, Sem.run_bind, Sem.run_pure, Result.andThen_ok, List.map_toArray, List.map_cons, List.map_nil, hs, hx, hr]
  exact h b c' w' h2 h3 h4
/-- An append in a region that draws its order, whose run is known. -/
theorem step_app_run {P : Program} {w : World} {ops : Array Oper} {o : Oper} {a : Act} {K : Act → World → Prop} {Q : Exit → Act → World → Prop} {E : Prop} (hgd : o.guard = none) (s x : Operand) (t : TypeId)
    (ho : o.op = .call { callee := .builtin .append, args := #[s, x], argTypes := #[t, t] }) (v u v' : Value) (w' : World) (hs : a.eval s = v) (hx : a.eval x = u) (hr : (Builtin.append_ #[t, t] o.type #[v, u]).run P w = .ok v' w') (h : K (a.put o.dst v') w') :
    if Region.wanted o (yielded ops a.tmps) = true then Oper.wp P o a w K Q else E := by
  have hw : Region.wanted o (yielded ops a.tmps) = true := by simp [Region.wanted, hgd]
  rw [if_pos hw]
  unfold Oper.wp execOp
  simp only [ho, resolve, invoke, builtin, Sem.run_bind, Sem.run_pure, Result.andThen_ok, List.map_toArray, List.map_cons, List.map_nil, hs, hx, hr]
  exact h
theorem app_none (a : Option Addr) (c : Nat) (w : World) : (Builtin.append_ #[22, 22] 22 #[nilV, .slice a 0 c]).run Tryd.prog w = .ok nilV w := by
  cases a <;> kernel_rfl
theorem app_row {w : World} {base n : Nat} {v : Value} {xs : List Value} (h : w.ownsRow base 31 3 v n xs) : (Builtin.append_ #[22, 22] 22 #[v, nilV]).run Tryd.prog w = .ok v w := by
  obtain ⟨ht, ⟨i, z, hi, hz, hsz, hby, hzs⟩, hs0, hb0⟩ := slD
  rcases h.2 with ⟨rfl, rfl⟩ | ⟨g, cap, cur, rfl, hb, hg, hn, _⟩
  · exact app_none none 0 w
  · simp [Builtin.append_, run_underlying ht, sizeOf, typeInfo, hi, Builtin.lenOf, Builtin.firstCells, loadCells, storeCells, hn]
/-- The cells of a slice that came in. -/
theorem in_cells {w : World} {x : Addr} {zs : List DI} (h : IsDIs w (some x) zs) : ∀ W, Below w.heap.size w W → ∀ j u, ((zs.map toDi).flatMap diCells)[j]? = some u → W.cell? (x.add j) = some u := fun W hB j u hu => by
  have hj : j < zs.length * 3 := by
    have := (List.getElem?_eq_some_iff.1 hu).1
    rw [diCells_len, List.length_map] at this
    exact this
  obtain ⟨i, j', hj', rfl⟩ : ∃ i j', j' < 3 ∧ j = i * 3 + j' := ⟨j / 3, j % 3, by omega, by omega⟩
  have hi : i < zs.length := by omega
  obtain ⟨_, x', e, hc⟩ := h i hi
  cases e
  have h0 := hc j' hj'
  rw [flatD _ i j' hj', List.getElem?_map, List.getElem?_eq_getElem hi] at hu
  have e : (dIcells zs[i])[j']? = (diCells (toDi zs[i]))[j']? := by simp [toDi]
  rw [e] at h0
  have hu' : (diCells (toDi zs[i]))[j']? = some u := hu
  rw [hu'] at h0
  exact (hB.cell (p := x.add (i * 3 + j')) (block_lt h0)).trans h0
/-- How far the order has come. -/
def TlB (w8 : World) (o : Nat → Di) (n : Nat) (p q : Value) (wr : World) : Prop :=
  ∃ (i : Nat) (f : Nat → Nat), q = .int .i64 i ∧ i ≤ n ∧ Srt (keyO o) f 0 i ∧ Moves id f 0 i ∧ wr.ownsRow w8.heap.size 31 3 p i ((ordL o f i).flatMap diCells) ∧ (i = 0 → p = nilV) ∧ Below w8.heap.size w8 wr ∧ w8.heap.size ≤ wr.heap.size
/-- The search for a place. -/
def TlC (wr : World) (o : Nat → Di) (f : Nat → Nat) (i : Nat) (p : Value) (wr2 : World) : Prop :=
  ∃ c : Nat, p = .int .i64 c ∧ c ≤ i ∧ (∀ j, c ≤ j → j < i → keyO o i < keyO o (f j)) ∧ Below wr.heap.size wr wr2
end Go.Proofs.YtgdnibdahldekabDoor
