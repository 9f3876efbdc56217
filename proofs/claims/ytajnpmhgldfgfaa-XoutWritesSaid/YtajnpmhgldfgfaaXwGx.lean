/- The iterator over an element and all in it: Walk. The walk of a document's Walk; what its iterator turns. What a document's Walk tells, as a contract of its iterator. -/
import Derived.Test.YtajnpmhgldfgfaaXwIx
import Derived.Test.YtajnpmhgldfgfaaXtIs
import Derived.Test.YtajnpmhgldfgfaaXkJn
import Derived.Test.YtajnpmhgldfgfaaXkF0
import Derived.RegionIn
import Derived.BigRegionIn
import Derived.Outline
import Derived.Test.YtajnpmhgldfgfaaProg
namespace Go.Proofs.Ytajnpmhgldfgfaa
open Go.RowKit Go.Shelf
set_option linter.unusedVariables false
attribute [local go_sem] Oper.semAt_some

/-- What Walk turns that is its own: whatever is no cells, and its places. -/
def RwW : Obj → Bool
  | .cells _ t _ => t == 81 || t == 82
  | _ => true
theorem rwW_else (o : Obj) (h : o.isCells = false) : RwW o = true := by cases o <;> first | rfl | cases h
/-- What a round keeps for Walk: what lay below n, and the places. -/
def KeepW (n : Nat) (W W' : World) : Prop := Below n W W' ∧ KeepT 81 W W' ∧ KeepT 82 W W'
theorem KeepW.trans {n : Nat} {A B C : World} (h : KeepW n A B) (k : KeepW n B C) : KeepW n A C := ⟨h.1.trans k.1, h.2.1.trans k.2.1, h.2.2.trans k.2.2⟩
theorem slP : SlT Try.prog 82 81 2 16 := SlT.mk Try.underlying82 (z := .agg #[.int .i64 0, .int .i64 0]) (by kernel_rfl) rfl (by decide) (by decide)

set_option maxRecDepth 100000 in
set_option maxHeartbeats 4000000 in
/-- Walk at no element: nothing is told. -/
theorem walk1_out (d : Nat) (hd : 1 ≤ d) (l Bd Be n c : Nat) (a : Option Addr) (e : Int) (he : ¬ (0 ≤ e ∧ e < (n : Int))) (J Jx : List (Nat × Nat) → World → Prop) (W : World) (hJ : AbidesR RwW W.heap.size J)
    (hb : Boxed W Bd 32 (.slice a n c)) (hb2 : Boxed W Be 3 (.int .i64 e)) (h0 : J [] W) :
    CallsIn Fence.wide d Try.prog 32 #[.func (.yield l) #[] #[], .pointer (some ⟨Bd, 0, none⟩), .pointer (some ⟨Be, 0, none⟩)] W fun en W' => (∃ v, en = .returned v) ∧
      ((∃ ys, ys = ([] : List (Nat × Nat)) ∧ J ys W') ∨ (∃ pre, pre <+: ([] : List (Nat × Nat)) ∧ Jx pre W')) := by
  have c0 := hb.cell
  have c1 := hb2.cell
  have hIS := is_any a n c e W
  rw [decide_eq_false he] at hIS
  have HIS := Lib.hid hIS
  have HJ := Lib.hid hJ
  have H0 := Lib.hid h0
  clear hIS hb hb2 he h0 hJ
  refine callsIn_of_wp_marks Try.func32 rfl trivial ?_ rfl
  simp only [Try.ntmps32, List.size_toArray, List.length_cons, List.length_nil, Nat.reduceAdd, Nat.reduceSub, Array.replicate_succ, Array.replicate_zero, List.push_toArray, List.append_toArray, List.nil_append, List.cons_append]
  gi_wp2
  refine wpIn_scope_wide ?_
  gi_wp2_with (refine ⟨trivial, ?_⟩; gi_at_call 33; refine (callsIn_wide.2 HIS.out).mono ?_; rintro _ w2 ⟨rfl, hB2⟩; have HJ2 := Lib.hid (HJ.out [] W w2 none H0.out (grown_none hB2) (fun r e => by cases e)); clear hB2)
  refine ⟨trivial, ?_⟩
  gi_wp2
  rw [Exit.noGoto_ret]
  exact ⟨_, results_none rfl _ _ _, ⟨_, rfl⟩, .inl ⟨[], rfl, HJ2.out⟩⟩

/-- A place's cells. -/
def plc (p : Nat × Nat) : List Value := [.int .i64 p.1, .int .i64 p.2]
/-- Those that wait, as they lie: the next one last. -/
def plcs (D : List Nat) (e : Nat) (st : List Nat) : List Value := st.reverse.flatMap fun j => plc (j, D[j]?.getD 0 - D[e]?.getD 0)
theorem plcs_len (D : List Nat) (e : Nat) (st : List Nat) : (plcs D e st).length = st.length * 2 := by
  unfold plcs
  rw [List.length_flatMap]
  have : ∀ l : List Nat, (l.map fun j => (plc (j, D[j]?.getD 0 - D[e]?.getD 0)).length).sum = l.length * 2 := fun l => by
    induction l with
    | nil => rfl
    | cons a l ih => simp only [List.map_cons, List.sum_cons, List.length_cons, ih]; show 2 + _ = _; omega
  rw [this, List.length_reverse]
theorem plcs_cons (D : List Nat) (e x : Nat) (st : List Nat) : plcs D e (x :: st) = plcs D e st ++ plc (x, D[x]?.getD 0 - D[e]?.getD 0) := by unfold plcs; rw [List.reverse_cons, List.flatMap_append]; simp
/-- What Walk's loop holds: J of those that were told, the places that wait, the marks of the loops that it has left. -/
structure WkS (w : World) (B T : Nat) (ups : List Int) (D : List Nat) (e : Nat) (J : List (Nat × Nat) → World → Prop) (k : Nat) (st : List Nat) (tv : Value) (Ds : List Deferred) (V : World) : Prop where
  at_ : AtK ups e k st
  told : J (segTo D e k) V
  box : Boxed V T 82 tv
  row : V.ownsRow B 81 2 tv st.length (plcs D e st)
  marks : Marks B V Ds
  below : Below w.heap.size w V
  bT : B ≤ T
  size : B ≤ V.heap.size
/-- J stays while a place of Walk's is written. -/
theorem j_set {J : List (Nat × Nat) → World → Prop} {B : Nat} (hJ : AbidesR RwW B J) {pre : List (Nat × Nat)} {V : World} {T : Nat} {t : TypeId} {cs : Array Value} (h : J pre V) (hb : BlkAt V T t cs) (ht : t = 81 ∨ t = 82) (hB : B ≤ T) (i : Nat) (u : Value) : J pre (V.setCell ⟨T, i, none⟩ u) :=
  hJ pre V _ (some T) h (grown_set V T i u) (fun r er => by cases er; exact ⟨hB, _, hb, by rcases ht with rfl | rfl <;> rfl⟩)
/-- The next one is taken: a box of its own, and one fewer waits. -/
theorem WkS.pop {w : World} {B T e k x g cap : Nat} {ups : List Int} {D : List Nat} {J : List (Nat × Nat) → World → Prop} (hJ : AbidesR RwW B J) {st : List Nat} {Ds : List Deferred} {V V2 : World} (h : WkS w B T ups D e J k (x :: st) (.slice (some ⟨g, 0, none⟩) (st.length + 1) cap) Ds V)
    (hV : (V.alloc (.cells #[.int .i64 x, .int .i64 (D[x]?.getD 0 - D[e]?.getD 0 : Nat)] 81)).setCell ⟨T, 0, none⟩ (.slice (some ⟨g, 0, none⟩) st.length cap) = V2) (hw : w.heap.size ≤ B) :
    J (segTo D e k) V2 ∧ Boxed V2 T 82 (.slice (some ⟨g, 0, none⟩) st.length cap) ∧ V2.ownsRow B 81 2 (.slice (some ⟨g, 0, none⟩) st.length cap) st.length (plcs D e st) ∧ Marks B V2 Ds ∧ Below w.heap.size w V2 ∧ BlkAt V2 V.heap.size 81 #[.int .i64 x, .int .i64 (D[x]?.getD 0 - D[e]?.getD 0 : Nat)] ∧ B ≤ V2.heap.size := by
  have hbT := h.bT
  have hsz := h.size
  have hTl := h.box.lt
  obtain ⟨V1, hV1⟩ : ∃ V1, V.alloc (.cells #[.int .i64 x, .int .i64 (D[x]?.getD 0 - D[e]?.getD 0 : Nat)] 81) = V1 := ⟨_, rfl⟩
  have b1 : BlkAt V1 V.heap.size 81 #[.int .i64 x, .int .i64 (D[x]?.getD 0 - D[e]?.getD 0 : Nat)] := by rw [← hV1]; exact BlkAt.new _ _ _
  have j1 : J (segTo D e k) V1 := by rw [← hV1]; exact hJ.alloc _ h.told
  have x1 : Boxed V1 T 82 (.slice (some ⟨g, 0, none⟩) (st.length + 1) cap) := by rw [← hV1]; exact h.box.alloc _
  have r1 : V1.ownsRow B 81 2 (.slice (some ⟨g, 0, none⟩) (st.length + 1) cap) (st.length + 1) (plcs D e st ++ plc (x, D[x]?.getD 0 - D[e]?.getD 0)) := by
    rw [← hV1, ← plcs_cons]; exact h.row.alloc _
  have m1 : Marks B V1 Ds := by rw [← hV1]; exact h.marks.keeps ((KeepsOthers.alloc V _).from _)
  have l1 : Below w.heap.size w V1 := by rw [← hV1]; exact h.below.alloc (by omega) _
  have z1 : V1.heap.size = V.heap.size + 1 := by rw [← hV1]; simp
  rw [hV1] at hV
  subst hV
  refine ⟨j_set hJ j1 x1 (.inr rfl) hbT 0 _, x1.set _, ?_, m1.keeps ((KeepsOthers.setCell _ _ _).from _), l1.setCell (p := ⟨T, 0, none⟩) (by show w.heap.size ≤ T; omega) _, b1.far (p := ⟨T, 0, none⟩) (by show V.heap.size ≠ T; omega) _, by rw [World.size_setCell]; omega⟩
  have r2 := ownsRow_pop (plcs_len D e st) r1
  exact r2.kept (grown_set V1 T 0 _) (.inr (fun e' => x1.not_row (by decide) r2 e'.symm))

/-- 'append(s, x)' of one element within a fence; the row lies where it lay, or in the next block. -/
theorem wpListIn_app_at {F : Fence} {n : Nat} {P : Program} (w : World) {ops : Array Oper} {rest : List Oper} {o : Oper} {a : Act} {Q : Exit → Act → World → Prop} (hgd : o.guard = none) (s x : Operand) (t e : TypeId) (size bytes : Nat)
    (T : SlT P t e size bytes) (ho : o.op = .call { callee := .builtin .append, args := #[s, x], argTypes := #[t, t] })
    (base : Nat) (hbase : base ≤ w.heap.size) (v : Value) (k : Nat) (xs : List Value) (hs : a.eval s = v) (hown : w.ownsRow base e size v k xs)
    (ad : Addr) (news : List Value) (hx : a.eval x = .slice (some ad) 1 1) (hl : news.length = size) (hnews : ∀ j u, news[j]? = some u → w.cell? (ad.add j) = some u) (h1 : ∀ u ∈ news, u.oneCell' = true)
    (hbytes : (k + 1) * bytes ≤ 140737488355328)
    (h : ∀ g cap w', w'.ownsRow base e size (.slice (some ⟨g, 0, none⟩) (k + 1) cap) (k + 1) (xs ++ news) → w.grownBy w' v.ownBlock → ((Value.slice (some ⟨g, 0, none⟩) (k + 1) cap).ownBlock = v.ownBlock ∨ (Value.slice (some ⟨g, 0, none⟩) (k + 1) cap).ownBlock = some w.heap.size) → wpListIn F n P ops Q rest (a.put o.dst (.slice (some ⟨g, 0, none⟩) (k + 1) cap)) w') : wpListIn F n P ops Q (o :: rest) a w := by
  refine wpListIn_plain hgd fun K hK => ?_
  refine op_append (F := F) (n := n) T ho hs hown hbase hx hl hnews h1 hbytes fun v' w' h2 h3 h5 => hK _ _ ?_
  obtain ⟨g, cap, rfl⟩ := ownsRow_succ h2
  exact h g cap w' h2 h3 h5
/-- No mark lies at or beyond U. -/
def MarksLt (U : Nat) (ds : List Deferred) : Prop := ∀ d ∈ ds, ∀ D, d = { target := .collected D, args := #[] } → D < U
theorem Marks.lt {B : Nat} {W : World} {ds : List Deferred} (h : Marks B W ds) {U : Nat} (hU : W.heap.size ≤ U) : MarksLt U ds := by
  obtain ⟨Ds, rfl, _, h3⟩ := h
  intro d hd D e
  subst e
  obtain ⟨D', hD', e⟩ := List.mem_map.1 hd
  have : D' = D := by cases e; rfl
  subst this
  have := (Array.getElem?_eq_some_iff.1 (h3 D' hD').2).1
  omega
theorem Marks.grown {B U : Nat} {W W' : World} {ds : List Deferred} {row : Option Nat} (h : Marks B W ds) (hl : MarksLt U ds) (hg : W.grownBy W' row) (hr : ∀ r, row = some r → U ≤ r) : Marks B W' ds := by
  obtain ⟨Ds, rfl, h2, h3⟩ := h
  refine ⟨Ds, rfl, h2, fun D hD => ⟨(h3 D hD).1, ?_⟩⟩
  have hDl := hl _ (List.mem_map.2 ⟨D, hD, rfl⟩) D rfl
  exact (hg.block D (Array.getElem?_eq_some_iff.1 (h3 D hD).2).1 (fun e => by have := hr D e.symm; omega)).trans (h3 D hD).2
theorem Marks.cells {B : Nat} {W W' : World} {ds : List Deferred} {row : Option Nat} (h : Marks B W ds) (hg : W.grownBy W' row) (hr : ∀ r, row = some r → ∃ o : Obj, W.heap[r]? = some o ∧ o.isCells = true) : Marks B W' ds := by
  obtain ⟨Ds, rfl, h2, h3⟩ := h
  refine ⟨Ds, rfl, h2, fun D hD => ⟨(h3 D hD).1, ?_⟩⟩
  refine (hg.block D (Array.getElem?_eq_some_iff.1 (h3 D hD).2).1 (fun e => ?_)).trans (h3 D hD).2
  obtain ⟨o, ho, hc⟩ := hr D e.symm
  rw [(h3 D hD).2] at ho
  cases ho
  cases hc
/-- What the loop over an element's kids holds: more places wait. -/
structure WkI (w : World) (Bk : Nat) (sv : Value) (B T X L : Nat) (base : List Value) (x dp : Nat) (Jw : World → Prop) (Ds : List Deferred) (pre : List (Nat × Nat)) (tv : Value) (V : World) : Prop where
  box : Boxed V T 82 tv
  row : V.ownsRow B 81 2 tv (L + pre.length) (base ++ pre.flatMap fun p => plc (p.2, dp + 1))
  told : Jw V
  marks : Marks B V Ds
  below : Below w.heap.size w V
  xbox : BlkAt V X 81 #[.int .i64 x, .int .i64 dp]
  kbox : Boxed V Bk 33 sv
  xne : ∀ g, tv.ownBlock = some g → g ≠ X
  size : B ≤ V.heap.size
theorem wkI_own {w : World} {Bk : Nat} {sv : Value} {B T X L U x dp : Nat} {base : List Value} {Jw : World → Prop} {Ds : List Deferred} (hB : B ≤ U) (hw : w.heap.size ≤ U) (hl : MarksLt U Ds)
    (hJ : ∀ (W W' : World) (row : Option Nat), Jw W → W.grownBy W' row → (∀ r, row = some r → B ≤ r ∧ ∃ o : Obj, W.heap[r]? = some o ∧ RwW o = true) → Jw W') :
    OwnFrom U (fun pre V => ∃ tv, WkI w Bk sv B T X L base x dp Jw Ds pre tv V) := by
  intro pre V V' row ⟨tv, h⟩ hg hr
  have hne : ∀ (b : Nat) (cs : Array Value) (t : TypeId), V.heap[b]? = some (.cells cs t (0, 0)) → some b ≠ row := fun b cs t hb e => by
    obtain ⟨_, o, ho, hc⟩ := hr b e.symm
    rw [hb] at ho
    cases ho
    cases hc
  refine ⟨tv, h.box.kept hg (hne _ _ _ h.box), h.row.kept hg ?_, hJ V V' row h.told hg (fun r e => ⟨by have := (hr r e).1; omega, by obtain ⟨_, o, ho, hc⟩ := hr r e; exact ⟨o, ho, rwW_else o hc⟩⟩), h.marks.grown hl hg (fun r e => (hr r e).1), h.below.grown hg (by have := h.below.size; exact this) (fun r e => by have := (hr r e).1; omega), h.xbox.grown hg (hne _ _ _ h.xbox), h.kbox.kept hg (hne _ _ _ h.kbox), h.xne, Nat.le_trans h.size hg.size⟩
  rcases h.row.2 with ⟨e, _⟩ | ⟨g, cap, cur, e, _, hgg, _⟩
  · subst e; exact .inl rfl
  · subst e; exact .inr (hne _ _ _ hgg)

/-- One more place waits. -/
theorem wkI_put {w : World} {Bk : Nat} {sv : Value} {B T X L x dp b : Nat} {base : List Value} {Jw : World → Prop} {Ds : List Deferred} {pre : List (Nat × Nat)} {tv v' : Value} {V w1 : World} {tmp : Obj} (h : WkI w Bk sv B T X L base x dp Jw Ds pre tv V) (hw : w.heap.size ≤ B) (hT : B ≤ T) (hXT : X ≠ T) (hb : b < w.heap.size)
    (hJ : ∀ (W W' : World) (row : Option Nat), Jw W → W.grownBy W' row → (∀ r, row = some r → B ≤ r ∧ ∃ o : Obj, W.heap[r]? = some o ∧ RwW o = true) → Jw W')
    {p : Nat × Nat} (hat : v'.ownBlock = tv.ownBlock ∨ v'.ownBlock = some (V.alloc tmp).heap.size)
    (hown : w1.ownsRow B 81 2 v' (L + pre.length + 1) ((base ++ pre.flatMap fun p => plc (p.2, dp + 1)) ++ plc (p.2, dp + 1))) (hgrow : (V.alloc tmp).grownBy w1 tv.ownBlock) :
    WkI w Bk sv B T X L base x dp Jw Ds (pre ++ [p]) v' (w1.setCell ⟨T, 0, none⟩ v') ∧ KeepsOthers V (w1.setCell ⟨T, 0, none⟩ v') ∧ KeepBB Bk b V (w1.setCell ⟨T, 0, none⟩ v') := by
  obtain ⟨a1, a2, a3, a4, a5⟩ := Boxed.appended h.box (by decide) h.row h.size hT hown hgrow
  have hrowB : ∀ r, tv.ownBlock = some r → B ≤ r ∧ ∃ c, (V.alloc tmp).heap[r]? = some (.cells c 81 (0, 0)) := fun r e => by
    obtain ⟨c, hc, hB⟩ := own_at (h.row.alloc tmp) e
    exact ⟨hB, c, hc⟩
  have hz : V.heap.size ≤ w1.heap.size := Nat.le_trans (by simp) hgrow.size
  have hblk : ∀ (k : Nat) (o : Obj), V.heap[k]? = some o → some k ≠ tv.ownBlock → k ≠ T → (w1.setCell ⟨T, 0, none⟩ v').heap[k]? = some o := fun k o hk h1 h2 => by
    have hkl := (Array.getElem?_eq_some_iff.1 hk).1
    rw [Below.heap_setCell _ _ _ _ (by show k ≠ T; exact h2), hgrow.block k (by simp; omega) h1, Below.heap_alloc _ _ _ hkl]
    exact hk
  have hkT : Bk ≠ T := fun e => by
    have h1 : V.heap[T]? = some (.cells #[sv] 33 (0, 0)) := e ▸ h.kbox
    rw [show V.heap[T]? = _ from h.box] at h1
    cases h1
  refine ⟨⟨a2, ?_, ?_, ?_, h.below.trans (a5.mono hw), ?_, ?_, ?_, ?_⟩, a4, ?_, ?_⟩
  · rw [List.length_append, List.flatMap_append, List.length_singleton, ← Nat.add_assoc, ← List.append_assoc]
    simpa using a3
  · have j1 := hJ _ _ none h.told (World.grownBy_alloc V tmp none) (fun r e => by cases e)
    have j2 := hJ _ _ _ j1 hgrow (fun r e => by obtain ⟨q1, c, q2⟩ := hrowB r e; exact ⟨q1, _, q2, rfl⟩)
    exact hJ _ _ _ j2 (grown_set w1 T 0 v') (fun r e => by cases e; exact ⟨hT, _, a1, rfl⟩)
  · exact h.marks.keeps (a4.from _)
  · exact hblk X _ h.xbox (fun e => h.xne X e.symm rfl) hXT
  · exact hblk Bk _ h.kbox (h.kbox.not_row (by decide) h.row) hkT
  · intro g hg
    have hXl := h.xbox.lt
    rcases hat with e | e
    · exact h.xne g (e ▸ hg)
    · rw [e, World.size_alloc] at hg
      have := Option.some.inj hg
      omega
  · rw [World.size_setCell]; exact Nat.le_trans h.size hz
  · have h1 : (w1.setCell ⟨T, 0, none⟩ v').heap[Bk]? = some (.cells #[sv] 33 (0, 0)) := hblk Bk _ h.kbox (h.kbox.not_row (by decide) h.row) hkT
    exact h1.trans h.kbox.symm
  · have := a5.block b (by omega)
    exact this

theorem marks_more {B U D : Nat} {V : World} {ds : List Deferred} (h : Marks B V ds) (hl : MarksLt U ds) (hU : U ≤ D) (hB : B ≤ D) (hd : V.heap[D]? = some (.deferred (some []))) : Marks B V ({ target := .collected D, args := #[] } :: ds) := by
  obtain ⟨Ds, rfl, h2, h3⟩ := h
  refine ⟨D :: Ds, rfl, List.pairwise_cons.2 ⟨fun E hE e => ?_, h2⟩, fun E hE => ?_⟩
  · have := hl _ (List.mem_map.2 ⟨E, hE, rfl⟩) E rfl
    omega
  · rcases List.mem_cons.1 hE with rfl | hE
    · exact ⟨hB, hd⟩
    · exact h3 E hE
theorem intRd_at {W : World} {a : Option Addr} {m c : Nat} {kl : List Nat} (h : IntRd W (.slice a m c) (kl.map fun (k : Nat) => (k : Int))) (hm : kl.length = m) {g0 : Nat} (hg0 : g0 < W.heap.size) :
    ∃ b o, (m ≠ 0 → a = some ⟨b, o, none⟩) ∧ b < W.heap.size ∧ ∀ (j x : Nat), kl[j]? = some x → W.cell? ⟨b, o + j, none⟩ = some (.int .i64 (x : Nat)) := by
  obtain ⟨a', c', h1, h2⟩ := h
  obtain ⟨rfl, -, rfl⟩ := Value.slice.inj h1
  by_cases h0 : m = 0
  · exact ⟨g0, 0, fun e => absurd h0 e, hg0, fun j x hx => by have := (List.getElem?_eq_some_iff.1 hx).1; omega⟩
  · obtain ⟨b, o, g1, g2, g3⟩ := h2 (fun e => h0 (by rw [← hm, ← List.length_map (f := fun (k : Nat) => (k : Int)), e]; rfl))
    refine ⟨b, o, fun _ => g1, g2, fun j x hx => ?_⟩
    have hj := (List.getElem?_eq_some_iff.1 hx).1
    rw [g3 j (by rw [List.length_map]; exact hj), List.getD_eq_getElem?_getD, List.getElem?_map, hx]
    rfl
theorem backY_snd (kl : List Nat) : (backY kl).map (·.2) = kl.reverse := by
  unfold backY
  rw [List.map_map, ← List.map_reverse.symm]
  have : ∀ l : List Nat, (List.range l.length).map ((fun x : Nat × Nat => x.2) ∘ fun i => (i, l[i]?.getD 0)) = l := fun l => by
    apply List.ext_getElem?
    intro i
    rw [List.getElem?_map]
    by_cases h : i < l.length
    · rw [List.getElem?_range h, List.getElem?_eq_getElem h]
      simp [h]
    · rw [List.getElem?_eq_none (by simp; omega), List.getElem?_eq_none (by omega)]; rfl
  rw [this]
theorem plcs_more {D : List Nat} {e dp : Nat} {kl st : List Nat} (h : ∀ j ∈ kl, D[j]?.getD 0 - D[e]?.getD 0 = dp + 1) : plcs D e (kl ++ st) = plcs D e st ++ (backY kl).flatMap fun p => plc (p.2, dp + 1) := by
  unfold plcs
  rw [List.reverse_append, List.flatMap_append]
  congr 1
  have h1 : (backY kl).flatMap (fun p => plc (p.2, dp + 1)) = ((backY kl).map (·.2)).flatMap fun j => plc (j, dp + 1) := by rw [List.flatMap_map]
  rw [h1, backY_snd]
  have : ∀ l : List Nat, (∀ j ∈ l, D[j]?.getD 0 - D[e]?.getD 0 = dp + 1) → l.flatMap (fun j => plc (j, D[j]?.getD 0 - D[e]?.getD 0)) = l.flatMap fun j => plc (j, dp + 1) := fun l => by
    induction l with
    | nil => intro _; rfl
    | cons a l ih => intro hl; rw [List.flatMap_cons, List.flatMap_cons, hl a List.mem_cons_self, ih (fun j hj => hl j (List.mem_cons_of_mem _ hj))]
  exact this _ (fun j hj => h j (List.mem_reverse.1 hj))
theorem Well.kid_deep {ups : List Int} {D : List Nat} {n : Nat} (h : Well ups D n) {e x j dp : Nat} (ha : Anc ups x e) (hd : D[x]?.getD 0 - D[e]?.getD 0 = dp) (hj : j ∈ kidsI ups x) : D[j]?.getD 0 - D[e]?.getD 0 = dp + 1 := by
  have hu := of_decide_eq_true (List.mem_filter.1 hj).2
  obtain ⟨_, _, d, h1, h2⟩ := h.up hu
  rw [h2]
  rw [h1] at hd
  have h3 : D[e]?.getD 0 ≤ d := by
    by_cases hxe : x = e
    · subst hxe; rw [h1]; exact Nat.le_refl _
    · obtain ⟨a, b, g1, g2, g3⟩ := h.deeper ha hxe
      rw [h1] at g2
      cases g2
      rw [g1]
      exact Nat.le_of_lt g3
  have e1 : (some d).getD 0 = d := rfl
  have e2 : (some (d + 1)).getD 0 = d + 1 := rfl
  rw [e1] at hd
  rw [e2]
  omega

set_option maxRecDepth 100000 in
set_option maxHeartbeats 16000000 in
/-- Walk at an element: it and all in it are told. -/
theorem walk1_run (d : Nat) (hd : 2 ≤ d) (l Bd Be N : Nat) {w : World} {ev : Value} {ys : List YE} {ks : List (List Int)} {D : List Nat} (h : DocAt w ev ys) (hn : ys.length ≤ 1000000) (hkl : ks.length = ys.length) (hkk : ∀ (i : Nat) (y : YE), ys[i]? = some y → ∃ k, ks[i]? = some k ∧ k.length ≤ 1000000 ∧ IntRd w (.slice y.kb y.kn y.kc) k)
    (hv : validX (ys.map (·.up)) ks = true) (hWell : Well (ys.map (·.up)) D ys.length) (hks : ∀ i, i < ys.length → ks[i]? = some ((kidsI (ys.map (·.up)) i).map fun (k : Nat) => (k : Int))) (e : Nat) (he : e < ys.length) (hN : segN D e ≤ N) (hDs : ∀ d ∈ D, d ≤ 1000000)
    (J Jx : List (Nat × Nat) → World → Prop) (hJb : ∀ pre V, J pre V → Boxed V Bd 32 ev ∧ Boxed V Be 3 (.int .i64 (e : Nat))) (W : World) (hW : Below w.heap.size w W) (hJ : AbidesR RwW W.heap.size J) (hJx : AbidesR RwW W.heap.size Jx)
    (hY : ∀ (pre : List (Nat × Nat)) (x : Nat × Nat) W1, x.1 < ys.length → J pre W1 → pre.length < N → YieldAt Fence.wide (d - 1) Try.prog l (encII x) W1 fun e W' =>
      (e = .returned (.bool true) ∧ J (pre ++ [x]) W' ∧ KeepsFrom W.heap.size W1 W' ∧ KeepW w.heap.size W1 W') ∨ (e = .returned (.bool false) ∧ Jx (pre ++ [x]) W' ∧ KeepsFrom W.heap.size W1 W'))
    (h0 : J [] W) :
    CallsIn Fence.wide d Try.prog 32 #[.func (.yield l) #[] #[], .pointer (some ⟨Bd, 0, none⟩), .pointer (some ⟨Be, 0, none⟩)] W fun en W' => (∃ v, en = .returned v) ∧
      ((∃ xs, xs = segY D e ∧ J xs W') ∨ (∃ pre, pre <+: segY D e ∧ Jx pre W')) := by
  have hd1 : 1 ≤ d := by omega
  have HDOC := Lib.hid h
  obtain ⟨a, c, rfl, h2⟩ := h
  obtain ⟨n, hnn⟩ : ∃ n, ys.length = n := ⟨_, rfl⟩
  have hys : ys ≠ [] := fun e0 => by rw [e0] at he; simp at he
  obtain ⟨g, o, rfl, hg, hc⟩ := h2 hys
  have HN := Lib.hid hnn
  have HKK := Lib.hid (show ∀ X, Below w.heap.size w X → ∀ (i : Nat) (y : YE), ys[i]? = some y → ∃ k, ks[i]? = some k ∧ k.length ≤ 1000000 ∧ IntRd X (.slice y.kb y.kn y.kc) k from fun X hX i y hy => by
    obtain ⟨k, k1, k2, k3⟩ := hkk i y hy
    exact ⟨k, k1, k2, k3.below hX⟩)
  have HIS := Lib.hid (show ∀ X : World, Calls Try.prog 33 #[.agg #[.slice (some ⟨g, o, none⟩) n c], .int .i64 (e : Nat)] X fun en W' => en = .returned (.bool true) ∧ Below X.heap.size X W' from fun X => by
    have := is_any (some ⟨g, o, none⟩) n c (e : Nat) X
    rwa [decide_eq_true (show (0 : Int) ≤ (e : Nat) ∧ ((e : Nat) : Int) < (n : Nat) from ⟨by omega, by omega⟩)] at this)
  have HVA := Lib.hid (show ∀ X : World, Below w.heap.size w X → Calls Try.prog 30 #[.agg #[.slice (some ⟨g, o, none⟩) n c]] X fun en W' => en = .returned (.bool true) ∧ Below X.heap.size X W' from fun X hX => by
    have h1 := valid_any (HDOC.out.below hX) hn hkl (HKK.out X hX)
    rwa [HN.out, hv] at h1)
  obtain ⟨ups, hups⟩ : ∃ ups, ys.map (·.up) = ups := ⟨_, rfl⟩
  rw [hups, hnn] at hWell
  rw [hups, hnn] at hks
  rw [hnn] at he hn hJb hY
  have HWell := Lib.hid hWell
  have HKS := Lib.hid hks
  have HC := Lib.hid hc
  have HJ := Lib.hid hJ
  have HJX := Lib.hid hJx
  have HY := Lib.hid hY
  have HW := Lib.hid hW
  have HJB := Lib.hid hJb
  have hwW := hW.size
  have c0 := (hJb [] W h0).1.cell
  have c1 := (hJb [] W h0).2.cell
  have H0 := Lib.hid h0
  clear hWell hks hc hJ hJx hY hW hJb h2 h0 hv hkk hkl hups hnn
  refine callsIn_of_wp_marks Try.func32 rfl trivial ?_ rfl
  simp only [Try.ntmps32, List.size_toArray, List.length_cons, List.length_nil, Nat.reduceAdd, Nat.reduceSub, Array.replicate_succ, Array.replicate_zero, List.push_toArray, List.append_toArray, List.nil_append, List.cons_append]
  gi_wp2
  refine wpIn_scope_wide ?_
  gi_wp2_with (first
    | (refine ⟨trivial, ?_⟩; gi_at_call 33; refine (callsIn_wide.2 (HIS.out _)).mono ?_; rintro _ w2 ⟨rfl, hB2⟩; have HJ2 := Lib.hid (HJ.out [] W w2 none H0.out (grown_none hB2) (fun r e => by cases e)); have HW2 := Lib.hid (HW.out.trans (hB2.mono hwW)); have c2 := (HJB.out [] w2 HJ2.out).1.cell; have hz2 := hB2.size; clear hB2)
    | (refine ⟨trivial, ?_⟩; gi_at_call 30; refine (callsIn_wide.2 (HVA.out _ HW2.out)).mono ?_; rintro _ w3 ⟨rfl, hB3⟩; have HJ3 := Lib.hid (HJ.out [] w2 w3 none HJ2.out (grown_none hB3) (fun r e => by cases e)); have HW3 := Lib.hid (HW2.out.trans (hB3.mono HW2.out.size)); have c3 := (HJB.out [] w3 HJ3.out).2.cell; have hz3 := hB3.size; clear hB3))
  refine wpIn_label ?_
  gi_wp2
  obtain ⟨G0, hG0⟩ : ∃ G0, w3.heap.size = G0 := ⟨_, rfl⟩
  obtain ⟨T, hT⟩ : ∃ T, w3.heap.size + 1 = T := ⟨_, rfl⟩
  obtain ⟨W4, hW4⟩ : ∃ W4, (w3.alloc (.cells #[.int .i64 (e : Nat), .int .i64 0] 81)).alloc (.cells #[.slice (some ⟨w3.heap.size, 0, none⟩) 1 1] 82) = W4 := ⟨_, rfl⟩
  rw [hW4, hT, hG0]
  have hS0 : WkS w W.heap.size T ups D e J e [e] (.slice (some ⟨w3.heap.size, 0, none⟩) 1 1) [] W4 := by
    have bt : Boxed W4 T 82 (.slice (some ⟨w3.heap.size, 0, none⟩) 1 1) := by
      rw [← hW4, ← hT]
      have := Boxed.new (w3.alloc (.cells #[.int .i64 (e : Nat), .int .i64 0] 81)) 82 (.slice (some ⟨w3.heap.size, 0, none⟩) 1 1)
      rwa [World.size_alloc] at this
    have bg : BlkAt W4 w3.heap.size 81 #[.int .i64 (e : Nat), .int .i64 0] := by rw [← hW4]; exact (BlkAt.new _ _ _).alloc _
    refine ⟨AtK.start ups e, ?_, bt, ⟨plcs_len D e [e], .inr ⟨w3.heap.size, 1, #[.int .i64 (e : Nat), .int .i64 0], rfl, by omega, bg, Nat.le_refl _, by unfold maxLen; omega, rfl, ?_⟩⟩, Marks.nil _ _, ?_, by omega, by rw [← hW4]; simp; omega⟩
    · rw [segTo_start, ← hW4]
      exact HJ.out.alloc _ (HJ.out.alloc _ HJ3.out)
    · show [Value.int .i64 (e : Nat), .int .i64 0] = plcs D e [e]
      unfold plcs plc
      simp
    · rw [← hW4]
      exact (HW3.out.alloc (by omega) _).alloc (by simp; omega) _
  have HS0 := Lib.hid hS0
  have hWT : W.heap.size ≤ T := by omega
  clear hS0 hW4 hT hG0 c0 c1 c2 c3 HJ2 HJ3 H0 HIS HVA hz2 hz3 HW2
  refine wpIn_loop_count (fun mm aa V => ∃ (k : Nat) (st : List Nat) (tv : Value) (Ds : List Deferred) (u5 u6 u7 u20 u21 u22 u23 u24 u25 u26 u27 u28 u29 u30 u31 u32 u33 u34 u35 u36 u37 u38 u39 u40 u41 u42 u43 u44 u45 u46 u47 u48 u49 u50 u51 u52 u53 u54 u55 u56 u57 u58 : Value), mm = n - k ∧ k ≤ n ∧ aa = { tmps := #[.func (.yield l) #[] #[], .pointer (some ⟨Bd, 0, none⟩), .pointer (some ⟨Be, 0, none⟩), undef, .pointer (some ⟨T, 0, none⟩), u5, u6, u7, .agg #[.slice (some ⟨g, o, none⟩) n c], .int .i64 (e : Nat), .bool true, .bool false, .bool false, .agg #[.slice (some ⟨g, o, none⟩) n c], .bool true, .bool false, .bool false, .int .i64 (e : Nat), .agg #[.int .i64 (e : Nat), .int .i64 0], .slice (some ⟨G0, 0, none⟩) 1 1, u20, u21, u22, u23, u24, u25, u26, u27, u28, u29, u30, u31, u32, u33, u34, u35, u36, u37, u38, u39, u40, u41, u42, u43, u44, u45, u46, u47, u48, u49, u50, u51, u52, u53, u54, u55, u56, u57, u58], defers := Ds } ∧ WkS w W.heap.size T ups D e J k st tv Ds V) (n - e) ?start ?round
  case start => exact ⟨e, [e], _, [], _, _, _, _, _, _, _, _, _, _, _, _, _, _, _, _, _, _, _, _, _, _, _, _, _, _, _, _, _, _, _, _, _, _, _, _, _, _, _, _, _, _, rfl, by omega, rfl, HS0.out⟩
  case round =>
    rintro mm aa V ⟨k, st, tv, Ds, u5, u6, u7, u20, u21, u22, u23, u24, u25, u26, u27, u28, u29, u30, u31, u32, u33, u34, u35, u36, u37, u38, u39, u40, u41, u42, u43, u44, u45, u46, u47, u48, u49, u50, u51, u52, u53, u54, u55, u56, u57, u58, rfl, hkn, rfl, hS⟩
    dsimp only
    obtain ⟨ta, tc, rfl⟩ := ownsRow_slice' hS.row
    have cT := hS.box.cell
    have fT := hS.box.frozen
    have HS := Lib.hid hS
    cases st with
    | nil =>
      have hend := HWell.out.at_end he hkn hS.at_
      have HE := Lib.hid (show segTo D e k = segY D e by rw [hend, segTo_end])
      clear hS hend
      gi_wp2
      rw [Exit.noGoto_normal]
      refine leaves_marks (fun X => J (segY D e) X) HS.out.marks (by rw [← HE.out]; exact HS.out.told) (fun X D' hX hD hX2 => HJ.out.putObj _ hX hD hX2 rfl) (fun X hX => ⟨_, results_none rfl _ _ _, ⟨_, rfl⟩, .inl ⟨_, rfl, hX⟩⟩)
    | cons x st =>
      obtain ⟨rfl, hkn2, hst, hanc, hnext⟩ := HWell.out.at_pop he hS.at_
      obtain ⟨L, hL⟩ : ∃ L, st.length = L := ⟨_, rfl⟩
      have hLn : L < n := by
        rw [← hL, hst, ← HWell.out.ulen]
        exact waits1_len (by rw [HWell.out.ulen]; exact hkn2)
      obtain ⟨dp, hdp⟩ : ∃ dp, D[x]?.getD 0 - D[e]?.getD 0 = dp := ⟨_, rfl⟩
      have hS2 := HS.out
      have hrow := hS2.row
      rw [List.length_cons, hL] at hrow
      obtain ⟨gg, cap, hform, hgB, hgl⟩ := World.ownsRow.form hrow (by omega)
      obtain ⟨rfl, -, rfl⟩ := Value.slice.inj hform
      rw [List.length_cons, hL] at cT
      have hcapL : L ≤ tc := by
        rcases hrow.2 with ⟨h1, _⟩ | ⟨g2, c2, cur, h1, _, _, h4, _⟩
        · cases h1
        · obtain ⟨-, -, rfl⟩ := Value.slice.inj h1; omega
      have ct0 : V.cell? ⟨gg, L * 2, none⟩ = some (.int .i64 x) := by
        rw [World.ownsRow.cellAt hrow (L * 2) (by omega), plcs_cons, List.getElem?_append_right (by rw [plcs_len, hL]; exact Nat.le_refl _), plcs_len, hL, Nat.sub_self]
        rfl
      have ct1 : V.cell? ⟨gg, L * 2 + 1, none⟩ = some (.int .i64 dp) := by
        rw [World.ownsRow.cellAt hrow (L * 2 + 1) (by omega), plcs_cons, List.getElem?_append_right (by rw [plcs_len, hL]; omega), plcs_len, hL, show L * 2 + 1 - L * 2 = 1 by omega]
        show some (Value.int .i64 ((D[x]?.getD 0 - D[e]?.getD 0 : Nat) : Int)) = _
        rw [hdp]
      obtain ⟨V1, hV1⟩ : ∃ V1, V.alloc (.cells #[.int .i64 x, .int .i64 dp] 81) = V1 := ⟨_, rfl⟩
      obtain ⟨V2, hV2⟩ : ∃ V2, V1.setCell ⟨T, 0, none⟩ (.slice (some ⟨gg, 0, none⟩) L tc) = V2 := ⟨_, rfl⟩
      have hpop := WkS.pop HJ.out (V2 := V2) (g := gg) (cap := tc) (st := st) hS2 (by rw [hdp, hL, hV1]; exact hV2) hwW
      obtain ⟨pJ, pT, pR, pM, pB, pX, pZ⟩ := hpop
      rw [hL] at pT pR
      rw [hdp] at pX
      have ft1 := (show Boxed V1 T 82 (.slice (some ⟨gg, 0, none⟩) (L + 1) tc) from by rw [← hV1]; have := hS2.box; rw [List.length_cons, hL] at this; exact this.alloc _)
      have ct2 := ft1.cell
      have ft2 := ft1.frozen
      have cx0 := pX.cell 0
      have cx1 := pX.cell 1
      have hsl : L < n := hLn
      have q1 : (0 : Int) ≤ (L : Int) := by omega
      have hsg : x < e + segN D e := HWell.out.seg_lt he hkn2 (HWell.out.anc_le hanc) (fun j h1 h2 => hnext.told j h1 (by omega))
      have hex := HWell.out.anc_le hanc
      have hlen : (segTo D e x).length < N := by
        unfold segTo
        rw [List.length_map, List.length_range]
        omega
      obtain ⟨fn, tmps, assign, body, hy, hR⟩ := HY.out (segTo D e x) (x, dp) V2 hkn2 pJ hlen
      have HR := Lib.hid hR
      simp only [encII] at hy
      have PT := Lib.hid pT
      have PR := Lib.hid pR
      have PM := Lib.hid pM
      have PB := Lib.hid pB
      have PX := Lib.hid pX
      have HNx := Lib.hid hnext
      have HAn := Lib.hid hanc
      have HST := Lib.hid hst
      have HDP := Lib.hid hdp
      have HL := Lib.hid hL
      clear hR pT pR pM pB pX hnext hanc hst hdp hL hrow hS hS2 hform ft1 hlen pJ
      gi_wp2
      refine HR.out.mono ?_
      rintro en W3 (⟨rfl, hJ3, hkf, hkp⟩ | ⟨rfl, hJx3, hkf⟩)
      · have HST2 := Lib.hid (show segTo D e (x + 1) = segTo D e x ++ [(x, dp)] by rw [segTo_step (HWell.out.anc_le HAn.out), HDP.out])
        have HJ3 := Lib.hid (show J (segTo D e (x + 1)) W3 by rw [HST2.out]; exact hJ3)
        have HT3 := Lib.hid (show Boxed W3 T 82 (.slice (some ⟨gg, 0, none⟩) L tc) from hkp.2.2 _ _ PT.out)
        have HR3 := Lib.hid (hkp.2.1.owns PR.out)
        have HX3 := Lib.hid (show BlkAt W3 V.heap.size 81 #[.int .i64 x, .int .i64 dp] from hkp.2.1 _ _ PX.out)
        have HB3 := Lib.hid (PB.out.trans hkp.1)
        have HM3 := Lib.hid (PM.out.keeps hkf)
        have HZ3 := Lib.hid (show W.heap.size ≤ W3.heap.size from Nat.le_trans pZ hkf.size)
        obtain ⟨y, hy2⟩ : ∃ y, ys[x]? = some y := ⟨_, List.getElem?_eq_getElem (by rw [HN.out]; exact hkn2)⟩
        have e0 := (HJB.out _ W3 HJ3.out).1.cell
        have e1 := (HB3.out.cell (p := ⟨g, o + x * 6 + 4, none⟩) hg).trans (DocAt.six HC.out hy2).2.2.2.2.1
        have e2 := HX3.out.cell 0
        have e3 := HX3.out.cell 1
        obtain ⟨kl, hkl⟩ : ∃ kl, kidsI ups x = kl := ⟨_, rfl⟩
        obtain ⟨kk, hk1, hk2, hk3⟩ := HKK.out w (Below.refl _ _) x y hy2
        rw [HKS.out x hkn2, hkl] at hk1
        obtain rfl := Option.some.inj hk1
        rw [List.length_map] at hk2
        have q3 : (0 : Int) ≤ (x : Int) := by omega
        have q4 : (x : Int) < (n : Int) := by omega
        obtain ⟨kb, kc, hks3⟩ : ∃ kb kc, Value.slice y.kb y.kn y.kc = .slice kb kl.length kc := by
          obtain ⟨a1, a2, a3, _⟩ := hk3
          rw [List.length_map] at a3
          exact ⟨_, _, a3⟩
        rw [hks3] at e1 hk3
        have HK3 := Lib.hid hk3
        have HKL := Lib.hid hkl
        have HY2 := Lib.hid hy2
        obtain ⟨m, hm⟩ : ∃ m, kl.length = m := ⟨_, rfl⟩
        rw [hm] at e1 hk2
        have HM := Lib.hid hm
        clear hJ3 hkf hkp hk3 hks3 hkl hy2 hk1 hm hy hV1 hV2 cT fT ct0 ct1 ct2 ft2 cx0 cx1
        gi_wp2_with (refine ⟨trivial, ?_⟩; gi_at_call 34; refine (callsIn_wide.2 (back_any _ _ _ _)).mono ?_; rintro en W5 ⟨rfl, hW5⟩)
        have hk9 := HK3.out
        rw [HM.out] at hk9
        obtain ⟨b, o2, hka, hbw, hkc⟩ := intRd_at hk9 HM.out hg
        have hb5 : Boxed W5 W3.heap.size 33 (.slice kb m kc) := by rw [← hW5]; exact Boxed.new _ _ _
        have hz5 : W5.heap.size = W3.heap.size + 1 := by rw [← hW5]; simp
        have hB5 : Below w.heap.size w W5 := by rw [← hW5]; exact HB3.out.alloc (Nat.le_trans hwW HZ3.out) _
        have hM5 : Marks W.heap.size W5 Ds := by rw [← hW5]; exact HM3.out.keeps ((KeepsOthers.alloc W3 _).from _)
        have hlt5 : MarksLt W5.heap.size Ds := hM5.lt (Nat.le_refl _)
        have hX5 := HX3.out.lt
        have hT5 := HT3.out.lt
        have hxne : ∀ g1, (Value.slice (some ⟨gg, 0, none⟩) L tc).ownBlock = some g1 → g1 ≠ V.heap.size := fun g1 e1 => by
          have e2 : gg = g1 := Option.some.inj e1
          omega
        have hI0 : WkI w W3.heap.size (.slice kb m kc) W.heap.size T V.heap.size L (plcs D e st) x dp (J (segTo D e (x + 1))) Ds [] (.slice (some ⟨gg, 0, none⟩) L tc) W5 := by
          refine ⟨?_, ?_, ?_, hM5, hB5, ?_, hb5, hxne, by have := HZ3.out; omega⟩
          · rw [← hW5]; exact HT3.out.alloc _
          · rw [List.flatMap_nil, List.append_nil, List.length_nil, Nat.add_zero, ← hW5]; exact HR3.out.alloc _
          · rw [← hW5]; exact HJ.out.alloc _ HJ3.out
          · rw [← hW5]; exact HX3.out.alloc _
        have hZ3 := HZ3.out
        have hJw : ∀ (W W' : World) (row : Option Nat), J (segTo D e (x + 1)) W → W.grownBy W' row → (∀ r, row = some r → _ ≤ r ∧ ∃ o : Obj, W.heap[r]? = some o ∧ RwW o = true) → J (segTo D e (x + 1)) W' := fun A B row => HJ.out _ A B row
        refine wpIn_rangeFunc_ownG rfl (by omega) (gf := 46) (lb := #[.pointer (some ⟨W3.heap.size, 0, none⟩)]) rfl trivial (enters_of Try.func46 (by kernel_rfl) rfl)
          (back_stops (d - 1) (by omega) W3.heap.size b o2 m kc kb kl HM.out hk2 hka W5 (Nat.lt_of_lt_of_le hbw hB5.size) hb5 (fun j z hz => (hB5.cell (p := ⟨b, o2 + j, none⟩) hbw).trans (hkc j z hz)))
          (fun h k => ⟨keepB_t h.1 k.1, keepB_t h.2 k.2⟩) (fun Z l3 q q' h1 h2 h3 h4 => ⟨keepB_b (w := W5) (by omega) Z l3 q q' h1 h2 h3 h4, keepB_b (w := W5) (Nat.lt_of_lt_of_le hbw hB5.size) Z l3 q q' h1 h2 h3 h4⟩) (Below.refl _ _) (fun _ => rfl)
          (fun pre Z => ∃ tv, WkI w W3.heap.size (.slice kb m kc) W.heap.size T V.heap.size L (plcs D e st) x dp (J (segTo D e (x + 1))) Ds pre tv Z) (fun _ _ _ => False)
          (wkI_own (by omega) (by omega) hlt5 hJw) (fun _ _ _ _ _ hs _ _ => hs) ⟨_, hI0⟩
          (fun p => { tmps := #[.func (.yield l) #[] #[], .pointer (some ⟨Bd, 0, none⟩), .pointer (some ⟨Be, 0, none⟩), undef, .pointer (some ⟨T, 0, none⟩), .pointer (some ⟨V.heap.size, 0, none⟩), u6, .int .i64 p.2, .agg #[.slice (some ⟨g, o, none⟩) n c], .int .i64 (e : Nat), .bool true, .bool false, .bool false, .agg #[.slice (some ⟨g, o, none⟩) n c], .bool true, .bool false, .bool false, .int .i64 (e : Nat), .agg #[.int .i64 (e : Nat), .int .i64 0], .slice (some ⟨G0, 0, none⟩) 1 1, .slice (some ⟨gg, 0, none⟩) (L + 1) tc, .int .i64 ((L : Int) + 1), .bool true, .slice (some ⟨gg, 0, none⟩) (L + 1) tc, .slice (some ⟨gg, 0, none⟩) (L + 1) tc, .int .i64 ((L : Int) + 1), .int .i64 L, .pointer (some ⟨gg, L * 2, none⟩), .agg #[.int .i64 x, .int .i64 dp], .slice (some ⟨gg, 0, none⟩) (L + 1) tc, .slice (some ⟨gg, 0, none⟩) (L + 1) tc, .int .i64 ((L : Int) + 1), .int .i64 L, .slice (some ⟨gg, 0, none⟩) L tc, .func (.yield l) #[] #[], .pointer (some ⟨V.heap.size, 0, none⟩), .int .i64 x, .pointer (some ⟨V.heap.size, 1, none⟩), .int .i64 dp, .bool true, .bool false, .pointer (some ⟨Bd, 0, none⟩), .slice (some ⟨g, o, none⟩) n c, .pointer (some ⟨V.heap.size, 0, none⟩), .int .i64 x, .pointer (some ⟨g, o + x * 6, none⟩), .pointer (some ⟨g, o + x * 6 + 4, none⟩), .slice kb m kc, .func (.func 46) #[] #[.pointer (some ⟨W3.heap.size, 0, none⟩)], .int .i64 p.1, .int .i64 p.2, u51, u52, u53, u54, u55, u56, u57, u58], defers := [] }) ?assign ?body ?done ?stop
        case assign =>
          rintro l3 ⟨p1, p2⟩ Z K hK
          simp only [encII]
          gi_wp2
          exact hK
        case body =>
          rintro l3 pre ⟨p1, p2⟩ Z ⟨tv, hI⟩ hlt
          have cB := hI.box.cell
          have fB := hI.box.frozen
          have cX1 := hI.xbox.cell 1
          have hLp : (L + pre.length + 1) * 16 ≤ 140737488355328 := by omega
          have hzZ := hI.size
          have HI := Lib.hid hI
          have hdpb : (dp : Int) ≤ 1000000 := by
            rw [← HDP.out]
            obtain ⟨dx, hdx⟩ : ∃ dx, D[x]? = some dx := ⟨_, List.getElem?_eq_getElem (by rw [HWell.out.len]; exact hkn2)⟩
            have h1 := hDs dx (List.mem_of_getElem? hdx)
            have h2 : D[x]?.getD 0 = dx := by rw [hdx]; rfl
            omega
          clear hI
          gi_wp2_with (gi_at_builtin; refine wpListIn_app_at _ rfl _ _ _ _ 2 16 slP rfl W.heap.size (by simp; omega) tv (L + pre.length) _ rfl (HI.out.row.alloc _) ⟨Z.heap.size, 0, none⟩ [.int .i64 p2, .int .i64 ((dp : Int) + 1)] rfl rfl (news_blk (BlkAt.new Z _ #[.int .i64 p2, .int .i64 ((dp : Int) + 1)])) (by simp [Value.oneCell']) hLp ?_; intro g6 c6 w6 hown hgrow hat; have hb6 := (Boxed.appended HI.out.box (by decide) HI.out.row HI.out.size hWT hown hgrow).1; have c6c := hb6.cell; have c6f := hb6.frozen)
          have hTV : T < V.heap.size := HS.out.box.lt
          have hput := wkI_put (b := b) (p := (p1, p2)) HI.out hwW hWT (by omega) hbw hJw hat (by simpa [plc] using hown) hgrow
          exact ⟨hput.2.1.from _, hput.2.2, ⟨_, hput.1⟩⟩
        case done =>
          rintro D' xs Z hD' rfl ⟨tv, hI⟩ hK
          have hrow' : Z.ownsRow W.heap.size 81 2 tv (kl ++ st).length (plcs D e (kl ++ st)) := by
            rw [plcs_more (fun j hj => HWell.out.kid_deep HAn.out HDP.out (by rw [HKL.out]; exact hj)), List.length_append, HL.out, Nat.add_comm, ← backY_len kl]
            exact hI.row
          have hnx := HNx.out
          rw [HKL.out] at hnx
          have hfin : WkS w W.heap.size T ups D e J (x + 1) (kl ++ st) tv ({ target := .collected D', args := #[] } :: Ds) Z := ⟨hnx, hI.told, hI.box, hrow', marks_more hI.marks hlt5 hD' (by omega) hK, hI.below, hWT, hI.size⟩
          gi_wp2
          exact ⟨by omega, x + 1, kl ++ st, tv, _, _, _, _, _, _, _, _, _, _, _, _, _, _, _, _, _, _, _, _, _, _, _, _, _, _, _, _, _, _, _, _, _, _, _, _, _, _, _, _, _, _, _, by omega, by omega, rfl, hfin⟩
        case stop =>
          rintro D' cc pre Z _ _ hf
          exact hf.elim
      · have HPre := Lib.hid (show segTo D e x ++ [(x, dp)] <+: segY D e by rw [← HDP.out, ← segTo_step (HWell.out.anc_le HAn.out)]; exact segTo_pre (by omega))
        have HJx3 := Lib.hid hJx3
        have HM3 := Lib.hid (PM.out.keeps hkf)
        clear hJx3 hkf
        gi_wp2
        rw [Exit.noGoto_normal]
        exact leaves_marks (fun X => Jx (segTo D e x ++ [(x, dp)]) X) HM3.out HJx3.out (fun X D' hX hD hX2 => HJX.out.putObj _ hX hD hX2 rfl) (fun X hX => ⟨_, results_none rfl _ _ _, ⟨_, rfl⟩, .inr ⟨_, HPre.out, hX⟩⟩)
end Go.Proofs.Ytajnpmhgldfgfaa
namespace Go.Proofs.Ytajnpmhgldfgfaa
open Go.RowKit Go.Shelf
set_option linter.unusedVariables false
attribute [local go_sem] Oper.semAt_some
theorem slI : SlT Try.prog 33 3 1 8 := SlT.mk Try.underlying33 (z := .int .i64 0) (by kernel_rfl) rfl (by decide) (by decide)
abbrev nv (k : Nat) : Value := .int .i64 k
theorem walk_any (a : Option Addr) (n c : Nat) (e : Int) (w : World) :
    Calls Try.prog 22 #[.agg #[.slice a n c], .int .i64 e] w fun en w' => en = .returned (.func (.func 32) #[] #[.pointer (some ⟨w.heap.size, 0, none⟩), .pointer (some ⟨w.heap.size + 1, 0, none⟩)]) ∧ (w.alloc (.cells #[.slice a n c] 32)).alloc (.cells #[.int .i64 e] 3) = w' := by
  go_enter Try.func22, Try.ntmps22
  go_wp2
  go_ret
  exact ⟨rfl, rfl⟩
/-- All places' blocks of a world. -/
def placesOf (W : World) : List (Nat × TypeId × Array Value) := (List.range W.heap.size).filterMap fun k => match (W.heap[k]? : Option Obj) with
  | some (Obj.cells cur t (0, 0)) => if t = 81 ∨ t = 82 then some (k, t, cur) else none
  | _ => none
theorem placesOf_mem {W : World} {k : Nat} {t : TypeId} {cur : Array Value} : (k, t, cur) ∈ placesOf W ↔ W.heap[k]? = some (.cells cur t (0, 0)) ∧ (t = 81 ∨ t = 82) := by
  unfold placesOf
  rw [List.mem_filterMap]
  constructor
  · rintro ⟨k', hk, h⟩
    split at h
    · rename_i cur' t' he
      split at h
      · rename_i ht
        cases h
        exact ⟨he, ht⟩
      · cases h
    · cases h
  · rintro ⟨h1, h2⟩
    refine ⟨k, List.mem_range.2 (Array.getElem?_eq_some_iff.1 h1).1, ?_⟩
    rw [h1]
    simp [h2]
theorem keepW_put {n D : Nat} (hn : n ≤ D) (W : World) (o o' : Obj) (ho : W.heap[D]? = some o) (hc : o.isCells = false) : KeepW n W (W.putObj D o') := by
  have hg := grownBy_putObj' W D o'
  have hk : ∀ (t : TypeId), KeepT t W (W.putObj D o') := fun t k cur h => (hg.block k (Array.getElem?_eq_some_iff.1 h).1 (fun e => by
    cases e
    rw [h] at ho
    cases ho
    cases hc)).trans h
  exact ⟨⟨hg.os, hg.tape, hg.output, hg.size, fun k hk => hg.block k (by have := (Array.getElem?_eq_some_iff.1 ho).1; omega) (fun e => by cases e; omega)⟩, hk _, hk _⟩
/-- What the iterator turns is neither of the two rows. -/
theorem ts_ownedR {base BA BB : Nat} {L : List (Nat × TypeId × Array Value)} {W W' : World} {bA bB vA : Value} {kA : Nat} {xA : List Value} {vB : Value} {kB : Nat} {xB : List Value}
    (h : TS base BA BB 33 33 3 3 1 1 L W W bA bB vA kA xA vB kB xB) (hL : ∀ p ∈ L, p.2.1 ≠ 81 ∧ p.2.1 ≠ 82) {row : Option Nat} (hg : W.grownBy W' row) (hr : ∀ r, row = some r → ∃ o : Obj, W.heap[r]? = some o ∧ RwW o = true) :
    TS base BA BB 33 33 3 3 1 1 L W' W' bA bB vA kA xA vB kB xB := by
  have hne : ∀ (b : Nat) (cs : Array Value) (t : TypeId), t ≠ 81 → t ≠ 82 → W.heap[b]? = some (.cells cs t (0, 0)) → some b ≠ row := fun b cs t h1 h2 hb e => by
    obtain ⟨o, ho, hc⟩ := hr b e.symm
    rw [hb] at ho
    cases ho
    unfold RwW at hc
    simp [h1, h2] at hc
  have hrow : ∀ {v : Value} {k : Nat} {xs : List Value}, W.ownsRow base 3 1 v k xs → W'.ownsRow base 3 1 v k xs := fun {v k xs} hv => hv.kept hg (by
    rcases hv.2 with ⟨e, _⟩ | ⟨g, cap, cur, e, _, hgg, _⟩
    · subst e; exact .inl rfl
    · subst e; exact .inr (hne _ _ _ (by decide) (by decide) hgg))
  exact { boxA := h.boxA.kept hg (hne _ _ _ (by decide) (by decide) h.boxA), boxB := h.boxB.kept hg (hne _ _ _ (by decide) (by decide) h.boxB), rowA := hrow h.rowA, rowB := hrow h.rowB, apart := h.apart, aA := h.aA, aB := h.aB, bA' := h.bA', bB' := h.bB'
          stay := fun p hp => by
            obtain ⟨h1, h2⟩ := h.stay p hp
            exact ⟨h1.grown hg (hne _ _ _ (hL p hp).1 (hL p hp).2 h1), h2⟩
          keeps := KeepsOthers.refl _, below := Below.refl _ _, room := Nat.le_trans h.room hg.size, ne := h.ne, geA := h.geA, geB := h.geB }
/-- With all places' blocks that stay. -/
theorem ts_places {base BA BB : Nat} {L : List (Nat × TypeId × Array Value)} {W : World} {bA bB vA : Value} {kA : Nat} {xA : List Value} {vB : Value} {kB : Nat} {xB : List Value}
    (h : TS base BA BB 33 33 3 3 1 1 L W W bA bB vA kA xA vB kB xB) : TS base BA BB 33 33 3 3 1 1 (L ++ placesOf W) W W bA bB vA kA xA vB kB xB :=
  have hst : ∀ p ∈ L ++ placesOf W, BlkAt W p.1 p.2.1 p.2.2 ∧ vA.ownBlock ≠ some p.1 ∧ vB.ownBlock ≠ some p.1 ∧ p.1 ≠ BA ∧ p.1 ≠ BB := fun p hp => by
    rcases List.mem_append.1 hp with hp | hp
    · exact h.stay p hp
    · obtain ⟨k, t, cur⟩ := p
      obtain ⟨h1, h2⟩ := placesOf_mem.1 hp
      have hb : BlkAt W k t cur := h1
      refine ⟨hb, blk_ne h.rowA hb (by rcases h2 with rfl | rfl <;> decide), blk_ne h.rowB hb (by rcases h2 with rfl | rfl <;> decide), fun e => ?_, fun e => ?_⟩
      · have e' : k = BA := e
        subst e'
        rw [show W.heap[k]? = _ from h.boxA] at h1
        cases h1
        rcases h2 with h2 | h2 <;> exact absurd h2 (by decide)
      · have e' : k = BB := e
        subst e'
        rw [show W.heap[k]? = _ from h.boxB] at h1
        cases h1
        rcases h2 with h2 | h2 <;> exact absurd h2 (by decide)
  { h with stay := hst }
theorem ts_keepT {base BA BB : Nat} {L : List (Nat × TypeId × Array Value)} {W W' : World} {bA bB vA : Value} {kA : Nat} {xA : List Value} {vB : Value} {kB : Nat} {xB : List Value} {tA tB eA eB : TypeId}
    (h : TS base BA BB tA tB eA eB 1 1 (L ++ placesOf W) W W' bA bB vA kA xA vB kB xB) : KeepT 81 W W' ∧ KeepT 82 W W' :=
  ⟨fun k cur hk => (h.stay (k, _, cur) (List.mem_append_right _ (placesOf_mem.2 ⟨hk, .inl rfl⟩))).1, fun k cur hk => (h.stay (k, _, cur) (List.mem_append_right _ (placesOf_mem.2 ⟨hk, .inr rfl⟩))).1⟩
end Go.Proofs.Ytajnpmhgldfgfaa
namespace Go.Proofs.Ytajnpmhgldfgfaa
open Go.RowKit Go.Shelf
set_option linter.unusedVariables false

/-- What Walk tells of an element: it and all in it; nothing, if there is no such element. -/
def walkY (D : List Nat) (n : Nat) (e : Int) : List (Nat × Nat) := if 0 ≤ e ∧ e < (n : Int) then segY D e.toNat else []
theorem segN_le {D : List Nat} {e : Nat} (he : e < D.length) : segN D e ≤ D.length := by
  unfold segN
  have := List.takeWhile_sublist (fun x => decide (D[e]?.getD 0 < x)) (l := D.drop (e + 1))
  have h1 := this.length_le
  rw [List.length_drop] at h1
  omega
theorem walkY_len {D : List Nat} {n : Nat} (h : D.length = n) (e : Int) : (walkY D n e).length ≤ n := by
  unfold walkY
  split
  · rename_i hc
    unfold segY
    rw [List.length_map, List.length_range]
    have := segN_le (D := D) (e := e.toNat) (by omega)
    omega
  · exact Nat.zero_le _
theorem validX_well {ups : List Int} {ks : List (List Int)} (h : validX ups ks = true) : ∃ D, depthsX ups = some D ∧ Well ups D ups.length ∧ (∀ d ∈ D, d ≤ 100) ∧ ups.length ≤ 10000 ∧ ∀ i, i < ups.length → ks[i]? = some ((kidsI ups i).map fun (k : Nat) => (k : Int)) := by
  unfold validX at h
  cases hD : depthsX ups with
  | none => rw [hD] at h; cases h
  | some D =>
    rw [hD] at h
    simp only [Bool.and_eq_true, decide_eq_true_eq, List.all_eq_true] at h
    obtain ⟨g1, g2⟩ := depthsX_lies hD
    exact ⟨D, rfl, ⟨g1, rfl, g2⟩, h.1.2, h.1.1, h.2⟩
/-- What a round of Walk's keeps: the document, its own boxes, what it has laid. -/
def KeepWB (n Bd Be : Nat) (W W' : World) : Prop := KeepW n W W' ∧ KeepB Bd W W' ∧ KeepB Be W W'
theorem KeepWB.trans {n Bd Be : Nat} {A B C : World} (h : KeepWB n Bd Be A B) (k : KeepWB n Bd Be B C) : KeepWB n Bd Be A C := ⟨h.1.trans k.1, keepB_t h.2.1 k.2.1, keepB_t h.2.2 k.2.2⟩
theorem boxed_abides {B0 B : Nat} {t : TypeId} {v : Value} (h1 : t ≠ 81) (h2 : t ≠ 82) {W W' : World} {row : Option Nat} (h : Boxed W B t v) (hg : W.grownBy W' row) (hr : ∀ r, row = some r → B0 ≤ r ∧ ∃ o : Obj, W.heap[r]? = some o ∧ RwW o = true) : Boxed W' B t v :=
  h.kept hg (fun e => by
    obtain ⟨_, o, ho, hc⟩ := hr B e.symm
    have hb : W.heap[B]? = _ := h
    rw [hb] at ho
    cases ho
    unfold RwW at hc
    simp [h1, h2] at hc)
theorem walk_stopsB {w w2 : World} {a : Option Addr} {c : Nat} {ys : List YE} {ks : List (List Int)} {D : List Nat} (h : DocAt w (.slice a ys.length c) ys) (hkl : ks.length = ys.length) (hkk : ∀ (i : Nat) (y : YE), ys[i]? = some y → ∃ k, ks[i]? = some k ∧ k.length ≤ 1000000 ∧ IntRd w (.slice y.kb y.kn y.kc) k)
    (hv : validX (ys.map (·.up)) ks = true) (hD : depthsX (ys.map (·.up)) = some D) (e : Int) {Bd Be : Nat} (hw : Below w.heap.size w w2) (hb : Boxed w2 Bd 32 (.slice a ys.length c)) (hb2 : Boxed w2 Be 3 (.int .i64 e)) :
    SeqStopsR RwW Fence.wide 2 Try.prog 32 #[.pointer (some ⟨Bd, 0, none⟩), .pointer (some ⟨Be, 0, none⟩)] encII (KeepWB w.heap.size Bd Be) (fun xs => xs = walkY D ys.length e) (fun pre => pre <+: walkY D ys.length e) ys.length w2 := by
  obtain ⟨D', hD', hW, hDb, hn, hks⟩ := validX_well hv
  rw [hD] at hD'
  cases hD'
  rw [List.length_map] at hW hn hks
  intro l J Jx W hWb hJ hJx hY h0
  have b1 : Boxed W Bd 32 (.slice a ys.length c) := (hWb.block Bd hb.lt).trans hb
  have b2 : Boxed W Be 3 (.int .i64 e) := (hWb.block Be hb2.lt).trans hb2
  by_cases he : 0 ≤ e ∧ e < (ys.length : Int)
  · obtain ⟨k, rfl⟩ : ∃ k : Nat, e = k := ⟨e.toNat, by omega⟩
    have hY2 : walkY D ys.length (k : Int) = segY D k := by unfold walkY; rw [if_pos he, Int.toNat_natCast]
    rw [hY2]
    have hr := walk1_run 2 (by omega) l Bd Be ys.length h (by omega) hkl hkk hv hW hks k (by omega) (by have := segN_le (D := D) (e := k) (by rw [hW.len]; omega); rw [hW.len] at this; exact this) (fun d hd => Nat.le_trans (hDb d hd) (by decide))
      (fun pre V => J pre V ∧ Boxed V Bd 32 (.slice a ys.length c) ∧ Boxed V Be 3 (.int .i64 (k : Nat))) Jx (fun pre V hp => hp.2) W (hw.trans (hWb.mono hw.size))
      (fun s V V' row hs hg hr => ⟨hJ s V V' row hs.1 hg hr, boxed_abides (by decide) (by decide) hs.2.1 hg hr, boxed_abides (by decide) (by decide) hs.2.2 hg hr⟩) hJx
      (fun pre x W1 _ hp hl => by
        obtain ⟨fn, tmps, assign, body, hy1, hR⟩ := hY pre x W1 hp.1 hl
        refine ⟨fn, tmps, assign, body, hy1, hR.mono ?_⟩
        rintro en W' (⟨h1, h2, h3, h4⟩ | h1)
        · exact .inl ⟨h1, ⟨h2, show Boxed W' Bd _ _ from (show W'.heap[Bd]? = W1.heap[Bd]? from h4.2.1).trans hp.2.1, show Boxed W' Be _ _ from (show W'.heap[Be]? = W1.heap[Be]? from h4.2.2).trans hp.2.2⟩, h3, h4.1⟩
        · exact .inr h1) ⟨h0, b1, b2⟩
    refine hr.mono ?_
    rintro en W' ⟨h1, h2⟩
    refine ⟨h1, ?_⟩
    rcases h2 with ⟨xs, h3, h4⟩ | h3
    · exact .inl ⟨xs, h3, h4.1⟩
    · exact .inr h3
  · have hY2 : walkY D ys.length e = [] := by unfold walkY; rw [if_neg he]
    rw [hY2]
    exact walk1_out 2 (by omega) l Bd Be ys.length c a e he J Jx W hJ b1 b2 h0
theorem walk_stops {w : World} {a : Option Addr} {c : Nat} {ys : List YE} {ks : List (List Int)} {D : List Nat} (h : DocAt w (.slice a ys.length c) ys) (hkl : ks.length = ys.length) (hkk : ∀ (i : Nat) (y : YE), ys[i]? = some y → ∃ k, ks[i]? = some k ∧ k.length ≤ 1000000 ∧ IntRd w (.slice y.kb y.kn y.kc) k)
    (hv : validX (ys.map (·.up)) ks = true) (hD : depthsX (ys.map (·.up)) = some D) (e : Int) {Bd Be : Nat} (hb : Boxed w Bd 32 (.slice a ys.length c)) (hb2 : Boxed w Be 3 (.int .i64 e)) :
    SeqStopsR RwW Fence.wide 2 Try.prog 32 #[.pointer (some ⟨Bd, 0, none⟩), .pointer (some ⟨Be, 0, none⟩)] encII (KeepW w.heap.size) (fun xs => xs = walkY D ys.length e) (fun pre => pre <+: walkY D ys.length e) ys.length w := by
  intro l J Jx W hWb hJ hJx hY h0
  refine walk_stopsB h hkl hkk hv hD e (Below.refl _ _) hb hb2 l J Jx W hWb hJ hJx (fun pre x W1 hp hl => ?_) h0
  obtain ⟨fn, tmps, assign, body, hy1, hR⟩ := hY pre x W1 hp hl
  refine ⟨fn, tmps, assign, body, hy1, hR.mono ?_⟩
  rintro en W' (⟨h1, h2, h3, h4⟩ | h1)
  · exact .inl ⟨h1, h2, h3, h4, h4.1.block Bd hb.lt, h4.1.block Be hb2.lt⟩
  · exact .inr h1
/-- The same, its elements known to be places of the document. -/
theorem walk_stopsS {w w2 : World} {a : Option Addr} {c n : Nat} {ys : List YE} {ks : List (List Int)} {D : List Nat} (hyn : ys.length = n) (h : DocAt w (.slice a n c) ys) (hkl : ks.length = n) (hkk : ∀ (i : Nat) (y : YE), ys[i]? = some y → ∃ k, ks[i]? = some k ∧ k.length ≤ 1000000 ∧ IntRd w (.slice y.kb y.kn y.kc) k)
    (hv : validX (ys.map (·.up)) ks = true) (hD : depthsX (ys.map (·.up)) = some D) {k : Nat} (hk : k < n) {Bd Be : Nat} (hw : Below w.heap.size w w2) (hb : Boxed w2 Bd 32 (.slice a n c)) (hb2 : Boxed w2 Be 3 (.int .i64 (k : Nat))) :
    SeqStopsR (α := { x : Nat × Nat // x.1 < n }) RwW Fence.wide 2 Try.prog 32 #[.pointer (some ⟨Bd, 0, none⟩), .pointer (some ⟨Be, 0, none⟩)] (fun x => encII x.1) (KeepWB w.heap.size Bd Be) (fun xs => xs.map (·.1) = walkY D n (k : Nat)) (fun pre => pre.map (·.1) <+: walkY D n (k : Nat)) n w2 := by
  subst hyn
  obtain ⟨D', hD', hW, hDb, hn, hks⟩ := validX_well hv
  rw [hD] at hD'
  cases hD'
  rw [List.length_map] at hW hn hks
  intro l J Jx W hWb hJ hJx hY h0
  have b1 : Boxed W Bd 32 (.slice a ys.length c) := (hWb.block Bd hb.lt).trans hb
  have b2 : Boxed W Be 3 (.int .i64 (k : Nat)) := (hWb.block Be hb2.lt).trans hb2
  have hY2 : walkY D ys.length (k : Int) = segY D k := by unfold walkY; rw [if_pos ⟨by omega, by omega⟩, Int.toNat_natCast]
  rw [hY2]
  have hr := walk1_run 2 (by omega) l Bd Be ys.length h (by omega) hkl hkk hv hW hks k (by omega) (by have := segN_le (D := D) (e := k) (by rw [hW.len]; omega); rw [hW.len] at this; exact this) (fun d hd => Nat.le_trans (hDb d hd) (by decide))
    (fun pre V => (∃ pre' : List { x : Nat × Nat // x.1 < ys.length }, pre'.map (·.1) = pre ∧ J pre' V) ∧ Boxed V Bd 32 (.slice a ys.length c) ∧ Boxed V Be 3 (.int .i64 (k : Nat))) (fun pre V => ∃ pre' : List { x : Nat × Nat // x.1 < ys.length }, pre'.map (·.1) = pre ∧ Jx pre' V) (fun pre V hp => hp.2) W (hw.trans (hWb.mono hw.size))
    (fun s V V' row hs hg hr => ⟨by obtain ⟨s', h1, h2⟩ := hs.1; exact ⟨s', h1, hJ s' V V' row h2 hg hr⟩, boxed_abides (by decide) (by decide) hs.2.1 hg hr, boxed_abides (by decide) (by decide) hs.2.2 hg hr⟩)
    (fun s V V' row hs hg hr => by obtain ⟨s', h1, h2⟩ := hs; exact ⟨s', h1, hJx s' V V' row h2 hg hr⟩)
    (fun pre x W1 hx hp hl => by
      obtain ⟨⟨s', h1, h2⟩, hp2⟩ := hp
      obtain ⟨fn, tmps, assign, body, hy1, hR⟩ := hY s' ⟨x, hx⟩ W1 h2 (by rw [← h1, List.length_map] at hl; exact hl)
      refine ⟨fn, tmps, assign, body, hy1, hR.mono ?_⟩
      rintro en W' (⟨g1, g2, g3, g4⟩ | ⟨g1, g2, g3⟩)
      · exact .inl ⟨g1, ⟨⟨s' ++ [⟨x, hx⟩], by rw [List.map_append, h1]; rfl, g2⟩, show Boxed W' Bd _ _ from (show W'.heap[Bd]? = W1.heap[Bd]? from g4.2.1).trans hp2.1, show Boxed W' Be _ _ from (show W'.heap[Be]? = W1.heap[Be]? from g4.2.2).trans hp2.2⟩, g3, g4.1⟩
      · exact .inr ⟨g1, ⟨s' ++ [⟨x, hx⟩], by rw [List.map_append, h1]; rfl, g2⟩, g3⟩) ⟨⟨[], rfl, h0⟩, b1, b2⟩
  refine hr.mono ?_
  rintro en W' ⟨h1, h2⟩
  refine ⟨h1, ?_⟩
  rcases h2 with ⟨xs, h3, ⟨xs', h4, h5⟩, -⟩ | ⟨pre, h3, xs', h4, h5⟩
  · exact .inl ⟨xs', h4.trans h3, h5⟩
  · exact .inr ⟨xs', by show xs'.map (·.1) <+: _; rw [h4]; exact h3, h5⟩
end Go.Proofs.Ytajnpmhgldfgfaa
