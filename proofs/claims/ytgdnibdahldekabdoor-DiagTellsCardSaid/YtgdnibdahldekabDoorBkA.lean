/- Words for the book of lists: an append that keeps what stood before, a copy, marks. -/
import Derived.Test.YtgdnibdahldekabDoorDgB
import Derived.Test.YtgdnibdahldekabDoorDgC
import Derived.Test.YtgdnibdahldekabDoorDgU
import Derived.Test.YtgdnibdahldekabDoorQb
namespace Go.Proofs.YtgdnibdahldekabDoor
open Go.RowKit
set_option linter.unusedVariables false

/-- Of block g the first k cells stay, and how many there are. -/
def Kept (w w' : World) (e : TypeId) (g k : Nat) : Prop := ∀ cur : Array Value, w.heap[g]? = some (.cells cur e (0, 0)) → ∃ cur' : Array Value, w'.heap[g]? = some (.cells cur' e (0, 0)) ∧ cur'.size = cur.size ∧ ∀ j, j < k → cur'[j]? = cur[j]?
theorem run_app_kept {P : Program} (w : World) (base : Nat) (t ty e : TypeId) (size bytes : Nat) (T : SlT P t e size bytes)
    (v : Value) (n : Nat) (xs : List Value) (hown : w.ownsRow base e size v n xs)
    (a : Addr) (m c : Nat) (news : List Value) (hl : news.length = m * size) (hnews : ∀ j u, news[j]? = some u → w.cell? (a.add j) = some u) (h1 : ∀ u ∈ news, u.oneCell' = true)
    (hbytes : (n + m) * bytes ≤ 140737488355328) (hbase : base ≤ w.heap.size) :
    ∃ v' w', (Builtin.append_ #[t, t] ty #[v, .slice (some a) m c]).run P w = .ok v' w' ∧ w'.ownsRow base e size v' (n + m) (xs ++ news) ∧ w.grownBy w' v.ownBlock ∧
      (v'.ownBlock = v.ownBlock ∨ v'.ownBlock = some w.heap.size) ∧ ∀ g, v.ownBlock = some g → Kept w w' e g (n * size) := by
  obtain ⟨ht, ⟨i, z, hi, hz, hsz, hby, hzs⟩, hs0, hb0⟩ := T
  have hmax : n + m ≤ maxLen := by
    have : n + m ≤ (n + m) * bytes := Nat.le_mul_of_pos_right _ hb0
    unfold maxLen
    omega
  obtain ⟨v', w', hr, h2, h3, _, h5⟩ := run_append_own_at (P := P) w base t ty e i z size bytes ht hi hz hsz hby hzs hs0 v n xs hown a m c news hl hnews h1 hmax hbytes hbase
  refine ⟨v', w', hr, h2, h3, h5, fun g hg cur hcur => ?_⟩
  rcases hown.2 with ⟨rfl, _⟩ | ⟨g', cap, cur', rfl, hbg, hg', hnc, hcm, hcs, htake⟩
  · cases hg
  · obtain rfl : g' = g := Option.some.inj hg
    obtain rfl : cur' = cur := by rw [hcur] at hg'; cases hg'; rfl
    subst hsz
    by_cases hroom : n + m ≤ cap
    · have hfit : n * i.size + news.length ≤ cur'.size := by rw [hl, hcs, ← Nat.add_mul]; exact Nat.mul_le_mul_right _ hroom
      have hr2 := run_append_room (P := P) w t ty e i ht hi g' n cap cur' hg' a m c news hl hnews h1 hroom hfit
      rw [hr] at hr2
      cases hr2
      refine ⟨_, setRow_heap w g' cur' _ e _ hg', ?_, fun j hj => ?_⟩
      · simp only [List.size_toArray, List.length_append, List.length_take, List.length_drop, Array.length_toList]
        omega
      · have hj' : j < cur'.toList.length := by simp; omega
        rw [List.getElem?_toArray, List.append_assoc, List.getElem?_append_left (by rw [List.length_take]; omega), List.getElem?_take_of_lt hj, Array.getElem?_toList]
    · have holds : ∀ j u, xs[j]? = some u → w.cell? ((⟨g', 0, none⟩ : Addr).add j) = some u := hown.cells (g := g') rfl
      have hr2 := run_append_grow (P := P) w t ty e i z ht hi hz ⟨g', 0, none⟩ n cap xs hown.1 holds a m c news hl hnews (by omega) (by unfold maxLen at hmax; omega) (growslice_fits (by omega) (by rw [hby]; exact hbytes))
      rw [hr] at hr2
      cases hr2
      exact ⟨cur', (heap_alloc_old w.drew _ (Array.getElem?_eq_some_iff.1 hg').1).trans hg', rfl, fun _ _ => rfl⟩
/-- An append whose run is known. -/
theorem wpList_app_run {P : Program} {w : World} {ops : Array Oper} {rest : List Oper} {o : Oper} {a : Act} {Q : Exit → Act → World → Prop} (hgd : o.guard = none) (s x : Operand) (t : TypeId)
    (ho : o.op = .call { callee := .builtin .append, args := #[s, x], argTypes := #[t, t] }) (v u v' : Value) (w' : World) (hs : a.eval s = v) (hx : a.eval x = u) (hr : (Builtin.append_ #[t, t] o.type #[v, u]).run P w = .ok v' w')
    (h : wpList P ops Q rest (a.put o.dst v') w') : wpList P ops Q (o :: rest) a w := by
  refine wpList_plain hgd fun K hK => ?_
  unfold Oper.wp execOp
  simp only [ho, resolve, invoke, builtin, Sem.run_bind, Sem.run_pure, Result.andThen_ok, List.map_toArray, List.map_cons, List.map_nil, hs, hx, hr]
  exact hK _ _ h
/-- 'append(s, x...)', s of the call's own: what stood before stays. -/
theorem wpList_app_kept {P : Program} (w : World) {ops : Array Oper} {rest : List Oper} {o : Oper} {a : Act} {Q : Exit → Act → World → Prop} (hgd : o.guard = none) (s x : Operand) (t e : TypeId) (size bytes : Nat)
    (T : SlT P t e size bytes) (ho : o.op = .call { callee := .builtin .append, args := #[s, x], argTypes := #[t, t] })
    (base : Nat) (hbase : base ≤ w.heap.size) (v : Value) (n : Nat) (xs : List Value) (hs : a.eval s = v) (hown : w.ownsRow base e size v n xs)
    (ad : Addr) (m c : Nat) (news : List Value) (hx : a.eval x = .slice (some ad) m c) (hl : news.length = m * size) (hnews : ∀ j u, news[j]? = some u → w.cell? (ad.add j) = some u) (h1 : ∀ u ∈ news, u.oneCell' = true)
    (hbytes : (n + m) * bytes ≤ 140737488355328)
    (h : ∀ v' w', w'.ownsRow base e size v' (n + m) (xs ++ news) → w.grownBy w' v.ownBlock → (v'.ownBlock = v.ownBlock ∨ v'.ownBlock = some w.heap.size) → (∀ g, v.ownBlock = some g → Kept w w' e g (n * size)) → wpList P ops Q rest (a.put o.dst v') w') : wpList P ops Q (o :: rest) a w := by
  obtain ⟨v', w', hr, h2, h3, h4, h5⟩ := run_app_kept (P := P) w base t o.type e size bytes T v n xs hown ad m c news hl hnews h1 hbytes hbase
  exact wpList_app_run hgd s x t ho v _ v' w' hs hx hr (h v' w' h2 h3 h4 h5)

theorem one_cells (ds : List Di) : ∀ u ∈ ds.flatMap diCells, u.oneCell' = true := by
  intro u hu
  rw [List.mem_flatMap] at hu
  obtain ⟨d, _, hu⟩ := hu
  simp at hu
  rcases hu with rfl | rfl | rfl <;> rfl
/-- What a slice of reasons holds, whoever made it. -/
theorem owns_cells {W : World} {base n : Nat} {v : Value} {xs : List Value} (h : W.ownsRow base 31 3 v n xs) : (v = .slice none 0 0 ∧ n = 0 ∧ xs = []) ∨ ∃ g cap, v = .slice (some ⟨g, 0, none⟩) n cap ∧ base ≤ g ∧ g < W.heap.size ∧ ∀ j u, xs[j]? = some u → W.cell? ((⟨g, 0, none⟩ : Addr).add j) = some u := by
  rcases h.2 with ⟨rfl, rfl⟩ | ⟨g, cap, cur, rfl, hb, hg, _⟩
  · exact .inl ⟨rfl, rfl, List.eq_nil_of_length_eq_zero (by simpa using h.1)⟩
  · exact .inr ⟨g, cap, rfl, hb, (Array.getElem?_eq_some_iff.1 hg).1, h.cells (g := g) rfl⟩

set_option maxRecDepth 100000 in
theorem copy_any (base n : Nat) (v : Value) (ds : List Di) (hl : ds.length = n) (hm : n ≤ 1000) (w : World) (h : w.ownsRow base 31 3 v n (ds.flatMap diCells)) :
    Calls Tryd.prog 27 #[v] w fun e W' => ∃ u, e = .returned u ∧ W'.ownsRow w.heap.size 31 3 u n (ds.flatMap diCells) ∧ Below w.heap.size w W' := by
  have hlen : (ds.flatMap diCells).length = n * 3 := by rw [diCells_len, hl]
  have h1 := one_cells ds
  rcases owns_cells h with ⟨rfl, rfl, hx⟩ | ⟨g, cap, rfl, hb, hg, hc⟩
  · rw [hx]
    have hr : ∀ W : World, (Builtin.append_ #[22, 22] 22 #[.slice none 0 0, .slice none 0 0]).run Tryd.prog W = .ok (.slice none 0 0) W := fun W => by kernel_rfl
    clear h hx hlen h1
    go_enter Tryd.func27, Tryd.ntmps27
    go_wp2_with (at_builtin; refine wpList_app_run rfl _ _ _ rfl (.slice none 0 0) (.slice none 0 0) (.slice none 0 0) _ rfl rfl (hr _) ?_)
    go_wp2
    go_ret
    exact ⟨_, rfl, World.ownsRow_nil _ _ _ _, Below.refl _ _⟩
  · have HLEN := Lib.hid hlen
    have H1 := Lib.hid h1
    have HC := Lib.hid hc
    clear h hlen h1 hc hl
    generalize ds.flatMap diCells = xs at *
    go_enter Tryd.func27, Tryd.ntmps27
    go_wp2_with (at_builtin; refine wpList_app_kept _ rfl _ _ _ _ _ _ slD rfl w.heap.size (Nat.le_refl _) (.slice none 0 0) 0 [] rfl (World.ownsRow_nil _ _ _ _) ⟨g, 0, none⟩ n cap xs rfl HLEN.out HC.out H1.out (by omega) ?_)
    intro v' w' r1 r2 r3 r4
    go_wp2
    go_ret
    exact ⟨_, rfl, by simpa using r1, (Below.refl _ w).grown r2 (Nat.le_refl _) (fun j ej => by cases ej)⟩

/-- A book's marks. -/
def mrk (i k : Nat) : Di := ⟨0, -1000 * (i : Int) - (k : Int) - 1, []⟩
def marks (i k n : Nat) : List Di := (List.range n).map fun j => mrk i (k + j)
theorem marks_len (i k n : Nat) : (marks i k n).length = n := by simp [marks]
theorem marks_succ (i k n : Nat) : marks i k (n + 1) = marks i k n ++ [mrk i (k + n)] := by simp [marks, List.range_succ]
theorem marks_add (i n : Nat) : ∀ m, marks i 0 n ++ marks i n m = marks i 0 (n + m)
  | 0 => by simp [marks]
  | m + 1 => by rw [marks_succ, ← List.append_assoc, marks_add i n m, show n + (m + 1) = n + m + 1 from rfl, marks_succ, Nat.zero_add]
def MkR (w : World) (i k n : Nat) (p q : Value) (wr : World) : Prop :=
  ∃ j, j ≤ n ∧ q = .int .i64 ((k : Int) + (j : Int)) ∧ wr.ownsRow w.heap.size 31 3 p j ((marks i k j).flatMap diCells) ∧ Below w.heap.size w wr ∧ w.heap.size ≤ wr.heap.size
set_option maxRecDepth 100000 in
set_option maxHeartbeats 800000 in
theorem mark_any (i k n : Nat) (hi : i ≤ 300) (hk : k + n ≤ 2000) (w : World) :
    Calls Tryd.prog 68 #[.int .i64 i, .int .i64 k, .int .i64 n] w fun e W' => ∃ v, e = .returned v ∧ W'.ownsRow w.heap.size 31 3 v n ((marks i k n).flatMap diCells) ∧ Below w.heap.size w W' := by
  go_enter Tryd.func68, Tryd.ntmps68
  go_wp2
  go_loopw [7, 8] (fun p q wr => MkR w i k n p q wr) (fun _ q _ => k + n - (intOf q).toNat)
  case atStart => exact ⟨0, Nat.zero_le _, by go_num, World.ownsRow_nil _ _ _ _, Below.refl _ _, Nat.le_refl _⟩
  case round =>
    obtain ⟨j, hj, rfl, hown, hB, hsz⟩ := hrel
    by_cases hlt : j < n
    · have hz : (k : Int) + (j : Int) < (k : Int) + (n : Int) := by omega
      go_wp2_with (at_builtin; refine wpList_app _ rfl _ _ _ _ _ _ slD rfl w.heap.size w (hB.alloc hsz _) (by simp; omega) _ _ _ rfl (hown.alloc _) ⟨wr.heap.size, 0, none⟩ [.int .i64 0, .int .i64 (-1000 * (i : Int) - ((k : Int) + (j : Int)) - 1), .string ⟨#[]⟩] rfl rfl (World.news_of_block (cs := #[.int .i64 0, .int .i64 (-1000 * (i : Int) - ((k : Int) + (j : Int)) - 1), .string ⟨#[]⟩]) (t := 31) (fr := (0, 0)) (heap_alloc_new wr _)) ?c1 ?c2 ?_)
      case c1 => simp [Value.oneCell']
      case c2 => omega
      intro v' w1 hown1 hB1 hsz1 _
      have HO := Lib.hid hown1
      clear hown1
      go_wp2
      go_roundw
      case rel =>
        refine ⟨j + 1, hlt, by go_num, ?_, hB1, hsz1⟩
        have := HO.out
        rw [marks_succ, List.flatMap_append]
        simpa [mrk] using this
      case measure => simp [intOf]; omega
    · obtain rfl : j = n := by omega
      have hz : ¬ (k : Int) + (j : Int) < (k : Int) + (j : Int) := by omega
      have HO := Lib.hid hown
      go_wp2
      go_ret
      exact ⟨_, rfl, HO.out, hB⟩
end Go.Proofs.YtgdnibdahldekabDoor
