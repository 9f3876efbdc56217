/- Words for the book of lists: an append that keeps what stood before, a copy, marks. A book of lists as it lies; one more list. A book's lists: are they as they were; all are marked. A book's lists are grown; lists are looked at for their marks. The book's lists of other kinds, of which there are none; Apart. -/
import Derived.Test.YtjcpfmndkeiegaaGreatDoorTs
import Derived.Test.YtjcpfmndkeiegaaGreatDoorQb
import Derived.Deep.RegionLaw
import Derived.Deep.AppendLies
import Derived.BigRegion
import Derived.LoopTactic
import Derived.RegionTactic
import Derived.Handy
namespace Go.Proofs.YtjcpfmndkeiegaaGreatDoor.Tb
open Go.RowKit Go.Proofs.YtjcpfmndkeiegaaGreatDoor
set_option linter.unusedVariables false

/-- Of block g the first k cells stay, and how many there are. -/
def Kept (w w' : World) (e : TypeId) (g k : Nat) : Prop := ∀ cur : Array Value, w.heap[g]? = some (.cells cur e (0, 0)) → ∃ cur' : Array Value, w'.heap[g]? = some (.cells cur' e (0, 0)) ∧ cur'.size = cur.size ∧ ∀ j, j < k → cur'[j]? = cur[j]?
theorem run_app_kept {P : Program} (w : World) (base : Nat) (t ty e : TypeId) (size bytes : Nat) (T : SlT P t e size bytes)
    (v : Value) (n : Nat) (xs : List Value) (hown : w.ownsRow base e size v n xs)
    (a : Addr) (m c : Nat) (news : List Value) (hl : news.length = m * size) (hnews : ∀ j u, news[j]? = some u → w.cell? (a.add j) = some u) (h1 : ∀ u ∈ news, u.oneCell' = true)
    (hbytes : (n + m) * bytes ≤ 140737488355328) (hbase : base ≤ w.heap.size) :
    ∃ v' w', (Builtin.append_ #[t, t] ty #[v, .slice (some a) m c]).run P w = .ok v' w' ∧ w'.ownsRow base e size v' (n + m) (xs ++ news) ∧ w.grownBy w' v.ownBlock ∧
      (v'.ownBlock = v.ownBlock ∨ v'.ownBlock = some w.heap.size) ∧ ∀ g, v.ownBlock = some g → Kept w w' e g (n * size) := by
  obtain ⟨ht, ⟨i, z, hi, hz, hsz, hby, hzs⟩, hs0, hb0⟩ := T
  have hmax : n + m ≤ maxLen := by
    have : n + m ≤ (n + m) * bytes := Nat.le_mul_of_pos_right _ hb0
    unfold maxLen
    omega
  obtain ⟨v', w', hr, h2, h3, _, h5⟩ := run_append_own_at (P := P) w base t ty e i z size bytes ht hi hz hsz hby hzs hs0 v n xs hown a m c news hl hnews h1 hmax hbytes hbase
  refine ⟨v', w', hr, h2, h3, h5, fun g hg cur hcur => ?_⟩
  rcases hown.2 with ⟨rfl, _⟩ | ⟨g', cap, cur', rfl, hbg, hg', hnc, hcm, hcs, htake⟩
  · cases hg
  · obtain rfl : g' = g := Option.some.inj hg
    obtain rfl : cur' = cur := by rw [hcur] at hg'; cases hg'; rfl
    subst hsz
    by_cases hroom : n + m ≤ cap
    · have hfit : n * i.size + news.length ≤ cur'.size := by rw [hl, hcs, ← Nat.add_mul]; exact Nat.mul_le_mul_right _ hroom
      have hr2 := run_append_room (P := P) w t ty e i ht hi g' n cap cur' hg' a m c news hl hnews h1 hroom hfit
      rw [hr] at hr2
      cases hr2
      refine ⟨_, setRow_heap w g' cur' _ e _ hg', ?_, fun j hj => ?_⟩
      · simp only [List.size_toArray, List.length_append, List.length_take, List.length_drop, Array.length_toList]
        omega
      · have hj' : j < cur'.toList.length := by simp; omega
        rw [List.getElem?_toArray, List.append_assoc, List.getElem?_append_left (by rw [List.length_take]; omega), List.getElem?_take_of_lt hj, Array.getElem?_toList]
    · have holds : ∀ j u, xs[j]? = some u → w.cell? ((⟨g', 0, none⟩ : Addr).add j) = some u := hown.cells (g := g') rfl
      have hr2 := run_append_grow (P := P) w t ty e i z ht hi hz ⟨g', 0, none⟩ n cap xs hown.1 holds a m c news hl hnews (by omega) (by unfold maxLen at hmax; omega) (growslice_fits (by omega) (by rw [hby]; exact hbytes))
      rw [hr] at hr2
      cases hr2
      exact ⟨cur', (heap_alloc_old w.drew _ (Array.getElem?_eq_some_iff.1 hg').1).trans hg', rfl, fun _ _ => rfl⟩
/-- An append whose run is known. -/
theorem wpList_app_run {P : Program} {w : World} {ops : Array Oper} {rest : List Oper} {o : Oper} {a : Act} {Q : Exit → Act → World → Prop} (hgd : o.guard = none) (s x : Operand) (t : TypeId)
    (ho : o.op = .call { callee := .builtin .append, args := #[s, x], argTypes := #[t, t] }) (v u v' : Value) (w' : World) (hs : a.eval s = v) (hx : a.eval x = u) (hr : (Builtin.append_ #[t, t] o.type #[v, u]).run P w = .ok v' w')
    (h : wpList P ops Q rest (a.put o.dst v') w') : wpList P ops Q (o :: rest) a w := by
  refine wpList_plain hgd fun K hK => ?_
  unfold Oper.wp execOp
  simp only [ho, resolve, invoke, builtin, Sem.run_bind, Sem.run_pure, Result.andThen_ok, List.map_toArray, List.map_cons, List.map_nil, hs, hx, hr]
  exact hK _ _ h
/-- 'append(s, x...)', s of the call's own: what stood before stays. -/
theorem wpList_app_kept {P : Program} (w : World) {ops : Array Oper} {rest : List Oper} {o : Oper} {a : Act} {Q : Exit → Act → World → Prop} (hgd : o.guard = none) (s x : Operand) (t e : TypeId) (size bytes : Nat)
    (T : SlT P t e size bytes) (ho : o.op = .call { callee := .builtin .append, args := #[s, x], argTypes := #[t, t] })
    (base : Nat) (hbase : base ≤ w.heap.size) (v : Value) (n : Nat) (xs : List Value) (hs : a.eval s = v) (hown : w.ownsRow base e size v n xs)
    (ad : Addr) (m c : Nat) (news : List Value) (hx : a.eval x = .slice (some ad) m c) (hl : news.length = m * size) (hnews : ∀ j u, news[j]? = some u → w.cell? (ad.add j) = some u) (h1 : ∀ u ∈ news, u.oneCell' = true)
    (hbytes : (n + m) * bytes ≤ 140737488355328)
    (h : ∀ v' w', w'.ownsRow base e size v' (n + m) (xs ++ news) → w.grownBy w' v.ownBlock → (v'.ownBlock = v.ownBlock ∨ v'.ownBlock = some w.heap.size) → (∀ g, v.ownBlock = some g → Kept w w' e g (n * size)) → wpList P ops Q rest (a.put o.dst v') w') : wpList P ops Q (o :: rest) a w := by
  obtain ⟨v', w', hr, h2, h3, h4, h5⟩ := run_app_kept (P := P) w base t o.type e size bytes T v n xs hown ad m c news hl hnews h1 hbytes hbase
  exact wpList_app_run hgd s x t ho v _ v' w' hs hx hr (h v' w' h2 h3 h4 h5)

theorem slT : SlT Tryz.prog 22 9 1 16 := SlT.mk Tryz.underlying22 (z := .string ⟨#[]⟩) (by kernel_rfl) rfl (by decide) (by decide)
/-- What a slice of texts holds, whoever made it. -/
theorem owns_cells {W : World} {base n : Nat} {v : Value} {xs : List Value} (h : W.ownsRow base 9 1 v n xs) : (v = .slice none 0 0 ∧ n = 0 ∧ xs = []) ∨ ∃ g cap, v = .slice (some ⟨g, 0, none⟩) n cap ∧ base ≤ g ∧ g < W.heap.size ∧ ∀ j u, xs[j]? = some u → W.cell? ((⟨g, 0, none⟩ : Addr).add j) = some u := by
  rcases h.2 with ⟨rfl, rfl⟩ | ⟨g, cap, cur, rfl, hb, hg, _⟩
  · exact .inl ⟨rfl, rfl, List.eq_nil_of_length_eq_zero (by simpa using h.1)⟩
  · exact .inr ⟨g, cap, rfl, hb, (Array.getElem?_eq_some_iff.1 hg).1, h.cells (g := g) rfl⟩

set_option maxRecDepth 100000 in
theorem copy_any (base n : Nat) (v : Value) (ds : List ByteArray) (hl : ds.length = n) (hm : n ≤ 1000) (w : World) (h : w.ownsRow base 9 1 v n (ds.map sv)) :
    Calls Tryz.prog 31 #[v] w fun e W' => ∃ u, e = .returned u ∧ W'.ownsRow w.heap.size 9 1 u n (ds.map sv) ∧ Below w.heap.size w W' := by
  have hlen : (ds.map sv).length = n * 1 := by rw [List.length_map, hl, Nat.mul_one]
  have h1 := sv_one ds
  rcases owns_cells h with ⟨rfl, rfl, hx⟩ | ⟨g, cap, rfl, hb, hg, hc⟩
  · rw [hx]
    have hr : ∀ W : World, (Builtin.append_ #[22, 22] 22 #[.slice none 0 0, .slice none 0 0]).run Tryz.prog W = .ok (.slice none 0 0) W := fun W => by kernel_rfl
    clear h hx hlen h1
    go_enter Tryz.func31, Tryz.ntmps31
    go_wp2_with (at_builtin; refine wpList_app_run rfl _ _ _ rfl (.slice none 0 0) (.slice none 0 0) (.slice none 0 0) _ rfl rfl (hr _) ?_)
    go_wp2
    go_ret
    exact ⟨_, rfl, World.ownsRow_nil _ _ _ _, Below.refl _ _⟩
  · have HLEN := Lib.hid hlen
    have H1 := Lib.hid h1
    have HC := Lib.hid hc
    clear h hlen h1 hc hl
    generalize ds.map sv = xs at *
    go_enter Tryz.func31, Tryz.ntmps31
    go_wp2_with (at_builtin; refine wpList_app_kept _ rfl _ _ _ _ _ _ slT rfl w.heap.size (Nat.le_refl _) (.slice none 0 0) 0 [] rfl (World.ownsRow_nil _ _ _ _) ⟨g, 0, none⟩ n cap xs rfl HLEN.out HC.out H1.out (by omega) ?_)
    intro v' w' r1 r2 r3 r4
    go_wp2
    go_ret
    exact ⟨_, rfl, by simpa using r1, (Below.refl _ w).grown r2 (Nat.le_refl _) (fun j ej => by cases ej)⟩

/-- A book's marks. -/
def mrk (i k : Nat) : ByteArray := ⟨#[109, UInt8.ofNat (65 + i % 26), UInt8.ofNat (65 + i / 26 % 26), UInt8.ofNat (48 + k % 10), UInt8.ofNat (48 + k / 10 % 10), UInt8.ofNat (48 + k / 100 % 10)]⟩
def marks (i k n : Nat) : List ByteArray := (List.range n).map fun j => mrk i (k + j)
theorem marks_len (i k n : Nat) : (marks i k n).length = n := by simp [marks]
theorem marks_succ (i k n : Nat) : marks i k (n + 1) = marks i k n ++ [mrk i (k + n)] := by simp [marks, List.range_succ]
theorem marks_add (i n : Nat) : ∀ m, marks i 0 n ++ marks i n m = marks i 0 (n + m)
  | 0 => by simp [marks]
  | m + 1 => by rw [marks_succ, ← List.append_assoc, marks_add i n m, show n + (m + 1) = n + m + 1 from rfl, marks_succ, Nat.zero_add]
set_option maxRecDepth 100000 in
set_option maxHeartbeats 4000000 in
theorem name_int (i k : Int) (hi : 0 ≤ i) (hi2 : i ≤ 100000) (hk : 0 ≤ k) (hk2 : k ≤ 100000) (l : List UInt8) (hl : l.length = 6) (w : World)
    (h0 : ((l[0].toNat : Nat) : Int) = 109) (h1 : ((l[1].toNat : Nat) : Int) = 65 + i % 26) (h2 : ((l[2].toNat : Nat) : Int) = 65 + i / 26 % 26) (h3 : ((l[3].toNat : Nat) : Int) = 48 + k % 10) (h4 : ((l[4].toNat : Nat) : Int) = 48 + k / 10 % 10) (h5 : ((l[5].toNat : Nat) : Int) = 48 + k / 100 % 10) :
    Calls Tryz.prog 111 #[.int .i64 i, .int .i64 k] w fun e W' => e = .returned (str l) ∧ Below w.heap.size w W' := by
  have hr := run_toStr (P := Tryz.prog) (w.alloc (.cells #[.int .u8 109, .int .u8 (65 + i % 26), .int .u8 (65 + i / 26 % 26), .int .u8 (48 + k % 10), .int .u8 (48 + k / 10 % 10), .int .u8 (48 + k / 100 % 10)] 5)) 145 9 5 ⟨w.heap.size, 0, none⟩ l 6 6 hl.symm Tryz.underlying145 Tryz.underlying5 Tryz.underlying9 (fun j hj => by
    have hc := (BlkAt.new w 5 #[.int .u8 109, .int .u8 (65 + i % 26), .int .u8 (65 + i / 26 % 26), .int .u8 (48 + k % 10), .int .u8 (48 + k / 10 % 10), .int .u8 (48 + k / 100 % 10)]).cell j
    have hadd : (⟨w.heap.size, 0, none⟩ : Addr).add j = ⟨w.heap.size, j, none⟩ := by unfold Addr.add; split <;> simp_all
    rw [hadd, hc]
    rw [hl] at hj
    match j, hj with
    | 0, _ => simp [h0]
    | 1, _ => simp [h1]
    | 2, _ => simp [h2]
    | 3, _ => simp [h3]
    | 4, _ => simp [h4]
    | 5, _ => simp [h5])
  clear h0 h1 h2 h3 h4 h5
  go_enter Tryz.func111, Tryz.ntmps111
  go_wp2
  go_ret
  exact ⟨rfl, (Below.refl _ w).alloc (Nat.le_refl _) _⟩
theorem name_any (i k : Nat) (hi : i ≤ 100000) (hk : k ≤ 100000) (w : World) :
    Calls Tryz.prog 111 #[.int .i64 i, .int .i64 k] w fun e W' => e = .returned (.string (mrk i k)) ∧ Below w.heap.size w W' :=
  name_int i k (by omega) (by omega) (by omega) (by omega) [109, UInt8.ofNat (65 + i % 26), UInt8.ofNat (65 + i / 26 % 26), UInt8.ofNat (48 + k % 10), UInt8.ofNat (48 + k / 10 % 10), UInt8.ofNat (48 + k / 100 % 10)] rfl w
    (by simp) (by simp; omega) (by simp; omega) (by simp; omega) (by simp; omega) (by simp; omega)
def MkR (w : World) (i k n : Nat) (p q : Value) (wr : World) : Prop :=
  ∃ j, j ≤ n ∧ q = .int .i64 ((k : Int) + (j : Int)) ∧ wr.ownsRow w.heap.size 9 1 p j ((marks i k j).map sv) ∧ Below w.heap.size w wr ∧ w.heap.size ≤ wr.heap.size
theorem mks_one (i k j : Nat) : (marks i k j).map sv ++ [.string (mrk i (k + j))] = (marks i k (j + 1)).map sv := by
  rw [marks_succ, List.map_append]; rfl
set_option maxRecDepth 100000 in
set_option maxHeartbeats 4000000 in
theorem mark_any (i k n : Nat) (hi : i ≤ 300) (hk : k + n ≤ 2000) (w : World) :
    Calls Tryz.prog 85 #[.int .i64 i, .int .i64 k, .int .i64 n] w fun e W' => ∃ v, e = .returned v ∧ W'.ownsRow w.heap.size 9 1 v n ((marks i k n).map sv) ∧ Below w.heap.size w W' := by
  go_enter Tryz.func85, Tryz.ntmps85
  go_wp2
  go_loopw [7, 8] (fun p q wr => MkR w i k n p q wr) (fun _ q _ => k + n - (intOf q).toNat)
  case atStart => exact ⟨0, Nat.zero_le _, by go_num, World.ownsRow_nil _ _ _ _, Below.refl _ _, Nat.le_refl _⟩
  case round =>
    obtain ⟨j, hj, rfl, hown, hB, hsz⟩ := hrel
    by_cases hlt : j < n
    · have hz : (k : Int) + (j : Int) < (k : Int) + (n : Int) := by omega
      obtain ⟨mm, hmm⟩ : ∃ mm, mrk i (k + j) = mm := ⟨_, rfl⟩
      have HM := Lib.hid hmm
      have HN := Lib.hid (show ∀ W, Calls Tryz.prog 111 #[.int .i64 i, .int .i64 ((k : Int) + (j : Int))] W fun e W' => e = .returned (.string mm) ∧ Below W.heap.size W W' from fun W => by have := name_any i (k + j) (by omega) (by omega) W; rw [hmm] at this; simpa using this)
      have HO := Lib.hid hown
      have HB := Lib.hid hB
      clear hown hB hmm
      go_wp2_with fail
      refine (HN.out _).mono ?_
      clear HN
      rintro e w4 ⟨rfl, hB4⟩
      have HB4 := Lib.hid (HB.out.trans (hB4.mono hsz))
      have HO4 := Lib.hid (rowKept HO.out hB4)
      have HS4 := Lib.hid (Nat.le_trans hsz hB4.size)
      clear hB4
      go_wp2_with (at_builtin; refine wpList_app _ rfl _ _ _ _ _ _ slT rfl w.heap.size w (HB4.out.alloc HS4.out _) (by have := HS4.out; simp; omega) _ _ _ rfl (HO4.out.alloc _) ⟨w4.heap.size, 0, none⟩ [.string mm] rfl rfl (cell_one_new _ _ _) ?c1 ?c2 ?_)
      case c1 => simp [Value.oneCell']
      case c2 => omega
      intro v' w1 hown1 hB1 hsz1 _
      have HO := Lib.hid hown1
      clear hown1
      go_wp2
      go_roundw
      case rel =>
        refine ⟨j + 1, hlt, by go_num, ?_, hB1, hsz1⟩
        rw [← mks_one, HM.out]
        exact HO.out
      case measure => simp [intOf]; omega
    · obtain rfl : j = n := by omega
      have hz : ¬ (k : Int) + (j : Int) < (k : Int) + (j : Int) := by omega
      have HO := Lib.hid hown
      go_wp2
      go_ret
      exact ⟨_, rfl, HO.out, hB⟩
end Go.Proofs.YtjcpfmndkeiegaaGreatDoor.Tb
namespace Go.Proofs.YtjcpfmndkeiegaaGreatDoor.Tb
open Go.RowKit Go.Proofs.YtjcpfmndkeiegaaGreatDoor
set_option linter.unusedVariables false

theorem infoTT : (Tryz.prog.info? 22).map (fun i => (i.zero, i.size, i.bytes)) = some (some (.slice none 0 0), 1, 24) := by kernel_rfl
set_option maxRecDepth 100000 in
theorem slTT : SlT Tryz.prog 39 22 1 24 := SlT.mk Tryz.underlying39 (z := .slice none 0 0) (by kernel_rfl) rfl (by decide) (by decide)
abbrev nilV : Value := .slice none 0 0
abbrev bookCells (V U : Value) : Array Value := #[V, U, nilV, nilV, nilV, nilV, nilV, nilV, nilV, nilV, nilV, nilV]
/-- A book of m lists. -/
structure BookIs (W : World) (base B m : Nat) (vs us : Nat → Value) (ls : Nat → List ByteArray) (V U : Value) : Prop where
  hB : base ≤ B
  blk : BlkAt W B 46 (bookCells V U)
  ownV : W.ownsRow base 22 1 V m ((List.range m).map vs)
  ownU : W.ownsRow base 22 1 U m ((List.range m).map us)
  len : ∀ i, i < m → (ls i).length ≤ 500
  rows : ∀ i, i < m → W.ownsRow base 9 1 (vs i) (ls i).length ((ls i).map sv)
  rowsU : ∀ i, i < m → W.ownsRow base 9 1 (us i) (ls i).length ((ls i).map sv)
  sVU : ∀ g, V.ownBlock = some g → U.ownBlock ≠ some g
  sR : ∀ i j, i < m → j < m → i ≠ j → ∀ g, (vs i).ownBlock = some g → (vs j).ownBlock ≠ some g
/-- All blocks but those of a book stay. -/
def KeepsT (W W' : World) : Prop := ∀ (k : Nat) (cur : Array Value) (t : TypeId), W.heap[k]? = some (.cells cur t (0, 0)) → t ≠ 22 → t ≠ 46 → W'.heap[k]? = some (.cells cur t (0, 0))
theorem KeepsT.refl (W : World) : KeepsT W W := fun _ _ _ h _ _ => h
theorem KeepsT.trans {a b c : World} (h : KeepsT a b) (k : KeepsT b c) : KeepsT a c := fun i cur t h1 h2 h3 => k i cur t (h i cur t h1 h2 h3) h2 h3
theorem KeepsT.of_below {a b : World} (h : Below a.heap.size a b) : KeepsT a b := fun i cur t h1 h2 h3 => (h.block i (Array.getElem?_eq_some_iff.1 h1).1).trans h1
theorem KeepsT.owns {W W' : World} (h : KeepsT W W') {base n : Nat} {v : Value} {xs : List Value} (ho : W.ownsRow base 9 1 v n xs) : W'.ownsRow base 9 1 v n xs := by
  refine ⟨ho.1, ?_⟩
  rcases ho.2 with h0 | ⟨g, cap, cur, hv, hb, hg, hr⟩
  · exact .inl h0
  · exact .inr ⟨g, cap, cur, hv, hb, h g cur _ hg (by decide) (by decide), hr⟩
theorem KeepsT.blk {W W' : World} (h : KeepsT W W') {g : Nat} {t : TypeId} {cs : Array Value} (hb : BlkAt W g t cs) (h1 : t ≠ 22) (h2 : t ≠ 46) : BlkAt W' g t cs := h g cs t hb h1 h2
theorem owns_gb {W W' : World} {base size n : Nat} {e : TypeId} {v : Value} {xs : List Value} {row : Option Nat} (ho : W.ownsRow base e size v n xs) (h : W.grownBy W' row) (hne : ∀ g, v.ownBlock = some g → row ≠ some g) : W'.ownsRow base e size v n xs := by
  refine ⟨ho.1, ?_⟩
  rcases ho.2 with h0 | ⟨g, cap, cur, hv, hb, hg, hr⟩
  · exact .inl h0
  · refine .inr ⟨g, cap, cur, hv, hb, ?_, hr⟩
    rw [h.block g (Array.getElem?_eq_some_iff.1 hg).1 (fun e => hne g (by rw [hv]; rfl) e.symm)]
    exact hg
theorem keepsT_gb {W W' : World} {v : Value} {base n : Nat} {xs : List Value} (ho : W.ownsRow base 22 1 v n xs) (h : W.grownBy W' v.ownBlock) : KeepsT W W' := fun k cur t h1 h2 h3 => by
  rw [h.block k (Array.getElem?_eq_some_iff.1 h1).1 (fun e => ?_)]
  · exact h1
  · obtain ⟨c, hc, _⟩ := own_at ho e.symm
    rw [h1] at hc
    cases hc
    exact h2 rfl
theorem keepsT_set {W : World} {B : Nat} {cs : Array Value} (h : BlkAt W B 46 cs) (j : Nat) (u : Value) : KeepsT W (W.setCell ⟨B, j, none⟩ u) := fun k cur t h1 h2 h3 => by
  have hne : k ≠ B := fun e => by
    subst e
    rw [show W.heap[k]? = _ from h] at h1
    cases h1
    exact h3 rfl
  exact (Below.heap_setCell W ⟨B, j, none⟩ u k hne).trans h1
theorem setCell_gb (W : World) (B j : Nat) (u : Value) : W.grownBy (W.setCell ⟨B, j, none⟩ u) (some B) :=
  ⟨rfl, rfl, rfl, by rw [World.size_setCell]; exact Nat.le_refl _, fun k _ hne => Below.heap_setCell W ⟨B, j, none⟩ u k (fun e => hne (by rw [e]))⟩

/-- One more list on one side. -/
theorem range_ext (m : Nat) (vs : Nat → Value) (v : Value) : (List.range m).map vs ++ [v] = (List.range (m + 1)).map (fun i => if i = m then v else vs i) := by
  rw [List.range_succ, List.map_append]
  congr 1
  · apply List.map_congr_left
    intro i hi
    rw [if_neg (by have := List.mem_range.1 hi; omega)]
  · simp
/-- What one more list comes to. -/
def TextsR (w : World) (base B m : Nat) (vs us : Nat → Value) (ls : Nat → List ByteArray) (v : Value) (ds : List ByteArray) (e : Ending) (W' : World) : Prop :=
  (∃ x, e = .returned x) ∧ ∃ u V' U', BookIs W' base B (m + 1) (fun i => if i = m then v else vs i) (fun i => if i = m then u else us i) (fun i => if i = m then ds else ls i) V' U' ∧ KeepsT w W' ∧ Below base w W'
/-- Behind the second append. -/
theorem texts_end {base B m n : Nat} {vs us : Nat → Value} {ls : Nat → List ByteArray} {w w2 w3 w4 : World} {V' U v u : Value} {gg cap : Nat} {V0 U0 : Value} {ds : List ByteArray} (hl : ds.length = n) (hn : n ≤ 500)
    (h : BookIs w base B m vs us ls V0 U0) (ho : w.ownsRow base 9 1 v n (ds.map sv)) (hs : ∀ i, i < m → ∀ g, (vs i).ownBlock = some g → v.ownBlock ≠ some g)
    (hBlk2 : BlkAt w2 B 46 (bookCells V' U)) (hU2 : w2.ownsRow base 22 1 U m ((List.range m).map us)) (hV2 : w2.ownsRow base 22 1 V' (m + 1) ((List.range (m + 1)).map fun i => if i = m then v else vs i))
    (hKT2 : KeepsT w w2) (hBe2 : Below base w w2) (hsz2 : base ≤ w2.heap.size) (hsV2 : ∀ g, V'.ownBlock = some g → U.ownBlock ≠ some g)
    (hu : w3.ownsRow w2.drew.heap.size 9 1 u n (ds.map sv)) (hB3 : Below w2.drew.heap.size w2.drew w3)
    (hown4 : w4.ownsRow base 22 1 (.slice (some ⟨gg, 0, none⟩) (m + 1) cap) (m + 1) ((List.range m).map us ++ [u])) (hgrow : (w3.alloc (.cells #[u] 22)).grownBy w4 U.ownBlock) (hat : U.ownBlock = some gg ∨ gg = w3.heap.size + 1) :
    TextsR w base B m vs us ls v ds (.returned (.tuple #[])) (w4.setCell ⟨B, 1, none⟩ (.slice (some ⟨gg, 0, none⟩) (m + 1) cap)) := by
  have hUB2 := blk_ne hU2 hBlk2 (by decide)
  have hB3' : Below w2.heap.size w2 w3 := ⟨hB3.os, hB3.tape, hB3.output, hB3.size, hB3.block⟩
  have hBa : Below w2.heap.size w2 (w3.alloc (.cells #[u] 22)) := hB3'.alloc hB3'.size _
  have hza : w2.heap.size ≤ (w3.alloc (.cells #[u] 22)).heap.size := hBa.size
  have hBlka := hBlk2.below hBa hBlk2.lt
  have hBlk4 := hBlka.grown hgrow (fun e => hUB2 e.symm)
  have hUa := rowKept hU2 hBa
  have hKT4 : KeepsT w2 w4 := (KeepsT.of_below hBa).trans (keepsT_gb hUa hgrow)
  have hKT5 : KeepsT w (w4.setCell ⟨B, 1, none⟩ (.slice (some ⟨gg, 0, none⟩) (m + 1) cap)) := (hKT2.trans hKT4).trans (keepsT_set hBlk4 1 _)
  have hBe5 : Below base w (w4.setCell ⟨B, 1, none⟩ (.slice (some ⟨gg, 0, none⟩) (m + 1) cap)) := ((hBe2.trans (hBa.mono hsz2)).grown hgrow (Nat.le_trans hsz2 hza) (fun j e => ((own_at hUa e).choose_spec).2)).setCell h.hB _
  have hVB2 := blk_ne hV2 hBlk2 (by decide)
  have hU4B : (Value.slice (some ⟨gg, 0, none⟩) (m + 1) cap).ownBlock ≠ some B := blk_ne hown4 hBlk4 (by decide)
  refine ⟨⟨_, rfl⟩, u, V', _, ⟨h.hB, hBlk4.set 1 _, ?_, ?_, ?_, ?_, ?_, ?_, ?_⟩, hKT5, hBe5⟩
  · exact owns_gb (owns_gb (rowKept hV2 hBa) hgrow (fun g h1 h2 => hsV2 g h1 h2)) (setCell_gb w4 B 1 _) (fun g h1 e => hVB2 (by rw [h1, ← e]))
  · rw [← range_ext]
    exact owns_gb hown4 (setCell_gb w4 B 1 _) (fun g h1 e => hU4B (by rw [h1, ← e]))
  · intro i hi
    by_cases e : i = m
    · simp only [if_pos e]; omega
    · simp only [if_neg e]; exact h.len i (by omega)
  · intro i hi
    by_cases e : i = m
    · simp only [if_pos e]
      rw [hl]
      exact hKT5.owns ho
    · simp only [if_neg e]
      exact hKT5.owns (h.rows i (by omega))
  · intro i hi
    by_cases e : i = m
    · simp only [if_pos e]
      rw [hl]
      have h1 : w4.ownsRow base 9 1 u n (ds.map sv) := ownsRow_mono (((KeepsT.of_below ((Below.refl _ w3).alloc (Nat.le_refl _) (.cells #[u] 22))).trans (keepsT_gb hUa hgrow)).owns hu) hsz2
      exact (keepsT_set hBlk4 1 _).owns h1
    · simp only [if_neg e]
      exact hKT5.owns (h.rowsU i (by omega))
  · intro g h1 h2
    rcases hat with h3 | h3
    · exact hsV2 g h1 (by rw [h3]; exact h2)
    · obtain ⟨c, hc, _⟩ := own_at hV2 h1
      have hlt := (Array.getElem?_eq_some_iff.1 hc).1
      have e : gg = g := Option.some.inj h2
      have := hB3'.size
      omega
  · intro i j hi hj hij g h1 h2
    by_cases ei : i = m
    · have ej : ¬ j = m := by omega
      simp only [if_pos ei] at h1
      simp only [if_neg ej] at h2
      exact hs j (by omega) g h2 h1
    · simp only [if_neg ei] at h1
      by_cases ej : j = m
      · simp only [if_pos ej] at h2
        exact hs i (by omega) g h1 h2
      · simp only [if_neg ej] at h2
        exact h.sR i j (by omega) (by omega) hij g h1 h2
set_option maxRecDepth 100000 in
set_option maxHeartbeats 4000000 in
theorem texts_any (base B m n : Nat) (vs us : Nat → Value) (ls : Nat → List ByteArray) (V U v : Value) (ds : List ByteArray) (hl : ds.length = n) (hn : n ≤ 500) (hm : m ≤ 100) (w : World) (h : BookIs w base B m vs us ls V U) (hbs : base ≤ w.heap.size)
    (ho : w.ownsRow base 9 1 v n (ds.map sv)) (hs : ∀ i, i < m → ∀ g, (vs i).ownBlock = some g → v.ownBlock ≠ some g) :
    Calls Tryz.prog 13 #[.pointer (some ⟨B, 0, none⟩), v] w fun e W' => TextsR w base B m vs us ls v ds e W' := by
  obtain ⟨va, vc, rfl⟩ := ownsRow_slice' ho
  obtain ⟨Va, Vc, rfl⟩ := ownsRow_slice' h.ownV
  obtain ⟨Ua, Uc, rfl⟩ := ownsRow_slice' h.ownU
  have c6 : w.cell? ⟨B, 0, none⟩ = some (.slice Va m Vc) := (h.blk.cell 0).trans rfl
  have HB := Lib.hid h
  have HO := Lib.hid ho
  have HS := Lib.hid hs
  have HL := Lib.hid hl
  have hVB := blk_ne h.ownV h.blk (by decide)
  have HVB := Lib.hid hVB
  have hUB := blk_ne h.ownU h.blk (by decide)
  have HUB := Lib.hid hUB
  clear h ho hs hl hVB hUB
  have hmz : (m : Int) < 250 := by omega
  go_enter Tryz.func13, Tryz.ntmps13
  go_wp2_with (at_builtin; refine wpList_app_kept _ rfl _ _ _ _ _ _ slTT rfl base (by simp; omega) (.slice Va m Vc) m _ rfl (HB.out.ownV.alloc _) ⟨w.heap.size, 0, none⟩ 1 1 [.slice va n vc] rfl rfl (cell_one_new _ _ _) ?c1 ?c2 ?_)
  case c1 => intro u hu; simp at hu; subst hu; rfl
  case c2 => omega
  intro V' w1 hV1 hG1 hat1 hK1
  obtain ⟨Va', Vc', rfl⟩ := ownsRow_slice' hV1
  have hBlk1 := (HB.out.blk.alloc (.cells #[.slice va n vc] 22)).grown hG1 (fun e => HVB.out e.symm)
  have b6 : w1.cell? ⟨B, 0, none⟩ = some (.slice Va m Vc) := (hBlk1.cell 0).trans rfl
  have f6 := hBlk1.frozen 0
  -- the world behind the first store
  have hBlk2 : BlkAt (w1.setCell ⟨B, 0, none⟩ (.slice Va' (m + 1) Vc')) B 46 (bookCells (.slice Va' (m + 1) Vc') (.slice Ua m Uc)) := hBlk1.set 0 _
  have hA : w.grownBy (w.alloc (.cells #[.slice va n vc] 22)) none := grown_none ((Below.refl _ w).alloc (Nat.le_refl _) _)
  have hUne : ∀ g, (Value.slice Ua m Uc).ownBlock = some g → (Value.slice Va m Vc).ownBlock ≠ some g := fun g h1 h2 => HB.out.sVU g h2 h1
  have hU2 : (w1.setCell ⟨B, 0, none⟩ (.slice Va' (m + 1) Vc')).ownsRow base 22 1 (.slice Ua m Uc) m ((List.range m).map us) :=
    owns_gb (owns_gb (HB.out.ownU.alloc _) hG1 (fun g h1 h2 => hUne g h1 h2)) (setCell_gb w1 B 0 _) (fun g h1 e => HUB.out (by rw [h1, ← e]))
  have hVB1 : (Value.slice Va' (m + 1) Vc').ownBlock ≠ some B := blk_ne hV1 hBlk1 (by decide)
  have hV2 : (w1.setCell ⟨B, 0, none⟩ (.slice Va' (m + 1) Vc')).ownsRow base 22 1 (.slice Va' (m + 1) Vc') (m + 1) ((List.range (m + 1)).map fun i => if i = m then .slice va n vc else vs i) := by
    rw [← range_ext]
    exact owns_gb hV1 (setCell_gb w1 B 0 _) (fun g h1 e => hVB1 (by rw [h1, ← e]))
  have hKT2 : KeepsT w (w1.setCell ⟨B, 0, none⟩ (.slice Va' (m + 1) Vc')) := ((KeepsT.of_below ((Below.refl _ w).alloc (Nat.le_refl _) _)).trans (keepsT_gb (HB.out.ownV.alloc _) hG1)).trans (keepsT_set hBlk1 0 _)
  have hBe2 : Below base w (w1.setCell ⟨B, 0, none⟩ (.slice Va' (m + 1) Vc')) := ((((Below.refl base w).alloc hbs _)).grown hG1 (by simp; omega) (fun j e => ((own_at HB.out.ownV e).choose_spec).2)).setCell HB.out.hB _
  have hsz2 : base ≤ (w1.setCell ⟨B, 0, none⟩ (.slice Va' (m + 1) Vc')).heap.size := by
    rw [World.size_setCell]
    have := hG1.size
    simp at this
    omega
  have hsV2 : ∀ g, (Value.slice Va' (m + 1) Vc').ownBlock = some g → (Value.slice Ua m Uc).ownBlock ≠ some g := fun g h1 h2 => by
    rcases hat1 with h3 | h3
    · exact HB.out.sVU g (by rw [← h3]; exact h1) h2
    · obtain ⟨c, hc, _⟩ := own_at HB.out.ownU h2
      have hlt := (Array.getElem?_eq_some_iff.1 hc).1
      rw [h3] at h1
      cases h1
      have hz : (w.alloc (.cells #[.slice va n vc] 22)).heap.size = w.heap.size + 1 := by simp
      omega
  have HH := Lib.hid (And.intro hBlk2 (And.intro hU2 (And.intro hV2 (And.intro hKT2 (And.intro hBe2 (And.intro hsz2 hsV2))))))
  clear hBlk2 hU2 hV2 hKT2 hBe2 hsz2 hsV2 hVB1 hUne hA hBlk1 hV1 hG1 hat1 hK1
  go_wp2_with fail
  obtain ⟨hBlk2, hU2, hV2, hKT2, hBe2, hsz2, hsV2⟩ := HH.out
  clear HH b6 f6 c6
  generalize w1.setCell ⟨B, 0, none⟩ (.slice Va' (m + 1) Vc') = w2 at *
  have HC := Lib.hid (copy_any base n (.slice va n vc) ds HL.out (by omega) w2.drew (hKT2.owns HO.out))
  have b7 : w2.cell? ⟨B, 1, none⟩ = some (.slice Ua m Uc) := (hBlk2.cell 1).trans rfl
  obtain ⟨i0, hi0, hz0, hz1, hz2⟩ := info_parts infoTT
  have HD := Lib.hid (And.intro hBlk2 (And.intro hU2 (And.intro hV2 (And.intro hKT2 (And.intro hBe2 (And.intro hsz2 hsV2))))))
  have HUne := Lib.hid (blk_ne hU2 hBlk2 (by decide))
  clear hV2 hKT2 hBe2 hsV2
  have HBl := Lib.hid hBlk2
  have HU2 := Lib.hid hU2
  clear hBlk2 hU2
  go_region_law (first
    | (go_simp; go_at_call 31; refine HC.out.mono ?_; rintro e w3 ⟨u, rfl, hu, hB3⟩; obtain ⟨ua, uc, rfl⟩ := ownsRow_slice' hu; have c7 : w3.cell? ⟨B, 1, none⟩ = some (.slice Ua m Uc) := (hB3.cell (p := ⟨B, 1, none⟩) HBl.out.lt).trans b7; have c7a : (w3.alloc (Obj.cells #[.slice ua n uc] 22)).cell? ⟨B, 1, none⟩ = some (.slice Ua m Uc) := (((Below.refl _ w3).alloc (Nat.le_refl _) (Obj.cells #[.slice ua n uc] 22)).cell (p := ⟨B, 1, none⟩) (Nat.lt_of_lt_of_le HBl.out.lt hB3.size)).trans c7)
    | (refine step_append_lies _ (by rfl) _ _ _ (by rfl) base 22 i0 _ 1 24 Tryz.underlying39 hi0 hz0 hz1 hz2 rfl (by omega) (.slice Ua m Uc) m _ (by rfl) ((rowKept HU2.out.drew hB3).alloc _)
        ⟨w3.heap.size, 0, none⟩ 1 1 [.slice ua n uc] (by rfl) (by rfl) (World.news_of_block (cs := #[.slice ua n uc]) (t := 22) (fr := (0, 0)) (heap_alloc_new w3 _)) (by simp [Value.oneCell'])
        (by omega) (by unfold maxLen; omega) (by omega) (by have := hB3.size; have e0 : w2.drew.heap.size = w2.heap.size := rfl; simp; omega) (w3.heap.size + 1) (by simp) ?_; intro gg cap w4 hown4 hgrow hat hlt4; have hB4 := (((HBl.out.drew.below hB3 HBl.out.lt).alloc (Obj.cells #[.slice ua n uc] 22)).grown hgrow (fun e => HUne.out e.symm)); have d7 : w4.cell? ⟨B, 1, none⟩ = some (.slice Ua m Uc) := (hB4.cell 1).trans rfl; have f7 := hB4.frozen 1))
  all_goals
    have HF := Lib.hid (texts_end HL.out hn HB.out HO.out HS.out HD.out.1 HD.out.2.1 HD.out.2.2.1 HD.out.2.2.2.1 HD.out.2.2.2.2.1 HD.out.2.2.2.2.2.1 HD.out.2.2.2.2.2.2 hu hB3 hown4 hgrow hat)
    go_wp2
    go_end0
    exact HF.out
end Go.Proofs.YtjcpfmndkeiegaaGreatDoor.Tb
namespace Go.Proofs.YtjcpfmndkeiegaaGreatDoor.Tb
open Go.RowKit Go.Proofs.YtjcpfmndkeiegaaGreatDoor
set_option linter.unusedVariables false

/-- A book's lists, whatever the copies are. -/
structure BookP (W : World) (base B m : Nat) (vs : Nat → Value) (ls : Nat → List ByteArray) (V U : Value) : Prop where
  hB : base ≤ B
  blk : BlkAt W B 46 (bookCells V U)
  ownV : W.ownsRow base 22 1 V m ((List.range m).map vs)
  len : ∀ i, i < m → (ls i).length ≤ 500
  rows : ∀ i, i < m → W.ownsRow base 9 1 (vs i) (ls i).length ((ls i).map sv)
  sR : ∀ i j, i < m → j < m → i ≠ j → ∀ g, (vs i).ownBlock = some g → (vs j).ownBlock ≠ some g
theorem BookIs.toP {W : World} {base B m : Nat} {vs us : Nat → Value} {ls : Nat → List ByteArray} {V U : Value} (h : BookIs W base B m vs us ls V U) : BookP W base B m vs ls V U := ⟨h.hB, h.blk, h.ownV, h.len, h.rows, h.sR⟩
theorem list_at {W : World} {base m : Nat} {V : Value} {vs : Nat → Value} (h : W.ownsRow base 22 1 V m ((List.range m).map vs)) {i : Nat} (hi : i < m) :
    ∃ g c, V = .slice (some ⟨g, 0, none⟩) m c ∧ g < W.heap.size ∧ W.cell? ⟨g, i, none⟩ = some (vs i) := by
  rcases h.2 with ⟨rfl, h0⟩ | ⟨g, cap, cur, rfl, hb, hg, h1, h2, h3, h4⟩
  · omega
  · refine ⟨g, cap, rfl, (Array.getElem?_eq_some_iff.1 hg).1, ?_⟩
    rw [cell_of_row W g _ cur _ _ hg]
    have e1 : (cur.toList.take (m * 1))[i]? = cur[i]? := by rw [List.getElem?_take_of_lt (by omega)]; simp
    rw [← e1, h4, List.getElem?_map, List.getElem?_range hi]
    rfl
theorem BookP.below {W W' : World} {base B m : Nat} {vs : Nat → Value} {ls : Nat → List ByteArray} {V U : Value} (h : BookP W base B m vs ls V U) (hB : Below W.heap.size W W') : BookP W' base B m vs ls V U :=
  ⟨h.hB, h.blk.below hB h.blk.lt, rowKept h.ownV hB, h.len, fun i hi => rowKept (h.rows i hi) hB, h.sR⟩
/-- One list has turned. -/
theorem BookP.turn {W W' : World} {base B m i g : Nat} {vs : Nat → Value} {ls : Nat → List ByteArray} {V U : Value} (h : BookP W base B m vs ls V U) (hi : i < m) (hg : (vs i).ownBlock = some g) (hG : W.grownBy W' (some g)) {ds : List ByteArray} (hd : ds.length = (ls i).length)
    (ho : W'.ownsRow base 9 1 (vs i) (ls i).length (ds.map sv)) : BookP W' base B m vs (fun j => if j = i then ds else ls j) V U := by
  have h0 := h.rows i hi
  refine ⟨h.hB, h.blk.grown hG (fun e => blk_ne h0 h.blk (by decide) (by rw [hg, e])), owns_gb h.ownV hG (fun g' h1 e => own_ne h0 h.ownV (by decide) hg (by rw [h1, ← e])), fun j hj => ?_, fun j hj => ?_, h.sR⟩
  · by_cases e : j = i
    · subst e; simp only [if_pos]; rw [hd]; exact h.len _ hi
    · simp only [if_neg e]; exact h.len j hj
  · by_cases e : j = i
    · subst e; simp only [if_pos]; rw [hd]; exact ho
    · simp only [if_neg e]
      exact owns_gb (h.rows j hj) hG (fun g' h1 e' => h.sR i j hi hj (fun x => e x.symm) g hg (by rw [h1, ← e']))

theorem rdT_of {w : World} {base : Nat} {v : Value} {l : List ByteArray} {n : Nat} (h : w.ownsRow base 9 1 v n (l.map sv)) (hn : n = l.length) : ∃ a c, v = .slice a n c ∧ RdS w a l := by
  obtain ⟨a, c, rfl⟩ := ownsRow_slice' h
  refine ⟨a, c, rfl, rdS_own (base := base) (n := n) (c := c) ?_⟩
  unfold StrRow
  rw [← hn]
  exact h
theorem sameT_yes (a b : Option Addr) (ca cb : Nat) (l : List ByteArray) (n : Nat) (hn : l.length = n) (h0 : n ≤ 1000000) (w : World) (ha : RdS w a l) (hb : RdS w b l) :
    Calls Tryz.prog 9 #[.slice a n ca, .slice b n cb] w fun e W' => e = .returned (.bool true) ∧ Below w.heap.size w W' :=
  (sameTexts_any ha hn hb hn h0 h0).mono (by rintro e W' ⟨rfl, h⟩; exact ⟨by simp, h⟩)
def StR (w : World) (m : Nat) (p : Value) (wr : World) : Prop := ∃ i : Nat, p = .int .i64 i ∧ i ≤ m ∧ Below w.heap.size w wr
set_option maxRecDepth 100000 in
set_option maxHeartbeats 1600000 in
theorem still_any (base B m : Nat) (vs us : Nat → Value) (ls : Nat → List ByteArray) (V U : Value) (hm : m ≤ 100) (w : World) (h : BookIs w base B m vs us ls V U) :
    Calls Tryz.prog 32 #[.pointer (some ⟨B, 0, none⟩)] w fun e W' => e = .returned (.bool true) ∧ Below w.heap.size w W' := by
  obtain ⟨Va, Vc, rfl⟩ := ownsRow_slice' h.ownV
  obtain ⟨Ua, Uc, rfl⟩ := ownsRow_slice' h.ownU
  have mixed : Tryz.prog.follows .mixedOrders = true := by kernel_rfl
  have HB := Lib.hid h
  have hBlt := h.blk.lt
  have b6 : w.cell? ⟨B, 0, none⟩ = some (.slice Va m Vc) := (h.blk.cell 0).trans rfl
  have b7 : w.cell? ⟨B, 1, none⟩ = some (.slice Ua m Uc) := (h.blk.cell 1).trans rfl
  have HB6 := Lib.hid (And.intro hBlt (And.intro b6 b7))
  clear h hBlt b6 b7
  go_enter Tryz.func32, Tryz.ntmps32
  go_wp2
  go_loopw [3] (fun p wr => StR w m p wr) (fun p _ => m - (intOf p).toNat)
  case atStart => exact ⟨0, rfl, Nat.zero_le _, Below.refl _ _⟩
  case round =>
    obtain ⟨i, rfl, hi, hB⟩ := hrel
    obtain ⟨hBlt, b6, b7⟩ := HB6.out
    have hBlt' : B < wr.heap.size := Nat.lt_of_lt_of_le hBlt hB.size
    have c6 : wr.cell? ⟨B, 0, none⟩ = some (.slice Va m Vc) := (hB.cell (p := ⟨B, 0, none⟩) hBlt).trans b6
    have c7 : wr.cell? ⟨B, 1, none⟩ = some (.slice Ua m Uc) := (hB.cell (p := ⟨B, 1, none⟩) hBlt).trans b7
    have HBe := Lib.hid hB
    clear b6 b7 hB
    by_cases hlt : i < m
    · have hz : (i : Int) < (m : Int) := by omega
      obtain ⟨gV, cV, eV, hgV, hcV⟩ := list_at HB.out.ownV hlt
      obtain ⟨gU, cU, eU, hgU, hcU⟩ := list_at HB.out.ownU hlt
      cases eV
      cases eU
      obtain ⟨a, ca, ea, hra⟩ := rdT_of (HB.out.rows i hlt) rfl
      obtain ⟨b, cb, eb, hrb⟩ := rdT_of (HB.out.rowsU i hlt) rfl
      rw [ea] at hcV
      rw [eb] at hcU
      obtain ⟨n, hn⟩ : ∃ n, (ls i).length = n := ⟨_, rfl⟩
      have hlen := HB.out.len i hlt
      rw [hn] at hcV hcU hlen
      have p6 := lift_cell (a := ⟨B, 0, none⟩) hBlt' c6
      have p7 := lift_cell (a := ⟨B, 1, none⟩) hBlt' c7
      have pV := lift_cell (a := ⟨gV, i, none⟩) (Nat.lt_of_lt_of_le hgV HBe.out.size) ((HBe.out.cell (p := ⟨gV, i, none⟩) hgV).trans hcV)
      have pU := lift_cell (a := ⟨gU, i, none⟩) (Nat.lt_of_lt_of_le hgU HBe.out.size) ((HBe.out.cell (p := ⟨gU, i, none⟩) hgU).trans hcU)
      have HC := Lib.hid (fun p => sameT_yes a b ca cb (ls i) n hn (by omega) (lift wr p) ((hra.below HBe.out).below (below_lift wr p)) ((hrb.below HBe.out).below (below_lift wr p)))
      clear hcV hcU hra hrb c7 ea eb hn hBlt hBlt'
      go_wp2_with fail
      refine wp_region_quiet_below mixed (by kernel_rfl) ?_
      repeat (quiet_step (first | (go_at_call 9; exact calls_lift (HC.out _))))
      refine wpQuiet_nil ?_
      intro _ hw'
      obtain ⟨p, hw''⟩ := hw'
      subst hw''
      have HB2 := Lib.hid (HBe.out.trans ((below_lift wr p).mono HBe.out.size))
      clear p6 p7 pV pU c6
      generalize lift wr p = w2 at *
      go_wp2
      go_roundw
      case rel => exact ⟨i + 1, by go_num, hlt, HB2.out⟩
      case measure => simp [intOf]; omega
    · have hz : ¬ (i : Int) < (m : Int) := by omega
      go_wp2
      go_ret
      exact ⟨rfl, HBe.out⟩

/-- What a list is to be turned to. -/
def mks (ls : Nat → List ByteArray) (i : Nat) : Nat → List ByteArray := fun j => if j < i then marks j 0 (ls j).length else ls j
theorem mks_len (ls : Nat → List ByteArray) (i j : Nat) : (mks ls i j).length = (ls j).length := by
  unfold mks
  split
  · exact marks_len _ _ _
  · rfl
theorem mks_step (ls : Nat → List ByteArray) (i : Nat) (j : Nat) : (if j = i then marks i 0 (ls i).length else mks ls i j) = mks ls (i + 1) j := by
  unfold mks
  by_cases h : j = i
  · subst h; rw [if_pos rfl, if_pos (by omega)]
  · rw [if_neg h]
    by_cases h2 : j < i
    · rw [if_pos h2, if_pos (by omega)]
    · rw [if_neg h2, if_neg (by omega)]
def PtO (w : World) (base B m : Nat) (vs : Nat → Value) (ls : Nat → List ByteArray) (V U : Value) (p : Value) (wr : World) : Prop :=
  ∃ i : Nat, p = .int .i64 i ∧ i ≤ m ∧ BookP wr base B m vs (mks ls i) V U ∧ Below base w wr ∧ base ≤ wr.heap.size
/-- A list of which the first ones are marked. -/
def ptl (l : List ByteArray) (i k : Nat) : List ByteArray := marks i 0 k ++ l.drop k
theorem ptl_zero (l : List ByteArray) (i : Nat) : ptl l i 0 = l := by simp [ptl, marks]
theorem ptl_all (l : List ByteArray) (i : Nat) : ptl l i l.length = marks i 0 l.length := by simp [ptl]
theorem ptl_step (l : List ByteArray) (i k : Nat) (hk : k < l.length) : (ptl l i k).set k (mrk i k) = ptl l i (k + 1) := by
  unfold ptl
  have e : l.drop k = l[k] :: l.drop (k + 1) := by rw [List.drop_eq_getElem_cons hk]
  rw [e, List.set_append_right _ _ (by rw [marks_len]; exact Nat.le_refl _), marks_len, Nat.sub_self, List.set_cons_zero, marks_succ, Nat.zero_add, List.append_assoc]
  rfl
def PtI (w1 : World) (base n g cap : Nat) (l : List ByteArray) (i : Nat) (p : Value) (wr : World) : Prop :=
  ∃ k : Nat, p = .int .i64 k ∧ k ≤ n ∧ wr.ownsRow base 9 1 (.slice (some ⟨g, 0, none⟩) n cap) n ((ptl l i k).map sv) ∧ w1.grownBy wr (some g)
theorem gb_drew {w w' : World} {row : Option Nat} (h : w.grownBy w' row) : w.grownBy w'.drew row := ⟨h.os, h.tape, h.output, h.size, h.block⟩
theorem gb_trans {a b c : World} {row : Option Nat} (h : a.grownBy b row) (k : b.grownBy c row) : a.grownBy c row :=
  ⟨k.os.trans h.os, k.tape.trans h.tape, k.output.trans h.output, Nat.le_trans h.size k.size, fun i hi hne => (k.block i (Nat.lt_of_lt_of_le hi h.size) hne).trans (h.block i hi hne)⟩
def PutR (w : World) (base B m : Nat) (vs : Nat → Value) (ls : Nat → List ByteArray) (V U : Value) (e : Ending) (W' : World) : Prop :=
  (∃ x, e = .returned x) ∧ BookP W' base B m vs (mks ls m) V U ∧ Below base w W' ∧ base ≤ W'.heap.size
set_option maxRecDepth 100000 in
set_option maxHeartbeats 3200000 in
theorem put_any (base B m : Nat) (vs : Nat → Value) (ls : Nat → List ByteArray) (V U : Value) (hm : m ≤ 100) (w : World) (h : BookP w base B m vs ls V U) (hbs : base ≤ w.heap.size) :
    Calls Tryz.prog 39 #[.pointer (some ⟨B, 0, none⟩)] w fun e W' => PutR w base B m vs ls V U e W' := by
  obtain ⟨Va, Vc, rfl⟩ := ownsRow_slice' h.ownV
  have HB := Lib.hid h
  clear h
  go_enter Tryz.func39, Tryz.ntmps39
  go_wp2
  go_loopw [2] (fun p wr => PtO w base B m vs ls (.slice Va m Vc) U p wr) (fun p _ => m - (intOf p).toNat)
  case atStart => exact ⟨0, rfl, Nat.zero_le _, ⟨HB.out.hB, HB.out.blk, HB.out.ownV, HB.out.len, HB.out.rows, HB.out.sR⟩, Below.refl _ _, hbs⟩
  case round =>
    obtain ⟨i, rfl, hi, hP, hBe, hsz⟩ := hrel
    have c6 : wr.cell? ⟨B, 0, none⟩ = some (.slice Va m Vc) := (hP.blk.cell 0).trans rfl
    have HP := Lib.hid hP
    clear hP
    by_cases hlt : i < m
    · have hz : (i : Int) < (m : Int) := by omega
      obtain ⟨gV, cV, eV, hgV, hcV⟩ := list_at HP.out.ownV hlt
      cases eV
      obtain ⟨n, hn⟩ : ∃ n, (ls i).length = n := ⟨_, rfl⟩
      have hlen := HP.out.len i hlt
      have hown := HP.out.rows i hlt
      rw [mks_len, hn] at hlen hown
      have eq : mks ls i i = ls i := by unfold mks; rw [if_neg (by omega)]
      rw [eq] at hown
      have HN := Lib.hid hn
      have HM := Lib.hid (mark_any i 0 n (by omega) (by omega) wr)
      have HOw := Lib.hid hown
      rcases owns_cells hown with ⟨ev, en, -⟩ | ⟨g, cap, ev, hbg, hgl, -⟩
      · -- nothing in it
        rw [ev] at hcV
        subst en
        clear hown hn eq
        go_wp2_with fail
        refine HM.out.mono ?_
        rintro e w1 ⟨u, rfl, hu, hB1⟩
        obtain ⟨ua, uc, rfl⟩ := ownsRow_slice' hu
        have HB1 := Lib.hid hB1
        have HP1 := Lib.hid (HP.out.below hB1)
        clear hu hB1 c6 hcV
        go_wp2_with fail
        refine wp_loop_rounds 1 ?_
        rw [rounds_succ]
        go_wp2
        go_roundw
        case rel =>
          have e0 : mks ls (i + 1) = mks ls i := by
            funext j
            rw [← mks_step]
            by_cases e : j = i
            · subst e
              rw [if_pos rfl, HN.out]
              unfold mks
              rw [if_neg (by omega), List.eq_nil_of_length_eq_zero HN.out]
              rfl
            · rw [if_neg e]
          exact ⟨i + 1, by go_num, hlt, by rw [e0]; exact HP1.out, hBe.trans (HB1.out.mono hsz), Nat.le_trans hsz HB1.out.size⟩
        case measure => simp [intOf]; omega
      · rw [ev] at hcV
        have HEv := Lib.hid ev
        clear hown hn eq ev
        go_wp2_with fail
        refine HM.out.mono ?_
        rintro e w1 ⟨u, rfl, hu, hB1⟩
        have hO1 := rowKept HOw.out hB1
        rw [HEv.out] at hO1
        obtain ⟨ua, uc, rfl, hru⟩ := rdT_of hu (marks_len i 0 n).symm
        have hru2 : ∀ k, k < n → ∃ gu, ua = some ⟨gu, 0, none⟩ ∧ gu < w1.heap.size ∧ gu ≠ g ∧ w1.cell? ⟨gu, k, none⟩ = some (.string (mrk i k)) := fun k hk => by
          rcases owns_cells hu with ⟨_, h0, _⟩ | ⟨gu, cu, eu, hbu, hgu, hcu⟩
          · omega
          · simp only [Value.slice.injEq, true_and] at eu
            obtain ⟨rfl, rfl⟩ := eu
            refine ⟨gu, rfl, hgu, fun e => by omega, ?_⟩
            have := hcu k (.string (mrk i k)) (by unfold marks; rw [List.getElem?_map, List.getElem?_map, List.getElem?_range hk]; simp [sv])
            have hadd : (⟨gu, 0, none⟩ : Addr).add k = ⟨gu, k, none⟩ := by unfold Addr.add; split <;> simp_all
            rw [hadd] at this
            exact this
        have HRu := Lib.hid hru2
        have HP1 := Lib.hid (HP.out.below hB1)
        have hBe1 := hBe.trans (hB1.mono hsz)
        have hsz1 := Nat.le_trans hsz hB1.size
        have hBlt := HP1.out.blk.lt
        have d6 : w1.cell? ⟨B, 0, none⟩ = some (.slice (some ⟨gV, 0, none⟩) m Vc) := (HP1.out.blk.cell 0).trans rfl
        have hcV1 := (hB1.cell (p := ⟨gV, i, none⟩) hgV).trans hcV
        have hgV1 : gV < w1.heap.size := Nat.lt_of_lt_of_le hgV hB1.size
        have hBg : B ≠ g := fun e => blk_ne HOw.out HP.out.blk (by decide) (by rw [HEv.out, e]; rfl)
        have hVg : gV ≠ g := fun e => own_ne HOw.out HP.out.ownV (by decide) (g := g) (by rw [HEv.out]; rfl) (by rw [e]; rfl)
        have HO1 := Lib.hid hO1
        clear hu hru hru2 hB1 c6 hcV hO1
        go_wp2_with fail
        go_loopw [4] (fun p wr => PtI w1 base n g cap (ls i) i p wr) (fun p _ => n - (intOf p).toNat)
        case atStart => exact ⟨0, rfl, Nat.zero_le _, by rw [ptl_zero]; exact HO1.out, World.grownBy.refl _ _⟩
        case round =>
          obtain ⟨k, rfl, hk, hOk, hG⟩ := hrel
          have e6 := (hG.cell_far ⟨B, 0, none⟩ hBlt (fun e => hBg (Option.some.inj e))).trans d6
          have eV := (hG.cell_far ⟨gV, i, none⟩ hgV1 (fun e => hVg (Option.some.inj e))).trans hcV1
          by_cases hkn : k < n
          · have hkz : (k : Int) < (n : Int) := by omega
            obtain ⟨gu, rfl, hgu, hgug, u0⟩ := HRu.out k hkn
            have m0 := (hG.cell_far ⟨gu, k, none⟩ hgu (fun e => hgug (Option.some.inj e))).trans u0
            have p0 := cells_own hOk (i := k) (by unfold ptl; rw [List.length_append, marks_len, List.length_drop, HN.out]; omega)
            have fz := World.ownsRow.frozenAt hOk k
            have hst := (hOk.stored k (.string (mrk i k)))
            have HSt := Lib.hid (show (∀ W : World, W = wr.drew.setCell ⟨g, k, none⟩ (.string (mrk i k)) → PtI w1 base n g cap (ls i) i (.int .i64 ((k : Int) + 1)) W) from fun W hW => by
              subst hW
              have h0 : wr.drew.ownsRow base 9 1 (.slice (some ⟨g, 0, none⟩) n cap) n ((ptl (ls i) i k).map sv) := hOk
              have hs := h0.stored k (.string (mrk i k))
              refine ⟨k + 1, by go_num, hkn, ?_, gb_trans (gb_drew hG) hs.2⟩
              rw [← ptl_step (ls i) i k (by rw [HN.out]; exact hkn), List.map_set]
              exact hs.1)
            clear u0 hOk hst hG
            generalize mrk i k = d at *
            go_wp2_with fail
            go_region
            all_goals
              go_wp2
              go_roundw
              case rel => exact HSt.out _ rfl
              case measure => simp [intOf]; omega
          · obtain rfl : k = n := by omega
            have hkz : ¬ (k : Int) < (k : Int) := by omega
            have HOk := Lib.hid hOk
            have HG := Lib.hid hG
            clear hOk hG
            go_wp2
            go_roundw
            case rel =>
              have ho := HOk.out
              rw [← HN.out, ptl_all] at ho
              have ht := HP1.out.turn (ds := marks i 0 (ls i).length) hlt (by rw [HEv.out]; rfl) HG.out (by rw [marks_len, mks_len]) (by rw [HEv.out, mks_len, ← HN.out]; exact ho)
              rw [show (fun j => if j = i then marks i 0 (ls i).length else mks ls i j) = mks ls (i + 1) from funext (mks_step ls i)] at ht
              exact ⟨i + 1, by go_num, hlt, ht, hBe1.grown HG.out hsz1 (fun j ej => by cases ej; exact hbg), Nat.le_trans hsz1 HG.out.size⟩
            case measure => simp [intOf]; omega
    · obtain rfl : i = m := by omega
      have hz : ¬ (i : Int) < (i : Int) := by omega
      go_wp2
      go_returns
      exact ⟨⟨_, rfl⟩, HP.out, hBe, hsz⟩
end Go.Proofs.YtjcpfmndkeiegaaGreatDoor.Tb
namespace Go.Proofs.YtjcpfmndkeiegaaGreatDoor.Tb
open Go.RowKit Go.Proofs.YtjcpfmndkeiegaaGreatDoor
set_option linter.unusedVariables false

theorem owns_kept {W W' : World} {base size n k g : Nat} {e : TypeId} {v : Value} {xs : List Value} (h : W.ownsRow base e size v n xs) (hg : v.ownBlock = some g) (hk : Kept W W' e g k) (hn : n * size ≤ k) : W'.ownsRow base e size v n xs := by
  refine ⟨h.1, ?_⟩
  rcases h.2 with h0 | ⟨g', cap, cur, hv, hb, hg', h1, h2, h3, h4⟩
  · exact .inl h0
  · obtain rfl : g' = g := by rw [hv] at hg; exact Option.some.inj hg
    obtain ⟨cur', c1, c2, c3⟩ := hk cur hg'
    refine .inr ⟨g', cap, cur', hv, hb, c1, h1, h2, by rw [c2, h3], ?_⟩
    rw [← h4]
    apply List.ext_getElem?
    intro j
    by_cases hj : j < n * size
    · rw [List.getElem?_take_of_lt hj, List.getElem?_take_of_lt hj, Array.getElem?_toList, Array.getElem?_toList, c3 j (by omega)]
    · rw [List.getElem?_eq_none (by rw [List.length_take]; omega), List.getElem?_eq_none (by rw [List.length_take]; omega)]
theorem gb_then {w1 w2 w3 : World} {row row' : Option Nat} (h : w1.grownBy w2 row) (k : w2.grownBy w3 row') (hr : row' = row ∨ ∃ g, w1.heap.size ≤ g ∧ row' = some g) : w1.grownBy w3 row :=
  ⟨k.os.trans h.os, k.tape.trans h.tape, k.output.trans h.output, Nat.le_trans h.size k.size, fun i hi hne => by
    rw [k.block i (Nat.lt_of_lt_of_le hi h.size) (fun e => ?_), h.block i hi hne]
    rcases hr with h1 | ⟨g, h1, h2⟩
    · exact hne (e.trans h1)
    · rw [h2] at e
      cases e
      omega⟩
/-- Each of some rows holds its marks. -/
def Marked (W : World) (base m : Nat) (gs : Nat → Value) (ns : Nat → Nat) : Prop := ∀ i, i < m → ns i ≤ 1000 ∧ W.ownsRow base 9 1 (gs i) (ns i) ((marks i 0 (ns i)).map sv)
set_option maxRecDepth 100000 in
set_option maxHeartbeats 3200000 in
theorem marked_any (bV base m : Nat) (V : Value) (gs : Nat → Value) (ns : Nat → Nat) (hm : m ≤ 100) (w : World) (hV : w.ownsRow bV 22 1 V m ((List.range m).map gs)) (hg : Marked w base m gs ns) :
    Calls Tryz.prog 50 #[V] w fun e W' => e = .returned (.bool true) ∧ Below w.heap.size w W' := by
  obtain ⟨Va, Vc, rfl⟩ := ownsRow_slice' hV
  have HV := Lib.hid hV
  have HG := Lib.hid hg
  clear hV hg
  go_enter Tryz.func50, Tryz.ntmps50
  go_wp2
  go_loopw [3] (fun p wr => StR w m p wr) (fun p _ => m - (intOf p).toNat)
  case atStart => exact ⟨0, rfl, Nat.zero_le _, Below.refl _ _⟩
  case round =>
    obtain ⟨i, rfl, hi, hB⟩ := hrel
    have HBe := Lib.hid hB
    clear hB
    by_cases hlt : i < m
    · have hz : (i : Int) < (m : Int) := by omega
      obtain ⟨gV, cV, eV, hgV, hcV⟩ := list_at HV.out hlt
      cases eV
      obtain ⟨hn1, hown⟩ := HG.out i hlt
      obtain ⟨a, ca, ea, hra⟩ := rdT_of hown (marks_len i 0 _).symm
      obtain ⟨n, hn⟩ : ∃ n, ns i = n := ⟨_, rfl⟩
      rw [hn] at hn1 ea hra
      rw [ea] at hcV
      have HRa := Lib.hid hra
      have pV := (HBe.out.cell (p := ⟨gV, i, none⟩) hgV).trans hcV
      have hgV2 : gV < wr.heap.size := Nat.lt_of_lt_of_le hgV HBe.out.size
      have HM := Lib.hid (mark_any i 0 n (by omega) (by omega) wr.drew)
      clear hcV hown hra ea hn
      go_wp2_with fail
      go_region_law (first
        | (go_simp; go_at_call 85; refine HM.out.mono ?_; rintro e w1 ⟨u, rfl, hu, hB1⟩; obtain ⟨b, cb, eu, hrb⟩ := rdT_of hu (marks_len i 0 n).symm; subst eu; have q1 : w1.cell? ⟨gV, i, none⟩ = some (.slice a n ca) := (hB1.cell (p := ⟨gV, i, none⟩) hgV2).trans pV)
        | (go_simp; go_at_call 9; refine (sameT_yes a b ca cb (marks i 0 n) n (marks_len i 0 n) (by omega) w1 ((HRa.out.below HBe.out).below ⟨hB1.os, hB1.tape, hB1.output, hB1.size, hB1.block⟩) hrb).mono ?_; rintro e w2 ⟨rfl, hB2⟩))
      all_goals
        have HB2 := Lib.hid ((HBe.out.drew.trans (hB1.mono HBe.out.size)).trans (hB2.mono (Nat.le_trans HBe.out.size hB1.size)))
        clear hB1 hB2 hu hrb q1
        go_wp2
        go_roundw
        case rel => exact ⟨i + 1, by go_num, hlt, HB2.out⟩
        case measure => simp [intOf]; omega
    · have hz : ¬ (i : Int) < (m : Int) := by omega
      go_wp2
      go_ret
      exact ⟨rfl, HBe.out⟩

theorem BookP.eq {W : World} {base B m : Nat} {vs : Nat → Value} {ls ls' : Nat → List ByteArray} {V U : Value} (h : BookP W base B m vs ls V U) (e : ∀ i, i < m → ls' i = ls i) : BookP W base B m vs ls' V U :=
  ⟨h.hB, h.blk, h.ownV, fun i hi => by rw [e i hi]; exact h.len i hi, fun i hi => by rw [e i hi]; exact h.rows i hi, h.sR⟩
/-- A list has been grown: itself it stays. -/
theorem BookP.stay {W W' : World} {base B m i : Nat} {vs : Nat → Value} {ls : Nat → List ByteArray} {V U : Value} (h : BookP W base B m vs ls V U) (hi : i < m) (hG : W.grownBy W' (vs i).ownBlock)
    (ho : W'.ownsRow base 9 1 (vs i) (ls i).length ((ls i).map sv)) : BookP W' base B m vs ls V U := by
  cases hb : (vs i).ownBlock with
  | none =>
    rw [hb] at hG
    exact h.below ⟨hG.os, hG.tape, hG.output, hG.size, fun k hk => hG.block k hk (by simp)⟩
  | some g =>
    rw [hb] at hG
    refine (h.turn hi hb hG rfl ho).eq fun j hj => ?_
    by_cases e : j = i
    · rw [if_pos e, e]
    · rw [if_neg e]
def GrI (w1 : World) (base i n : Nat) (v : Value) (p q : Value) (wr : World) : Prop :=
  ∃ t : Nat, q = .int .i64 t ∧ t ≤ 12 ∧ wr.ownsRow base 9 1 p (n + t) ((marks i 0 (n + t)).map sv) ∧ (p.ownBlock = v.ownBlock ∨ ∃ g, w1.heap.size ≤ g ∧ p.ownBlock = some g) ∧
    wr.ownsRow base 9 1 v n ((marks i 0 n).map sv) ∧ w1.grownBy wr v.ownBlock
/-- One append of marks. -/
theorem grI_step {w1 wr w2 w3 : World} {base i n k m : Nat} {v l l' : Value} (hbs : base ≤ w1.heap.size) (hl : l.ownBlock = v.ownBlock ∨ ∃ g, w1.heap.size ≤ g ∧ l.ownBlock = some g) (hv : wr.ownsRow base 9 1 v n ((marks i 0 n).map sv)) (hG : w1.grownBy wr v.ownBlock) (hB : Below wr.heap.size wr w2)
    (hvl : ∀ g, v.ownBlock = some g → g < w1.heap.size) (hown : w3.ownsRow base 9 1 l' (k + m) ((marks i 0 k).map sv ++ (marks i k m).map sv)) (hgr : w2.grownBy w3 l.ownBlock) (hat : l'.ownBlock = l.ownBlock ∨ l'.ownBlock = some w2.heap.size)
    (hkp : ∀ g, l.ownBlock = some g → Kept w2 w3 9 g k) (hnk : n ≤ k) :
    w3.ownsRow base 9 1 l' (k + m) ((marks i 0 (k + m)).map sv) ∧ (l'.ownBlock = v.ownBlock ∨ ∃ g, w1.heap.size ≤ g ∧ l'.ownBlock = some g) ∧ w3.ownsRow base 9 1 v n ((marks i 0 n).map sv) ∧ w1.grownBy w3 v.ownBlock := by
  have hv2 := rowKept hv hB
  have hG2 : w1.grownBy w2 v.ownBlock := ⟨hB.os.trans hG.os, hB.tape.trans hG.tape, hB.output.trans hG.output, Nat.le_trans hG.size hB.size, fun j hj hne => (hB.block j (Nat.lt_of_lt_of_le hj hG.size)).trans (hG.block j hj hne)⟩
  refine ⟨by rw [← marks_add i k m, List.map_append]; exact hown, ?_, ?_, ?_⟩
  · rcases hat with h1 | h1
    · rw [h1]; exact hl
    · exact .inr ⟨_, Nat.le_trans hG.size hB.size, h1⟩
  · rcases hl with h1 | ⟨g, h1, h2⟩
    · cases hb : v.ownBlock with
      | none => exact owns_gb hv2 hgr (fun g hg => by rw [hb] at hg; cases hg)
      | some g => exact owns_kept hv2 hb (hkp g (by rw [h1, hb])) (by omega)
    · exact owns_gb hv2 hgr (fun g' hg' e => by rw [h2] at e; cases e; have := hvl _ hg'; omega)
  · exact gb_then hG2 hgr hl
def GrO (w : World) (base B m : Nat) (vs : Nat → Value) (ls : Nat → List ByteArray) (ns : Nat → Nat) (V U : Value) (p q : Value) (wr : World) : Prop :=
  ∃ (i : Nat) (gs : Nat → Value), q = .int .i64 i ∧ i ≤ m ∧ BookP wr base B m vs ls V U ∧ wr.ownsRow w.heap.size 22 1 p i ((List.range i).map gs) ∧ Marked wr base i gs (fun j => ns j + 72) ∧
    (∀ j, j < i → (gs j).ownBlock = (vs j).ownBlock ∨ ∃ g, w.heap.size ≤ g ∧ (gs j).ownBlock = some g) ∧ Below base w wr ∧ w.heap.size ≤ wr.heap.size
/-- One list more is grown. -/
theorem grO_step {w wr w4 w5 : World} {base B m i : Nat} {vs gs : Nat → Value} {ls : Nat → List ByteArray} {ns : Nat → Nat} {V U out out' l' : Value} (hbs : base ≤ w.heap.size) (hlt : i < m) (hP0 : BookP w base B m vs ls V U) (hP : BookP wr base B m vs ls V U) (hls : ls i = marks i 0 (ns i)) (hn : ns i ≤ 500)
    (hOut : wr.ownsRow w.heap.size 22 1 out i ((List.range i).map gs)) (hMk : Marked wr base i gs (fun j => ns j + 72)) (hSep : ∀ j, j < i → (gs j).ownBlock = (vs j).ownBlock ∨ ∃ g, w.heap.size ≤ g ∧ (gs j).ownBlock = some g) (hBe : Below base w wr) (hsz : w.heap.size ≤ wr.heap.size)
    (hl : w4.ownsRow base 9 1 l' (ns i + 72) ((marks i 0 (ns i + 72)).map sv)) (hat : l'.ownBlock = (vs i).ownBlock ∨ ∃ g, wr.heap.size ≤ g ∧ l'.ownBlock = some g)
    (hv : w4.ownsRow base 9 1 (vs i) (ns i) ((marks i 0 (ns i)).map sv)) (hG : wr.grownBy w4 (vs i).ownBlock)
    (ho : w5.ownsRow w.heap.size 22 1 out' (i + 1) ((List.range i).map gs ++ [l'])) (hgr : (w4.alloc (.cells #[l'] 22)).grownBy w5 out.ownBlock) :
    GrO w base B m vs ls ns V U out' (.int .i64 ((i : Int) + 1)) w5 := by
  have h0 := hP.rows i hlt
  have hout4 : w4.ownsRow w.heap.size 22 1 out i ((List.range i).map gs) := owns_gb hOut hG (fun g h1 h2 => own_ne hOut h0 (by decide) h1 h2)
  have hP4 : BookP w4 base B m vs ls V U := hP.stay hlt hG (by rw [hls, marks_len]; exact hv)
  have hA : Below w4.heap.size w4 (w4.alloc (.cells #[l'] 22)) := (Below.refl _ w4).alloc (Nat.le_refl _) _
  have hPa := hP4.below hA
  have houta := rowKept hout4 hA
  have hVlt : ∀ g, V.ownBlock = some g → g < w.heap.size := fun g h1 => by
    obtain ⟨c, hc, _⟩ := own_at hP0.ownV h1
    exact (Array.getElem?_eq_some_iff.1 hc).1
  have hvlt : ∀ j, j < m → ∀ g, (vs j).ownBlock = some g → g < w.heap.size := fun j hj g h1 => by
    obtain ⟨c, hc, _⟩ := own_at (hP0.rows j hj) h1
    exact (Array.getElem?_eq_some_iff.1 hc).1
  have hoge : ∀ g, out.ownBlock = some g → w.heap.size ≤ g := fun g h1 => (own_at houta h1).choose_spec.2
  have hBlt : B < w.heap.size := hP0.blk.lt
  have hsz4 : w.heap.size ≤ w4.heap.size := Nat.le_trans hsz hG.size
  have hsza : w.heap.size ≤ (w4.alloc (.cells #[l'] 22)).heap.size := Nat.le_trans hsz4 hA.size
  have hP5 : BookP w5 base B m vs ls V U := ⟨hPa.hB, hPa.blk.grown hgr (fun e => by have := hoge B e.symm; omega), owns_gb hPa.ownV hgr (fun g h1 e => by have := hoge g e; have := hVlt g h1; omega), hPa.len,
    fun j hj => owns_gb (hPa.rows j hj) hgr (fun g h1 e => by have := hoge g e; have := hvlt j hj g h1; omega), hPa.sR⟩
  have keep : ∀ {v : Value} {n : Nat} {xs : List Value}, w4.ownsRow base 9 1 v n xs → w5.ownsRow base 9 1 v n xs := fun h =>
    owns_gb (rowKept h hA) hgr (fun g h1 e => own_ne (rowKept h hA) houta (by decide) h1 e)
  have hBe4 : Below base w w4 := by
    cases hb : (vs i).ownBlock with
    | none =>
      rw [hb] at hG
      exact hBe.grown hG (Nat.le_trans hbs hsz) (fun j ej => by cases ej)
    | some g =>
      rw [hb] at hG
      exact hBe.grown hG (Nat.le_trans hbs hsz) (fun j ej => by cases ej; exact (own_at h0 hb).choose_spec.2)
  refine ⟨i + 1, fun j => if j = i then l' else gs j, by simp, hlt, hP5, by rw [← range_ext]; exact ho, fun j hj => ?_, fun j hj => ?_, (hBe4.trans (hA.mono (Nat.le_trans hbs hsz4))).grown hgr (Nat.le_trans hbs hsza) (fun j ej => Nat.le_trans hbs (hoge j ej)), Nat.le_trans hsza hgr.size⟩
  · by_cases e : j = i
    · subst e
      simp only [if_pos]
      exact ⟨by omega, keep hl⟩
    · simp only [if_neg e]
      obtain ⟨k1, k2⟩ := hMk j (by omega)
      refine ⟨k1, keep (owns_gb k2 hG (fun g h1 h2 => ?_))⟩
      rcases hSep j (by omega) with h3 | ⟨g', h3, h4⟩
      · exact hP.sR j i (by omega) hlt e g (by rw [← h3]; exact h1) h2
      · rw [h4] at h1
        cases h1
        have := hvlt i hlt g h2
        omega
  · by_cases e : j = i
    · subst e
      simp only [if_pos]
      rcases hat with h1 | ⟨g, h1, h2⟩
      · exact .inl h1
      · exact .inr ⟨g, Nat.le_trans hsz h1, h2⟩
    · simp only [if_neg e]
      exact hSep j (by omega)
/-- What grown lists are. -/
def GrowR (w : World) (base B m : Nat) (vs : Nat → Value) (ls : Nat → List ByteArray) (ns : Nat → Nat) (V U : Value) (e : Ending) (W' : World) : Prop :=
  ∃ (G : Value) (gs : Nat → Value), e = .returned G ∧ BookP W' base B m vs ls V U ∧ W'.ownsRow w.heap.size 22 1 G m ((List.range m).map gs) ∧ Marked W' base m gs (fun j => ns j + 72) ∧ Below base w W' ∧ w.heap.size ≤ W'.heap.size
set_option maxRecDepth 100000 in
set_option maxHeartbeats 3200000 in
theorem grow_any (base B m : Nat) (vs : Nat → Value) (ls : Nat → List ByteArray) (ns : Nat → Nat) (V U : Value) (hm : m ≤ 100) (w : World) (h : BookP w base B m vs ls V U) (hls : ∀ i, i < m → ls i = marks i 0 (ns i)) (hbs : base ≤ w.heap.size) :
    Calls Tryz.prog 44 #[.pointer (some ⟨B, 0, none⟩)] w fun e W' => GrowR w base B m vs ls ns V U e W' := by
  obtain ⟨Va, Vc, rfl⟩ := ownsRow_slice' h.ownV
  have HB := Lib.hid h
  have HLs := Lib.hid hls
  clear h hls
  go_enter Tryz.func44, Tryz.ntmps44
  go_wp2
  go_loopw [3, 4] (fun p q wr => GrO w base B m vs ls ns (.slice Va m Vc) U p q wr) (fun _ q _ => m - (intOf q).toNat)
  case atStart => exact ⟨0, fun _ => nilV, rfl, Nat.zero_le _, HB.out, World.ownsRow_nil _ _ _ _, fun i hi => absurd hi (Nat.not_lt_zero _), fun i hi => absurd hi (Nat.not_lt_zero _), Below.refl _ _, Nat.le_refl _⟩
  case round =>
    obtain ⟨i, gs, rfl, hi, hP, hOut, hMk, hSep, hBe, hsz⟩ := hrel
    rename World => wo
    rename_i pv
    obtain ⟨oa, oc, rfl⟩ := ownsRow_slice' hOut
    have c6 : wo.cell? ⟨B, 0, none⟩ = some (.slice Va m Vc) := (hP.blk.cell 0).trans rfl
    have HP := Lib.hid hP
    have HOut := Lib.hid hOut
    have HMk := Lib.hid hMk
    have HSep := Lib.hid hSep
    clear hP hOut hMk hSep
    by_cases hlt : i < m
    · have hz : (i : Int) < (m : Int) := by omega
      obtain ⟨gV, cV, eV, hgV, hcV⟩ := list_at HP.out.ownV hlt
      cases eV
      have hown := HP.out.rows i hlt
      have hlen := HP.out.len i hlt
      rw [HLs.out i hlt, marks_len] at hown hlen
      obtain ⟨n, hn⟩ : ∃ n, ns i = n := ⟨_, rfl⟩
      rw [hn] at hown hlen
      obtain ⟨la, lc, hv⟩ := ownsRow_slice' hown
      rw [hv] at hcV
      have HV := Lib.hid hv
      have HOw := Lib.hid hown
      have HN := Lib.hid hn
      clear hown hv hn
      go_wp2_with fail
      go_loopw [5, 6] (fun p q wr2 => GrI wo base i n (vs i) p q wr2) (fun _ q _ => 12 - (intOf q).toNat)
      case atStart => exact ⟨0, rfl, Nat.zero_le _, by rw [← HV.out]; exact HOw.out, .inl (by rw [← HV.out]), HOw.out, World.grownBy.refl _ _⟩
      case round =>
        obtain ⟨t, rfl, ht, hl, hat, hv, hG⟩ := hrel
        rename_i pl
        obtain ⟨la2, lc2, rfl⟩ := ownsRow_slice' hl
        have HL := Lib.hid hl
        have HAt := Lib.hid hat
        have HVi := Lib.hid hv
        have HG := Lib.hid hG
        clear hl hat hv hG
        by_cases ht12 : t < 12
        · have htz : (t : Int) < 12 := by omega
          have hvl : ∀ g, (vs i).ownBlock = some g → g < wo.heap.size := fun g h1 => by
            obtain ⟨c, hc, _⟩ := own_at HOw.out h1
            exact (Array.getElem?_eq_some_iff.1 hc).1
          have HVl := Lib.hid hvl
          have hnk := Nat.le_add_right n t
          obtain ⟨kk, hkk⟩ : ∃ kk, n + t = kk := ⟨_, rfl⟩
          have hL2 := HL.out
          have hA2 := HAt.out
          rw [hkk] at hL2 hA2 hnk ⊢
          have HA2 := Lib.hid hA2
          have HL2 := Lib.hid hL2
          have HKK := Lib.hid hkk
          have hk600 : kk ≤ 600 := by omega
          have K := mark_any i kk 1 (by omega) (by omega) wr
          rw [show ((1 : Nat) : Int) = 1 from rfl] at K
          have HM := Lib.hid K
          clear hvl K hkk hL2 hA2 HL HAt
          go_wp2_with fail
          refine HM.out.mono ?_
          rintro e w2 ⟨u, rfl, hu, hB2⟩
          rcases owns_cells hu with ⟨_, h0, _⟩ | ⟨gu, cu, rfl, _, _, hcu⟩
          · cases h0
          have hbz : base ≤ w2.heap.size := Nat.le_trans (Nat.le_trans hbs hsz) (Nat.le_trans HG.out.size hB2.size)
          have HCu := Lib.hid hcu
          have HB2 := Lib.hid hB2
          clear hu hcu hB2
          go_wp2_with (at_builtin; refine wpList_app_kept _ rfl _ _ _ _ _ _ slT rfl base hbz (.slice la2 kk lc2) kk _ rfl (rowKept HL2.out HB2.out) ⟨gu, 0, none⟩ 1 cu ((marks i kk 1).map sv) rfl (by rw [List.length_map, marks_len]) HCu.out (sv_one _) (by omega) ?_)
          intro l' w3 r1 r2 r3 r4
          have HS := Lib.hid (grI_step (l := .slice la2 kk lc2) (Nat.le_trans hbs hsz) HA2.out HVi.out HG.out HB2.out HVl.out r1 r2 r3 r4 hnk)
          clear r1 r2 r3 r4
          go_wp2
          go_roundw
          case rel =>
            obtain ⟨s1, s2, s3, s4⟩ := HS.out
            rw [← HKK.out] at s1
            exact ⟨t + 1, by go_num, by omega, s1, s2, s3, s4⟩
          case measure => simp [intOf]; omega
        · obtain rfl : t = 12 := by omega
          have htz : ¬ ((12 : Nat) : Int) < 12 := by omega
          have hvl : ∀ g, (vs i).ownBlock = some g → g < wo.heap.size := fun g h1 => by
            obtain ⟨c, hc, _⟩ := own_at HOw.out h1
            exact (Array.getElem?_eq_some_iff.1 hc).1
          have HVl := Lib.hid hvl
          have hnk := Nat.le_add_right n 12
          obtain ⟨kk, hkk⟩ : ∃ kk, n + 12 = kk := ⟨_, rfl⟩
          have hL2 := HL.out
          have hA2 := HAt.out
          rw [hkk] at hL2 hA2 hnk ⊢
          have HA2 := Lib.hid hA2
          have HL2 := Lib.hid hL2
          have HKK := Lib.hid hkk
          have hk600 : kk ≤ 600 := by omega
          have K := mark_any i kk 60 (by omega) (by omega) wr
          rw [show ((60 : Nat) : Int) = 60 from rfl] at K
          have HM := Lib.hid K
          clear hvl K hkk hL2 hA2 HL HAt
          go_wp2_with fail
          refine HM.out.mono ?_
          rintro e w2 ⟨u, rfl, hu, hB2⟩
          rcases owns_cells hu with ⟨_, h0, _⟩ | ⟨gu, cu, rfl, _, _, hcu⟩
          · cases h0
          have hbz : base ≤ w2.heap.size := Nat.le_trans (Nat.le_trans hbs hsz) (Nat.le_trans HG.out.size hB2.size)
          have HCu := Lib.hid hcu
          have HB2 := Lib.hid hB2
          clear hu hcu hB2
          go_wp2_with (at_builtin; refine wpList_app_kept _ rfl _ _ _ _ _ _ slT rfl base hbz (.slice la2 kk lc2) kk _ rfl (rowKept HL2.out HB2.out) ⟨gu, 0, none⟩ 60 cu ((marks i kk 60).map sv) rfl (by rw [List.length_map, marks_len]) HCu.out (sv_one _) (by omega) ?_)
          intro l' w3 r1 r2 r3 r4
          obtain ⟨l3, c3, rfl⟩ := ownsRow_slice' r1
          have hS := grI_step (l := .slice la2 kk lc2) (Nat.le_trans hbs hsz) HA2.out HVi.out HG.out HB2.out HVl.out r1 r2 r3 r4 hnk
          have e72 : kk + 60 = ns i + 72 := by rw [← HKK.out, HN.out]
          have hout3 : w3.ownsRow w.heap.size 22 1 (.slice oa i oc) i ((List.range i).map gs) := owns_gb HOut.out hS.2.2.2 (fun g h1 h2 => own_ne HOut.out HOw.out (by decide) h1 h2)
          have hwz : w.heap.size ≤ (w3.alloc (.cells #[.slice l3 (kk + 60) c3] 22)).heap.size := by
            have := hS.2.2.2.size
            simp
            omega
          have HS := Lib.hid hS
          have HO3 := Lib.hid hout3
          have HE := Lib.hid e72
          clear r1 r2 r3 r4 hS hout3 e72
          go_wp2_with (at_builtin; refine wpList_app_kept _ rfl _ _ _ _ _ _ slTT rfl w.heap.size hwz (.slice oa i oc) i _ rfl (HO3.out.alloc _) ⟨w3.heap.size, 0, none⟩ 1 1 [.slice l3 (kk + 60) c3] rfl rfl (cell_one_new _ _ _) ?c1 ?c2 ?_)
          case c1 => intro u hu; simp at hu; subst hu; rfl
          case c2 => omega
          intro out' w5 q1 q2 q3 q4
          have HF := Lib.hid (And.intro q1 q2)
          clear q1 q2 q3 q4
          go_wp2
          go_roundw
          case rel =>
            obtain ⟨s1, s2, s3, s4⟩ := HS.out
            have s1' : w3.ownsRow base 9 1 (.slice l3 (kk + 60) c3) (ns i + 72) ((marks i 0 (ns i + 72)).map sv) := by rw [← HE.out]; exact s1
            have hs3 := s3
            rw [← HN.out] at hs3
            exact grO_step (l' := .slice l3 (kk + 60) c3) (out := .slice oa i oc) hbs hlt HB.out HP.out (HLs.out i hlt) (by rw [HN.out]; exact hlen) HOut.out HMk.out HSep.out hBe hsz s1' s2 hs3 s4 HF.out.1 HF.out.2
          case measure => simp [intOf]; omega
    · obtain rfl : i = m := by omega
      have hz : ¬ (i : Int) < (i : Int) := by omega
      go_wp2
      go_ret
      exact ⟨_, gs, rfl, HP.out, HOut.out, HMk.out, hBe, hsz⟩
end Go.Proofs.YtjcpfmndkeiegaaGreatDoor.Tb
namespace Go.Proofs.YtjcpfmndkeiegaaGreatDoor.Tb
open Go.RowKit Go.Proofs.YtjcpfmndkeiegaaGreatDoor
set_option linter.unusedVariables false

set_option maxRecDepth 100000 in
theorem stillInts_nil (B : Nat) (w : World) (h : w.cell? ⟨B, 2, none⟩ = some nilV) : Calls Tryz.prog 33 #[.pointer (some ⟨B, 0, none⟩)] w fun e W' => e = .returned (.bool true) ∧ Below w.heap.size w W' := by
  go_enter Tryz.func33, Tryz.ntmps33
  go_wp2
  refine wp_loop_rounds 1 ?_
  rw [rounds_succ]
  go_wp2
  go_ret
  exact ⟨rfl, Below.refl _ _⟩
set_option maxRecDepth 100000 in
theorem putInts_nil (B : Nat) (w : World) (h : w.cell? ⟨B, 2, none⟩ = some nilV) : Calls Tryz.prog 40 #[.pointer (some ⟨B, 0, none⟩)] w fun e W' => (∃ v, e = .returned v) ∧ W' = w := by
  go_enter Tryz.func40, Tryz.ntmps40
  go_wp2
  refine wp_loop_rounds 1 ?_
  rw [rounds_succ]
  go_wp2
  go_returns
  exact ⟨⟨_, rfl⟩, rfl⟩
set_option maxRecDepth 100000 in
theorem growInts_nil (B : Nat) (w : World) (h : w.cell? ⟨B, 2, none⟩ = some nilV) : Calls Tryz.prog 45 #[.pointer (some ⟨B, 0, none⟩)] w fun e W' => e = .returned nilV ∧ W' = w := by
  go_enter Tryz.func45, Tryz.ntmps45
  go_wp2
  refine wp_loop_rounds 1 ?_
  rw [rounds_succ]
  go_wp2
  go_ret
  exact ⟨rfl, rfl⟩
set_option maxRecDepth 100000 in
theorem markedInts_nil (w : World) : Calls Tryz.prog 51 #[nilV] w fun e W' => e = .returned (.bool true) ∧ Below w.heap.size w W' := by
  go_enter Tryz.func51, Tryz.ntmps51
  go_wp2
  refine wp_loop_rounds 1 ?_
  rw [rounds_succ]
  go_wp2
  go_ret
  exact ⟨rfl, Below.refl _ _⟩
set_option maxRecDepth 100000 in
theorem stillPats_nil (B : Nat) (w : World) (h : w.cell? ⟨B, 4, none⟩ = some nilV) : Calls Tryz.prog 34 #[.pointer (some ⟨B, 0, none⟩)] w fun e W' => e = .returned (.bool true) ∧ Below w.heap.size w W' := by
  go_enter Tryz.func34, Tryz.ntmps34
  go_wp2
  refine wp_loop_rounds 1 ?_
  rw [rounds_succ]
  go_wp2
  go_ret
  exact ⟨rfl, Below.refl _ _⟩
set_option maxRecDepth 100000 in
theorem putPats_nil (B : Nat) (w : World) (h : w.cell? ⟨B, 4, none⟩ = some nilV) : Calls Tryz.prog 41 #[.pointer (some ⟨B, 0, none⟩)] w fun e W' => (∃ v, e = .returned v) ∧ W' = w := by
  go_enter Tryz.func41, Tryz.ntmps41
  go_wp2
  refine wp_loop_rounds 1 ?_
  rw [rounds_succ]
  go_wp2
  go_returns
  exact ⟨⟨_, rfl⟩, rfl⟩
set_option maxRecDepth 100000 in
theorem growPats_nil (B : Nat) (w : World) (h : w.cell? ⟨B, 4, none⟩ = some nilV) : Calls Tryz.prog 46 #[.pointer (some ⟨B, 0, none⟩)] w fun e W' => e = .returned nilV ∧ W' = w := by
  go_enter Tryz.func46, Tryz.ntmps46
  go_wp2
  refine wp_loop_rounds 1 ?_
  rw [rounds_succ]
  go_wp2
  go_ret
  exact ⟨rfl, rfl⟩
set_option maxRecDepth 100000 in
theorem markedPats_nil (w : World) : Calls Tryz.prog 52 #[nilV] w fun e W' => e = .returned (.bool true) ∧ Below w.heap.size w W' := by
  go_enter Tryz.func52, Tryz.ntmps52
  go_wp2
  refine wp_loop_rounds 1 ?_
  rw [rounds_succ]
  go_wp2
  go_ret
  exact ⟨rfl, Below.refl _ _⟩
set_option maxRecDepth 100000 in
theorem stillDiags_nil (B : Nat) (w : World) (h : w.cell? ⟨B, 6, none⟩ = some nilV) : Calls Tryz.prog 35 #[.pointer (some ⟨B, 0, none⟩)] w fun e W' => e = .returned (.bool true) ∧ Below w.heap.size w W' := by
  go_enter Tryz.func35, Tryz.ntmps35
  go_wp2
  refine wp_loop_rounds 1 ?_
  rw [rounds_succ]
  go_wp2
  go_ret
  exact ⟨rfl, Below.refl _ _⟩
set_option maxRecDepth 100000 in
theorem putDiags_nil (B : Nat) (w : World) (h : w.cell? ⟨B, 6, none⟩ = some nilV) : Calls Tryz.prog 42 #[.pointer (some ⟨B, 0, none⟩)] w fun e W' => (∃ v, e = .returned v) ∧ W' = w := by
  go_enter Tryz.func42, Tryz.ntmps42
  go_wp2
  refine wp_loop_rounds 1 ?_
  rw [rounds_succ]
  go_wp2
  go_returns
  exact ⟨⟨_, rfl⟩, rfl⟩
set_option maxRecDepth 100000 in
theorem growDiags_nil (B : Nat) (w : World) (h : w.cell? ⟨B, 6, none⟩ = some nilV) : Calls Tryz.prog 47 #[.pointer (some ⟨B, 0, none⟩)] w fun e W' => e = .returned nilV ∧ W' = w := by
  go_enter Tryz.func47, Tryz.ntmps47
  go_wp2
  refine wp_loop_rounds 1 ?_
  rw [rounds_succ]
  go_wp2
  go_ret
  exact ⟨rfl, rfl⟩
set_option maxRecDepth 100000 in
theorem markedDiags_nil (w : World) : Calls Tryz.prog 53 #[nilV] w fun e W' => e = .returned (.bool true) ∧ Below w.heap.size w W' := by
  go_enter Tryz.func53, Tryz.ntmps53
  go_wp2
  refine wp_loop_rounds 1 ?_
  rw [rounds_succ]
  go_wp2
  go_ret
  exact ⟨rfl, Below.refl _ _⟩
set_option maxRecDepth 100000 in
theorem stillValues_nil (B : Nat) (w : World) (h : w.cell? ⟨B, 8, none⟩ = some nilV) : Calls Tryz.prog 36 #[.pointer (some ⟨B, 0, none⟩)] w fun e W' => e = .returned (.bool true) ∧ Below w.heap.size w W' := by
  go_enter Tryz.func36, Tryz.ntmps36
  go_wp2
  refine wp_loop_rounds 1 ?_
  rw [rounds_succ]
  go_wp2
  go_ret
  exact ⟨rfl, Below.refl _ _⟩
set_option maxRecDepth 100000 in
theorem putValues_nil (B : Nat) (w : World) (h : w.cell? ⟨B, 8, none⟩ = some nilV) : Calls Tryz.prog 43 #[.pointer (some ⟨B, 0, none⟩)] w fun e W' => (∃ v, e = .returned v) ∧ W' = w := by
  go_enter Tryz.func43, Tryz.ntmps43
  go_wp2
  refine wp_loop_rounds 1 ?_
  rw [rounds_succ]
  go_wp2
  go_returns
  exact ⟨⟨_, rfl⟩, rfl⟩
set_option maxRecDepth 100000 in
theorem growValues_nil (B : Nat) (w : World) (h : w.cell? ⟨B, 8, none⟩ = some nilV) : Calls Tryz.prog 48 #[.pointer (some ⟨B, 0, none⟩)] w fun e W' => e = .returned nilV ∧ W' = w := by
  go_enter Tryz.func48, Tryz.ntmps48
  go_wp2
  refine wp_loop_rounds 1 ?_
  rw [rounds_succ]
  go_wp2
  go_ret
  exact ⟨rfl, rfl⟩
set_option maxRecDepth 100000 in
theorem markedValues_nil (w : World) : Calls Tryz.prog 54 #[nilV] w fun e W' => e = .returned (.bool true) ∧ Below w.heap.size w W' := by
  go_enter Tryz.func54, Tryz.ntmps54
  go_wp2
  refine wp_loop_rounds 1 ?_
  rw [rounds_succ]
  go_wp2
  go_ret
  exact ⟨rfl, Below.refl _ _⟩
set_option maxRecDepth 100000 in
theorem stillSteps_nil (B : Nat) (w : World) (h : w.cell? ⟨B, 10, none⟩ = some nilV) : Calls Tryz.prog 37 #[.pointer (some ⟨B, 0, none⟩)] w fun e W' => e = .returned (.bool true) ∧ Below w.heap.size w W' := by
  go_enter Tryz.func37, Tryz.ntmps37
  go_wp2
  refine wp_loop_rounds 1 ?_
  rw [rounds_succ]
  go_wp2
  go_ret
  exact ⟨rfl, Below.refl _ _⟩
set_option maxRecDepth 100000 in
theorem putSteps_nil (B : Nat) (w : World) (h : w.cell? ⟨B, 10, none⟩ = some nilV) : Calls Tryz.prog 38 #[.pointer (some ⟨B, 0, none⟩)] w fun e W' => (∃ v, e = .returned v) ∧ W' = w := by
  go_enter Tryz.func38, Tryz.ntmps38
  go_wp2
  refine wp_loop_rounds 1 ?_
  rw [rounds_succ]
  go_wp2
  go_returns
  exact ⟨⟨_, rfl⟩, rfl⟩
set_option maxRecDepth 100000 in
theorem growSteps_nil (B : Nat) (w : World) (h : w.cell? ⟨B, 10, none⟩ = some nilV) : Calls Tryz.prog 49 #[.pointer (some ⟨B, 0, none⟩)] w fun e W' => e = .returned nilV ∧ W' = w := by
  go_enter Tryz.func49, Tryz.ntmps49
  go_wp2
  refine wp_loop_rounds 1 ?_
  rw [rounds_succ]
  go_wp2
  go_ret
  exact ⟨rfl, rfl⟩
set_option maxRecDepth 100000 in
theorem markedSteps_nil (w : World) : Calls Tryz.prog 55 #[nilV] w fun e W' => e = .returned (.bool true) ∧ Below w.heap.size w W' := by
  go_enter Tryz.func55, Tryz.ntmps55
  go_wp2
  refine wp_loop_rounds 1 ?_
  rw [rounds_succ]
  go_wp2
  go_ret
  exact ⟨rfl, Below.refl _ _⟩
theorem bookIs_below {W W' : World} {base B m : Nat} {vs us : Nat → Value} {ls : Nat → List ByteArray} {V U : Value} (h : BookIs W base B m vs us ls V U) (hB : Below W.heap.size W W') : BookIs W' base B m vs us ls V U :=
  ⟨h.hB, h.blk.below hB h.blk.lt, rowKept h.ownV hB, rowKept h.ownU hB, h.len, fun i hi => rowKept (h.rows i hi) hB, fun i hi => rowKept (h.rowsU i hi) hB, h.sVU, h.sR⟩
theorem Marked.below {W W' : World} {base m : Nat} {gs : Nat → Value} {ns : Nat → Nat} (h : Marked W base m gs ns) (hB : Below W.heap.size W W') : Marked W' base m gs ns := fun i hi => ⟨(h i hi).1, rowKept (h i hi).2 hB⟩
/-- All cells of a book but two are nil. -/
def Nils (W : World) (B : Nat) : Prop := W.cell? ⟨B, 2, none⟩ = some nilV ∧ W.cell? ⟨B, 4, none⟩ = some nilV ∧ W.cell? ⟨B, 6, none⟩ = some nilV ∧ W.cell? ⟨B, 8, none⟩ = some nilV ∧ W.cell? ⟨B, 10, none⟩ = some nilV
theorem nils_of {W : World} {B : Nat} {V U : Value} (h : BlkAt W B 46 (bookCells V U)) : Nils W B :=
  ⟨(h.cell 2).trans rfl, (h.cell 4).trans rfl, (h.cell 6).trans rfl, (h.cell 8).trans rfl, (h.cell 10).trans rfl⟩
set_option maxRecDepth 200000 in
set_option maxHeartbeats 3200000 in
theorem apart_any (base B m : Nat) (vs us : Nat → Value) (ls : Nat → List ByteArray) (V U : Value) (hm : m ≤ 100) (w : World) (h : BookIs w base B m vs us ls V U) (hbs : base ≤ w.heap.size) :
    Calls Tryz.prog 15 #[.pointer (some ⟨B, 0, none⟩)] w fun e W' => e = .returned (.bool true) ∧ Below base w W' := by
  have mixed : Tryz.prog.follows .mixedOrders = true := by kernel_rfl
  obtain ⟨Va, Vc, rfl⟩ := ownsRow_slice' h.ownV
  have HB := Lib.hid h
  clear h
  go_enter Tryz.func15, Tryz.ntmps15
  have HBl0 := Lib.hid (Below.refl w.heap.size w)
  have hbook := bookIs_below HB.out HBl0.out
  have HC0 := Lib.hid (still_any base B m vs us ls (.slice Va m Vc) U hm w hbook)
  clear hbook
  go_wp2_with fail
  refine HC0.out.mono ?_
  rintro e w1 ⟨rfl, hB⟩
  have HBl1 := Lib.hid (HBl0.out.trans (hB.mono HBl0.out.size))
  clear hB HC0
  have HC1 := Lib.hid (stillInts_nil B w1 (nils_of (HB.out.blk.below HBl1.out HB.out.blk.lt)).1)
  go_wp2_with fail
  refine HC1.out.mono ?_
  rintro e w2 ⟨rfl, hB⟩
  have HBl2 := Lib.hid (HBl1.out.trans (hB.mono HBl1.out.size))
  clear hB HC1
  have HC2 := Lib.hid (stillPats_nil B w2 (nils_of (HB.out.blk.below HBl2.out HB.out.blk.lt)).2.1)
  go_wp2_with fail
  refine HC2.out.mono ?_
  rintro e w3 ⟨rfl, hB⟩
  have HBl3 := Lib.hid (HBl2.out.trans (hB.mono HBl2.out.size))
  clear hB HC2
  have HC3 := Lib.hid (stillDiags_nil B w3 (nils_of (HB.out.blk.below HBl3.out HB.out.blk.lt)).2.2.1)
  go_wp2_with fail
  refine HC3.out.mono ?_
  rintro e w4 ⟨rfl, hB⟩
  have HBl4 := Lib.hid (HBl3.out.trans (hB.mono HBl3.out.size))
  clear hB HC3
  have HC4 := Lib.hid (stillValues_nil B w4 (nils_of (HB.out.blk.below HBl4.out HB.out.blk.lt)).2.2.2.1)
  go_wp2_with fail
  refine HC4.out.mono ?_
  rintro e w5 ⟨rfl, hB⟩
  have HBl5 := Lib.hid (HBl4.out.trans (hB.mono HBl4.out.size))
  clear hB HC4
  have HC5 := Lib.hid (stillSteps_nil B w5 (nils_of (HB.out.blk.below HBl5.out HB.out.blk.lt)).2.2.2.2)
  go_wp2_with fail
  refine HC5.out.mono ?_
  rintro e w6 ⟨rfl, hB⟩
  have HBl6 := Lib.hid (HBl5.out.trans (hB.mono HBl5.out.size))
  clear hB HC5
  have hP0 := HB.out.toP.below HBl6.out
  have hsz0 := Nat.le_trans hbs HBl6.out.size
  have HP0 := Lib.hid hP0
  have HS0 := Lib.hid hsz0
  clear hP0 hsz0
  have HQ := Lib.hid (putSteps_nil B w6 (nils_of HP0.out.blk).2.2.2.2)
  go_wp2_with fail
  refine HQ.out.mono ?_
  rintro e wx ⟨⟨v, rfl⟩, rfl⟩
  clear HQ
  have HQ := Lib.hid (put_any base B m vs ls (.slice Va m Vc) U hm _ HP0.out HS0.out)
  go_wp2_with fail
  refine HQ.out.mono ?_
  rintro e wp ⟨⟨v, rfl⟩, hP1, hBp, hs1⟩
  have HP1 := Lib.hid hP1
  have HBp := Lib.hid hBp
  have HS1 := Lib.hid hs1
  clear HQ hP1 hBp hs1
  have HQ := Lib.hid (putInts_nil B wp (nils_of HP1.out.blk).1)
  go_wp2_with fail
  refine HQ.out.mono ?_
  rintro e wx ⟨⟨v, rfl⟩, rfl⟩
  clear HQ
  have HQ := Lib.hid (putPats_nil B _ (nils_of HP1.out.blk).2.1)
  go_wp2_with fail
  refine HQ.out.mono ?_
  rintro e wx ⟨⟨v, rfl⟩, rfl⟩
  clear HQ
  have HQ := Lib.hid (putDiags_nil B _ (nils_of HP1.out.blk).2.2.1)
  go_wp2_with fail
  refine HQ.out.mono ?_
  rintro e wx ⟨⟨v, rfl⟩, rfl⟩
  clear HQ
  have HQ := Lib.hid (putValues_nil B _ (nils_of HP1.out.blk).2.2.2.1)
  go_wp2_with fail
  refine HQ.out.mono ?_
  rintro e wx ⟨⟨v, rfl⟩, rfl⟩
  clear HQ
  have hml : ∀ i, i < m → mks ls m i = marks i 0 (ls i).length := fun i hi => by unfold mks; rw [if_pos hi]
  have HML := Lib.hid hml
  clear hml
  have HQ := Lib.hid (grow_any base B m vs (mks ls m) (fun i => (ls i).length) (.slice Va m Vc) U hm _ HP1.out HML.out HS1.out)
  go_wp2_with fail
  refine HQ.out.mono ?_
  rintro e wg ⟨G, gs, rfl, hP2, hG, hMk, hBg, hsg⟩
  have HP2 := Lib.hid hP2
  have HG := Lib.hid hG
  have HMk := Lib.hid hMk
  have HBg := Lib.hid hBg
  have HSg := Lib.hid hsg
  clear HQ hP2 hG hMk hBg hsg
  have HQ := Lib.hid (growInts_nil B _ (nils_of HP2.out.blk).1)
  go_wp2_with fail
  refine HQ.out.mono ?_
  rintro e wx ⟨rfl, rfl⟩
  clear HQ
  have HQ := Lib.hid (growPats_nil B _ (nils_of HP2.out.blk).2.1)
  go_wp2_with fail
  refine HQ.out.mono ?_
  rintro e wx ⟨rfl, rfl⟩
  clear HQ
  have HQ := Lib.hid (growDiags_nil B _ (nils_of HP2.out.blk).2.2.1)
  go_wp2_with fail
  refine HQ.out.mono ?_
  rintro e wx ⟨rfl, rfl⟩
  clear HQ
  have HQ := Lib.hid (growValues_nil B _ (nils_of HP2.out.blk).2.2.2.1)
  go_wp2_with fail
  refine HQ.out.mono ?_
  rintro e wx ⟨rfl, rfl⟩
  clear HQ
  have HQ := Lib.hid (growSteps_nil B _ (nils_of HP2.out.blk).2.2.2.2)
  go_wp2_with fail
  refine HQ.out.mono ?_
  rintro e wx ⟨rfl, rfl⟩
  clear HQ
  obtain ⟨wm0, hwm0⟩ : ∃ wm0 : World, wm0 = wx := ⟨_, rfl⟩
  rw [← hwm0] at HP2 HG HMk HBg HSg ⊢
  clear hwm0
  have HM0 := Lib.hid (Below.refl wm0.heap.size wm0)
  have HC := Lib.hid (marked_any _ base m G gs (fun i => (ls i).length + 72) hm wm0 (rowKept HG.out HM0.out) (HMk.out.below HM0.out))
  go_wp2_with fail
  refine HC.out.mono ?_
  rintro e wm1 ⟨rfl, hB⟩
  have HM1 := Lib.hid (HM0.out.trans (hB.mono HM0.out.size))
  clear hB HC HM0
  have cf : wm1.cell? ⟨B, 0, none⟩ = some (.slice Va m Vc) := ((HP2.out.blk.below HM1.out HP2.out.blk.lt).cell 0).trans rfl
  have hmv : Marked wm1 base m vs (fun i => (ls i).length) := fun i hi => ⟨by have := HB.out.len i hi; show (ls i).length ≤ 1000; omega, by have h1 := rowKept (HP2.out.rows i hi) HM1.out; rw [HML.out i hi, marks_len] at h1; exact h1⟩
  have HC := Lib.hid (marked_any base base m (.slice Va m Vc) vs (fun i => (ls i).length) hm wm1 (rowKept HP2.out.ownV HM1.out) hmv)
  clear hmv
  go_wp2_with fail
  refine HC.out.mono ?_
  rintro e wm2 ⟨rfl, hB⟩
  have HM2 := Lib.hid (HM1.out.trans (hB.mono HM1.out.size))
  clear hB HC HM1 cf
  have HC := Lib.hid (markedInts_nil wm2)
  go_wp2_with fail
  refine HC.out.mono ?_
  rintro e wm3 ⟨rfl, hB⟩
  have HM3 := Lib.hid (HM2.out.trans (hB.mono HM2.out.size))
  clear hB HC HM2
  have cf : wm3.cell? ⟨B, 2, none⟩ = some nilV := (nils_of (HP2.out.blk.below HM3.out HP2.out.blk.lt)).1
  have HC := Lib.hid (markedInts_nil wm3)
  go_wp2_with fail
  refine HC.out.mono ?_
  rintro e wm4 ⟨rfl, hB⟩
  have HM4 := Lib.hid (HM3.out.trans (hB.mono HM3.out.size))
  clear hB HC HM3 cf
  have HC := Lib.hid (markedPats_nil wm4)
  go_wp2_with fail
  refine HC.out.mono ?_
  rintro e wm5 ⟨rfl, hB⟩
  have HM5 := Lib.hid (HM4.out.trans (hB.mono HM4.out.size))
  clear hB HC HM4
  have cf : wm5.cell? ⟨B, 4, none⟩ = some nilV := (nils_of (HP2.out.blk.below HM5.out HP2.out.blk.lt)).2.1
  have HC := Lib.hid (markedPats_nil wm5)
  go_wp2_with fail
  refine HC.out.mono ?_
  rintro e wm6 ⟨rfl, hB⟩
  have HM6 := Lib.hid (HM5.out.trans (hB.mono HM5.out.size))
  clear hB HC HM5 cf
  have HC := Lib.hid (markedDiags_nil wm6)
  go_wp2_with fail
  refine HC.out.mono ?_
  rintro e wm7 ⟨rfl, hB⟩
  have HM7 := Lib.hid (HM6.out.trans (hB.mono HM6.out.size))
  clear hB HC HM6
  have cf : wm7.cell? ⟨B, 6, none⟩ = some nilV := (nils_of (HP2.out.blk.below HM7.out HP2.out.blk.lt)).2.2.1
  have HC := Lib.hid (markedDiags_nil wm7)
  go_wp2_with fail
  refine HC.out.mono ?_
  rintro e wm8 ⟨rfl, hB⟩
  have HM8 := Lib.hid (HM7.out.trans (hB.mono HM7.out.size))
  clear hB HC HM7 cf
  have HC := Lib.hid (markedValues_nil wm8)
  go_wp2_with fail
  refine HC.out.mono ?_
  rintro e wm9 ⟨rfl, hB⟩
  have HM9 := Lib.hid (HM8.out.trans (hB.mono HM8.out.size))
  clear hB HC HM8
  have cf : wm9.cell? ⟨B, 8, none⟩ = some nilV := (nils_of (HP2.out.blk.below HM9.out HP2.out.blk.lt)).2.2.2.1
  have HC := Lib.hid (markedValues_nil wm9)
  go_wp2_with fail
  refine HC.out.mono ?_
  rintro e wm10 ⟨rfl, hB⟩
  have HM10 := Lib.hid (HM9.out.trans (hB.mono HM9.out.size))
  clear hB HC HM9 cf
  have HC := Lib.hid (markedSteps_nil wm10)
  go_wp2_with fail
  refine HC.out.mono ?_
  rintro e wm11 ⟨rfl, hB⟩
  have HM11 := Lib.hid (HM10.out.trans (hB.mono HM10.out.size))
  clear hB HC HM10
  have cf : wm11.cell? ⟨B, 10, none⟩ = some nilV := (nils_of (HP2.out.blk.below HM11.out HP2.out.blk.lt)).2.2.2.2
  have HC := Lib.hid (markedSteps_nil wm11)
  go_wp2_with fail
  refine HC.out.mono ?_
  rintro e wm12 ⟨rfl, hB⟩
  have HM12 := Lib.hid (HM11.out.trans (hB.mono HM11.out.size))
  clear hB HC HM11 cf
  go_wp2
  go_ret
  exact ⟨rfl, ((((HBl6.out.mono hbs).trans HBp.out).trans (HBg.out)).trans (HM12.out.mono (Nat.le_trans HS1.out HSg.out)))⟩
end Go.Proofs.YtjcpfmndkeiegaaGreatDoor.Tb
