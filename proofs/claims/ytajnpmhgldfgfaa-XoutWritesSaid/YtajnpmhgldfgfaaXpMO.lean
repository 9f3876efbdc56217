/- Codes of refusals, and how a Text grows: plain laws of the cutter's step. Texts of tokens; what a document that is being made keeps: plain laws for the walk of Parse. How deep elements are, and whether a document can be: plain words, and the plain law of those that were read. -/
import Derived.Test.YtajnpmhgldfgfaaXpAL
import Derived.Test.YtajnpmhgldfgfaaXsA0
namespace Go.Proofs.Ytajnpmhgldfgfaa
open Go.RowKit
set_option linter.unusedVariables false

theorem attrX_code {f : Nat} {s : List UInt8} {ca k : Nat} {l : List XA} {e : XE} (h : attrX f s ca l k = .bad e) : e.code = 11 := by
  unfold attrX at h
  simp only at h
  split at h
  · cases h; rfl
  split at h
  · cases h; rfl
  split at h
  · cases h; rfl
  split at h
  · split at h
    · cases h
    · rename_i hv; cases h; exact valueX_code f _ _ _ _ hv
    · cases h
  · cases h; rfl
theorem openGo_code {s : List UInt8} {ca : Nat} : ∀ (f : Nat) (l : List XA) (k : Nat) (e : XE), openGo s ca f l k = .bad e → e.code = 11
  | 0, _, _, _, h => by cases h
  | f + 1, l, k, e, h => by
    unfold openGo at h
    simp only at h
    split at h
    · cases h
    split at h
    · cases h
    split at h
    · cases h; rfl
    split at h
    · cases h
    · rename_i hv; cases h; exact attrX_code hv
    · exact openGo_code f _ _ _ h
theorem openX_code {f : Nat} {s : List UInt8} {ca : Nat} {e : XE} (h : openX f s ca = .bad e) : e.code = 11 := by
  unfold openX at h
  simp only at h
  split at h
  · cases h; rfl
  split at h
  · cases h
  · rename_i hv; cases h; exact openGo_code f _ _ _ hv
  · cases h
theorem wordsX_code : ∀ (f : Nat) (l : List UInt8) (a : Nat) (acc : List UInt8) (e : XE), wordsX f l a acc = .bad e → e.code = 11
  | 0, _, _, _, _, h => by cases h
  | f + 1, l, a, acc, e, h => by
    unfold wordsX at h
    split at h
    · cases h
    split at h
    · cases h
    split at h
    · exact wordsX_code f _ _ _ e h
    split at h
    · split at h
      · cases h; rfl
      · exact wordsX_code f _ _ _ e h
    split at h
    · cases h; rfl
    · exact wordsX_code f _ _ _ e h
theorem nextF_code {f : Nat} {s : List UInt8} {c : XS} {e : XE} (h : nextF f s c = .bad e) : e.code = 11 := by
  unfold nextF at h
  simp only at h
  split at h
  · split at h
    · cases h
    · rename_i hv; cases h; exact wordsX_code f _ _ _ _ hv
    · cases h
  split at h
  · split at h
    · cases h
    · rename_i hv; cases h
      unfold rawX at hv
      split at hv
      · cases hv; rfl
      · cases hv
    · cases h
  split at h
  · split at h
    · cases h
    · rename_i hv; cases h
      unfold skipX at hv
      split at hv
      · cases hv; rfl
      split at hv
      · cases hv; rfl
      · cases hv
    · cases h
  split at h
  · split at h
    · cases h
    · rename_i hv; cases h
      unfold orderX at hv
      simp only at hv
      split at hv
      · cases hv; rfl
      · cases hv
    · cases h
  split at h
  · cases h; rfl
  split at h
  · split at h
    · cases h
    · rename_i hv; cases h
      unfold closeX at hv
      simp only at hv
      split at hv
      · cases hv; rfl
      · cases hv
    · cases h
  · split at h
    · cases h
    · rename_i hv; cases h; exact openX_code hv
    · cases h
theorem cutG_code {f0 : Nat} {s : List UInt8} {e : XE} : ∀ (k : Nat) (c : XS), cutG f0 s k c = .bad e → e.code = 11
  | 0, c, h => by cases h
  | k + 1, c, h => by
    unfold cutG at h
    split at h
    · cases h
    split at h
    · cases h
    · rename_i hv; cases h; exact nextF_code hv
    · exact cutG_code k _ h
theorem cutF_code {s : List UInt8} {e : XE} (h : cutF s = .bad e) : e.code = 11 := by
  unfold cutF at h
  cases hc : charsX s with
  | none => rw [hc] at h; exact cutG_code _ _ h
  | some x =>
    rw [hc] at h
    cases h
    unfold charsX at hc
    split at hc
    · simp only [Option.some.injEq] at hc; subst hc; rfl
    · split at hc
      · simp only [Option.some.injEq] at hc; subst hc; rfl
      · cases hc
theorem addX_text (c : XS) (a : Nat) (x : List UInt8) : (addX c a x).text.length ≤ c.text.length + x.length := by
  unfold addX
  split
  · omega
  · simp
theorem rawX_bd {s : List UInt8} {ca e : Nat} {x : List UInt8} (h : rawX s ca = .ok (x, e)) : x.length + ca ≤ e := by
  unfold rawX at h
  split at h
  · cases h
  · cases h
    have := linesX_len ((s.drop (ca + 9)).take (Lib.index (s.drop (ca + 9)) [93, 93, 62]).toNat)
    rw [List.length_take] at this
    omega
/-- How a Text grows in a step. -/
theorem nextF_text {f : Nat} {s : List UInt8} {c c1 : XS} (hc : c.place < s.length) (h : nextF f s c = .ok c1) : c1.text.length ≤ c.text.length + 4 * (c1.place - c.place) := by
  have hg := nextF_grows hc h
  unfold nextF at h
  simp only at h
  split at h
  · split at h
    · cases h
    · cases h
    · rename_i x hv
      cases h
      have h1 := wordsX_len f _ _ _ _ hv
      have h2 := addX_text c c.place x
      rw [List.length_take] at h1
      simp only [List.length_nil] at h1
      show (addX c c.place x).text.length ≤ _ + 4 * (endX s c.place - c.place)
      omega
  split at h
  · split at h
    · cases h
    · cases h
    · rename_i x e hv
      cases h
      have h1 := rawX_bd hv
      have h2 := addX_text c c.place x
      show (addX c c.place x).text.length ≤ _ + 4 * (e - c.place)
      omega
  split at h
  · split at h
    · cases h
    · cases h
    · cases h; show c.text.length ≤ _; omega
  split at h
  · split at h
    · cases h
    · cases h
    · cases h; show c.text.length ≤ _; omega
  split at h
  · cases h
  split at h
  · split at h
    · cases h
    · cases h
    · cases h; exact Nat.zero_le _
  · split at h
    · cases h
    · cases h
    · cases h; exact Nat.zero_le _
theorem nextF_out {f : Nat} {s : List UInt8} {c c1 : XS} (hc : c.place < s.length) (h : nextF f s c = .ok c1) : c1.out.length ≤ c.out.length + 2 * (c1.place - c.place) :=
  (steps_out (.step c c1 c1 hc h (.refl c1))).1
theorem beginX_code {b : XB} {t : XT} {e : XE} (h : beginX b t = .bad e) : e.code ≠ 0 := by
  unfold beginX at h
  split at h
  · cases h; exact Nat.succ_ne_zero _
  split at h
  · cases h; exact Nat.succ_ne_zero _
  · cases h
theorem takeX_code {b : XB} {t : XT} {e : XE} (h : takeX b t = .bad e) : e.code ≠ 0 := by
  unfold takeX at h
  split at h
  · exact beginX_code h
  split at h
  · split at h
    · split at h
      · cases h
      · cases h; exact Nat.succ_ne_zero _
    · cases h; exact Nat.succ_ne_zero _
  · split at h
    · cases h
    · split at h
      · cases h
      · cases h; exact Nat.succ_ne_zero _
theorem takeX_some (b : XB) (t : XT) : takeX b t ≠ .none := by
  unfold takeX beginX
  split
  · split
    · exact nofun
    · split <;> exact nofun
  · split
    · split
      · split <;> exact nofun
      · exact nofun
    · split
      · exact nofun
      · split <;> exact nofun
end Go.Proofs.Ytajnpmhgldfgfaa
namespace Go.Proofs.Ytajnpmhgldfgfaa
open Go.RowKit
set_option linter.unusedVariables false

/-- No token's text is too great. -/
def SmallT (n : Nat) (c : XS) : Prop := c.text.length ≤ 4 * c.place ∧ c.place ≤ n ∧ ∀ t ∈ c.out, t.text.length ≤ 4 * n
theorem finX_small {n : Nat} {c : XS} (h : SmallT n c) : ∀ t ∈ (finX c).out, t.text.length ≤ 4 * n := by
  obtain ⟨h1, h2, h3⟩ := h
  intro t ht
  have ht' : t ∈ if c.text = [] then c.out else c.out ++ [⟨3, c.since, [], c.text, [], false⟩] := ht
  split at ht'
  · exact h3 t ht'
  · rcases List.mem_append.1 ht' with g | g
    · exact h3 t g
    · obtain rfl := List.mem_singleton.1 g
      show c.text.length ≤ _
      omega
theorem closeX_text {s : List UInt8} {ca e : Nat} {t : XT} (h : closeX s ca = .ok (t, e)) : t.text = [] := by
  unfold closeX at h
  simp only at h
  split at h
  · cases h
  · cases h; rfl
theorem openX_text {f : Nat} {s : List UInt8} {ca e : Nat} {t : XT} (h : openX f s ca = .ok (t, e)) : t.text = [] := by
  unfold openX at h
  simp only at h
  split at h
  · cases h
  split at h
  · cases h
  · cases h
  · cases h; rfl
theorem addX_out (c : XS) (a : Nat) (x : List UInt8) : (addX c a x).out = c.out := by unfold addX; split <;> rfl
theorem nextF_small {f n : Nat} {s : List UInt8} {c c1 : XS} (hs : s.length ≤ n) (hc : c.place < s.length) (h : nextF f s c = .ok c1) (hm : SmallT n c) : SmallT n c1 := by
  have hg := nextF_grows hc h
  have ht := nextF_text hc h
  have hf := finX_small hm
  obtain ⟨h1, h2, h3⟩ := hm
  refine ⟨by omega, by omega, ?_⟩
  unfold nextF at h
  simp only at h
  split at h
  · split at h
    · cases h
    · cases h
    · cases h; show ∀ t ∈ (addX c c.place _).out, _; rw [addX_out]; exact h3
  split at h
  · split at h
    · cases h
    · cases h
    · cases h; show ∀ t ∈ (addX c c.place _).out, _; rw [addX_out]; exact h3
  split at h
  · split at h
    · cases h
    · cases h
    · cases h; exact h3
  split at h
  · split at h
    · cases h
    · cases h
    · cases h; exact h3
  split at h
  · cases h
  split at h
  · split at h
    · cases h
    · cases h
    · rename_i t e hv
      cases h
      intro x hx
      rcases List.mem_append.1 hx with g | g
      · exact hf x g
      · obtain rfl := List.mem_singleton.1 g
        rw [closeX_text hv]; exact Nat.zero_le _
  · split at h
    · cases h
    · cases h
    · rename_i t e hv
      cases h
      intro x hx
      rcases List.mem_append.1 hx with g | g
      · exact hf x g
      · obtain rfl := List.mem_singleton.1 g
        rw [openX_text hv]; exact Nat.zero_le _
theorem steps_small {f n : Nat} {s : List UInt8} {c c1 : XS} (hs : s.length ≤ n) (h : Steps f s c c1) (hm : SmallT n c) : SmallT n c1 := by
  induction h with
  | refl c => exact hm
  | step c c2 c3 h1 h2 _ ih => exact ih (nextF_small hs h1 h2 hm)
theorem cut_small {s : List UInt8} {l : List XT} (h : cutF s = .ok l) : ∀ t ∈ l, t.text.length ≤ 4 * s.length := by
  obtain ⟨c, hs, hp, rfl⟩ := (cut_runs h).2
  exact finX_small (steps_small (Nat.le_refl _) hs ⟨Nat.le_refl _, Nat.zero_le _, fun t ht => by cases ht⟩)
/-- Elements' texts are no greater than so many tokens' texts. -/
def TextsIn (M : Nat) (els : List XL) : Prop := ∀ q ∈ els, q.text.length ≤ M
theorem take_texts {b c : XB} {t : XT} {M : Nat} (h : TextsIn M b.elems) (ht : takeX b t = .ok c) (hl : t.text.length ≤ 1000000) : TextsIn (M + 1000000) c.elems := by
  have hmono : TextsIn (M + 1000000) b.elems := fun q hq => by have := h q hq; omega
  have hat : ∀ (g : XL → XL) (l : List XL) (k : Nat), (∀ e ∈ l, (g e).text.length ≤ M + 1000000) → TextsIn (M + 1000000) l → TextsIn (M + 1000000) (atX g l k) := by
    intro g l
    induction l with
    | nil => intro k _ _ q hq; cases hq
    | cons e l ih =>
      intro k h1 h2
      cases k with
      | zero =>
        intro q hq
        rcases List.mem_cons.1 hq with rfl | hq
        · exact h1 e (by simp)
        · exact h2 q (List.mem_cons_of_mem _ hq)
      | succ k =>
        intro q hq
        rcases List.mem_cons.1 hq with rfl | hq
        · exact h2 q (by simp)
        · exact ih k (fun e he => h1 e (List.mem_cons_of_mem _ he)) (fun e he => h2 e (List.mem_cons_of_mem _ he)) q hq
  unfold takeX at ht
  split at ht
  · unfold beginX at ht
    split at ht
    · cases ht
    split at ht
    · cases ht
    · cases ht
      intro q hq
      rcases List.mem_append.1 hq with g | g
      · have hk : TextsIn (M + 1000000) (kidX b.elems b.opened) := by
          unfold kidX
          split
          · exact hmono
          · exact hat _ _ _ (fun e he => by have := h e he; show e.text.length ≤ _; omega) hmono
        exact hk q g
      · obtain rfl := List.mem_singleton.1 g
        exact Nat.zero_le _
  · split at ht
    · split at ht
      · split at ht
        · cases ht; exact hmono
        · cases ht
      · cases ht
    · split at ht
      · cases ht
        exact hat _ _ _ (fun e he => by have := h e he; show (e.text ++ t.text).length ≤ _; rw [List.length_append]; omega) hmono
      · split at ht
        · cases ht; exact hmono
        · cases ht
theorem tree_texts : ∀ (l : List XT) {b c : XB} {M : Nat}, TextsIn M b.elems → treeX l b = .ok c → (∀ t ∈ l, t.text.length ≤ 1000000) → TextsIn (M + 1000000 * l.length) c.elems
  | [], b, c, M, h, ht, _ => by cases ht; exact h
  | t :: l, b, c, M, h, ht, hl => by
    unfold treeX at ht
    cases hd : takeX b t with
    | none => rw [hd] at ht; cases ht
    | bad e => rw [hd] at ht; cases ht
    | ok d =>
      rw [hd] at ht
      have := tree_texts l (take_texts h hd (hl t (by simp))) ht (fun x hx => hl x (List.mem_cons_of_mem _ hx))
      intro q hq
      have := this q hq
      rw [List.length_cons]
      omega
/-- What a document keeps that is made of tokens. -/
theorem tree_keeps {l : List XT} {b : XB} (ht : treeX l b0X = .ok b) : b.elems.length ≤ 10000 ∧ b.opened.length ≤ 100 ∧ (∀ u ∈ b.opened, u < b.elems.length) ∧ ∀ q ∈ b.elems, q.kids.length ≤ 100000 := by
  have h := tree_lies l b0_lies ht
  obtain ⟨hok, ⟨D, hf⟩, hm, hsz⟩ := h
  refine ⟨hsz, by have := hok.deep; omega, fun u hu => ?_, fun q hq => ?_⟩
  · obtain ⟨j, hj, rfl⟩ := List.mem_iff_getElem.1 hu
    have := hf.deep j _ (List.getElem?_eq_getElem hj)
    have := (List.getElem?_eq_some_iff.1 this).1
    rw [hf.len] at this
    exact this
  · obtain ⟨j, hj, rfl⟩ := List.mem_iff_getElem.1 hq
    rw [hf.kids j _ (List.getElem?_eq_getElem hj)]
    unfold kidsOf
    exact Nat.le_trans (List.length_filter_le _ _) (by rw [List.length_range, upsX_len]; omega)
end Go.Proofs.Ytajnpmhgldfgfaa
namespace Go.Proofs.Ytajnpmhgldfgfaa
open Go.RowKit
set_option linter.unusedVariables false

/-- Up from a place till one is at t, or nowhere. -/
def goUp (ups : List Int) : Nat → Int → Int → Int
  | 0, _, u => u
  | f + 1, t, u => if 0 ≤ u ∧ u ≠ t then goUp ups f t (ups[u.toNat]?.getD 0) else u
/-- Each of the first n is within an earlier one. -/
def UpsOk (ups : List Int) (n : Nat) : Prop := ∀ j : Nat, j < n → (j = 0 ∧ ups[j]? = some (-1)) ∨ ∃ u : Nat, ups[j]? = some (u : Int) ∧ u < j
theorem upsOk_le {ups : List Int} {n j : Nat} {u : Int} (h : UpsOk ups n) (hj : j < n) (hu : ups[j]? = some u) : -1 ≤ u ∧ u < j := by
  rcases h j hj with ⟨rfl, g⟩ | ⟨v, g, hv⟩
  · rw [g] at hu; cases hu; omega
  · rw [g] at hu; cases hu; omega
theorem goUp_bd {ups : List Int} {n : Nat} (h : UpsOk ups n) : ∀ (f : Nat) (t u : Int), -1 ≤ u → u < n → -1 ≤ goUp ups f t u ∧ goUp ups f t u ≤ u
  | 0, t, u, h1, h2 => ⟨h1, Int.le_refl _⟩
  | f + 1, t, u, h1, h2 => by
    unfold goUp
    by_cases hc : 0 ≤ u ∧ u ≠ t
    · rw [if_pos hc]
      have hun : u.toNat < n := by omega
      obtain ⟨v, hv⟩ : ∃ v, ups[u.toNat]? = some v := by
        rcases h u.toNat hun with ⟨_, g⟩ | ⟨w, g, _⟩
        · exact ⟨_, g⟩
        · exact ⟨_, g⟩
      have hb := upsOk_le h hun hv
      rw [hv]
      have := goUp_bd h f t v (by omega) (by omega)
      show -1 ≤ goUp ups f t v ∧ goUp ups f t v ≤ u
      omega
    · rw [if_neg hc]
      omega
theorem goUp_step {ups : List Int} {f : Nat} {t u : Int} (hc : 0 ≤ u ∧ u ≠ t) : goUp ups (f + 1) t u = goUp ups f t (ups[u.toNat]?.getD 0) := by rw [goUp, if_pos hc]
theorem goUp_stop {ups : List Int} {f : Nat} {t u : Int} (hc : ¬ (0 ≤ u ∧ u ≠ t)) : goUp ups f t u = u := by
  cases f with
  | zero => rfl
  | succ f => rw [goUp, if_neg hc]
/-- How deep the next one is. -/
def depStep (ups : List Int) (D : List Nat) : Option (List Nat) :=
  if D = [] then (if ups[0]?.getD 0 = -1 then some [1] else none)
  else if goUp ups D.length (ups[D.length]?.getD 0) ((D.length : Int) - 1) < 0 then none
  else some (D ++ [D[(goUp ups D.length (ups[D.length]?.getD 0) ((D.length : Int) - 1)).toNat]?.getD 0 + 1])
def depGo (ups : List Int) : Nat → List Nat → Option (List Nat)
  | 0, D => some D
  | k + 1, D => match depStep ups D with | none => none | some E => depGo ups k E
def depthsX (ups : List Int) : Option (List Nat) := depGo ups ups.length []
theorem depStep_len {ups : List Int} {D E : List Nat} (h : depStep ups D = some E) : E.length = D.length + 1 := by
  unfold depStep at h
  split at h
  · rename_i h0
    split at h
    · cases h; rw [h0]; rfl
    · cases h
  · split at h
    · cases h
    · cases h; simp
theorem depGo_len {ups : List Int} : ∀ (k : Nat) {D E : List Nat}, depGo ups k D = some E → E.length = D.length + k
  | 0, D, E, h => by cases h; rfl
  | k + 1, D, E, h => by
    unfold depGo at h
    cases hd : depStep ups D with
    | none => rw [hd] at h; cases h
    | some F =>
      rw [hd] at h
      have h1 := depStep_len hd
      have h2 := depGo_len k h
      omega
/-- A step that goes on: those that are told lie well. -/
theorem depStep_ok {ups : List Int} {D E : List Nat} (hl : D.length < ups.length) (h : depStep ups D = some E) (ho : UpsOk ups D.length) : UpsOk ups E.length := by
  have hE := depStep_len h
  intro j hj
  by_cases hjd : j < D.length
  · exact ho j hjd
  obtain rfl : j = D.length := by omega
  obtain ⟨t, ht⟩ : ∃ t, ups[D.length]? = some t := ⟨_, List.getElem?_eq_getElem hl⟩
  unfold depStep at h
  split at h
  · rename_i h0
    subst h0
    have ht0 : ups[0]? = some t := ht
    rw [ht0] at h
    split at h
    · rename_i h1
      refine .inl ⟨rfl, ?_⟩
      rw [ht]
      exact congrArg some h1
    · cases h
  · rename_i h0
    have hpos : 0 < D.length := List.length_pos_iff.2 h0
    split at h
    · cases h
    · rename_i h1
      right
      rw [ht] at h1 ⊢
      have hb := goUp_bd ho D.length ((some t).getD 0) ((D.length : Int) - 1) (by omega) (by omega)
      have hfin : goUp ups D.length ((some t).getD 0) ((D.length : Int) - 1) = (some t).getD 0 := by
        -- it stops at t, for it does not stop at nowhere
        have key : ∀ (f : Nat) (u : Int), -1 ≤ u → u < D.length → u < f → 0 ≤ goUp ups f t u → goUp ups f t u = t := by
          intro f
          induction f with
          | zero => intro u h1 h2 h3 h4; have h5 : goUp ups 0 t u = u := rfl; rw [h5] at h4; omega
          | succ f ih =>
            intro u g1 g2 g3 g4
            by_cases hc : 0 ≤ u ∧ u ≠ t
            · rw [goUp_step hc] at g4 ⊢
              have hun : u.toNat < D.length := by omega
              obtain ⟨v, hv⟩ : ∃ v, ups[u.toNat]? = some v := ⟨_, List.getElem?_eq_getElem (by omega)⟩
              have hb := upsOk_le ho hun hv
              rw [hv] at g4 ⊢
              exact ih v (by omega) (by omega) (by omega) g4
            · rw [goUp_stop hc] at g4 ⊢
              apply Decidable.byContradiction
              intro hne
              exact hc ⟨g4, hne⟩
        exact key D.length _ (by omega) (by omega) (by omega) (by have : (some t).getD 0 = t := rfl; rw [this] at h1; omega)
      rw [hfin] at h1 hb
      have e : (some t).getD 0 = t := rfl
      rw [e] at h1 hb
      exact ⟨t.toNat, by rw [Int.toNat_of_nonneg (by omega)], by omega⟩
/-- None is deeper than there are elements ahead of it. -/
def DepSm (D : List Nat) : Prop := ∀ (j d : Nat), D[j]? = some d → d ≤ j + 1
theorem depStep_sm {ups : List Int} {D E : List Nat} (h : depStep ups D = some E) (hs : DepSm D) : DepSm E := by
  unfold depStep at h
  split at h
  · split at h
    · cases h
      intro j d hj
      have hl := (List.getElem?_eq_some_iff.1 hj).1
      obtain rfl : j = 0 := by simpa using hl
      simp at hj
      omega
    · cases h
  · split at h
    · cases h
    · cases h
      intro j d hj
      rw [List.getElem?_append] at hj
      split at hj
      · exact hs j d hj
      · rename_i hjl
        have hl := (List.getElem?_eq_some_iff.1 hj).1
        simp only [List.length_singleton] at hl
        have hj0 : j - D.length = 0 := by omega
        rw [hj0] at hj
        simp only [List.getElem?_cons_zero, Option.some.injEq] at hj
        rw [← hj]
        cases hd : D[(goUp ups D.length (ups[D.length]?.getD 0) ((D.length : Int) - 1)).toNat]? with
        | none => show 0 + 1 ≤ _; omega
        | some x =>
          have h1 := hs _ x hd
          have h2 := (List.getElem?_eq_some_iff.1 hd).1
          show x + 1 ≤ _
          omega
def kidsI (ups : List Int) (i : Nat) : List Nat := (List.range ups.length).filter fun k => decide (ups[k]? = some (i : Int))
theorem kidsI_eq (ups : List Int) (i : Nat) : kidsI ups i = kidsOf ups i := rfl
/-- The ups of a document that was read lie well. -/
theorem Fine.upsOk {b : XB} {D : List Nat} (h : Fine b D) : UpsOk (upsX b.elems) b.elems.length := by
  intro j hj
  rcases h.shape j hj with ⟨g1, g2, _⟩ | ⟨u, g1, g2, _⟩
  · exact .inl ⟨g1, g2⟩
  · exact .inr ⟨u, g2, g1⟩
theorem goUp_anc {ups : List Int} {n : Nat} (ho : UpsOk ups n) {i k : Nat} (h : Anc ups i k) : ∀ f, i < n → i ≤ f → goUp ups f (k : Int) (i : Int) = (k : Int) := by
  induction h with
  | refl i => intro f _ _; exact goUp_stop (by omega)
  | up i j k h1 h2 ih =>
    intro f hi hf
    have hb := upsOk_le ho hi h1
    by_cases hik : i = k
    · subst hik; exact goUp_stop (by omega)
    · cases f with
      | zero =>
        have : i = 0 := by omega
        omega
      | succ f =>
        rw [goUp_step ⟨by omega, by omega⟩]
        have : ups[((i : Nat) : Int).toNat]?.getD 0 = (j : Int) := by rw [Int.toNat_natCast, h1]; rfl
        rw [this]
        exact ih f (by omega) (by omega)
theorem Fine.depStep {b : XB} {D : List Nat} (h : Fine b D) {i : Nat} (hi : i < b.elems.length) : depStep (upsX b.elems) (D.take i) = some (D.take (i + 1)) := by
  have hlen : (D.take i).length = i := by rw [List.length_take, h.len]; omega
  have hoD := h.upsOk
  have hnext : D.take (i + 1) = D.take i ++ [D[i]?.getD 0] := by
    have hiD : i < D.length := by rw [h.len]; exact hi
    rw [List.take_add_one, List.getElem?_eq_getElem hiD]; rfl
  unfold Go.Proofs.Ytajnpmhgldfgfaa.depStep
  rcases h.shape i hi with ⟨g1, g2, g3⟩ | ⟨u, g1, g2, g3, d, g4, g5⟩
  · subst g1
    rw [if_pos (by simp), g2, hnext, g3]
    rfl
  · have hne : D.take i ≠ [] := fun e => by rw [e] at hlen; simp at hlen; omega
    rw [if_neg hne, hlen, g2]
    have e : (some (u : Int)).getD 0 = (u : Int) := rfl
    rw [e]
    have hga : goUp (upsX b.elems) i (u : Int) ((i : Int) - 1) = (u : Int) := by
      have := goUp_anc hoD g3 i (by omega) (by omega)
      rwa [show ((i - 1 : Nat) : Int) = (i : Int) - 1 from by omega] at this
    rw [hga, if_neg (by omega), hnext, Int.toNat_natCast]
    have e2 : (D.take i)[u]? = D[u]? := by rw [List.getElem?_take_of_lt g1]
    rw [e2, g4, g5]
    rfl
theorem Fine.depths {b : XB} {D : List Nat} (h : Fine b D) : depthsX (upsX b.elems) = some D := by
  have key : ∀ (k i : Nat), i + k = b.elems.length → depGo (upsX b.elems) k (D.take i) = some D := by
    intro k
    induction k with
    | zero => intro i hi; rw [depGo, List.take_of_length_le (by rw [h.len]; omega)]
    | succ k ih =>
      intro i hi
      rw [depGo, h.depStep (by omega)]
      exact ih (i + 1) (by omega)
  have := key b.elems.length 0 (by omega)
  unfold depthsX
  rw [upsX_len]
  simpa using this
end Go.Proofs.Ytajnpmhgldfgfaa
