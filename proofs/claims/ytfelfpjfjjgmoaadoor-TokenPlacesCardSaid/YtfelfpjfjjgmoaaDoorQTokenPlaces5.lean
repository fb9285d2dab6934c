/- Texts of this proof, one behind the other. -/
import Derived.Test.YtfelfpjfjjgmoaaDoorQTokenPlaces4
import Derived.Test.YtfelfpjfjjgmoaaDoorQTokenPlaces3
/- Tokens that token.Tokens tells, one behind the other ('Runs'): each begins where the one ahead ends; what is left there is valid, and its tokens are the rest. -/
section
set_option linter.unusedVariables false
namespace Go.Proofs.YtfelfpjfjjgmoaaDoor
open Go.RowKit Go.Proofs.YtfelfpjfjjgmoaaDoorW.PrintWords

/-- What is left at each token. -/
inductive Runs : List UInt8 → List (List UInt8) → Prop
  | nil : Runs [] []
  | cons {r : List UInt8} {rs : List (List UInt8)} : r ≠ [] → (nextF r).2.1 = true → (nextF r).1.f4.length ≤ 10 → Runs (nextF r).2.2 rs → Runs r (r :: rs)
/-- The token of what is left, in a text of n bytes. -/
def tokAt (n : Nat) (r : List UInt8) : TokT := ⟨(nextF r).1.f0, (n : Int) - r.length, (nextF r).1.f2, (nextF r).1.f3, (nextF r).1.f4, (nextF r).1.f5⟩
theorem tokL_ok (n : Nat) : ∀ (k : Nat) (l : List TokT) (r : List UInt8) (L : List TokT) (a : Int), r.length < k → tokL k n l r = (L, a, 0) → ∃ rs, Runs r rs ∧ L = l ++ rs.map (tokAt n) ∧ a = 0
  | 0, l, r, L, a, h, _ => absurd h (Nat.not_lt_zero _)
  | k + 1, l, r, L, a, h, e => by
    unfold tokL at e
    by_cases c : r = []
    · rw [if_pos c] at e
      simp only [Prod.mk.injEq] at e
      subst c
      exact ⟨[], .nil, by simp [e.1.symm], e.2.1.symm⟩
    rw [if_neg c] at e
    by_cases c1 : (nextF r).2.1 = false
    · rw [if_pos c1] at e
      simp only [Prod.mk.injEq] at e
      omega
    rw [if_neg c1] at e
    by_cases c2 : 10 < (nextF r).1.f4.length
    · rw [if_pos c2] at e
      simp only [Prod.mk.injEq] at e
      omega
    rw [if_neg c2] at e
    have hlt := nextF_lt r c
    obtain ⟨rs, h1, h2, h3⟩ := tokL_ok n k _ _ L a (by omega) e
    exact ⟨r :: rs, .cons c (by simpa using c1) (by omega) h1, by rw [h2]; simp [tokAt], h3⟩
theorem tokL_runs (n : Nat) : ∀ (k : Nat) (l : List TokT) (r : List UInt8) (rs : List (List UInt8)), r.length < k → Runs r rs → tokL k n l r = (l ++ rs.map (tokAt n), 0, 0)
  | 0, l, r, rs, h, _ => absurd h (Nat.not_lt_zero _)
  | k + 1, l, _, _, h, .nil => by simp [tokL]
  | k + 1, l, r, _, h, .cons (rs := rs) h1 h2 h3 h4 => by
    have hlt := nextF_lt r h1
    unfold tokL
    rw [if_neg h1, if_neg (by simp [h2]), if_neg (by omega), tokL_runs n k _ _ rs (by omega) h4]
    simp [tokAt]
theorem tokensF_ok (s : List UInt8) (L : List TokT) (a : Int) (h : tokensF s = (L, a, 0)) : s.length ≤ 20000 ∧ vs s = true ∧ a = 0 ∧ ∃ rs, Runs (isF prologB s).2 rs ∧ L = rs.map (tokAt s.length) := by
  unfold tokensF at h
  by_cases c1 : 20000 < s.length
  · rw [if_pos c1] at h
    simp only [Prod.mk.injEq] at h
    omega
  rw [if_neg c1] at h
  by_cases c2 : vs s = false
  · rw [if_pos c2] at h
    simp only [Prod.mk.injEq] at h
    omega
  rw [if_neg c2] at h
  have h1 := isF_le prologB s
  obtain ⟨rs, h3, h4, h5⟩ := tokL_ok s.length _ _ _ L a (by omega) h
  exact ⟨by omega, by simpa using c2, h5, rs, h3, by simpa using h4⟩
theorem tokensF_runs (s : List UInt8) (rs : List (List UInt8)) (h1 : s.length ≤ 20000) (h2 : vs s = true) (h3 : Runs (isF prologB s).2 rs) : tokensF s = (rs.map (tokAt s.length), 0, 0) := by
  have h4 := isF_le prologB s
  unfold tokensF
  rw [if_neg (by omega), if_neg (by simp [h2]), tokL_runs s.length _ _ _ rs (by omega) h3]
  simp

/-! ### what is left is a part of what was -/
theorem isF_suf (p l : List UInt8) : (isF p l).2 <:+ l := by
  unfold isF
  split
  · exact List.drop_suffix _ _
  · exact List.suffix_refl _
theorem skipB_suf (l : List UInt8) : skipB l <:+ l := List.dropWhile_suffix _
theorem nameF_suf (l : List UInt8) : (nameF l).2 <:+ l := by
  unfold nameF
  split
  · exact List.suffix_refl _
  · split
    · exact List.dropWhile_suffix _
    · exact List.suffix_refl _
theorem cutAt_suf (c : UInt8) (l : List UInt8) : (cutAt c l).2.1 <:+ l := by
  cases h : (cutAt c l).2.2 with
  | true => exact ⟨(cutAt c l).1 ++ [c], by rw [List.append_assoc]; exact (cutAt_join c l h).symm⟩
  | false => rw [cutAt_no c l h]; exact List.nil_suffix
theorem valueF_suf (l : List UInt8) : (valueF l).2.2 <:+ l := by
  unfold valueF
  split
  · exact List.suffix_refl _
  · split
    · exact (cutAt_suf 39 _).trans (List.suffix_cons _ _)
    · split
      · exact (cutAt_suf 34 _).trans (List.suffix_cons _ _)
      · exact List.suffix_refl _
theorem attrF_suf (l : List UInt8) : (attrF l).2.2.2 <:+ l := by
  have h1 := nameF_suf l
  have h2 := skipB_suf (nameF l).2
  unfold attrF
  split
  · exact h2.trans h1
  · split
    · exact (valueF_suf _).trans ((skipB_suf _).trans ((isF_suf _ _).trans (h2.trans h1)))
    · exact h2.trans h1
theorem openL_end : ∀ (k : Nat) (l : List AttrT) (r : List UInt8), (openL k l r).2.2.1 = true → (62 :: (openL k l r).2.2.2) <:+ r
  | 0, l, r, h => by simp [openL] at h
  | k + 1, l, r, h => by
    have h5 := openL_end k (l ++ [⟨bs (attrF (skipB r)).1, (attrF (skipB r)).2.1⟩]) (attrF (skipB r)).2.2.2
    unfold openL at h ⊢
    split at h
    · rename_i c
      rw [if_pos c]
      have := isF_yes _ _ c
      refine List.IsSuffix.trans ?_ (skipB_suf r)
      exact ⟨[47], this.symm⟩
    rename_i c
    rw [if_neg c]
    split at h
    · rename_i c
      rw [if_pos c]
      have := isF_yes _ _ c
      refine List.IsSuffix.trans ?_ (skipB_suf r)
      exact ⟨[], this.symm⟩
    rename_i c
    rw [if_neg c]
    split at h
    · cases h
    rename_i c
    rw [if_neg c]
    split at h
    · cases h
    rename_i c
    rw [if_neg c]
    split at h
    · cases h
    rename_i c
    rw [if_neg c]
    exact (h5 h).trans ((attrF_suf _).trans (skipB_suf r))
/-- A token ends behind '>', or ahead of '<', or at the end. -/
theorem next_end (r : List UInt8) (h : (nextF r).2.1 = true) : (62 :: (nextF r).2.2) <:+ r ∨ ((nextF r).2.2 <:+ r ∧ startsB (nextF r).2.2 = true) := by
  unfold nextF at h ⊢
  split at h
  · rename_i c
    rw [if_pos c]
    left
    unfold shutT at h ⊢
    simp only [] at h ⊢
    split at h
    · cases h
    · rename_i c1
      rw [if_neg c1]
      have := isF_yes _ _ h
      refine List.IsSuffix.trans ?_ ((skipB_suf _).trans ((nameF_suf _).trans (isF_suf [60, 47] r)))
      exact ⟨[], this.symm⟩
  rename_i c
  rw [if_neg c]
  split at h
  · rename_i c
    rw [if_pos c]
    left
    unfold openT at h ⊢
    split at h
    · cases h
    · rename_i c1
      rw [if_neg c1]
      exact (openL_end _ _ _ h).trans ((nameF_suf _).trans (isF_suf _ _))
  · rename_i c
    rw [if_neg c]
    right
    unfold textT
    simp only []
    split
    · rename_i c1
      refine ⟨?_, rfl⟩
      exact ⟨(cutAt 60 r).1, (cutAt_join 60 r c1).symm⟩
    · exact ⟨List.nil_suffix, rfl⟩
theorem next_suf (r : List UInt8) (h : (nextF r).2.1 = true) : (nextF r).2.2 <:+ r := by
  rcases next_end r h with h1 | h1
  · exact (List.suffix_cons _ _).trans h1
  · exact h1.1
theorem next_vs (r : List UInt8) (h : (nextF r).2.1 = true) (hv : vs r = true) : vs (nextF r).2.2 = true := by
  rcases next_end r h with ⟨c, h1⟩ | ⟨⟨c, h1⟩, h2⟩
  · rw [← h1, vs_behind c _ 62 (by decide)] at hv
    simp only [Bool.and_eq_true] at hv
    exact hv.2
  · rw [← h1, vs_app c _ h2] at hv
    simp only [Bool.and_eq_true] at hv
    exact hv.2
theorem prolog_vs (s : List UInt8) (hv : vs s = true) : vs (isF prologB s).2 = true := by
  cases h : (isF prologB s).1 with
  | true =>
    have h1 := isF_yes _ _ h
    rw [h1, show prologB ++ (isF prologB s).2 = (prologB.take 37) ++ 62 :: (isF prologB s).2 from rfl, vs_behind _ _ 62 (by decide)] at hv
    simp only [Bool.and_eq_true] at hv
    exact hv.2
  | false => rw [isF_no _ _ h]; exact hv
/-- Where a token begins the prolog does not stand. -/
theorem next_prolog (r : List UInt8) (h : (nextF r).2.1 = true) : (isF prologB r).2 = r := by
  cases hp : (isF prologB r).1 with
  | false => exact isF_no _ _ hp
  | true =>
    have h1 := isF_yes _ _ hp
    have h2 : ∃ t, r = 60 :: 63 :: t := ⟨_, h1⟩
    obtain ⟨t, rfl⟩ := h2
    have : (nextF (60 :: 63 :: t)).2.1 = false := by
      unfold nextF
      simp [isF, openT, nameF, firstL]
    rw [this] at h
    cases h
/-- Each token's rest: not empty, a part of the whole, valid; its tokens are the rest of all. -/
theorem runs_at {r : List UInt8} {rs : List (List UInt8)} (h : Runs r rs) (hv : vs r = true) : ∀ (i : Nat) (x : List UInt8), rs[i]? = some x → x ≠ [] ∧ x <:+ r ∧ vs x = true ∧ (nextF x).2.1 = true ∧ Runs x (rs.drop i) := by
  induction h with
  | nil => intro i x hx; simp at hx
  | @cons r rs h1 h2 h3 h4 ih =>
    intro i x hx
    cases i with
    | zero =>
      simp only [List.getElem?_cons_zero, Option.some.injEq] at hx
      subst hx
      exact ⟨h1, List.suffix_refl _, hv, h2, .cons h1 h2 h3 h4⟩
    | succ i =>
      obtain ⟨a, b, c, d, e⟩ := ih (next_vs r h2 hv) i x (by simpa using hx)
      exact ⟨a, b.trans (next_suf r h2), c, d, e⟩
theorem runs_len {r : List UInt8} {rs : List (List UInt8)} (h : Runs r rs) : rs.length ≤ r.length := by
  induction h with
  | nil => exact Nat.zero_le _
  | @cons r rs h1 h2 h3 h4 ih => have := nextF_lt r h1; simp only [List.length_cons]; omega
theorem tokL_err (n : Nat) : ∀ (k : Nat) (l : List TokT) (r : List UInt8) (L : List TokT) (a e : Int), tokL k n l r = (L, a, e) → e ≠ 0 → L = []
  | 0, l, r, L, a, e, h, he => by
    simp only [tokL, Prod.mk.injEq] at h
    exact h.1.symm
  | k + 1, l, r, L, a, e, h, he => by
    unfold tokL at h
    split at h
    · simp only [Prod.mk.injEq] at h
      exact absurd h.2.2.symm he
    split at h
    · simp only [Prod.mk.injEq] at h
      exact h.1.symm
    split at h
    · simp only [Prod.mk.injEq] at h
      exact h.1.symm
    exact tokL_err n k _ _ L a e h he
theorem tokensF_err (s : List UInt8) (L : List TokT) (a e : Int) (h : tokensF s = (L, a, e)) (he : e ≠ 0) : L = [] := by
  unfold tokensF at h
  split at h
  · simp only [Prod.mk.injEq] at h
    exact h.1.symm
  split at h
  · simp only [Prod.mk.injEq] at h
    exact h.1.symm
  exact tokL_err _ _ _ _ L a e h he
theorem runs_head {r : List UInt8} {rs : List (List UInt8)} (h : Runs r rs) {y : List UInt8} (hy : rs[0]? = some y) : y = r := by
  cases h with
  | nil => simp at hy
  | cons => simpa using hy.symm
theorem runs_less {r : List UInt8} {rs : List (List UInt8)} (h : Runs r rs) : ∀ (i : Nat) (x y : List UInt8), rs[i]? = some x → rs[i + 1]? = some y → y.length < x.length := by
  induction h with
  | nil => intro i x y hx; simp at hx
  | @cons r rs h1 h2 h3 h4 ih =>
    intro i x y hx hy
    cases i with
    | zero =>
      simp only [List.getElem?_cons_zero, Option.some.injEq] at hx
      subst hx
      have hy' : rs[0]? = some y := by simpa using hy
      rw [runs_head h4 hy']
      exact nextF_lt r h1
    | succ i => exact ih i x y (by simpa using hx) (by simpa using hy)
/-- A Text is what begins with no '<'. -/
theorem next_kind (r : List UInt8) (h : r ≠ []) : ((nextF r).1.f0 != 3) = (r.getD 0 0 == 60) := by
  cases r with
  | nil => exact absurd rfl h
  | cons c t =>
    unfold nextF
    by_cases hc : c = 60
    · subst hc
      by_cases h1 : (isF [60, 47] (60 :: t)).1 = true
      · rw [if_pos h1]
        rfl
      · rw [if_neg h1, if_pos (by simp [isF])]
        unfold openT
        split <;> rfl
    · rw [if_neg (by unfold isF; rw [if_neg]; simp; simp [hc]), if_neg (by unfold isF; rw [if_neg]; simp; simp [hc])]
      unfold textT
      simp [hc]
end Go.Proofs.YtfelfpjfjjgmoaaDoor
end
/- awake is true. -/
section
set_option linter.unusedVariables false
namespace Go.Proofs.YtfelfpjfjjgmoaaDoor
theorem awake_eq : P.cardexlaw08_awake.f = some true := by kernel_rfl
end Go.Proofs.YtfelfpjfjjgmoaaDoor
end
/- TokenPlaces, plain: each token begins where it is told to; what begins there is told as its tokens are. -/
section
set_option linter.unusedVariables false
namespace Go.Proofs.YtfelfpjfjjgmoaaDoor
open Go.RowKit Go.Proofs.YtfelfpjfjjgmoaaDoorW.PrintWords

theorem bt_bs (s : List UInt8) (i : Nat) (hi : i < s.length) : bt (bs s) (i : Int) = ((s.getD i 0).toNat : Int) := by
  unfold bt
  rw [Int.toNat_natCast, dif_pos (by rw [bs_size]; exact hi)]
  have : (bs s)[i]'(by rw [bs_size]; exact hi) = s.getD i 0 := by
    show (bs s).data[i]'_ = _
    simp [bs, List.getD, hi]
  rw [this]
theorem extract_bs (s : List UInt8) (i : Nat) : (bs s).extract i (bs s).size = bs (s.drop i) := by
  apply bs_eq
  rw [extract_list, bs_list, bs_size, List.take_of_length_le (by rw [List.length_drop]; omega)]
theorem getD_rows (n : Nat) (rs : List (List UInt8)) (i : Nat) (x : List UInt8) (h : rs[i]? = some x) : P.rd_T33 (rs.map (tokAt n)) (i : Int) = tokAt n x := by
  unfold P.rd_T33
  rw [Int.toNat_natCast, List.getD, List.getElem?_map, h]
  rfl
theorem places_loop (s : List UInt8) (hs : s.length ≤ 4000) (pre : List UInt8) (r : List UInt8) (hp : s = pre ++ r) (hv : vs r = true) (rs : List (List UInt8)) (hr : Runs r rs) : ∀ (d i : Nat), i + d = rs.length →
    P.cardexlaw08_TokenPlaces.l0 (2 * d + 1) (bs s) (rs.map (tokAt s.length)) (i : Int) = some true
  | 0, i, h => by
    unfold P.cardexlaw08_TokenPlaces.l0
    rw [if_neg (by rw [List.length_map]; omega), awake_eq]
    rfl
  | d + 1, i, h => by
    have ih := places_loop s hs pre r hp hv rs hr d (i + 1) (by omega)
    obtain ⟨x, hx⟩ : ∃ x, rs[i]? = some x := ⟨rs[i]'(by omega), List.getElem?_eq_getElem (by omega)⟩
    obtain ⟨hne, ⟨pre2, hsuf⟩, hvx, hok, hruns⟩ := runs_at hr hv i x hx
    have hxl : 0 < x.length := List.length_pos_iff.2 hne
    have hlen : s.length = (pre ++ pre2).length + x.length := by rw [hp, ← hsuf]; simp only [List.length_append]; omega
    have hdrop : s.drop (pre ++ pre2).length = x := by
      rw [hp, ← hsuf, ← List.append_assoc]
      exact List.drop_left
    have hget : s.getD (pre ++ pre2).length 0 = x.getD 0 0 := by
      rw [← hdrop]
      simp [List.getD]
    generalize pre ++ pre2 = q at hlen hdrop hget
    have hat : (s.length : Int) - x.length = (q.length : Nat) := by omega
    have hT := getD_rows s.length rs i x hx
    have h1 : (tokAt s.length x).f1 = ((q.length : Nat) : Int) := hat
    have hk := next_kind x hne
    have hw1 : wrap64 ((i : Int) + 1) = ((i + 1 : Nat) : Int) := by
      have hrl := runs_len hr
      have : r.length ≤ s.length := by rw [hp, List.length_append]; omega
      unfold wrap64; omega
    rw [show 2 * (d + 1) + 1 = (2 * d + 1) + 1 + 1 from by omega]
    have key : P.cardexlaw08_TokenPlaces.j1 (2 * d + 1 + 1) (bs s) (rs.map (tokAt s.length)) (i : Int) ((q.length : Nat) : Int) false = some true := by
      unfold P.cardexlaw08_TokenPlaces.j1
      have hf : tokensF x = ((rs.drop i).map (tokAt x.length), 0, 0) := tokensF_runs x _ (by omega) hvx (by rw [next_prolog x hok]; exact hruns)
      have hd : rs.drop i = x :: rs.drop (i + 1) := by
        rw [List.drop_eq_getElem_cons (by omega)]
        congr 1
        rw [List.getElem?_eq_getElem (by omega)] at hx
        exact Option.some.inj hx
      rw [if_neg (by decide), if_pos (by omega), if_pos (by rw [bs_size]; omega), Int.toNat_natCast, extract_bs, hdrop, tokens_eq, hf]
      simp only [Option.bind_some]
      rw [hd, hT]
      simp only [List.map_cons, List.length_cons, List.length_map]
      rw [if_neg (by omega), if_pos trivial, if_pos (by omega), if_pos (by omega), if_pos (by omega)]
      rw [show P.rd_T33 (tokAt x.length x :: (rs.drop (i + 1)).map (tokAt x.length)) 0 = tokAt x.length x from rfl]
      rw [if_pos (show (tokAt x.length x).f0 = (tokAt s.length x).f0 from rfl), if_pos (show (tokAt x.length x).f2.toList = (tokAt s.length x).f2.toList from rfl), if_pos (show (tokAt x.length x).f3.toList = (tokAt s.length x).f3.toList from rfl), if_pos (show (tokAt x.length x).f1 = 0 from Int.sub_self _), hw1]
      exact ih
    unfold P.cardexlaw08_TokenPlaces.l0
    rw [if_pos (by rw [List.length_map]; omega), if_pos (by omega), hT, h1]
    have hb : ((bt (bs s) ((q.length : Nat) : Int) == 60) != ((tokAt s.length x).f0 != 3)) = false := by
      rw [bt_bs s _ (by omega), hget]
      show ((_ : Bool) != ((nextF x).1.f0 != 3)) = false
      rw [hk]
      obtain ⟨c, hc⟩ : ∃ c, c = x.getD 0 0 := ⟨_, rfl⟩
      rw [← hc]
      rw [bne_eq_false_iff_eq, Bool.eq_iff_iff, beq_iff_eq, beq_iff_eq]
      constructor
      · intro h
        have h6 : c.toNat = 60 := by omega
        exact UInt8.toNat_inj.1 h6
      · intro h; rw [h]; rfl
    rw [if_neg (by omega), if_neg (by rw [bs_size]; omega)]
    by_cases hi : (i : Int) > 0
    · have hw2 : wrap64 ((i : Int) - 1) = ((i - 1 : Nat) : Int) := by
        have h5 := runs_len hr
        have : r.length ≤ s.length := by rw [hp, List.length_append]; omega
        unfold wrap64; omega
      obtain ⟨y, hy⟩ : ∃ y, rs[i - 1]? = some y := ⟨rs[i - 1]'(by omega), List.getElem?_eq_getElem (by omega)⟩
      have hlt := runs_less hr (i - 1) y x hy (by rw [show i - 1 + 1 = i from by omega]; exact hx)
      rw [if_pos hi, hw2, if_pos (by omega), if_pos (by rw [List.length_map]; omega), getD_rows s.length rs (i - 1) y hy]
      rw [if_neg (show ¬ ((q.length : Nat) : Int) ≤ (tokAt s.length y).f1 from by show ¬ _ ≤ (s.length : Int) - y.length; omega), if_pos (by omega), if_pos (by rw [bs_size]; omega), hb]
      exact key
    · rw [if_neg hi, if_pos (by omega), if_pos (by rw [bs_size]; omega), hb]
      exact key
theorem TokenPlaces_bs (s : List UInt8) : ∃ k, P.cardexlaw08_TokenPlaces.f k (bs s) = some true := by
  unfold P.cardexlaw08_TokenPlaces.f
  rw [bs_size, awake_eq]
  by_cases hs : (s.length : Int) > 4000
  · simp only [if_pos hs]
    exact ⟨0, rfl⟩
  · simp only [if_neg hs]
    rw [tokens_eq]
    simp only [Option.bind_some, if_true]
    obtain ⟨⟨L, a, e⟩, h⟩ : ∃ x, x = tokensF s := ⟨_, rfl⟩
    by_cases he : e = 0
    · subst he
      obtain ⟨h1, h2, h3, rs, h4, h5⟩ := tokensF_ok s L a h.symm
      refine ⟨2 * rs.length + 1, ?_⟩
      rw [← h]
      simp only [if_true]
      rw [h5]
      obtain ⟨pre, hp⟩ := isF_suf prologB s
      exact places_loop s (by omega) pre _ hp.symm (prolog_vs s h2) rs h4 rs.length 0 (by omega)
    · refine ⟨0, ?_⟩
      rw [← h]
      simp only [he, if_false]
      rw [tokensF_err s L a e h.symm he]
      rfl
theorem TokenPlaces_pure : P.cardexlaw08_TokenPlaces.Pure := by
  intro a0 _
  rw [← bs_of a0]
  exact TokenPlaces_bs _
end Go.Proofs.YtfelfpjfjjgmoaaDoor
end
