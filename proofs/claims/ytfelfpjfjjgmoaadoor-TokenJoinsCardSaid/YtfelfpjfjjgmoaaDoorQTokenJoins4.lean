/- Texts of this proof, one behind the other. -/
import Derived.Test.YtfelfpjfjjgmoaaDoorQTokenJoins3
/- TokenJoins, plain: behind '<q/>' tokens are read as if nothing were ahead; ahead of it, as if nothing followed. -/
section
set_option linter.unusedVariables false
set_option maxRecDepth 100000
namespace Go.Proofs.YtfelfpjfjjgmoaaDoor
open Go.RowKit Go.Proofs.YtfelfpjfjjgmoaaDoorW.PrintWords

theorem bs_app (a b : List UInt8) : bs a ++ bs b = bs (a ++ b) := by
  apply ByteArray.ext
  simp [bs]
def qL : List UInt8 := [60, 113, 47, 62]
def qT : TokT := ⟨1, 0, bs [113], ⟨#[]⟩, [], true⟩
theorem next_q : nextF qL = (qT, true, []) := by kernel_rfl
theorem next_qb (b : List UInt8) : nextF (qL ++ b) = (qT, true, b) := by
  have := (next_loc qL b (by rw [next_q]) (.inr (by rw [next_q]; decide))).1
  rw [this, next_q]
  rfl
/-- What is passed over does not reach into '<q/>'. -/
theorem eats_q (u t rest : List UInt8) (c : UInt8) (hu : u ≠ []) (h1 : u ++ qL = c :: t) (h2 : Eats t rest) : ∃ u', rest = u' ++ qL := by
  obtain ⟨d, hd, hno⟩ := h2
  cases u with
  | nil => exact absurd rfl hu
  | cons x u =>
    have h3 : u ++ qL = d ++ rest := by
      rw [← hd]
      simp only [List.cons_append, List.cons.injEq] at h1
      exact h1.2
    clear h1 hd hu
    induction d generalizing u with
    | nil => exact ⟨u, h3.symm⟩
    | cons y d ih =>
      cases u with
      | nil =>
        simp only [List.nil_append, qL, List.cons_append, List.cons.injEq] at h3
        exact absurd h3.1.symm (hno y (List.mem_cons_self ..))
      | cons z u =>
        simp only [List.cons_append, List.cons.injEq] at h3
        exact ih (fun x hx => hno x (List.mem_cons_of_mem _ hx)) u h3.2
theorem runs_join (b : List UInt8) (rsb : List (List UInt8)) (hb : Runs b rsb) : ∀ {r : List UInt8} {rs : List (List UInt8)}, Runs r rs → ∀ u, r = u ++ qL →
    ∃ rs0, rs = rs0 ++ [qL] ∧ Runs (r ++ b) (rs0.map (· ++ b) ++ (qL ++ b) :: rsb) ∧ ∀ x ∈ rs0, nextF (x ++ b) = ((nextF x).1, true, (nextF x).2.2 ++ b) := by
  intro r rs h
  induction h with
  | nil => intro u hu; have := congrArg List.length hu; rw [List.length_append] at this; simp [qL] at this
  | @cons r rs h1 h2 h3 h4 ih =>
    intro u hu
    by_cases he : u = []
    · subst he
      rw [List.nil_append] at hu
      subst hu
      rw [next_q] at h4
      simp only [] at h4
      have hnil : rs = [] := by
        generalize he : ([] : List UInt8) = e at h4
        cases h4 with
        | nil => rfl
        | cons g1 => exact absurd he.symm g1
      subst hnil
      refine ⟨[], rfl, ?_, by simp⟩
      exact .cons (by simp [qL]) (by rw [next_qb]) (by rw [next_qb]; simp [qT]) (by rw [next_qb]; exact hb)
    · have hne : (nextF r).2.2 ≠ [] ∨ (nextF r).1.f0 ≠ 3 := by
        by_cases hk : (nextF r).1.f0 = 3
        · left
          intro e
          have hk2 := next_kind r h1
          rw [hk] at hk2
          have hr60 : ¬ r.getD 0 0 = 60 := by
            intro e2
            rw [e2] at hk2
            revert hk2
            decide
          have hm1 : ¬ (isF [60, 47] r).1 = true := by
            intro hx
            have := isF_yes _ _ hx
            rw [this] at hr60
            exact hr60 rfl
          have hm2 : ¬ (isF [60] r).1 = true := by
            intro hx
            have := isF_yes _ _ hx
            rw [this] at hr60
            exact hr60 rfl
          unfold nextF at e
          rw [if_neg hm1, if_neg hm2] at e
          unfold textT at e
          simp only [] at e
          have hin : (cutAt 60 r).2.2 = true := by
            rw [hu]
            clear hm1 hm2 hr60 hk2 hk e ih h4 h3 h2 h1 he hu
            induction u with
            | nil => rfl
            | cons x u ih =>
              rw [List.cons_append]
              unfold cutAt
              split
              · rfl
              · exact ih
          rw [if_pos hin] at e
          cases e
        · exact .inr hk
      obtain ⟨hl, c, t, hr, heat⟩ := next_loc r b h2 hne
      obtain ⟨u', hu'⟩ := eats_q u t _ c he (hu.symm.trans hr) heat
      obtain ⟨rs0, e1, e2, e3⟩ := ih u' hu'
      refine ⟨r :: rs0, by rw [e1]; rfl, ?_, ?_⟩
      · rw [List.map_cons, List.cons_append]
        exact .cons (by simp [h1]) (by rw [hl]) (by rw [hl]; exact h3) (by rw [hl]; exact e2)
      · intro x hx
        rcases List.mem_cons.1 hx with rfl | hx
        · exact hl
        · exact e3 x hx
theorem prolog_fin : ∀ n : Fin 38, 0 < n.val → prologB.getD n.val 0 ≠ 60 := by decide
theorem prolog_no (n : Nat) (h0 : 0 < n) (h : n < 38) : prologB.getD n 0 ≠ 60 := prolog_fin ⟨n, h⟩ h0
/-- A token that stands so many bytes later. -/
def laterT (n : Nat) (t : TokT) : TokT := ⟨t.f0, t.f1 + (n : Int), t.f2, t.f3, t.f4, t.f5⟩
def atZero (t : TokT) : TokT := ⟨t.f0, 0, t.f2, t.f3, t.f4, t.f5⟩
theorem isF_len (p l : List UInt8) (h : (isF p l).1 = true) : p.length ≤ l.length := by
  have := congrArg List.length (isF_yes p l h)
  rw [List.length_append] at this
  omega
/-- The prolog does not reach into '<q/>'. -/
theorem prolog_q (a b : List UInt8) : ∃ u, (isF prologB (a ++ qL)).2 = u ++ qL ∧ (isF prologB (a ++ (qL ++ b))).2 = u ++ (qL ++ b) := by
  have key : ∀ X : List UInt8, (isF prologB (a ++ (qL ++ X))).1 = true → 38 ≤ a.length := by
    intro X h
    have hy := isF_yes _ _ h
    have hlen := isF_len _ _ h
    by_cases hl : 38 ≤ a.length
    · exact hl
    · exfalso
      have e : (a ++ (qL ++ X)).getD a.length 0 = 60 := by simp [List.getD, qL]
      have e1 : (a ++ (qL ++ X)).getD (a.length + 1) 0 = 113 := by simp [List.getD, qL]
      rw [hy] at e e1
      rw [show (prologB ++ (isF prologB (a ++ (qL ++ X))).2).getD a.length 0 = prologB.getD a.length 0 from by
        simp [List.getD, List.getElem?_append_left (show a.length < prologB.length from by show a.length < 38; omega)]] at e
      by_cases h0 : a.length = 0
      · rw [h0] at e1
        rw [show (prologB ++ (isF prologB (a ++ (qL ++ X))).2).getD (0 + 1) 0 = 63 from rfl] at e1
        revert e1; decide
      · exact prolog_no a.length (by omega) (by omega) e
  by_cases h : 38 ≤ a.length ∧ a.take 38 = prologB
  · have ha : a = prologB ++ a.drop 38 := by conv => lhs; rw [← List.take_append_drop 38 a, h.2]
    refine ⟨a.drop 38, ?_, ?_⟩
    · conv => lhs; rw [ha, List.append_assoc]
      unfold isF; rw [if_pos (by simp)]; simp
    · conv => lhs; rw [ha, List.append_assoc]
      unfold isF; rw [if_pos (by simp)]; simp
  · have no : ∀ X, (isF prologB (a ++ (qL ++ X))).1 = false := by
      intro X
      cases hx : (isF prologB (a ++ (qL ++ X))).1 with
      | false => rfl
      | true =>
        exfalso
        have hl := key X hx
        apply h
        refine ⟨hl, ?_⟩
        have hy := isF_yes _ _ hx
        have := congrArg (List.take 38) hy
        rw [List.take_append_of_le_length hl] at this
        rw [this]
        rfl
    refine ⟨a, ?_, isF_no _ _ (no b)⟩
    have := no []
    rw [List.append_nil] at this
    exact isF_no _ _ this
theorem vs_qb (a b : List UInt8) (h1 : vs (a ++ qL) = true) (h2 : vs (qL ++ b) = true) : vs (a ++ (qL ++ b)) = true := by
  rw [vs_app a (qL ++ b) rfl, h2, Bool.and_true]
  rw [vs_app a qL rfl, Bool.and_eq_true] at h1
  exact h1.1
/-- The tokens of both, one behind the other. -/
theorem join_tok (a b : List UInt8) (ha : a.length ≤ 1500) (hb : b.length ≤ 1500) (X Y : List TokT) (i j : Int) (hX : tokensF (a ++ qL) = (X, i, 0)) (hY : tokensF (qL ++ b) = (Y, j, 0)) :
    ∃ Z, tokensF (a ++ (qL ++ b)) = (Z, 0, 0) ∧ 1 ≤ X.length ∧ 1 ≤ Y.length ∧ Z = X.take (X.length - 1) ++ Y.map (laterT a.length) ∧
      (∃ t, X = X.take (X.length - 1) ++ [t] ∧ Y.head? = some (atZero t) ∧ t.f1 = (a.length : Int)) ∧ (∀ t ∈ X ++ Y, t.f4.length ≤ 10 ∧ 0 ≤ t.f1 ∧ t.f1 ≤ 4000) ∧ X.length ≤ 4000 ∧ Y.length ≤ 4000 := by
  obtain ⟨hx1, hx2, rfl, rsx, hx3, hx4⟩ := tokensF_ok _ _ _ hX
  obtain ⟨hy1, hy2, rfl, rsy, hy3, hy4⟩ := tokensF_ok _ _ _ hY
  obtain ⟨u, hu1, hu2⟩ := prolog_q a b
  obtain ⟨v, hv1, hv2⟩ := prolog_q [] b
  rw [List.nil_append] at hv1 hv2
  have hv : v = [] := by
    have : (isF prologB qL).2 = qL := by kernel_rfl
    rw [this] at hv1
    have h2 := congrArg List.length hv1
    rw [List.length_append] at h2
    exact List.length_eq_zero_iff.1 (by omega)
  subst hv
  rw [List.nil_append] at hv2
  rw [hv2] at hy3
  rw [hu1] at hx3
  obtain ⟨rsb, hrsb, hrb⟩ : ∃ rsb, rsy = (qL ++ b) :: rsb ∧ Runs b rsb := by
    generalize hq : qL ++ b = q at hy3
    cases hy3 with
    | nil => simp [qL] at hq
    | cons g1 g2 g3 g4 =>
      subst hq
      rw [next_qb] at g4
      exact ⟨_, rfl, g4⟩
  obtain ⟨rs0, e1, e2, e3⟩ := runs_join b rsb hrb hx3 u rfl
  rw [List.append_assoc] at e2
  have hz := tokensF_runs (a ++ (qL ++ b)) _ (by simp only [List.length_append, qL, List.length_cons, List.length_nil]; omega) (vs_qb a b hx2 hy2) (by rw [hu2]; exact e2)
  have hql : qL.length = 4 := rfl
  have hlx : (a ++ qL).length = a.length + 4 := by rw [List.length_append, hql]
  have hly : (qL ++ b).length = 4 + b.length := by rw [List.length_append, hql]
  have hlz : (a ++ (qL ++ b)).length = a.length + 4 + b.length := by rw [List.length_append, hly]; omega
  have hXd : X.take (X.length - 1) = rs0.map (tokAt (a ++ qL).length) := by
    rw [hx4, e1, List.map_append, List.length_append, List.map_cons, List.map_nil, List.length_cons, List.length_nil, Nat.zero_add, Nat.add_sub_cancel, List.take_left']
    rfl
  have tq : tokAt (a ++ qL).length qL = ⟨1, (a.length : Int), bs [113], ⟨#[]⟩, [], true⟩ := by
    unfold tokAt
    rw [next_q, hlx, hql]
    simp only [qT, TokT, P.S33.mk.injEq, true_and, and_true]
    omega
  have tqb : tokAt (qL ++ b).length (qL ++ b) = qT := by
    unfold tokAt
    rw [next_qb]
    simp only [qT, Int.sub_self]
  have rx := fun x (hx : x ∈ rsx) => runs_suf hx3 x hx
  have ry := fun x (hx : x ∈ rsy) => runs_suf hy3 x hx
  have z1 : ∀ x ∈ rs0, tokAt (a ++ (qL ++ b)).length (x ++ b) = tokAt (a ++ qL).length x := by
    intro x hx
    have h3 := e3 x hx
    unfold tokAt
    rw [h3, hlz, hlx, List.length_append]
    simp only [TokT, P.S33.mk.injEq, true_and, and_true]
    omega
  have z2 : ∀ x, tokAt (a ++ (qL ++ b)).length x = laterT a.length (tokAt (qL ++ b).length x) := by
    intro x
    unfold tokAt laterT
    rw [hlz, hly]
    simp only [TokT, P.S33.mk.injEq, true_and, and_true]
    omega
  have hZ : (rs0.map (· ++ b) ++ (qL ++ b) :: rsb).map (tokAt (a ++ (qL ++ b)).length) = X.take (X.length - 1) ++ Y.map (laterT a.length) := by
    refine (List.map_append).trans ?_
    refine congr (congrArg _ ?_) ?_
    · refine (List.map_map).trans (Eq.trans (List.map_congr_left ?_) hXd.symm)
      exact fun x hx => z1 x hx
    · refine Eq.trans (List.map_congr_left (fun x _ => z2 x)) ?_
      rw [hy4, hrsb, List.map_map]
      rfl
  refine ⟨_, hz, by rw [hx4, e1]; simp, by rw [hy4, hrsb]; simp, hZ, ?_, ?_, ?_, ?_⟩
  · refine ⟨tokAt (a ++ qL).length qL, ?_, ?_, ?_⟩
    · rw [hXd, hx4, e1, List.map_append, List.map_cons, List.map_nil]
    · rw [hy4, hrsb, List.map_cons, tqb, tq, List.head?_cons]
      rfl
    · rw [tq]
  · intro t ht
    rcases List.mem_append.1 ht with ht | ht
    · rw [hx4] at ht
      obtain ⟨x, hx, rfl⟩ := List.mem_map.1 ht
      obtain ⟨g1, g2⟩ := rx x hx
      have hl1 : (u ++ qL).length ≤ (a ++ qL).length := by rw [← hu1]; exact isF_le _ _
      have := g1.length_le
      exact ⟨g2, by show 0 ≤ ((a ++ qL).length : Int) - x.length; omega, by show ((a ++ qL).length : Int) - x.length ≤ 4000; omega⟩
    · rw [hy4] at ht
      obtain ⟨x, hx, rfl⟩ := List.mem_map.1 ht
      obtain ⟨g1, g2⟩ := ry x hx
      have := g1.length_le
      exact ⟨g2, by show 0 ≤ ((qL ++ b).length : Int) - x.length; omega, by show ((qL ++ b).length : Int) - x.length ≤ 4000; omega⟩
  · rw [hx4, List.length_map]
    have h1 := runs_len hx3
    have hl1 : (u ++ qL).length ≤ (a ++ qL).length := by rw [← hu1]; exact isF_le _ _
    omega
  · rw [hy4, List.length_map]
    have h1 := runs_len hy3
    omega
theorem attrsEq_self (l : List AttrT) : attrsEqB l l = true := by
  unfold attrsEqB
  rw [decide_eq_true rfl, Bool.true_and, List.all_eq_true]
  intro x hx
  obtain ⟨i, hi, rfl⟩ := List.getElem_of_mem hx
  rw [List.getElem_zipWith]
  simp [attrEqB]
theorem toksEq_self (l : List TokT) : toksEqB l l = true := by
  unfold toksEqB
  rw [decide_eq_true rfl, Bool.true_and, List.all_eq_true]
  intro x hx
  obtain ⟨i, hi, rfl⟩ := List.getElem_of_mem hx
  rw [List.getElem_zipWith]
  simp [tokEqB, attrsEq_self]
theorem same_self (l : List TokT) (n : Int) (h1 : l.length ≤ 100000) (h2 : ∀ t ∈ l, t.f4.length ≤ 10) : G_SameTok.f l l n = some true := by
  unfold G_SameTok.f
  rw [if_pos (by omega), if_pos (by rw [List.all_eq_true]; intro t ht; have := h2 t ht; exact decide_eq_true (by omega)), toksEq_self]
def midL (n : Nat) (Y : List TokT) (i : Nat) : List TokT := (Y.take i).map (laterT n) ++ Y.drop i
theorem mid_len (n : Nat) (Y : List TokT) (i : Nat) : (midL n Y i).length = Y.length := by
  unfold midL
  rw [List.length_append, List.length_map, List.length_take, List.length_drop]
  omega
theorem mid_at (n : Nat) (Y : List TokT) (i : Nat) (t : TokT) (h : Y[i]? = some t) : P.rd_T33 (midL n Y i) (i : Int) = t := by
  have hi : i < Y.length := (List.getElem?_eq_some_iff.1 h).1
  unfold P.rd_T33 midL
  rw [Int.toNat_natCast, List.getD, List.getElem?_append_right (by rw [List.length_map, List.length_take]; omega), List.length_map, List.length_take, Nat.min_eq_left (by omega), Nat.sub_self, List.getElem?_drop, Nat.add_zero, h]
  rfl
theorem mid_set (n : Nat) (Y : List TokT) (i : Nat) (t : TokT) (h : Y[i]? = some t) : (midL n Y i).set i (laterT n t) = midL n Y (i + 1) := by
  have hi : i < Y.length := (List.getElem?_eq_some_iff.1 h).1
  have hd : Y.drop i = t :: Y.drop (i + 1) := by
    rw [List.drop_eq_getElem_cons hi]
    congr 1
    rw [List.getElem?_eq_getElem hi] at h
    exact Option.some.inj h
  unfold midL
  rw [List.set_append_right _ _ (by rw [List.length_map, List.length_take]; omega), List.length_map, List.length_take, Nat.min_eq_left (by omega), Nat.sub_self, hd, List.set_cons_zero]
  rw [List.take_succ_eq_append_getElem hi, List.map_append, List.append_assoc]
  rw [List.getElem?_eq_getElem hi] at h
  rw [Option.some.inj h]
  rfl
theorem joins_loop (a : List UInt8) (ha : a.length ≤ 1500) (X Y Z : List TokT) (hY : ∀ t ∈ Y, 0 ≤ t.f1 ∧ t.f1 ≤ 4000) (hl : Y.length ≤ 4000)
    (hend : P.cardexlaw08_TokenJoins.l0 1 (bs a) X (Y.map (laterT a.length)) Z (Y.length : Int) = some true) : ∀ (d i : Nat), i + d = Y.length → P.cardexlaw08_TokenJoins.l0 (d + 1) (bs a) X (midL a.length Y i) Z (i : Int) = some true
  | 0, i, h => by
    obtain rfl : i = Y.length := by omega
    rw [show midL a.length Y Y.length = Y.map (laterT a.length) from by unfold midL; rw [List.take_length, List.drop_length, List.append_nil]]
    exact hend
  | d + 1, i, h => by
    have ih := joins_loop a ha X Y Z hY hl hend d (i + 1) (by omega)
    have hi : i < Y.length := by omega
    obtain ⟨t, ht⟩ : ∃ t, Y[i]? = some t := ⟨Y[i], List.getElem?_eq_getElem hi⟩
    have hm : t ∈ Y := List.mem_of_getElem? ht
    have hb := hY t hm
    have h1 := mid_at a.length Y i t ht
    have h2 := mid_set a.length Y i t ht
    rw [P.cardexlaw08_TokenJoins.l0, mid_len, if_pos (by omega), if_pos (by omega), h1, Int.toNat_natCast, bs_size]
    rw [show wrap64 (t.f1 + (a.length : Int)) = t.f1 + (a.length : Int) from by unfold wrap64; omega]
    rw [show wrap64 ((i : Int) + 1) = ((i + 1 : Nat) : Int) from by unfold wrap64; omega]
    rw [show (⟨t.f0, t.f1 + (a.length : Int), t.f2, t.f3, t.f4, t.f5⟩ : TokT) = laterT a.length t from rfl, h2]
    exact ih
theorem joins_end (a : List UInt8) (X Y Z : List TokT) (hX1 : 1 ≤ X.length) (hX : X.length ≤ 4000) (hYl : Y.length ≤ 4000) (hall : ∀ t ∈ X ++ Y, t.f4.length ≤ 10) (hZ : Z = X.take (X.length - 1) ++ Y.map (laterT a.length))
    (t : TokT) (h1 : X = X.take (X.length - 1) ++ [t]) (h2 : Y.head? = some (atZero t)) (h3 : t.f1 = (a.length : Int)) : P.cardexlaw08_TokenJoins.l0 1 (bs a) X (Y.map (laterT a.length)) Z (Y.length : Int) = some true := by
  have hzl : Z.length = X.length - 1 + Y.length := by rw [hZ, List.length_append, List.length_map, List.length_take]; omega
  have hy1 : 1 ≤ Y.length := by
    cases Y with
    | nil => cases h2
    | cons => simp
  have htake : Z.take X.length = X := by
    have hy : ∃ Y', Y = atZero t :: Y' := by
      cases Y with
      | nil => cases h2
      | cons y Y' => injection h2 with h2; exact ⟨Y', by rw [h2]⟩
    obtain ⟨Y', hy⟩ := hy
    have hlt : laterT a.length (atZero t) = t := by
      unfold laterT atZero
      simp only [Int.zero_add]
      rw [← h3]
    rw [hZ, hy, List.map_cons, hlt]
    have e : X.take (X.length - 1) ++ t :: Y'.map (laterT a.length) = X ++ Y'.map (laterT a.length) := by
      conv => rhs; rw [h1]
      simp
    rw [e, List.take_left']
    rfl
  have hdrop : Z.drop (X.length - 1) = Y.map (laterT a.length) := by
    rw [hZ, List.drop_left']
    rw [List.length_take]; omega
  rw [P.cardexlaw08_TokenJoins.l0, List.length_map, if_neg (by omega), awake_eq]
  simp only [Option.bind_some, if_true]
  rw [if_pos (by omega), if_pos (by omega), Int.toNat_natCast, htake, same_self X _ (by omega) (fun t ht => hall t (List.mem_append_left _ ht))]
  simp only [Option.bind_some, if_true]
  rw [show wrap64 ((X.length : Int) - 1) = ((X.length - 1 : Nat) : Int) from by unfold wrap64; omega, if_pos (by omega), if_pos (by omega), Int.toNat_natCast, hdrop]
  rw [same_self (Y.map (laterT a.length)) _ (by rw [List.length_map]; omega) (fun u hu => by
    obtain ⟨y, hy, rfl⟩ := List.mem_map.1 hu
    exact hall y (List.mem_append_right _ hy))]
  rfl
theorem TokenJoins_bs (a b : List UInt8) : ∃ k, P.cardexlaw08_TokenJoins.f k (bs a) (bs b) = some true := by
  unfold P.cardexlaw08_TokenJoins.f
  have haw : ∀ k, P.cardexlaw08_TokenJoins.j0 (k + 1) (bs a) (bs b) true = some true := fun k => by
    rw [P.cardexlaw08_TokenJoins.j0, if_pos rfl, awake_eq]; rfl
  by_cases ha : a.length ≤ 1500
  rotate_left
  · exact ⟨1, by rw [bs_size, if_pos (by omega)]; exact haw 0⟩
  by_cases hb : b.length ≤ 1500
  rotate_left
  · exact ⟨1, by rw [bs_size, bs_size, if_neg (by omega), decide_eq_true (by omega)]; exact haw 0⟩
  refine ⟨b.length + 5000, ?_⟩
  rw [bs_size, bs_size, if_neg (by omega), decide_eq_false (by omega)]
  rw [show b.length + 5000 = (b.length + 4999) + 1 from rfl, P.cardexlaw08_TokenJoins.j0, if_neg (by decide), if_pos (by rw [bs_size]; omega)]
  rw [show (⟨#[60, 113, 47, 62]⟩ : ByteArray) = bs qL from rfl, bs_app, bs_app, bs_app, tokens_eq, tokens_eq, tokens_eq]
  simp only [Option.bind_some, bs_size]
  rw [if_pos (by omega), if_pos (by rw [List.length_append]; simp only [qL, List.length_cons, List.length_nil]; omega)]
  rw [List.append_assoc]
  have hj1 : ∀ k X Y Z e, P.cardexlaw08_TokenJoins.j1 (k + 1) (bs a) X Y Z e true = some true := fun k X Y Z e => by
    rw [P.cardexlaw08_TokenJoins.j1, if_pos rfl, awake_eq]; rfl
  obtain ⟨⟨X, i, e⟩, hX⟩ : ∃ x, tokensF (a ++ qL) = x := ⟨_, rfl⟩
  obtain ⟨⟨Y, j, f⟩, hY⟩ : ∃ x, tokensF (qL ++ b) = x := ⟨_, rfl⟩
  rw [hX, hY]
  simp only []
  by_cases he : e = 0
  rotate_left
  · rw [if_neg he]; exact hj1 _ _ _ _ _
  rw [if_pos he]
  by_cases hf : f = 0
  rotate_left
  · rw [show (f != 0) = true from by simpa using hf]; exact hj1 _ _ _ _ _
  subst he hf
  obtain ⟨Z, hZ, hx1, hy1, hZe, ⟨t, h1, h2, h3⟩, hall, hxl, hyl⟩ := join_tok a b ha hb X Y i j hX hY
  rw [hZ]
  have hzl : Z.length = X.length - 1 + Y.length := by rw [hZe, List.length_append, List.length_map, List.length_take]; omega
  rw [show ((0 : Int) != 0) = false from rfl, show b.length + 4999 = (b.length + 4998) + 1 from rfl, P.cardexlaw08_TokenJoins.j1, if_neg (by decide), if_pos rfl, if_neg (by omega), if_neg (by omega)]
  rw [show wrap64 ((X.length : Int) + (Y.length : Int)) = ((X.length + Y.length : Nat) : Int) from by unfold wrap64; omega]
  rw [show wrap64 (((X.length + Y.length : Nat) : Int) - 1) = ((X.length + Y.length - 1 : Nat) : Int) from by unfold wrap64; omega]
  rw [show ((Z.length : Int) != ((X.length + Y.length - 1 : Nat) : Int)) = false from by rw [bne_eq_false_iff_eq]; omega]
  rw [show b.length + 4998 = (b.length + 4997) + 1 from rfl, P.cardexlaw08_TokenJoins.j2, if_neg (by decide)]
  have hend := joins_end a X Y Z hx1 hxl hyl (fun t ht => (hall t ht).1) hZe t h1 h2 h3
  have hloop := joins_loop a ha X Y Z (fun t ht => (hall t (List.mem_append_right _ ht)).2) hyl hend Y.length 0 (by omega)
  rw [show midL a.length Y 0 = Y from by simp [midL]] at hloop
  have hmono : ∀ k, LeO (P.cardexlaw08_TokenJoins.l0 k (bs a) X Y Z 0) (P.cardexlaw08_TokenJoins.l0 (k + 1) (bs a) X Y Z 0) := fun k => (P.cardexlaw08_TokenJoins.mono_l k).2.2.2 _ _ _ _ _
  have lift : ∀ (d k : Nat), P.cardexlaw08_TokenJoins.l0 k (bs a) X Y Z 0 = some true → P.cardexlaw08_TokenJoins.l0 (k + d) (bs a) X Y Z 0 = some true := by
    intro d
    induction d with
    | zero => exact fun k h => h
    | succ d ih => exact fun k h => hmono (k + d) true (ih k h)
  have := lift (b.length + 4997 - (Y.length + 1)) (Y.length + 1) hloop
  rw [show Y.length + 1 + (b.length + 4997 - (Y.length + 1)) = b.length + 4997 from by omega] at this
  exact this
theorem TokenJoins_pure : P.cardexlaw08_TokenJoins.Pure := by
  intro a0 a1 _ _
  rw [← bs_of a0, ← bs_of a1]
  exact TokenJoins_bs _ _
end Go.Proofs.YtfelfpjfjjgmoaaDoor
end
