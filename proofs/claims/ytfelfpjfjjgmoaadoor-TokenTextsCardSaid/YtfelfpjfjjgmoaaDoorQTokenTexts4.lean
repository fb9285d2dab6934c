/- Texts of this proof, one behind the other. -/
import Derived.Test.YtfelfpjfjjgmoaaDoorQTokenTexts1
import Derived.Test.YtfelfpjfjjgmoaaDoorQTokenTexts3
import Derived.Test.YtfelfpjfjjgmoaaDoorQTokenTexts2
import Derived.Lib.TrimUEq
import Derived.Lib.TrimAscii
import Derived.Lib.MapLaws
import Derived.Laws.BitsAllLaws
/- Lean functions for functions of the program, and that the Go code comes to their answers, where the library's variables are as Gd says. Written by a turned copy of the kit's print; Lean checks it. -/
section
namespace Go.Proofs.YtfelfpjfjjgmoaaDoor.P
open Go.RowKit Go.Proofs.YtfelfpjfjjgmoaaDoorW.PrintWords Go.Proofs.YtfelfpjfjjgmoaaDoorW.PrintLast Go.Proofs.YtfelfpjfjjgmoaaDoorW.PrintMore
attribute [local go_sem] max2_int min2_int max_two min_two max_three min_three max_four min_four   -- for this text's walks alone
set_option linter.unusedVariables false
set_option linter.unusedSimpArgs false

/-! ### cardexlaw08_TokenTexts: function 3 -/
def cardexlaw08_TokenTexts.j0 : Nat → ByteArray → Int → Bool → Option (Bool)
  | 0, _, _, _ => none
  | k + 1, x0, x1, x17 => if x17 = true then ((cardexlaw08_awake.f).bind fun t331 => (some t331)) else ((some (([(⟨#[32]⟩ : ByteArray), (⟨#[9, 10]⟩ : ByteArray), (⟨#[32, 32]⟩ : ByteArray), (⟨#[13, 32]⟩ : ByteArray)] : List ByteArray) : List ByteArray)).bind fun y332 => (if 0 ≤ (wrap64 (Int.tmod (IntKind.u64.wrap (x1)) 4)) then (if (wrap64 (Int.tmod (IntKind.u64.wrap (x1)) 4)) < (y332.length : Int) then ((cardexref01_Escape.f k x0).bind fun t336 => (if 2 + (rdOf ByteArray.empty y332 (wrap64 (Int.tmod (IntKind.u64.wrap (x1)) 4))).size ≤ 9223372036854775807 then (if ((⟨#[60, 97]⟩ : ByteArray) ++ (rdOf ByteArray.empty y332 (wrap64 (Int.tmod (IntKind.u64.wrap (x1)) 4)))).size + 1 ≤ 9223372036854775807 then (if (((⟨#[60, 97]⟩ : ByteArray) ++ (rdOf ByteArray.empty y332 (wrap64 (Int.tmod (IntKind.u64.wrap (x1)) 4)))) ++ (⟨#[98]⟩ : ByteArray)).size + (rdOf ByteArray.empty y332 (wrap64 (Int.tmod (IntKind.u64.wrap (x1)) 4))).size ≤ 9223372036854775807 then (if ((((⟨#[60, 97]⟩ : ByteArray) ++ (rdOf ByteArray.empty y332 (wrap64 (Int.tmod (IntKind.u64.wrap (x1)) 4)))) ++ (⟨#[98]⟩ : ByteArray)) ++ (rdOf ByteArray.empty y332 (wrap64 (Int.tmod (IntKind.u64.wrap (x1)) 4)))).size + 1 ≤ 9223372036854775807 then (if (((((⟨#[60, 97]⟩ : ByteArray) ++ (rdOf ByteArray.empty y332 (wrap64 (Int.tmod (IntKind.u64.wrap (x1)) 4)))) ++ (⟨#[98]⟩ : ByteArray)) ++ (rdOf ByteArray.empty y332 (wrap64 (Int.tmod (IntKind.u64.wrap (x1)) 4)))) ++ (⟨#[61]⟩ : ByteArray)).size + (rdOf ByteArray.empty y332 (wrap64 (Int.tmod (IntKind.u64.wrap (x1)) 4))).size ≤ 9223372036854775807 then (if ((((((⟨#[60, 97]⟩ : ByteArray) ++ (rdOf ByteArray.empty y332 (wrap64 (Int.tmod (IntKind.u64.wrap (x1)) 4)))) ++ (⟨#[98]⟩ : ByteArray)) ++ (rdOf ByteArray.empty y332 (wrap64 (Int.tmod (IntKind.u64.wrap (x1)) 4)))) ++ (⟨#[61]⟩ : ByteArray)) ++ (rdOf ByteArray.empty y332 (wrap64 (Int.tmod (IntKind.u64.wrap (x1)) 4)))).size + 1 ≤ 9223372036854775807 then (if (((((((⟨#[60, 97]⟩ : ByteArray) ++ (rdOf ByteArray.empty y332 (wrap64 (Int.tmod (IntKind.u64.wrap (x1)) 4)))) ++ (⟨#[98]⟩ : ByteArray)) ++ (rdOf ByteArray.empty y332 (wrap64 (Int.tmod (IntKind.u64.wrap (x1)) 4)))) ++ (⟨#[61]⟩ : ByteArray)) ++ (rdOf ByteArray.empty y332 (wrap64 (Int.tmod (IntKind.u64.wrap (x1)) 4)))) ++ (⟨#[39]⟩ : ByteArray)).size + t336.size ≤ 9223372036854775807 then (if ((((((((⟨#[60, 97]⟩ : ByteArray) ++ (rdOf ByteArray.empty y332 (wrap64 (Int.tmod (IntKind.u64.wrap (x1)) 4)))) ++ (⟨#[98]⟩ : ByteArray)) ++ (rdOf ByteArray.empty y332 (wrap64 (Int.tmod (IntKind.u64.wrap (x1)) 4)))) ++ (⟨#[61]⟩ : ByteArray)) ++ (rdOf ByteArray.empty y332 (wrap64 (Int.tmod (IntKind.u64.wrap (x1)) 4)))) ++ (⟨#[39]⟩ : ByteArray)) ++ t336).size + 1 ≤ 9223372036854775807 then (if (((((((((⟨#[60, 97]⟩ : ByteArray) ++ (rdOf ByteArray.empty y332 (wrap64 (Int.tmod (IntKind.u64.wrap (x1)) 4)))) ++ (⟨#[98]⟩ : ByteArray)) ++ (rdOf ByteArray.empty y332 (wrap64 (Int.tmod (IntKind.u64.wrap (x1)) 4)))) ++ (⟨#[61]⟩ : ByteArray)) ++ (rdOf ByteArray.empty y332 (wrap64 (Int.tmod (IntKind.u64.wrap (x1)) 4)))) ++ (⟨#[39]⟩ : ByteArray)) ++ t336) ++ (⟨#[39]⟩ : ByteArray)).size + (rdOf ByteArray.empty y332 (wrap64 (Int.tmod (IntKind.u64.wrap (x1)) 4))).size ≤ 9223372036854775807 then (if ((((((((((⟨#[60, 97]⟩ : ByteArray) ++ (rdOf ByteArray.empty y332 (wrap64 (Int.tmod (IntKind.u64.wrap (x1)) 4)))) ++ (⟨#[98]⟩ : ByteArray)) ++ (rdOf ByteArray.empty y332 (wrap64 (Int.tmod (IntKind.u64.wrap (x1)) 4)))) ++ (⟨#[61]⟩ : ByteArray)) ++ (rdOf ByteArray.empty y332 (wrap64 (Int.tmod (IntKind.u64.wrap (x1)) 4)))) ++ (⟨#[39]⟩ : ByteArray)) ++ t336) ++ (⟨#[39]⟩ : ByteArray)) ++ (rdOf ByteArray.empty y332 (wrap64 (Int.tmod (IntKind.u64.wrap (x1)) 4)))).size + 1 ≤ 9223372036854775807 then (if (((((((((((⟨#[60, 97]⟩ : ByteArray) ++ (rdOf ByteArray.empty y332 (wrap64 (Int.tmod (IntKind.u64.wrap (x1)) 4)))) ++ (⟨#[98]⟩ : ByteArray)) ++ (rdOf ByteArray.empty y332 (wrap64 (Int.tmod (IntKind.u64.wrap (x1)) 4)))) ++ (⟨#[61]⟩ : ByteArray)) ++ (rdOf ByteArray.empty y332 (wrap64 (Int.tmod (IntKind.u64.wrap (x1)) 4)))) ++ (⟨#[39]⟩ : ByteArray)) ++ t336) ++ (⟨#[39]⟩ : ByteArray)) ++ (rdOf ByteArray.empty y332 (wrap64 (Int.tmod (IntKind.u64.wrap (x1)) 4)))) ++ (⟨#[62]⟩ : ByteArray)).size + t336.size ≤ 9223372036854775807 then (if ((((((((((((⟨#[60, 97]⟩ : ByteArray) ++ (rdOf ByteArray.empty y332 (wrap64 (Int.tmod (IntKind.u64.wrap (x1)) 4)))) ++ (⟨#[98]⟩ : ByteArray)) ++ (rdOf ByteArray.empty y332 (wrap64 (Int.tmod (IntKind.u64.wrap (x1)) 4)))) ++ (⟨#[61]⟩ : ByteArray)) ++ (rdOf ByteArray.empty y332 (wrap64 (Int.tmod (IntKind.u64.wrap (x1)) 4)))) ++ (⟨#[39]⟩ : ByteArray)) ++ t336) ++ (⟨#[39]⟩ : ByteArray)) ++ (rdOf ByteArray.empty y332 (wrap64 (Int.tmod (IntKind.u64.wrap (x1)) 4)))) ++ (⟨#[62]⟩ : ByteArray)) ++ t336).size + 3 ≤ 9223372036854775807 then (if (((((((((((((⟨#[60, 97]⟩ : ByteArray) ++ (rdOf ByteArray.empty y332 (wrap64 (Int.tmod (IntKind.u64.wrap (x1)) 4)))) ++ (⟨#[98]⟩ : ByteArray)) ++ (rdOf ByteArray.empty y332 (wrap64 (Int.tmod (IntKind.u64.wrap (x1)) 4)))) ++ (⟨#[61]⟩ : ByteArray)) ++ (rdOf ByteArray.empty y332 (wrap64 (Int.tmod (IntKind.u64.wrap (x1)) 4)))) ++ (⟨#[39]⟩ : ByteArray)) ++ t336) ++ (⟨#[39]⟩ : ByteArray)) ++ (rdOf ByteArray.empty y332 (wrap64 (Int.tmod (IntKind.u64.wrap (x1)) 4)))) ++ (⟨#[62]⟩ : ByteArray)) ++ t336) ++ (⟨#[60, 47, 97]⟩ : ByteArray)).size + (rdOf ByteArray.empty y332 (wrap64 (Int.tmod (IntKind.u64.wrap (x1)) 4))).size ≤ 9223372036854775807 then (if ((((((((((((((⟨#[60, 97]⟩ : ByteArray) ++ (rdOf ByteArray.empty y332 (wrap64 (Int.tmod (IntKind.u64.wrap (x1)) 4)))) ++ (⟨#[98]⟩ : ByteArray)) ++ (rdOf ByteArray.empty y332 (wrap64 (Int.tmod (IntKind.u64.wrap (x1)) 4)))) ++ (⟨#[61]⟩ : ByteArray)) ++ (rdOf ByteArray.empty y332 (wrap64 (Int.tmod (IntKind.u64.wrap (x1)) 4)))) ++ (⟨#[39]⟩ : ByteArray)) ++ t336) ++ (⟨#[39]⟩ : ByteArray)) ++ (rdOf ByteArray.empty y332 (wrap64 (Int.tmod (IntKind.u64.wrap (x1)) 4)))) ++ (⟨#[62]⟩ : ByteArray)) ++ t336) ++ (⟨#[60, 47, 97]⟩ : ByteArray)) ++ (rdOf ByteArray.empty y332 (wrap64 (Int.tmod (IntKind.u64.wrap (x1)) 4)))).size + 1 ≤ 9223372036854775807 then ((G_Tokens.f (((((((((((((((⟨#[60, 97]⟩ : ByteArray) ++ (rdOf ByteArray.empty y332 (wrap64 (Int.tmod (IntKind.u64.wrap (x1)) 4)))) ++ (⟨#[98]⟩ : ByteArray)) ++ (rdOf ByteArray.empty y332 (wrap64 (Int.tmod (IntKind.u64.wrap (x1)) 4)))) ++ (⟨#[61]⟩ : ByteArray)) ++ (rdOf ByteArray.empty y332 (wrap64 (Int.tmod (IntKind.u64.wrap (x1)) 4)))) ++ (⟨#[39]⟩ : ByteArray)) ++ t336) ++ (⟨#[39]⟩ : ByteArray)) ++ (rdOf ByteArray.empty y332 (wrap64 (Int.tmod (IntKind.u64.wrap (x1)) 4)))) ++ (⟨#[62]⟩ : ByteArray)) ++ t336) ++ (⟨#[60, 47, 97]⟩ : ByteArray)) ++ (rdOf ByteArray.empty y332 (wrap64 (Int.tmod (IntKind.u64.wrap (x1)) 4)))) ++ (⟨#[62]⟩ : ByteArray))).bind fun bt337 => ((cardexlaw08_awake.f).bind fun t342 => (if t342 = true then (if bt337.2.2 = 0 then (if (bt337.1.length : Int) < 2 then (some false) else (if 0 < (bt337.1.length : Int) then (if (((rd_T33 bt337.1 0).f4).length : Int) = 1 then (if 0 < (((rd_T33 bt337.1 0).f4).length : Int) then (if ((rd_T35 ((rd_T33 bt337.1 0).f4) 0).f1).toList = x0.toList then (if (rd_T33 bt337.1 0).f5 = true then (some false) else (if x0.toList = ([] : List UInt8) then (if (bt337.1.length : Int) = 2 then (some true) else (if (bt337.1.length : Int) = 3 then (if 1 < (bt337.1.length : Int) then (some (((rd_T33 bt337.1 1).f3).toList == x0.toList)) else (none)) else (some false))) else (if (bt337.1.length : Int) = 3 then (if 1 < (bt337.1.length : Int) then (some (((rd_T33 bt337.1 1).f3).toList == x0.toList)) else (none)) else (some false)))) else (some false)) else (none)) else (some false)) else (none))) else (some false)) else (some false)))) else (none)) else (none)) else (none)) else (none)) else (none)) else (none)) else (none)) else (none)) else (none)) else (none)) else (none)) else (none)) else (none)) else (none))) else (none)) else (none)))
def cardexlaw08_TokenTexts.f (k : Nat) (a0 : ByteArray) (a1 : Int) : Option (Bool) := if (a0.size : Int) > 500 then (cardexlaw08_TokenTexts.j0 k a0 a1 true) else ((cardexref01_Valid.f k a0).bind fun t330 => (cardexlaw08_TokenTexts.j0 k a0 a1 (!t330)))
theorem cardexlaw08_TokenTexts.mono_l : ∀ k, (∀ y0 y1 y2, LeO (cardexlaw08_TokenTexts.j0 k y0 y1 y2) (cardexlaw08_TokenTexts.j0 (k + 1) y0 y1 y2))
  | 0 => fun _ _ _ r h => by simp [cardexlaw08_TokenTexts.j0] at h
  | k + 1 => by
    have ih0 := cardexlaw08_TokenTexts.mono_l k
    · intro y0 y1 y2
      unfold cardexlaw08_TokenTexts.j0
      repeat' first
      | (with_reducible exact ih0 _ _ _)
      | (with_reducible exact cardexref01_Escape.mono _ _)
      | (with_reducible exact cardexref01_Valid.mono _ _)
      | (with_reducible exact LeO.refl _)
      | (with_reducible exact LeO.none _)
      | (with_reducible refine LeO.ite ?_ ?_)
      | (with_reducible refine LeO.bind ?_ (fun _ => ?_))
      | exact ih0 _ _ _
      | exact cardexref01_Escape.mono _ _
      | exact cardexref01_Valid.mono _ _
      | exact LeO.none _
      | refine LeO.ite ?_ ?_
      | refine LeO.bind ?_ (fun _ => ?_)
theorem cardexlaw08_TokenTexts.mono : ∀ a0 a1 k, LeO (cardexlaw08_TokenTexts.f k a0 a1) (cardexlaw08_TokenTexts.f (k + 1) a0 a1) := by
  intro a0 a1 k
  have ih0 := cardexlaw08_TokenTexts.mono_l k
  unfold cardexlaw08_TokenTexts.f
  repeat' first
      | (with_reducible exact ih0 _ _ _)
      | (with_reducible exact cardexref01_Escape.mono _ _)
      | (with_reducible exact cardexref01_Valid.mono _ _)
      | (with_reducible exact LeO.refl _)
      | (with_reducible exact LeO.none _)
      | (with_reducible refine LeO.ite ?_ ?_)
      | (with_reducible refine LeO.bind ?_ (fun _ => ?_))
      | exact ih0 _ _ _
      | exact cardexref01_Escape.mono _ _
      | exact cardexref01_Valid.mono _ _
      | exact LeO.none _
      | refine LeO.ite ?_ ?_
      | refine LeO.bind ?_ (fun _ => ?_)
theorem add_event {P : Program} {ops : Array Oper} {rest : List Oper} {o : Oper} {a : Act} {Q : Exit → Act → World → Prop} {W : World} (hgd : o.guard = none) {N : Tmp} (_hd : o.dst = some N) {x y : ByteArray}
    (hrun : (execOp a.eval o).run P W = .ok (.value (.string (x ++ y))) W) (h : ∀ s, s = x ++ y → wpList P ops Q rest (a.put o.dst (.string s)) W) : wpList P ops Q (o :: rest) a W := Kd.event_run hgd hrun (h _ rfl)
set_option maxHeartbeats 8000000 in
set_option maxRecDepth 100000 in
theorem cardexlaw08_TokenTexts.calls (k : Nat) (a0 : ByteArray) (a1 : Int) (w : World) (hG_ : Gd w) (h : cardexlaw08_TokenTexts.f k a0 a1 = some true) :
    Calls Tryd.prog 3 #[.string a0, .int .i64 a1] w fun e w' => e = .returned (.bool true) ∧ Below w.heap.size w w' := by
  have HB := Aside0.mk (Below.refl w.heap.size w)
  have HG := Aside0.mk hG_
  clear hG_
  have H : (if (a0.size : Int) > 500 then (cardexlaw08_TokenTexts.j0 k a0 a1 true) else ((cardexref01_Valid.f k a0).bind fun t330 => (cardexlaw08_TokenTexts.j0 k a0 a1 (!t330)))) = some true := h
  clear h
  have HC3 := Aside0.mk H
  clear H
  go_enter Tryd.func3, Tryd.ntmps3
  go_upto_region 1 with (fail)
  go_cut [17] (fun v17 wc => ∃ (kq : Nat) (x17_2 : Bool), v17 = .bool x17_2 ∧ Aside0 (cardexlaw08_TokenTexts.j0 kq a0 a1 x17_2 = some true) ∧ Aside0 (kq ≤ k) ∧ Aside0 (Below w.heap.size w wc))
  case first =>
    have H := HC3.out
    clear HC3
    by_cases c4 : (a0.size : Int) > 500
    · rw [if_pos c4] at H
      have c4b0 : decide (500 < (a0.size : Int)) = true := decide_eq_true c4
      have c4b1 : decide (500 < a0.size) = true := decide_eq_true (by omega)
      clear c4
      (first | rw [c4b0] | (simp only [i64_w, i32_w]; rw [c4b0]) | skip)
      have H' := Aside0.mk H
      clear H
      go_wp2
      go_meet
      case rel => exact ⟨_, (true), (by first | rfl | (simp; done) | (simp [*]; done)), H', ⟨by first | omega | exact Nat.le_refl _⟩, ⟨by repeat (first | (with_reducible first | exact HB.out | apply below_alloc | apply pw_below_drewN | apply below_drew1) | exact HB.out)⟩⟩
    · rw [if_neg c4] at H
      have c4b0 : decide (500 < (a0.size : Int)) = false := decide_eq_false c4
      have c4b1 : decide (500 < a0.size) = false := decide_eq_false (by omega)
      clear c4
      (first | rw [c4b0] | (simp only [i64_w, i32_w]; rw [c4b0]) | skip)
      replace H := Option.bind_eq_some_iff.mp H
      obtain ⟨t330, A50, H⟩ := H
      replace H : (cardexlaw08_TokenTexts.j0 k a0 a1 (!t330)) = some true := H
      have A5 := Aside0.mk A50
      clear A50
      have H' := Aside0.mk H
      clear H
      go_wp2_with (first | (go_at_call 7; (with_reducible refine (cardexref01_Valid.calls k a0 t330 _ ?side1 A5.out).mono ?_); (case side1 => first | exact HG.out | exact Gd.drewN HG.out _ | exact Gd.drew HG.out | exact Gd.below HG.out (by repeat (first | (with_reducible first | exact HB.out | apply below_alloc | apply pw_below_drewN | apply below_drew1) | exact HB.out))); rintro e w' ⟨rfl, ⟨nd, rfl⟩⟩))
      go_meet
      case rel => exact ⟨_, (!t330), (by first | rfl | (simp; done) | (simp [*]; done)), H', ⟨by first | omega | exact Nat.le_refl _⟩, ⟨by repeat (first | (with_reducible first | exact HB.out | apply below_alloc | apply pw_below_drewN | apply below_drew1) | exact HB.out)⟩⟩
  case rest =>
    clear HC3
    try clear p2
    try clear c3
    try clear c4
    try clear c4b0
    try clear c4b1
    obtain ⟨kq, x17_2, rfl, HA, HJ2, HB⟩ := hcut
    cases kq with
    | zero => exact absurd HA.out (by simp [cardexlaw08_TokenTexts.j0])
    | succ kj2 =>
      have H := HA.out
      clear HA
      simp only [cardexlaw08_TokenTexts.j0] at H
      by_cases c6 : x17_2 = true
      · subst c6
        have H1 : ((cardexlaw08_awake.f).bind fun t331 => (some t331)) = some true := by rw [if_pos rfl] at H; exact H
        clear H
        have H := H1
        clear H1
        replace H := Option.bind_eq_some_iff.mp H
        obtain ⟨t331, A70, H⟩ := H
        replace H : (some t331) = some true := H
        have A7 := Aside0.mk A70
        clear A70
        first
          | (simp at H; done)
          | skip
            have hr_ := Option.some.inj H
            clear H
            go_wp2_with (first | ((with_reducible refine gate_callee (f := 8) rfl ?_); refine goesL_ (some 18) rfl rfl Tryd.func8 (by kernel_rfl) rfl #[] rfl (by (try simp only [List.map_toArray, List.map_cons, List.map_nil]); first | done | rfl | (simp only [List.length_drop, List.length_take]; rfl)) ?_; (with_reducible refine (cardexlaw08_awake.calls  t331 _ ?side1 A7.out).mono ?_); (case side1 => first | exact HG.out | exact Gd.drewN HG.out _ | exact Gd.drew HG.out | exact Gd.below HG.out (by repeat (first | (with_reducible first | exact HB.out | apply below_alloc | apply pw_below_drewN | apply below_drew1) | exact HB.out))); rintro e w8 ⟨rfl, hb⟩; refine ⟨_, rfl, ?_⟩; have n0_ := Aside0.mk (below_step (by repeat (first | (with_reducible first | exact HB.out | apply below_alloc | apply pw_below_drewN | apply below_drew1) | exact HB.out)) hb); clear HB; have HB := n0_; clear n0_; (try clear hb); (try clear hb2); (try clear hk); (try clear hi)))
            go_ret
            exact ⟨by first | rfl | (simp [errW_none, errW_some] <;> rfl) | (simp [*, errW_none, errW_some] <;> rfl), by repeat (first | (with_reducible first | exact HB.out | apply below_alloc | apply pw_below_drewN | apply below_drew1) | exact HB.out)⟩
      · replace c6 := Bool.eq_false_iff.mpr c6
        subst c6
        have H1 : ((some (([(⟨#[32]⟩ : ByteArray), (⟨#[9, 10]⟩ : ByteArray), (⟨#[32, 32]⟩ : ByteArray), (⟨#[13, 32]⟩ : ByteArray)] : List ByteArray) : List ByteArray)).bind fun y332 => (if 0 ≤ (wrap64 (Int.tmod (IntKind.u64.wrap (a1)) 4)) then (if (wrap64 (Int.tmod (IntKind.u64.wrap (a1)) 4)) < (y332.length : Int) then ((cardexref01_Escape.f kj2 a0).bind fun t336 => (if 2 + (rdOf ByteArray.empty y332 (wrap64 (Int.tmod (IntKind.u64.wrap (a1)) 4))).size ≤ 9223372036854775807 then (if ((⟨#[60, 97]⟩ : ByteArray) ++ (rdOf ByteArray.empty y332 (wrap64 (Int.tmod (IntKind.u64.wrap (a1)) 4)))).size + 1 ≤ 9223372036854775807 then (if (((⟨#[60, 97]⟩ : ByteArray) ++ (rdOf ByteArray.empty y332 (wrap64 (Int.tmod (IntKind.u64.wrap (a1)) 4)))) ++ (⟨#[98]⟩ : ByteArray)).size + (rdOf ByteArray.empty y332 (wrap64 (Int.tmod (IntKind.u64.wrap (a1)) 4))).size ≤ 9223372036854775807 then (if ((((⟨#[60, 97]⟩ : ByteArray) ++ (rdOf ByteArray.empty y332 (wrap64 (Int.tmod (IntKind.u64.wrap (a1)) 4)))) ++ (⟨#[98]⟩ : ByteArray)) ++ (rdOf ByteArray.empty y332 (wrap64 (Int.tmod (IntKind.u64.wrap (a1)) 4)))).size + 1 ≤ 9223372036854775807 then (if (((((⟨#[60, 97]⟩ : ByteArray) ++ (rdOf ByteArray.empty y332 (wrap64 (Int.tmod (IntKind.u64.wrap (a1)) 4)))) ++ (⟨#[98]⟩ : ByteArray)) ++ (rdOf ByteArray.empty y332 (wrap64 (Int.tmod (IntKind.u64.wrap (a1)) 4)))) ++ (⟨#[61]⟩ : ByteArray)).size + (rdOf ByteArray.empty y332 (wrap64 (Int.tmod (IntKind.u64.wrap (a1)) 4))).size ≤ 9223372036854775807 then (if ((((((⟨#[60, 97]⟩ : ByteArray) ++ (rdOf ByteArray.empty y332 (wrap64 (Int.tmod (IntKind.u64.wrap (a1)) 4)))) ++ (⟨#[98]⟩ : ByteArray)) ++ (rdOf ByteArray.empty y332 (wrap64 (Int.tmod (IntKind.u64.wrap (a1)) 4)))) ++ (⟨#[61]⟩ : ByteArray)) ++ (rdOf ByteArray.empty y332 (wrap64 (Int.tmod (IntKind.u64.wrap (a1)) 4)))).size + 1 ≤ 9223372036854775807 then (if (((((((⟨#[60, 97]⟩ : ByteArray) ++ (rdOf ByteArray.empty y332 (wrap64 (Int.tmod (IntKind.u64.wrap (a1)) 4)))) ++ (⟨#[98]⟩ : ByteArray)) ++ (rdOf ByteArray.empty y332 (wrap64 (Int.tmod (IntKind.u64.wrap (a1)) 4)))) ++ (⟨#[61]⟩ : ByteArray)) ++ (rdOf ByteArray.empty y332 (wrap64 (Int.tmod (IntKind.u64.wrap (a1)) 4)))) ++ (⟨#[39]⟩ : ByteArray)).size + t336.size ≤ 9223372036854775807 then (if ((((((((⟨#[60, 97]⟩ : ByteArray) ++ (rdOf ByteArray.empty y332 (wrap64 (Int.tmod (IntKind.u64.wrap (a1)) 4)))) ++ (⟨#[98]⟩ : ByteArray)) ++ (rdOf ByteArray.empty y332 (wrap64 (Int.tmod (IntKind.u64.wrap (a1)) 4)))) ++ (⟨#[61]⟩ : ByteArray)) ++ (rdOf ByteArray.empty y332 (wrap64 (Int.tmod (IntKind.u64.wrap (a1)) 4)))) ++ (⟨#[39]⟩ : ByteArray)) ++ t336).size + 1 ≤ 9223372036854775807 then (if (((((((((⟨#[60, 97]⟩ : ByteArray) ++ (rdOf ByteArray.empty y332 (wrap64 (Int.tmod (IntKind.u64.wrap (a1)) 4)))) ++ (⟨#[98]⟩ : ByteArray)) ++ (rdOf ByteArray.empty y332 (wrap64 (Int.tmod (IntKind.u64.wrap (a1)) 4)))) ++ (⟨#[61]⟩ : ByteArray)) ++ (rdOf ByteArray.empty y332 (wrap64 (Int.tmod (IntKind.u64.wrap (a1)) 4)))) ++ (⟨#[39]⟩ : ByteArray)) ++ t336) ++ (⟨#[39]⟩ : ByteArray)).size + (rdOf ByteArray.empty y332 (wrap64 (Int.tmod (IntKind.u64.wrap (a1)) 4))).size ≤ 9223372036854775807 then (if ((((((((((⟨#[60, 97]⟩ : ByteArray) ++ (rdOf ByteArray.empty y332 (wrap64 (Int.tmod (IntKind.u64.wrap (a1)) 4)))) ++ (⟨#[98]⟩ : ByteArray)) ++ (rdOf ByteArray.empty y332 (wrap64 (Int.tmod (IntKind.u64.wrap (a1)) 4)))) ++ (⟨#[61]⟩ : ByteArray)) ++ (rdOf ByteArray.empty y332 (wrap64 (Int.tmod (IntKind.u64.wrap (a1)) 4)))) ++ (⟨#[39]⟩ : ByteArray)) ++ t336) ++ (⟨#[39]⟩ : ByteArray)) ++ (rdOf ByteArray.empty y332 (wrap64 (Int.tmod (IntKind.u64.wrap (a1)) 4)))).size + 1 ≤ 9223372036854775807 then (if (((((((((((⟨#[60, 97]⟩ : ByteArray) ++ (rdOf ByteArray.empty y332 (wrap64 (Int.tmod (IntKind.u64.wrap (a1)) 4)))) ++ (⟨#[98]⟩ : ByteArray)) ++ (rdOf ByteArray.empty y332 (wrap64 (Int.tmod (IntKind.u64.wrap (a1)) 4)))) ++ (⟨#[61]⟩ : ByteArray)) ++ (rdOf ByteArray.empty y332 (wrap64 (Int.tmod (IntKind.u64.wrap (a1)) 4)))) ++ (⟨#[39]⟩ : ByteArray)) ++ t336) ++ (⟨#[39]⟩ : ByteArray)) ++ (rdOf ByteArray.empty y332 (wrap64 (Int.tmod (IntKind.u64.wrap (a1)) 4)))) ++ (⟨#[62]⟩ : ByteArray)).size + t336.size ≤ 9223372036854775807 then (if ((((((((((((⟨#[60, 97]⟩ : ByteArray) ++ (rdOf ByteArray.empty y332 (wrap64 (Int.tmod (IntKind.u64.wrap (a1)) 4)))) ++ (⟨#[98]⟩ : ByteArray)) ++ (rdOf ByteArray.empty y332 (wrap64 (Int.tmod (IntKind.u64.wrap (a1)) 4)))) ++ (⟨#[61]⟩ : ByteArray)) ++ (rdOf ByteArray.empty y332 (wrap64 (Int.tmod (IntKind.u64.wrap (a1)) 4)))) ++ (⟨#[39]⟩ : ByteArray)) ++ t336) ++ (⟨#[39]⟩ : ByteArray)) ++ (rdOf ByteArray.empty y332 (wrap64 (Int.tmod (IntKind.u64.wrap (a1)) 4)))) ++ (⟨#[62]⟩ : ByteArray)) ++ t336).size + 3 ≤ 9223372036854775807 then (if (((((((((((((⟨#[60, 97]⟩ : ByteArray) ++ (rdOf ByteArray.empty y332 (wrap64 (Int.tmod (IntKind.u64.wrap (a1)) 4)))) ++ (⟨#[98]⟩ : ByteArray)) ++ (rdOf ByteArray.empty y332 (wrap64 (Int.tmod (IntKind.u64.wrap (a1)) 4)))) ++ (⟨#[61]⟩ : ByteArray)) ++ (rdOf ByteArray.empty y332 (wrap64 (Int.tmod (IntKind.u64.wrap (a1)) 4)))) ++ (⟨#[39]⟩ : ByteArray)) ++ t336) ++ (⟨#[39]⟩ : ByteArray)) ++ (rdOf ByteArray.empty y332 (wrap64 (Int.tmod (IntKind.u64.wrap (a1)) 4)))) ++ (⟨#[62]⟩ : ByteArray)) ++ t336) ++ (⟨#[60, 47, 97]⟩ : ByteArray)).size + (rdOf ByteArray.empty y332 (wrap64 (Int.tmod (IntKind.u64.wrap (a1)) 4))).size ≤ 9223372036854775807 then (if ((((((((((((((⟨#[60, 97]⟩ : ByteArray) ++ (rdOf ByteArray.empty y332 (wrap64 (Int.tmod (IntKind.u64.wrap (a1)) 4)))) ++ (⟨#[98]⟩ : ByteArray)) ++ (rdOf ByteArray.empty y332 (wrap64 (Int.tmod (IntKind.u64.wrap (a1)) 4)))) ++ (⟨#[61]⟩ : ByteArray)) ++ (rdOf ByteArray.empty y332 (wrap64 (Int.tmod (IntKind.u64.wrap (a1)) 4)))) ++ (⟨#[39]⟩ : ByteArray)) ++ t336) ++ (⟨#[39]⟩ : ByteArray)) ++ (rdOf ByteArray.empty y332 (wrap64 (Int.tmod (IntKind.u64.wrap (a1)) 4)))) ++ (⟨#[62]⟩ : ByteArray)) ++ t336) ++ (⟨#[60, 47, 97]⟩ : ByteArray)) ++ (rdOf ByteArray.empty y332 (wrap64 (Int.tmod (IntKind.u64.wrap (a1)) 4)))).size + 1 ≤ 9223372036854775807 then ((G_Tokens.f (((((((((((((((⟨#[60, 97]⟩ : ByteArray) ++ (rdOf ByteArray.empty y332 (wrap64 (Int.tmod (IntKind.u64.wrap (a1)) 4)))) ++ (⟨#[98]⟩ : ByteArray)) ++ (rdOf ByteArray.empty y332 (wrap64 (Int.tmod (IntKind.u64.wrap (a1)) 4)))) ++ (⟨#[61]⟩ : ByteArray)) ++ (rdOf ByteArray.empty y332 (wrap64 (Int.tmod (IntKind.u64.wrap (a1)) 4)))) ++ (⟨#[39]⟩ : ByteArray)) ++ t336) ++ (⟨#[39]⟩ : ByteArray)) ++ (rdOf ByteArray.empty y332 (wrap64 (Int.tmod (IntKind.u64.wrap (a1)) 4)))) ++ (⟨#[62]⟩ : ByteArray)) ++ t336) ++ (⟨#[60, 47, 97]⟩ : ByteArray)) ++ (rdOf ByteArray.empty y332 (wrap64 (Int.tmod (IntKind.u64.wrap (a1)) 4)))) ++ (⟨#[62]⟩ : ByteArray))).bind fun bt337 => ((cardexlaw08_awake.f).bind fun t342 => (if t342 = true then (if bt337.2.2 = 0 then (if (bt337.1.length : Int) < 2 then (some false) else (if 0 < (bt337.1.length : Int) then (if (((rd_T33 bt337.1 0).f4).length : Int) = 1 then (if 0 < (((rd_T33 bt337.1 0).f4).length : Int) then (if ((rd_T35 ((rd_T33 bt337.1 0).f4) 0).f1).toList = a0.toList then (if (rd_T33 bt337.1 0).f5 = true then (some false) else (if a0.toList = ([] : List UInt8) then (if (bt337.1.length : Int) = 2 then (some true) else (if (bt337.1.length : Int) = 3 then (if 1 < (bt337.1.length : Int) then (some (((rd_T33 bt337.1 1).f3).toList == a0.toList)) else (none)) else (some false))) else (if (bt337.1.length : Int) = 3 then (if 1 < (bt337.1.length : Int) then (some (((rd_T33 bt337.1 1).f3).toList == a0.toList)) else (none)) else (some false)))) else (some false)) else (none)) else (some false)) else (none))) else (some false)) else (some false)))) else (none)) else (none)) else (none)) else (none)) else (none)) else (none)) else (none)) else (none)) else (none)) else (none)) else (none)) else (none)) else (none)) else (none))) else (none)) else (none))) = some true := by rw [if_neg (show ¬ (false = true) by decide)] at H; exact H
        clear H
        have H := H1
        clear H1
        obtain ⟨y332, hy332⟩ : ∃ y_ : List ByteArray, y_ = (([(⟨#[32]⟩ : ByteArray), (⟨#[9, 10]⟩ : ByteArray), (⟨#[32, 32]⟩ : ByteArray), (⟨#[13, 32]⟩ : ByteArray)] : List ByteArray)) := ⟨_, rfl⟩
        replace H : (if 0 ≤ (wrap64 (Int.tmod (IntKind.u64.wrap (a1)) 4)) then (if (wrap64 (Int.tmod (IntKind.u64.wrap (a1)) 4)) < (y332.length : Int) then ((cardexref01_Escape.f kj2 a0).bind fun t336 => (if 2 + (rdOf ByteArray.empty y332 (wrap64 (Int.tmod (IntKind.u64.wrap (a1)) 4))).size ≤ 9223372036854775807 then (if ((⟨#[60, 97]⟩ : ByteArray) ++ (rdOf ByteArray.empty y332 (wrap64 (Int.tmod (IntKind.u64.wrap (a1)) 4)))).size + 1 ≤ 9223372036854775807 then (if (((⟨#[60, 97]⟩ : ByteArray) ++ (rdOf ByteArray.empty y332 (wrap64 (Int.tmod (IntKind.u64.wrap (a1)) 4)))) ++ (⟨#[98]⟩ : ByteArray)).size + (rdOf ByteArray.empty y332 (wrap64 (Int.tmod (IntKind.u64.wrap (a1)) 4))).size ≤ 9223372036854775807 then (if ((((⟨#[60, 97]⟩ : ByteArray) ++ (rdOf ByteArray.empty y332 (wrap64 (Int.tmod (IntKind.u64.wrap (a1)) 4)))) ++ (⟨#[98]⟩ : ByteArray)) ++ (rdOf ByteArray.empty y332 (wrap64 (Int.tmod (IntKind.u64.wrap (a1)) 4)))).size + 1 ≤ 9223372036854775807 then (if (((((⟨#[60, 97]⟩ : ByteArray) ++ (rdOf ByteArray.empty y332 (wrap64 (Int.tmod (IntKind.u64.wrap (a1)) 4)))) ++ (⟨#[98]⟩ : ByteArray)) ++ (rdOf ByteArray.empty y332 (wrap64 (Int.tmod (IntKind.u64.wrap (a1)) 4)))) ++ (⟨#[61]⟩ : ByteArray)).size + (rdOf ByteArray.empty y332 (wrap64 (Int.tmod (IntKind.u64.wrap (a1)) 4))).size ≤ 9223372036854775807 then (if ((((((⟨#[60, 97]⟩ : ByteArray) ++ (rdOf ByteArray.empty y332 (wrap64 (Int.tmod (IntKind.u64.wrap (a1)) 4)))) ++ (⟨#[98]⟩ : ByteArray)) ++ (rdOf ByteArray.empty y332 (wrap64 (Int.tmod (IntKind.u64.wrap (a1)) 4)))) ++ (⟨#[61]⟩ : ByteArray)) ++ (rdOf ByteArray.empty y332 (wrap64 (Int.tmod (IntKind.u64.wrap (a1)) 4)))).size + 1 ≤ 9223372036854775807 then (if (((((((⟨#[60, 97]⟩ : ByteArray) ++ (rdOf ByteArray.empty y332 (wrap64 (Int.tmod (IntKind.u64.wrap (a1)) 4)))) ++ (⟨#[98]⟩ : ByteArray)) ++ (rdOf ByteArray.empty y332 (wrap64 (Int.tmod (IntKind.u64.wrap (a1)) 4)))) ++ (⟨#[61]⟩ : ByteArray)) ++ (rdOf ByteArray.empty y332 (wrap64 (Int.tmod (IntKind.u64.wrap (a1)) 4)))) ++ (⟨#[39]⟩ : ByteArray)).size + t336.size ≤ 9223372036854775807 then (if ((((((((⟨#[60, 97]⟩ : ByteArray) ++ (rdOf ByteArray.empty y332 (wrap64 (Int.tmod (IntKind.u64.wrap (a1)) 4)))) ++ (⟨#[98]⟩ : ByteArray)) ++ (rdOf ByteArray.empty y332 (wrap64 (Int.tmod (IntKind.u64.wrap (a1)) 4)))) ++ (⟨#[61]⟩ : ByteArray)) ++ (rdOf ByteArray.empty y332 (wrap64 (Int.tmod (IntKind.u64.wrap (a1)) 4)))) ++ (⟨#[39]⟩ : ByteArray)) ++ t336).size + 1 ≤ 9223372036854775807 then (if (((((((((⟨#[60, 97]⟩ : ByteArray) ++ (rdOf ByteArray.empty y332 (wrap64 (Int.tmod (IntKind.u64.wrap (a1)) 4)))) ++ (⟨#[98]⟩ : ByteArray)) ++ (rdOf ByteArray.empty y332 (wrap64 (Int.tmod (IntKind.u64.wrap (a1)) 4)))) ++ (⟨#[61]⟩ : ByteArray)) ++ (rdOf ByteArray.empty y332 (wrap64 (Int.tmod (IntKind.u64.wrap (a1)) 4)))) ++ (⟨#[39]⟩ : ByteArray)) ++ t336) ++ (⟨#[39]⟩ : ByteArray)).size + (rdOf ByteArray.empty y332 (wrap64 (Int.tmod (IntKind.u64.wrap (a1)) 4))).size ≤ 9223372036854775807 then (if ((((((((((⟨#[60, 97]⟩ : ByteArray) ++ (rdOf ByteArray.empty y332 (wrap64 (Int.tmod (IntKind.u64.wrap (a1)) 4)))) ++ (⟨#[98]⟩ : ByteArray)) ++ (rdOf ByteArray.empty y332 (wrap64 (Int.tmod (IntKind.u64.wrap (a1)) 4)))) ++ (⟨#[61]⟩ : ByteArray)) ++ (rdOf ByteArray.empty y332 (wrap64 (Int.tmod (IntKind.u64.wrap (a1)) 4)))) ++ (⟨#[39]⟩ : ByteArray)) ++ t336) ++ (⟨#[39]⟩ : ByteArray)) ++ (rdOf ByteArray.empty y332 (wrap64 (Int.tmod (IntKind.u64.wrap (a1)) 4)))).size + 1 ≤ 9223372036854775807 then (if (((((((((((⟨#[60, 97]⟩ : ByteArray) ++ (rdOf ByteArray.empty y332 (wrap64 (Int.tmod (IntKind.u64.wrap (a1)) 4)))) ++ (⟨#[98]⟩ : ByteArray)) ++ (rdOf ByteArray.empty y332 (wrap64 (Int.tmod (IntKind.u64.wrap (a1)) 4)))) ++ (⟨#[61]⟩ : ByteArray)) ++ (rdOf ByteArray.empty y332 (wrap64 (Int.tmod (IntKind.u64.wrap (a1)) 4)))) ++ (⟨#[39]⟩ : ByteArray)) ++ t336) ++ (⟨#[39]⟩ : ByteArray)) ++ (rdOf ByteArray.empty y332 (wrap64 (Int.tmod (IntKind.u64.wrap (a1)) 4)))) ++ (⟨#[62]⟩ : ByteArray)).size + t336.size ≤ 9223372036854775807 then (if ((((((((((((⟨#[60, 97]⟩ : ByteArray) ++ (rdOf ByteArray.empty y332 (wrap64 (Int.tmod (IntKind.u64.wrap (a1)) 4)))) ++ (⟨#[98]⟩ : ByteArray)) ++ (rdOf ByteArray.empty y332 (wrap64 (Int.tmod (IntKind.u64.wrap (a1)) 4)))) ++ (⟨#[61]⟩ : ByteArray)) ++ (rdOf ByteArray.empty y332 (wrap64 (Int.tmod (IntKind.u64.wrap (a1)) 4)))) ++ (⟨#[39]⟩ : ByteArray)) ++ t336) ++ (⟨#[39]⟩ : ByteArray)) ++ (rdOf ByteArray.empty y332 (wrap64 (Int.tmod (IntKind.u64.wrap (a1)) 4)))) ++ (⟨#[62]⟩ : ByteArray)) ++ t336).size + 3 ≤ 9223372036854775807 then (if (((((((((((((⟨#[60, 97]⟩ : ByteArray) ++ (rdOf ByteArray.empty y332 (wrap64 (Int.tmod (IntKind.u64.wrap (a1)) 4)))) ++ (⟨#[98]⟩ : ByteArray)) ++ (rdOf ByteArray.empty y332 (wrap64 (Int.tmod (IntKind.u64.wrap (a1)) 4)))) ++ (⟨#[61]⟩ : ByteArray)) ++ (rdOf ByteArray.empty y332 (wrap64 (Int.tmod (IntKind.u64.wrap (a1)) 4)))) ++ (⟨#[39]⟩ : ByteArray)) ++ t336) ++ (⟨#[39]⟩ : ByteArray)) ++ (rdOf ByteArray.empty y332 (wrap64 (Int.tmod (IntKind.u64.wrap (a1)) 4)))) ++ (⟨#[62]⟩ : ByteArray)) ++ t336) ++ (⟨#[60, 47, 97]⟩ : ByteArray)).size + (rdOf ByteArray.empty y332 (wrap64 (Int.tmod (IntKind.u64.wrap (a1)) 4))).size ≤ 9223372036854775807 then (if ((((((((((((((⟨#[60, 97]⟩ : ByteArray) ++ (rdOf ByteArray.empty y332 (wrap64 (Int.tmod (IntKind.u64.wrap (a1)) 4)))) ++ (⟨#[98]⟩ : ByteArray)) ++ (rdOf ByteArray.empty y332 (wrap64 (Int.tmod (IntKind.u64.wrap (a1)) 4)))) ++ (⟨#[61]⟩ : ByteArray)) ++ (rdOf ByteArray.empty y332 (wrap64 (Int.tmod (IntKind.u64.wrap (a1)) 4)))) ++ (⟨#[39]⟩ : ByteArray)) ++ t336) ++ (⟨#[39]⟩ : ByteArray)) ++ (rdOf ByteArray.empty y332 (wrap64 (Int.tmod (IntKind.u64.wrap (a1)) 4)))) ++ (⟨#[62]⟩ : ByteArray)) ++ t336) ++ (⟨#[60, 47, 97]⟩ : ByteArray)) ++ (rdOf ByteArray.empty y332 (wrap64 (Int.tmod (IntKind.u64.wrap (a1)) 4)))).size + 1 ≤ 9223372036854775807 then ((G_Tokens.f (((((((((((((((⟨#[60, 97]⟩ : ByteArray) ++ (rdOf ByteArray.empty y332 (wrap64 (Int.tmod (IntKind.u64.wrap (a1)) 4)))) ++ (⟨#[98]⟩ : ByteArray)) ++ (rdOf ByteArray.empty y332 (wrap64 (Int.tmod (IntKind.u64.wrap (a1)) 4)))) ++ (⟨#[61]⟩ : ByteArray)) ++ (rdOf ByteArray.empty y332 (wrap64 (Int.tmod (IntKind.u64.wrap (a1)) 4)))) ++ (⟨#[39]⟩ : ByteArray)) ++ t336) ++ (⟨#[39]⟩ : ByteArray)) ++ (rdOf ByteArray.empty y332 (wrap64 (Int.tmod (IntKind.u64.wrap (a1)) 4)))) ++ (⟨#[62]⟩ : ByteArray)) ++ t336) ++ (⟨#[60, 47, 97]⟩ : ByteArray)) ++ (rdOf ByteArray.empty y332 (wrap64 (Int.tmod (IntKind.u64.wrap (a1)) 4)))) ++ (⟨#[62]⟩ : ByteArray))).bind fun bt337 => ((cardexlaw08_awake.f).bind fun t342 => (if t342 = true then (if bt337.2.2 = 0 then (if (bt337.1.length : Int) < 2 then (some false) else (if 0 < (bt337.1.length : Int) then (if (((rd_T33 bt337.1 0).f4).length : Int) = 1 then (if 0 < (((rd_T33 bt337.1 0).f4).length : Int) then (if ((rd_T35 ((rd_T33 bt337.1 0).f4) 0).f1).toList = a0.toList then (if (rd_T33 bt337.1 0).f5 = true then (some false) else (if a0.toList = ([] : List UInt8) then (if (bt337.1.length : Int) = 2 then (some true) else (if (bt337.1.length : Int) = 3 then (if 1 < (bt337.1.length : Int) then (some (((rd_T33 bt337.1 1).f3).toList == a0.toList)) else (none)) else (some false))) else (if (bt337.1.length : Int) = 3 then (if 1 < (bt337.1.length : Int) then (some (((rd_T33 bt337.1 1).f3).toList == a0.toList)) else (none)) else (some false)))) else (some false)) else (none)) else (some false)) else (none))) else (some false)) else (some false)))) else (none)) else (none)) else (none)) else (none)) else (none)) else (none)) else (none)) else (none)) else (none)) else (none)) else (none)) else (none)) else (none)) else (none))) else (none)) else (none)) = some true := by first | (rw [hy332]; with_reducible exact H) | (have H2_ := (Option.bind_some _ _).symm.trans H; rw [hy332]; with_reducible exact H2_) | (have H2_ := (Option.bind_some _ _).symm.trans H; with_reducible exact H2_) | with_reducible exact H | (rw [hy332]; exact H) | exact H
        have Ny332 := Aside0.mk hy332
        clear hy332
        obtain ⟨ji9, hji9⟩ : ∃ j_ : Int, (wrap64 (Int.tmod (IntKind.u64.wrap (a1)) 4)) = j_ := ⟨_, rfl⟩
        replace H : (if 0 ≤ (ji9) then (if (ji9) < (y332.length : Int) then ((cardexref01_Escape.f kj2 a0).bind fun t336 => (if 2 + (rdOf ByteArray.empty y332 (ji9)).size ≤ 9223372036854775807 then (if ((⟨#[60, 97]⟩ : ByteArray) ++ (rdOf ByteArray.empty y332 (ji9))).size + 1 ≤ 9223372036854775807 then (if (((⟨#[60, 97]⟩ : ByteArray) ++ (rdOf ByteArray.empty y332 (ji9))) ++ (⟨#[98]⟩ : ByteArray)).size + (rdOf ByteArray.empty y332 (ji9)).size ≤ 9223372036854775807 then (if ((((⟨#[60, 97]⟩ : ByteArray) ++ (rdOf ByteArray.empty y332 (ji9))) ++ (⟨#[98]⟩ : ByteArray)) ++ (rdOf ByteArray.empty y332 (ji9))).size + 1 ≤ 9223372036854775807 then (if (((((⟨#[60, 97]⟩ : ByteArray) ++ (rdOf ByteArray.empty y332 (ji9))) ++ (⟨#[98]⟩ : ByteArray)) ++ (rdOf ByteArray.empty y332 (ji9))) ++ (⟨#[61]⟩ : ByteArray)).size + (rdOf ByteArray.empty y332 (ji9)).size ≤ 9223372036854775807 then (if ((((((⟨#[60, 97]⟩ : ByteArray) ++ (rdOf ByteArray.empty y332 (ji9))) ++ (⟨#[98]⟩ : ByteArray)) ++ (rdOf ByteArray.empty y332 (ji9))) ++ (⟨#[61]⟩ : ByteArray)) ++ (rdOf ByteArray.empty y332 (ji9))).size + 1 ≤ 9223372036854775807 then (if (((((((⟨#[60, 97]⟩ : ByteArray) ++ (rdOf ByteArray.empty y332 (ji9))) ++ (⟨#[98]⟩ : ByteArray)) ++ (rdOf ByteArray.empty y332 (ji9))) ++ (⟨#[61]⟩ : ByteArray)) ++ (rdOf ByteArray.empty y332 (ji9))) ++ (⟨#[39]⟩ : ByteArray)).size + t336.size ≤ 9223372036854775807 then (if ((((((((⟨#[60, 97]⟩ : ByteArray) ++ (rdOf ByteArray.empty y332 (ji9))) ++ (⟨#[98]⟩ : ByteArray)) ++ (rdOf ByteArray.empty y332 (ji9))) ++ (⟨#[61]⟩ : ByteArray)) ++ (rdOf ByteArray.empty y332 (ji9))) ++ (⟨#[39]⟩ : ByteArray)) ++ t336).size + 1 ≤ 9223372036854775807 then (if (((((((((⟨#[60, 97]⟩ : ByteArray) ++ (rdOf ByteArray.empty y332 (ji9))) ++ (⟨#[98]⟩ : ByteArray)) ++ (rdOf ByteArray.empty y332 (ji9))) ++ (⟨#[61]⟩ : ByteArray)) ++ (rdOf ByteArray.empty y332 (ji9))) ++ (⟨#[39]⟩ : ByteArray)) ++ t336) ++ (⟨#[39]⟩ : ByteArray)).size + (rdOf ByteArray.empty y332 (ji9)).size ≤ 9223372036854775807 then (if ((((((((((⟨#[60, 97]⟩ : ByteArray) ++ (rdOf ByteArray.empty y332 (ji9))) ++ (⟨#[98]⟩ : ByteArray)) ++ (rdOf ByteArray.empty y332 (ji9))) ++ (⟨#[61]⟩ : ByteArray)) ++ (rdOf ByteArray.empty y332 (ji9))) ++ (⟨#[39]⟩ : ByteArray)) ++ t336) ++ (⟨#[39]⟩ : ByteArray)) ++ (rdOf ByteArray.empty y332 (ji9))).size + 1 ≤ 9223372036854775807 then (if (((((((((((⟨#[60, 97]⟩ : ByteArray) ++ (rdOf ByteArray.empty y332 (ji9))) ++ (⟨#[98]⟩ : ByteArray)) ++ (rdOf ByteArray.empty y332 (ji9))) ++ (⟨#[61]⟩ : ByteArray)) ++ (rdOf ByteArray.empty y332 (ji9))) ++ (⟨#[39]⟩ : ByteArray)) ++ t336) ++ (⟨#[39]⟩ : ByteArray)) ++ (rdOf ByteArray.empty y332 (ji9))) ++ (⟨#[62]⟩ : ByteArray)).size + t336.size ≤ 9223372036854775807 then (if ((((((((((((⟨#[60, 97]⟩ : ByteArray) ++ (rdOf ByteArray.empty y332 (ji9))) ++ (⟨#[98]⟩ : ByteArray)) ++ (rdOf ByteArray.empty y332 (ji9))) ++ (⟨#[61]⟩ : ByteArray)) ++ (rdOf ByteArray.empty y332 (ji9))) ++ (⟨#[39]⟩ : ByteArray)) ++ t336) ++ (⟨#[39]⟩ : ByteArray)) ++ (rdOf ByteArray.empty y332 (ji9))) ++ (⟨#[62]⟩ : ByteArray)) ++ t336).size + 3 ≤ 9223372036854775807 then (if (((((((((((((⟨#[60, 97]⟩ : ByteArray) ++ (rdOf ByteArray.empty y332 (ji9))) ++ (⟨#[98]⟩ : ByteArray)) ++ (rdOf ByteArray.empty y332 (ji9))) ++ (⟨#[61]⟩ : ByteArray)) ++ (rdOf ByteArray.empty y332 (ji9))) ++ (⟨#[39]⟩ : ByteArray)) ++ t336) ++ (⟨#[39]⟩ : ByteArray)) ++ (rdOf ByteArray.empty y332 (ji9))) ++ (⟨#[62]⟩ : ByteArray)) ++ t336) ++ (⟨#[60, 47, 97]⟩ : ByteArray)).size + (rdOf ByteArray.empty y332 (ji9)).size ≤ 9223372036854775807 then (if ((((((((((((((⟨#[60, 97]⟩ : ByteArray) ++ (rdOf ByteArray.empty y332 (ji9))) ++ (⟨#[98]⟩ : ByteArray)) ++ (rdOf ByteArray.empty y332 (ji9))) ++ (⟨#[61]⟩ : ByteArray)) ++ (rdOf ByteArray.empty y332 (ji9))) ++ (⟨#[39]⟩ : ByteArray)) ++ t336) ++ (⟨#[39]⟩ : ByteArray)) ++ (rdOf ByteArray.empty y332 (ji9))) ++ (⟨#[62]⟩ : ByteArray)) ++ t336) ++ (⟨#[60, 47, 97]⟩ : ByteArray)) ++ (rdOf ByteArray.empty y332 (ji9))).size + 1 ≤ 9223372036854775807 then ((G_Tokens.f (((((((((((((((⟨#[60, 97]⟩ : ByteArray) ++ (rdOf ByteArray.empty y332 (ji9))) ++ (⟨#[98]⟩ : ByteArray)) ++ (rdOf ByteArray.empty y332 (ji9))) ++ (⟨#[61]⟩ : ByteArray)) ++ (rdOf ByteArray.empty y332 (ji9))) ++ (⟨#[39]⟩ : ByteArray)) ++ t336) ++ (⟨#[39]⟩ : ByteArray)) ++ (rdOf ByteArray.empty y332 (ji9))) ++ (⟨#[62]⟩ : ByteArray)) ++ t336) ++ (⟨#[60, 47, 97]⟩ : ByteArray)) ++ (rdOf ByteArray.empty y332 (ji9))) ++ (⟨#[62]⟩ : ByteArray))).bind fun bt337 => ((cardexlaw08_awake.f).bind fun t342 => (if t342 = true then (if bt337.2.2 = 0 then (if (bt337.1.length : Int) < 2 then (some false) else (if 0 < (bt337.1.length : Int) then (if (((rd_T33 bt337.1 0).f4).length : Int) = 1 then (if 0 < (((rd_T33 bt337.1 0).f4).length : Int) then (if ((rd_T35 ((rd_T33 bt337.1 0).f4) 0).f1).toList = a0.toList then (if (rd_T33 bt337.1 0).f5 = true then (some false) else (if a0.toList = ([] : List UInt8) then (if (bt337.1.length : Int) = 2 then (some true) else (if (bt337.1.length : Int) = 3 then (if 1 < (bt337.1.length : Int) then (some (((rd_T33 bt337.1 1).f3).toList == a0.toList)) else (none)) else (some false))) else (if (bt337.1.length : Int) = 3 then (if 1 < (bt337.1.length : Int) then (some (((rd_T33 bt337.1 1).f3).toList == a0.toList)) else (none)) else (some false)))) else (some false)) else (none)) else (some false)) else (none))) else (some false)) else (some false)))) else (none)) else (none)) else (none)) else (none)) else (none)) else (none)) else (none)) else (none)) else (none)) else (none)) else (none)) else (none)) else (none)) else (none))) else (none)) else (none)) = some true := by first | (rw [hji9] at H; exact H) | (simp only [hji9] at H ⊢; exact H)
        have hji9w : (IntKind.i64.wrap (Int.tmod (IntKind.u64.wrap (a1)) 4)) = ji9 := (i64_w _).trans hji9
        by_cases c10 : 0 ≤ (ji9)
        · rw [if_pos c10] at H
          have c10b0 : decide (0 ≤ (ji9)) = true := decide_eq_true c10
          clear c10
          by_cases c11 : (ji9) < (y332.length : Int)
          · rw [if_pos c11] at H
            have c11b0 : decide ((ji9) < (y332.length : Int)) = true := decide_eq_true c11
            clear c11
            replace H := Option.bind_eq_some_iff.mp H
            obtain ⟨t336, A120, H⟩ := H
            replace H : (if 2 + (rdOf ByteArray.empty y332 (ji9)).size ≤ 9223372036854775807 then (if ((⟨#[60, 97]⟩ : ByteArray) ++ (rdOf ByteArray.empty y332 (ji9))).size + 1 ≤ 9223372036854775807 then (if (((⟨#[60, 97]⟩ : ByteArray) ++ (rdOf ByteArray.empty y332 (ji9))) ++ (⟨#[98]⟩ : ByteArray)).size + (rdOf ByteArray.empty y332 (ji9)).size ≤ 9223372036854775807 then (if ((((⟨#[60, 97]⟩ : ByteArray) ++ (rdOf ByteArray.empty y332 (ji9))) ++ (⟨#[98]⟩ : ByteArray)) ++ (rdOf ByteArray.empty y332 (ji9))).size + 1 ≤ 9223372036854775807 then (if (((((⟨#[60, 97]⟩ : ByteArray) ++ (rdOf ByteArray.empty y332 (ji9))) ++ (⟨#[98]⟩ : ByteArray)) ++ (rdOf ByteArray.empty y332 (ji9))) ++ (⟨#[61]⟩ : ByteArray)).size + (rdOf ByteArray.empty y332 (ji9)).size ≤ 9223372036854775807 then (if ((((((⟨#[60, 97]⟩ : ByteArray) ++ (rdOf ByteArray.empty y332 (ji9))) ++ (⟨#[98]⟩ : ByteArray)) ++ (rdOf ByteArray.empty y332 (ji9))) ++ (⟨#[61]⟩ : ByteArray)) ++ (rdOf ByteArray.empty y332 (ji9))).size + 1 ≤ 9223372036854775807 then (if (((((((⟨#[60, 97]⟩ : ByteArray) ++ (rdOf ByteArray.empty y332 (ji9))) ++ (⟨#[98]⟩ : ByteArray)) ++ (rdOf ByteArray.empty y332 (ji9))) ++ (⟨#[61]⟩ : ByteArray)) ++ (rdOf ByteArray.empty y332 (ji9))) ++ (⟨#[39]⟩ : ByteArray)).size + t336.size ≤ 9223372036854775807 then (if ((((((((⟨#[60, 97]⟩ : ByteArray) ++ (rdOf ByteArray.empty y332 (ji9))) ++ (⟨#[98]⟩ : ByteArray)) ++ (rdOf ByteArray.empty y332 (ji9))) ++ (⟨#[61]⟩ : ByteArray)) ++ (rdOf ByteArray.empty y332 (ji9))) ++ (⟨#[39]⟩ : ByteArray)) ++ t336).size + 1 ≤ 9223372036854775807 then (if (((((((((⟨#[60, 97]⟩ : ByteArray) ++ (rdOf ByteArray.empty y332 (ji9))) ++ (⟨#[98]⟩ : ByteArray)) ++ (rdOf ByteArray.empty y332 (ji9))) ++ (⟨#[61]⟩ : ByteArray)) ++ (rdOf ByteArray.empty y332 (ji9))) ++ (⟨#[39]⟩ : ByteArray)) ++ t336) ++ (⟨#[39]⟩ : ByteArray)).size + (rdOf ByteArray.empty y332 (ji9)).size ≤ 9223372036854775807 then (if ((((((((((⟨#[60, 97]⟩ : ByteArray) ++ (rdOf ByteArray.empty y332 (ji9))) ++ (⟨#[98]⟩ : ByteArray)) ++ (rdOf ByteArray.empty y332 (ji9))) ++ (⟨#[61]⟩ : ByteArray)) ++ (rdOf ByteArray.empty y332 (ji9))) ++ (⟨#[39]⟩ : ByteArray)) ++ t336) ++ (⟨#[39]⟩ : ByteArray)) ++ (rdOf ByteArray.empty y332 (ji9))).size + 1 ≤ 9223372036854775807 then (if (((((((((((⟨#[60, 97]⟩ : ByteArray) ++ (rdOf ByteArray.empty y332 (ji9))) ++ (⟨#[98]⟩ : ByteArray)) ++ (rdOf ByteArray.empty y332 (ji9))) ++ (⟨#[61]⟩ : ByteArray)) ++ (rdOf ByteArray.empty y332 (ji9))) ++ (⟨#[39]⟩ : ByteArray)) ++ t336) ++ (⟨#[39]⟩ : ByteArray)) ++ (rdOf ByteArray.empty y332 (ji9))) ++ (⟨#[62]⟩ : ByteArray)).size + t336.size ≤ 9223372036854775807 then (if ((((((((((((⟨#[60, 97]⟩ : ByteArray) ++ (rdOf ByteArray.empty y332 (ji9))) ++ (⟨#[98]⟩ : ByteArray)) ++ (rdOf ByteArray.empty y332 (ji9))) ++ (⟨#[61]⟩ : ByteArray)) ++ (rdOf ByteArray.empty y332 (ji9))) ++ (⟨#[39]⟩ : ByteArray)) ++ t336) ++ (⟨#[39]⟩ : ByteArray)) ++ (rdOf ByteArray.empty y332 (ji9))) ++ (⟨#[62]⟩ : ByteArray)) ++ t336).size + 3 ≤ 9223372036854775807 then (if (((((((((((((⟨#[60, 97]⟩ : ByteArray) ++ (rdOf ByteArray.empty y332 (ji9))) ++ (⟨#[98]⟩ : ByteArray)) ++ (rdOf ByteArray.empty y332 (ji9))) ++ (⟨#[61]⟩ : ByteArray)) ++ (rdOf ByteArray.empty y332 (ji9))) ++ (⟨#[39]⟩ : ByteArray)) ++ t336) ++ (⟨#[39]⟩ : ByteArray)) ++ (rdOf ByteArray.empty y332 (ji9))) ++ (⟨#[62]⟩ : ByteArray)) ++ t336) ++ (⟨#[60, 47, 97]⟩ : ByteArray)).size + (rdOf ByteArray.empty y332 (ji9)).size ≤ 9223372036854775807 then (if ((((((((((((((⟨#[60, 97]⟩ : ByteArray) ++ (rdOf ByteArray.empty y332 (ji9))) ++ (⟨#[98]⟩ : ByteArray)) ++ (rdOf ByteArray.empty y332 (ji9))) ++ (⟨#[61]⟩ : ByteArray)) ++ (rdOf ByteArray.empty y332 (ji9))) ++ (⟨#[39]⟩ : ByteArray)) ++ t336) ++ (⟨#[39]⟩ : ByteArray)) ++ (rdOf ByteArray.empty y332 (ji9))) ++ (⟨#[62]⟩ : ByteArray)) ++ t336) ++ (⟨#[60, 47, 97]⟩ : ByteArray)) ++ (rdOf ByteArray.empty y332 (ji9))).size + 1 ≤ 9223372036854775807 then ((G_Tokens.f (((((((((((((((⟨#[60, 97]⟩ : ByteArray) ++ (rdOf ByteArray.empty y332 (ji9))) ++ (⟨#[98]⟩ : ByteArray)) ++ (rdOf ByteArray.empty y332 (ji9))) ++ (⟨#[61]⟩ : ByteArray)) ++ (rdOf ByteArray.empty y332 (ji9))) ++ (⟨#[39]⟩ : ByteArray)) ++ t336) ++ (⟨#[39]⟩ : ByteArray)) ++ (rdOf ByteArray.empty y332 (ji9))) ++ (⟨#[62]⟩ : ByteArray)) ++ t336) ++ (⟨#[60, 47, 97]⟩ : ByteArray)) ++ (rdOf ByteArray.empty y332 (ji9))) ++ (⟨#[62]⟩ : ByteArray))).bind fun bt337 => ((cardexlaw08_awake.f).bind fun t342 => (if t342 = true then (if bt337.2.2 = 0 then (if (bt337.1.length : Int) < 2 then (some false) else (if 0 < (bt337.1.length : Int) then (if (((rd_T33 bt337.1 0).f4).length : Int) = 1 then (if 0 < (((rd_T33 bt337.1 0).f4).length : Int) then (if ((rd_T35 ((rd_T33 bt337.1 0).f4) 0).f1).toList = a0.toList then (if (rd_T33 bt337.1 0).f5 = true then (some false) else (if a0.toList = ([] : List UInt8) then (if (bt337.1.length : Int) = 2 then (some true) else (if (bt337.1.length : Int) = 3 then (if 1 < (bt337.1.length : Int) then (some (((rd_T33 bt337.1 1).f3).toList == a0.toList)) else (none)) else (some false))) else (if (bt337.1.length : Int) = 3 then (if 1 < (bt337.1.length : Int) then (some (((rd_T33 bt337.1 1).f3).toList == a0.toList)) else (none)) else (some false)))) else (some false)) else (none)) else (some false)) else (none))) else (some false)) else (some false)))) else (none)) else (none)) else (none)) else (none)) else (none)) else (none)) else (none)) else (none)) else (none)) else (none)) else (none)) else (none)) else (none)) else (none)) = some true := H
            have A12 := Aside0.mk A120
            clear A120
            by_cases c13 : 2 + (rdOf ByteArray.empty y332 (ji9)).size ≤ 9223372036854775807
            · rw [if_pos c13] at H
              have C13 := Aside0.mk c13
              clear c13
              by_cases c14 : ((⟨#[60, 97]⟩ : ByteArray) ++ (rdOf ByteArray.empty y332 (ji9))).size + 1 ≤ 9223372036854775807
              · rw [if_pos c14] at H
                have C14 := Aside0.mk c14
                clear c14
                by_cases c15 : (((⟨#[60, 97]⟩ : ByteArray) ++ (rdOf ByteArray.empty y332 (ji9))) ++ (⟨#[98]⟩ : ByteArray)).size + (rdOf ByteArray.empty y332 (ji9)).size ≤ 9223372036854775807
                · rw [if_pos c15] at H
                  have C15 := Aside0.mk c15
                  clear c15
                  by_cases c16 : ((((⟨#[60, 97]⟩ : ByteArray) ++ (rdOf ByteArray.empty y332 (ji9))) ++ (⟨#[98]⟩ : ByteArray)) ++ (rdOf ByteArray.empty y332 (ji9))).size + 1 ≤ 9223372036854775807
                  · rw [if_pos c16] at H
                    have C16 := Aside0.mk c16
                    clear c16
                    by_cases c17 : (((((⟨#[60, 97]⟩ : ByteArray) ++ (rdOf ByteArray.empty y332 (ji9))) ++ (⟨#[98]⟩ : ByteArray)) ++ (rdOf ByteArray.empty y332 (ji9))) ++ (⟨#[61]⟩ : ByteArray)).size + (rdOf ByteArray.empty y332 (ji9)).size ≤ 9223372036854775807
                    · rw [if_pos c17] at H
                      have C17 := Aside0.mk c17
                      clear c17
                      by_cases c18 : ((((((⟨#[60, 97]⟩ : ByteArray) ++ (rdOf ByteArray.empty y332 (ji9))) ++ (⟨#[98]⟩ : ByteArray)) ++ (rdOf ByteArray.empty y332 (ji9))) ++ (⟨#[61]⟩ : ByteArray)) ++ (rdOf ByteArray.empty y332 (ji9))).size + 1 ≤ 9223372036854775807
                      · rw [if_pos c18] at H
                        have C18 := Aside0.mk c18
                        clear c18
                        by_cases c19 : (((((((⟨#[60, 97]⟩ : ByteArray) ++ (rdOf ByteArray.empty y332 (ji9))) ++ (⟨#[98]⟩ : ByteArray)) ++ (rdOf ByteArray.empty y332 (ji9))) ++ (⟨#[61]⟩ : ByteArray)) ++ (rdOf ByteArray.empty y332 (ji9))) ++ (⟨#[39]⟩ : ByteArray)).size + t336.size ≤ 9223372036854775807
                        · rw [if_pos c19] at H
                          have C19 := Aside0.mk c19
                          clear c19
                          by_cases c20 : ((((((((⟨#[60, 97]⟩ : ByteArray) ++ (rdOf ByteArray.empty y332 (ji9))) ++ (⟨#[98]⟩ : ByteArray)) ++ (rdOf ByteArray.empty y332 (ji9))) ++ (⟨#[61]⟩ : ByteArray)) ++ (rdOf ByteArray.empty y332 (ji9))) ++ (⟨#[39]⟩ : ByteArray)) ++ t336).size + 1 ≤ 9223372036854775807
                          · rw [if_pos c20] at H
                            have C20 := Aside0.mk c20
                            clear c20
                            by_cases c21 : (((((((((⟨#[60, 97]⟩ : ByteArray) ++ (rdOf ByteArray.empty y332 (ji9))) ++ (⟨#[98]⟩ : ByteArray)) ++ (rdOf ByteArray.empty y332 (ji9))) ++ (⟨#[61]⟩ : ByteArray)) ++ (rdOf ByteArray.empty y332 (ji9))) ++ (⟨#[39]⟩ : ByteArray)) ++ t336) ++ (⟨#[39]⟩ : ByteArray)).size + (rdOf ByteArray.empty y332 (ji9)).size ≤ 9223372036854775807
                            · rw [if_pos c21] at H
                              have C21 := Aside0.mk c21
                              clear c21
                              by_cases c22 : ((((((((((⟨#[60, 97]⟩ : ByteArray) ++ (rdOf ByteArray.empty y332 (ji9))) ++ (⟨#[98]⟩ : ByteArray)) ++ (rdOf ByteArray.empty y332 (ji9))) ++ (⟨#[61]⟩ : ByteArray)) ++ (rdOf ByteArray.empty y332 (ji9))) ++ (⟨#[39]⟩ : ByteArray)) ++ t336) ++ (⟨#[39]⟩ : ByteArray)) ++ (rdOf ByteArray.empty y332 (ji9))).size + 1 ≤ 9223372036854775807
                              · rw [if_pos c22] at H
                                have C22 := Aside0.mk c22
                                clear c22
                                by_cases c23 : (((((((((((⟨#[60, 97]⟩ : ByteArray) ++ (rdOf ByteArray.empty y332 (ji9))) ++ (⟨#[98]⟩ : ByteArray)) ++ (rdOf ByteArray.empty y332 (ji9))) ++ (⟨#[61]⟩ : ByteArray)) ++ (rdOf ByteArray.empty y332 (ji9))) ++ (⟨#[39]⟩ : ByteArray)) ++ t336) ++ (⟨#[39]⟩ : ByteArray)) ++ (rdOf ByteArray.empty y332 (ji9))) ++ (⟨#[62]⟩ : ByteArray)).size + t336.size ≤ 9223372036854775807
                                · rw [if_pos c23] at H
                                  have C23 := Aside0.mk c23
                                  clear c23
                                  by_cases c24 : ((((((((((((⟨#[60, 97]⟩ : ByteArray) ++ (rdOf ByteArray.empty y332 (ji9))) ++ (⟨#[98]⟩ : ByteArray)) ++ (rdOf ByteArray.empty y332 (ji9))) ++ (⟨#[61]⟩ : ByteArray)) ++ (rdOf ByteArray.empty y332 (ji9))) ++ (⟨#[39]⟩ : ByteArray)) ++ t336) ++ (⟨#[39]⟩ : ByteArray)) ++ (rdOf ByteArray.empty y332 (ji9))) ++ (⟨#[62]⟩ : ByteArray)) ++ t336).size + 3 ≤ 9223372036854775807
                                  · rw [if_pos c24] at H
                                    have C24 := Aside0.mk c24
                                    clear c24
                                    by_cases c25 : (((((((((((((⟨#[60, 97]⟩ : ByteArray) ++ (rdOf ByteArray.empty y332 (ji9))) ++ (⟨#[98]⟩ : ByteArray)) ++ (rdOf ByteArray.empty y332 (ji9))) ++ (⟨#[61]⟩ : ByteArray)) ++ (rdOf ByteArray.empty y332 (ji9))) ++ (⟨#[39]⟩ : ByteArray)) ++ t336) ++ (⟨#[39]⟩ : ByteArray)) ++ (rdOf ByteArray.empty y332 (ji9))) ++ (⟨#[62]⟩ : ByteArray)) ++ t336) ++ (⟨#[60, 47, 97]⟩ : ByteArray)).size + (rdOf ByteArray.empty y332 (ji9)).size ≤ 9223372036854775807
                                    · rw [if_pos c25] at H
                                      have C25 := Aside0.mk c25
                                      clear c25
                                      by_cases c26 : ((((((((((((((⟨#[60, 97]⟩ : ByteArray) ++ (rdOf ByteArray.empty y332 (ji9))) ++ (⟨#[98]⟩ : ByteArray)) ++ (rdOf ByteArray.empty y332 (ji9))) ++ (⟨#[61]⟩ : ByteArray)) ++ (rdOf ByteArray.empty y332 (ji9))) ++ (⟨#[39]⟩ : ByteArray)) ++ t336) ++ (⟨#[39]⟩ : ByteArray)) ++ (rdOf ByteArray.empty y332 (ji9))) ++ (⟨#[62]⟩ : ByteArray)) ++ t336) ++ (⟨#[60, 47, 97]⟩ : ByteArray)) ++ (rdOf ByteArray.empty y332 (ji9))).size + 1 ≤ 9223372036854775807
                                      · rw [if_pos c26] at H
                                        have C26 := Aside0.mk c26
                                        clear c26
                                        replace H := Option.bind_eq_some_iff.mp H
                                        obtain ⟨⟨t337, t338, t339⟩, A270, H⟩ := H
                                        replace H : ((cardexlaw08_awake.f).bind fun t342 => (if t342 = true then (if t339 = 0 then (if (t337.length : Int) < 2 then (some false) else (if 0 < (t337.length : Int) then (if (((rd_T33 t337 0).f4).length : Int) = 1 then (if 0 < (((rd_T33 t337 0).f4).length : Int) then (if ((rd_T35 ((rd_T33 t337 0).f4) 0).f1).toList = a0.toList then (if (rd_T33 t337 0).f5 = true then (some false) else (if a0.toList = ([] : List UInt8) then (if (t337.length : Int) = 2 then (some true) else (if (t337.length : Int) = 3 then (if 1 < (t337.length : Int) then (some (((rd_T33 t337 1).f3).toList == a0.toList)) else (none)) else (some false))) else (if (t337.length : Int) = 3 then (if 1 < (t337.length : Int) then (some (((rd_T33 t337 1).f3).toList == a0.toList)) else (none)) else (some false)))) else (some false)) else (none)) else (some false)) else (none))) else (some false)) else (some false))) = some true := H
                                        have A27 := Aside0.mk A270
                                        clear A270
                                        replace H := Option.bind_eq_some_iff.mp H
                                        obtain ⟨t342, A280, H⟩ := H
                                        replace H : (if t342 = true then (if t339 = 0 then (if (t337.length : Int) < 2 then (some false) else (if 0 < (t337.length : Int) then (if (((rd_T33 t337 0).f4).length : Int) = 1 then (if 0 < (((rd_T33 t337 0).f4).length : Int) then (if ((rd_T35 ((rd_T33 t337 0).f4) 0).f1).toList = a0.toList then (if (rd_T33 t337 0).f5 = true then (some false) else (if a0.toList = ([] : List UInt8) then (if (t337.length : Int) = 2 then (some true) else (if (t337.length : Int) = 3 then (if 1 < (t337.length : Int) then (some (((rd_T33 t337 1).f3).toList == a0.toList)) else (none)) else (some false))) else (if (t337.length : Int) = 3 then (if 1 < (t337.length : Int) then (some (((rd_T33 t337 1).f3).toList == a0.toList)) else (none)) else (some false)))) else (some false)) else (none)) else (some false)) else (none))) else (some false)) else (some false)) = some true := H
                                        have A28 := Aside0.mk A280
                                        clear A280
                                        by_cases c29 : t342 = true
                                        · subst c29
                                          have H1 : (if t339 = 0 then (if (t337.length : Int) < 2 then (some false) else (if 0 < (t337.length : Int) then (if (((rd_T33 t337 0).f4).length : Int) = 1 then (if 0 < (((rd_T33 t337 0).f4).length : Int) then (if ((rd_T35 ((rd_T33 t337 0).f4) 0).f1).toList = a0.toList then (if (rd_T33 t337 0).f5 = true then (some false) else (if a0.toList = ([] : List UInt8) then (if (t337.length : Int) = 2 then (some true) else (if (t337.length : Int) = 3 then (if 1 < (t337.length : Int) then (some (((rd_T33 t337 1).f3).toList == a0.toList)) else (none)) else (some false))) else (if (t337.length : Int) = 3 then (if 1 < (t337.length : Int) then (some (((rd_T33 t337 1).f3).toList == a0.toList)) else (none)) else (some false)))) else (some false)) else (none)) else (some false)) else (none))) else (some false)) = some true := by rw [if_pos rfl] at H; exact H
                                          clear H
                                          have H := H1
                                          clear H1
                                          by_cases c30 : t339 = 0
                                          · rw [if_pos c30] at H
                                            have c30b0 : (t339 == 0) = true := beq_iff_eq.mpr c30
                                            have c30b1 : (t339 != 0) = false := bne_eq_false_iff_eq.mpr c30
                                            clear c30
                                            by_cases c31 : (t337.length : Int) < 2
                                            · rw [if_pos c31] at H
                                              have c31b0 : decide ((t337.length : Int) < 2) = true := decide_eq_true c31
                                              have c31b1 : decide (t337.length < 2) = true := decide_eq_true (by omega)
                                              clear c31
                                              cases H
                                            · rw [if_neg c31] at H
                                              have c31b0 : decide ((t337.length : Int) < 2) = false := decide_eq_false c31
                                              have c31b1 : decide (t337.length < 2) = false := decide_eq_false (by omega)
                                              clear c31
                                              by_cases c38 : 0 < (t337.length : Int)
                                              · rw [if_pos c38] at H
                                                have c38b0 : decide (0 < (t337.length : Int)) = true := decide_eq_true c38
                                                have c38b1 : decide (0 < t337.length) = true := decide_eq_true (by omega)
                                                clear c38
                                                by_cases c39 : (((rd_T33 t337 0).f4).length : Int) = 1
                                                · rw [if_pos c39] at H
                                                  have c39b0 : ((((rd_T33 t337 0).f4).length : Int) == 1) = true := beq_iff_eq.mpr c39
                                                  have c39b1 : ((((rd_T33 t337 0).f4).length : Int) != 1) = false := bne_eq_false_iff_eq.mpr c39
                                                  clear c39
                                                  by_cases c40 : 0 < (((rd_T33 t337 0).f4).length : Int)
                                                  · rw [if_pos c40] at H
                                                    have c40b0 : decide (0 < (((rd_T33 t337 0).f4).length : Int)) = true := decide_eq_true c40
                                                    have c40b1 : decide (0 < ((rd_T33 t337 0).f4).length) = true := decide_eq_true (by omega)
                                                    clear c40
                                                    by_cases c41 : ((rd_T35 ((rd_T33 t337 0).f4) 0).f1).toList = a0.toList
                                                    · rw [if_pos c41] at H
                                                      have c41b0 : (((rd_T35 ((rd_T33 t337 0).f4) 0).f1).toList == a0.toList) = true := beq_iff_eq.mpr c41
                                                      have c41b1 : (((rd_T35 ((rd_T33 t337 0).f4) 0).f1).toList != a0.toList) = false := bne_eq_false_iff_eq.mpr c41
                                                      clear c41
                                                      obtain ⟨bq42, hbq42⟩ : ∃ b_ : Bool, b_ = ((rd_T33 t337 0).f5) := ⟨_, rfl⟩
                                                      replace H : (if bq42 = true then (some false) else (if a0.toList = ([] : List UInt8) then (if (t337.length : Int) = 2 then (some true) else (if (t337.length : Int) = 3 then (if 1 < (t337.length : Int) then (some (((rd_T33 t337 1).f3).toList == a0.toList)) else (none)) else (some false))) else (if (t337.length : Int) = 3 then (if 1 < (t337.length : Int) then (some (((rd_T33 t337 1).f3).toList == a0.toList)) else (none)) else (some false)))) = some true := by rw [← hbq42] at H; exact H
                                                      have Nbq42 := Aside0.mk hbq42
                                                      clear hbq42
                                                      by_cases c43 : bq42 = true
                                                      · subst c43
                                                        have H1 : (some false) = some true := by rw [if_pos rfl] at H; exact H
                                                        clear H
                                                        have H := H1
                                                        clear H1
                                                        cases H
                                                      · replace c43 := Bool.eq_false_iff.mpr c43
                                                        subst c43
                                                        have H1 : (if a0.toList = ([] : List UInt8) then (if (t337.length : Int) = 2 then (some true) else (if (t337.length : Int) = 3 then (if 1 < (t337.length : Int) then (some (((rd_T33 t337 1).f3).toList == a0.toList)) else (none)) else (some false))) else (if (t337.length : Int) = 3 then (if 1 < (t337.length : Int) then (some (((rd_T33 t337 1).f3).toList == a0.toList)) else (none)) else (some false))) = some true := by rw [if_neg (show ¬ (false = true) by decide)] at H; exact H
                                                        clear H
                                                        have H := H1
                                                        clear H1
                                                        by_cases c50 : a0.toList = ([] : List UInt8)
                                                        · rw [if_pos c50] at H
                                                          have c50b0 : (a0.toList == ([] : List UInt8)) = true := beq_iff_eq.mpr c50
                                                          have c50b1 : (a0.toList != ([] : List UInt8)) = false := bne_eq_false_iff_eq.mpr c50
                                                          clear c50
                                                          by_cases c51 : (t337.length : Int) = 2
                                                          · rw [if_pos c51] at H
                                                            have c51b0 : ((t337.length : Int) == 2) = true := beq_iff_eq.mpr c51
                                                            have c51b1 : ((t337.length : Int) != 2) = false := bne_eq_false_iff_eq.mpr c51
                                                            clear c51
                                                            clear H
                                                            go_wp2_with (first | ((with_reducible refine gate_dst (N := 30) rfl ?_); refine add_event ?hg (N := 30) ?hd (x := (⟨#[60, 97]⟩ : ByteArray)) (y := (rdOf ByteArray.empty y332 (ji9))) ?hr ?_; (case hd => rfl); (case hg => rfl); (case hr => have hz_ := C13.out; first | (go_simp; done) | (go_simp; rfl)); intro s30 hs_; clear C13; rw [← hs_] at C14 C15 C16 C17 C18 C19 C20 C21 C22 C23 C24 C25 C26 A27; clear hs_) | ((with_reducible refine gate_dst (N := 31) rfl ?_); refine add_event ?hg (N := 31) ?hd (x := s30) (y := (⟨#[98]⟩ : ByteArray)) ?hr ?_; (case hd => rfl); (case hg => rfl); (case hr => have hz_ := C14.out; first | (go_simp; done) | (go_simp; rfl)); intro s31 hs_; clear C14; rw [← hs_] at C15 C16 C17 C18 C19 C20 C21 C22 C23 C24 C25 C26 A27; clear hs_) | ((with_reducible refine gate_dst (N := 33) rfl ?_); refine add_event ?hg (N := 33) ?hd (x := s31) (y := (rdOf ByteArray.empty y332 (ji9))) ?hr ?_; (case hd => rfl); (case hg => rfl); (case hr => have hz_ := C15.out; first | (go_simp; done) | (go_simp; rfl)); intro s33 hs_; clear C15; rw [← hs_] at C16 C17 C18 C19 C20 C21 C22 C23 C24 C25 C26 A27; clear hs_) | ((with_reducible refine gate_dst (N := 34) rfl ?_); refine add_event ?hg (N := 34) ?hd (x := s33) (y := (⟨#[61]⟩ : ByteArray)) ?hr ?_; (case hd => rfl); (case hg => rfl); (case hr => have hz_ := C16.out; first | (go_simp; done) | (go_simp; rfl)); intro s34 hs_; clear C16; rw [← hs_] at C17 C18 C19 C20 C21 C22 C23 C24 C25 C26 A27; clear hs_) | ((with_reducible refine gate_dst (N := 36) rfl ?_); refine add_event ?hg (N := 36) ?hd (x := s34) (y := (rdOf ByteArray.empty y332 (ji9))) ?hr ?_; (case hd => rfl); (case hg => rfl); (case hr => have hz_ := C17.out; first | (go_simp; done) | (go_simp; rfl)); intro s36 hs_; clear C17; rw [← hs_] at C18 C19 C20 C21 C22 C23 C24 C25 C26 A27; clear hs_) | ((with_reducible refine gate_dst (N := 37) rfl ?_); refine add_event ?hg (N := 37) ?hd (x := s36) (y := (⟨#[39]⟩ : ByteArray)) ?hr ?_; (case hd => rfl); (case hg => rfl); (case hr => have hz_ := C18.out; first | (go_simp; done) | (go_simp; rfl)); intro s37 hs_; clear C18; rw [← hs_] at C19 C20 C21 C22 C23 C24 C25 C26 A27; clear hs_) | ((with_reducible refine gate_dst (N := 39) rfl ?_); refine add_event ?hg (N := 39) ?hd (x := s37) (y := t336) ?hr ?_; (case hd => rfl); (case hg => rfl); (case hr => have hz_ := C19.out; first | (go_simp; done) | (go_simp; rfl)); intro s39 hs_; clear C19; rw [← hs_] at C20 C21 C22 C23 C24 C25 C26 A27; clear hs_) | ((with_reducible refine gate_dst (N := 40) rfl ?_); refine add_event ?hg (N := 40) ?hd (x := s39) (y := (⟨#[39]⟩ : ByteArray)) ?hr ?_; (case hd => rfl); (case hg => rfl); (case hr => have hz_ := C20.out; first | (go_simp; done) | (go_simp; rfl)); intro s40 hs_; clear C20; rw [← hs_] at C21 C22 C23 C24 C25 C26 A27; clear hs_) | ((with_reducible refine gate_dst (N := 42) rfl ?_); refine add_event ?hg (N := 42) ?hd (x := s40) (y := (rdOf ByteArray.empty y332 (ji9))) ?hr ?_; (case hd => rfl); (case hg => rfl); (case hr => have hz_ := C21.out; first | (go_simp; done) | (go_simp; rfl)); intro s42 hs_; clear C21; rw [← hs_] at C22 C23 C24 C25 C26 A27; clear hs_) | ((with_reducible refine gate_dst (N := 43) rfl ?_); refine add_event ?hg (N := 43) ?hd (x := s42) (y := (⟨#[62]⟩ : ByteArray)) ?hr ?_; (case hd => rfl); (case hg => rfl); (case hr => have hz_ := C22.out; first | (go_simp; done) | (go_simp; rfl)); intro s43 hs_; clear C22; rw [← hs_] at C23 C24 C25 C26 A27; clear hs_) | ((with_reducible refine gate_dst (N := 45) rfl ?_); refine add_event ?hg (N := 45) ?hd (x := s43) (y := t336) ?hr ?_; (case hd => rfl); (case hg => rfl); (case hr => have hz_ := C23.out; first | (go_simp; done) | (go_simp; rfl)); intro s45 hs_; clear C23; rw [← hs_] at C24 C25 C26 A27; clear hs_) | ((with_reducible refine gate_dst (N := 46) rfl ?_); refine add_event ?hg (N := 46) ?hd (x := s45) (y := (⟨#[60, 47, 97]⟩ : ByteArray)) ?hr ?_; (case hd => rfl); (case hg => rfl); (case hr => have hz_ := C24.out; first | (go_simp; done) | (go_simp; rfl)); intro s46 hs_; clear C24; rw [← hs_] at C25 C26 A27; clear hs_) | ((with_reducible refine gate_dst (N := 48) rfl ?_); refine add_event ?hg (N := 48) ?hd (x := s46) (y := (rdOf ByteArray.empty y332 (ji9))) ?hr ?_; (case hd => rfl); (case hg => rfl); (case hr => have hz_ := C25.out; first | (go_simp; done) | (go_simp; rfl)); intro s48 hs_; clear C25; rw [← hs_] at C26 A27; clear hs_) | ((with_reducible refine gate_dst (N := 49) rfl ?_); refine add_event ?hg (N := 49) ?hd (x := s48) (y := (⟨#[62]⟩ : ByteArray)) ?hr ?_; (case hd => rfl); (case hg => rfl); (case hr => have hz_ := C26.out; first | (go_simp; done) | (go_simp; rfl)); intro s49 hs_; clear C26; rw [← hs_] at A27; clear hs_) | ((with_reducible refine gate_dst (N := 19) rfl ?_); (try (refine gate_guard (by rfl) ?_; dsimp only)); refine Kd.R_lit Kd.string _ 9 ?hg (N := 19) ?hd (xs := ([(⟨#[32]⟩ : ByteArray), (⟨#[9, 10]⟩ : ByteArray), (⟨#[32, 32]⟩ : ByteArray), (⟨#[13, 32]⟩ : ByteArray)] : List ByteArray)) (inner := [.string (⟨#[32]⟩ : ByteArray), .string (⟨#[9, 10]⟩ : ByteArray), .string (⟨#[32, 32]⟩ : ByteArray), .string (⟨#[13, 32]⟩ : ByteArray)]) (ok := fun _ => True) (okp := fun _ => True) ?hr ?hp (fun _ hk => hk) trivial (Below.refl _ _) (Nat.le_refl _) (by simp) ?_; (case hd => rfl); (case hg => rfl); (case hr => first | (go_simp; done) | (go_simp; rfl)); (case hp => exact (Reps.one (show Kd.M Kd.string _ _ _ (⟨#[32]⟩ : ByteArray) [.string (⟨#[32]⟩ : ByteArray)] from rfl) (Reps.one (show Kd.M Kd.string _ _ _ (⟨#[9, 10]⟩ : ByteArray) [.string (⟨#[9, 10]⟩ : ByteArray)] from rfl) (Reps.one (show Kd.M Kd.string _ _ _ (⟨#[32, 32]⟩ : ByteArray) [.string (⟨#[32, 32]⟩ : ByteArray)] from rfl) (Reps.one (show Kd.M Kd.string _ _ _ (⟨#[13, 32]⟩ : ByteArray) [.string (⟨#[13, 32]⟩ : ByteArray)] from rfl) (Reps.none _ _)))))); intro v333 w52 ho53 hb hg_ hnew_; clear hg_ hnew_; (first | rw [← Ny332.out] at ho53 | (simp only [Int.reduceToNat] at ho53; rw [← Ny332.out] at ho53)); have n0_ := Aside0.mk (Kd.R_lower ho53 (below_size (by repeat (first | (with_reducible first | exact HB.out | apply below_alloc | apply pw_below_drewN | apply below_drew1) | exact HB.out)))); have n1_ := Aside0.mk (below_step (by repeat (first | (with_reducible first | exact HB.out | apply below_alloc | apply pw_below_drewN | apply below_drew1) | exact HB.out)) hb); clear HB; have HO334 := n0_; have HB := n1_; clear n0_ n1_; clear hb ho53; obtain ⟨Ao54, co54, eo54⟩ := Kd.R_slice HO334.out; subst eo54; have p335 : 0 ≤ ((ji9) : Int) := of_decide_eq_true (by first | (with_reducible assumption) | assumption); have q335 : (ji9) < (y332.length : Int) := of_decide_eq_true (by first | (with_reducible assumption) | assumption); obtain ⟨ad335, e335, hx335_0⟩ := Kd.at_string (Kd.R_reads' HO334.out).2.2 (ji9) p335 q335; cases e335; replace p335 := eq_true p335; replace q335 := eq_true q335) | ((with_reducible refine gate_callee (f := 9) rfl ?_); refine goesL_ (some 27) rfl rfl Tryd.func9 (by kernel_rfl) rfl #[.string a0] rfl (by (try simp only [List.map_toArray, List.map_cons, List.map_nil]); first | done | rfl | (simp only [List.length_drop, List.length_take]; rfl)) ?_; (with_reducible refine (cardexref01_Escape.calls kj2 a0 t336 _ ?side1 A12.out).mono ?_); (case side1 => first | exact HG.out | exact Gd.drewN HG.out _ | exact Gd.drew HG.out | exact Gd.below HG.out (by repeat (first | (with_reducible first | exact HB.out | apply below_alloc | apply pw_below_drewN | apply below_drew1) | exact HB.out))); rintro e w' ⟨rfl, ⟨nd, rfl⟩⟩; refine ⟨_, rfl, ?_⟩) | ((with_reducible refine gate_callee (f := 10) rfl ?_); refine goesL_ (some 50) rfl rfl Tryd.func10 (by kernel_rfl) rfl #[.string s49] rfl (by (try simp only [List.map_toArray, List.map_cons, List.map_nil]); first | done | (simp only [hji9]; rfl) | rfl | (simp only [List.length_drop, List.length_take]; rfl)) ?_; (with_reducible refine (G_Tokens.calls s49 t337 t338 t339 _ ?side1 A27.out).mono ?_); (case side1 => first | exact HG.out | exact Gd.drewN HG.out _ | exact Gd.drew HG.out | exact Gd.below HG.out (by repeat (first | (with_reducible first | exact HB.out | apply below_alloc | apply pw_below_drewN | apply below_drew1) | exact HB.out))); rintro e w55 ⟨v340, rfl, ho0, hb⟩; refine ⟨_, rfl, ?_⟩; have n0_ := Aside0.mk (Kd.R_below (by (with_reducible repeat (first | apply Kd.R_alloc | apply Kd.R_drewN | apply Kd.R_drew)); exact HO334.out) hb); have n1_ := Aside0.mk (Kd.S_lower ho0 (below_size (by repeat (first | (with_reducible first | exact HB.out | apply below_alloc | apply pw_below_drewN | apply below_drew1) | exact HB.out)))); have n2_ := Aside0.mk (below_step (by repeat (first | (with_reducible first | exact HB.out | apply below_alloc | apply pw_below_drewN | apply below_drew1) | exact HB.out)) hb); clear HO334; clear HB; have HO334 := n0_; have HO341 := n1_; have HB := n2_; clear n0_ n1_ n2_; (try clear hb); (try clear hb2); (try clear hk); (try clear hi); (try clear ho0)) | ((with_reducible refine gate_callee (f := 8) rfl ?_); refine goesL_ (some 54) rfl rfl Tryd.func8 (by kernel_rfl) rfl #[] rfl (by (try simp only [List.map_toArray, List.map_cons, List.map_nil]); first | done | rfl | (simp only [List.length_drop, List.length_take]; rfl)) ?_; (with_reducible refine (cardexlaw08_awake.calls  true _ ?side1 A28.out).mono ?_); (case side1 => first | exact HG.out | exact Gd.drewN HG.out _ | exact Gd.drew HG.out | exact Gd.below HG.out (by repeat (first | (with_reducible first | exact HB.out | apply below_alloc | apply pw_below_drewN | apply below_drew1) | exact HB.out))); rintro e w56 ⟨rfl, hb⟩; refine ⟨_, rfl, ?_⟩; have n0_ := Aside0.mk (Kd.R_below (by (with_reducible repeat (first | apply Kd.R_alloc | apply Kd.R_drewN | apply Kd.R_drew)); exact HO334.out) hb); have n1_ := Aside0.mk (Kd.S_below (by (with_reducible repeat (first | apply Kd.S_alloc | apply Kd.S_drewN | apply Kd.S_drew)); exact HO341.out) hb); have n2_ := Aside0.mk (below_step (by repeat (first | (with_reducible first | exact HB.out | apply below_alloc | apply pw_below_drewN | apply below_drew1) | exact HB.out)) hb); clear HO334; clear HO341; clear HB; have HO334 := n0_; have HO341 := n1_; have HB := n2_; clear n0_ n1_ n2_; (try clear hb); (try clear hb2); (try clear hk); (try clear hi); obtain ⟨Ao57, co57, eo57⟩ := Kd.S_slice HO341.out; subst eo57; have p343 : 0 ≤ (0 : Int) := (by omega); have q343 : 0 < (t337.length : Int) := of_decide_eq_true (by first | (with_reducible assumption) | assumption); obtain ⟨ad343, A343_4, c343_4, e343, hx343_0, hx343_1, hx343_2, hx343_3, hx343_4, hx343_5, hl343_4, hi343_4⟩ := at_T33 (Kd.S_reads' HO341.out).2.2 0 p343 q343; (try rw [← Nbq42.out] at hx343_5); cases e343; obtain ⟨ce343, hce343, hMe343, hcc343⟩ := Kd.S_get HO341.out z33 0 p343 (by first | exact q343 | exact of_decide_eq_true (by first | (with_reducible assumption) | assumption) | (have e_ := (Kd.S_reads' HO341.out).1; omega)); obtain ⟨ve343_4, rfl, ge343_4⟩ := k33_openM hMe343; have hv343_4 := hcc343 4 _ rfl; rw [add_field _ _ 4 (by omega)] at hv343_4; replace hv343_4 := Option.some.inj (hv343_4.symm.trans hx343_4); rw [hv343_4] at ge343_4; have HL343_4 := Aside0.mk (show Kd.R k35 35 _ _ _ _ ((rd_T33 t337 0).f4) from ge343_4); clear hv343_4 ge343_4; clear hcc343 hce343; have qi343 : (0 < t337.length) = True := eq_true (by omega); (try rw [show ((0 : Int)).toNat = 0 from rfl] at hx343_0); (try rw [show 0 * 6 = 0 from rfl] at hx343_0); (try rw [Addr.add_zero'] at hx343_0); (try rw [show ((0 : Int)).toNat = 0 from rfl] at hx343_1); (try rw [show 0 * 6 = 0 from rfl] at hx343_1); (try rw [Addr.add_zero'] at hx343_1); (try rw [show ((0 : Int)).toNat = 0 from rfl] at hx343_2); (try rw [show 0 * 6 = 0 from rfl] at hx343_2); (try rw [Addr.add_zero'] at hx343_2); (try rw [show ((0 : Int)).toNat = 0 from rfl] at hx343_3); (try rw [show 0 * 6 = 0 from rfl] at hx343_3); (try rw [Addr.add_zero'] at hx343_3); (try rw [show ((0 : Int)).toNat = 0 from rfl] at hx343_4); (try rw [show 0 * 6 = 0 from rfl] at hx343_4); (try rw [Addr.add_zero'] at hx343_4); (try rw [show ((0 : Int)).toNat = 0 from rfl] at hx343_5); (try rw [show 0 * 6 = 0 from rfl] at hx343_5); (try rw [Addr.add_zero'] at hx343_5); have HR343_4 := Aside0.mk hi343_4; have HC343_4 := Aside0.mk hl343_4; clear hi343_4 hl343_4; replace p343 := eq_true p343; replace q343 := eq_true q343; have p344 : 0 ≤ (0 : Int) := (by omega); have q344 : 0 < (t337.length : Int) := of_decide_eq_true (by first | (with_reducible assumption) | assumption); obtain ⟨ad344, A344_4, c344_4, e344, hx344_0, hx344_1, hx344_2, hx344_3, hx344_4, hx344_5, hl344_4, hi344_4⟩ := at_T33 (Kd.S_reads' HO341.out).2.2 0 p344 q344; (try rw [← Nbq42.out] at hx344_5); obtain rfl : ad343 = ad344 := (by injection e344); obtain ⟨ce344, hce344, hMe344, hcc344⟩ := Kd.S_get HO341.out z33 0 p344 (by first | exact q344 | exact of_decide_eq_true (by first | (with_reducible assumption) | assumption) | (have e_ := (Kd.S_reads' HO341.out).1; omega)); obtain ⟨ve344_4, rfl, ge344_4⟩ := k33_openM hMe344; have hv344_4 := hcc344 4 _ rfl; rw [add_field _ _ 4 (by omega)] at hv344_4; replace hv344_4 := Option.some.inj (hv344_4.symm.trans hx344_4); rw [hv344_4] at ge344_4; have HL344_4 := Aside0.mk (show Kd.R k35 35 _ _ _ _ ((rd_T33 t337 0).f4) from ge344_4); clear hv344_4 ge344_4; clear hcc344 hce344; have qi344 : (0 < t337.length) = True := eq_true (by omega); (try rw [show ((0 : Int)).toNat = 0 from rfl] at hx344_0); (try rw [show 0 * 6 = 0 from rfl] at hx344_0); (try rw [Addr.add_zero'] at hx344_0); (try rw [show ((0 : Int)).toNat = 0 from rfl] at hx344_1); (try rw [show 0 * 6 = 0 from rfl] at hx344_1); (try rw [Addr.add_zero'] at hx344_1); (try rw [show ((0 : Int)).toNat = 0 from rfl] at hx344_2); (try rw [show 0 * 6 = 0 from rfl] at hx344_2); (try rw [Addr.add_zero'] at hx344_2); (try rw [show ((0 : Int)).toNat = 0 from rfl] at hx344_3); (try rw [show 0 * 6 = 0 from rfl] at hx344_3); (try rw [Addr.add_zero'] at hx344_3); (try rw [show ((0 : Int)).toNat = 0 from rfl] at hx344_4); (try rw [show 0 * 6 = 0 from rfl] at hx344_4); (try rw [Addr.add_zero'] at hx344_4); (try rw [show ((0 : Int)).toNat = 0 from rfl] at hx344_5); (try rw [show 0 * 6 = 0 from rfl] at hx344_5); (try rw [Addr.add_zero'] at hx344_5); have HR344_4 := Aside0.mk hi344_4; have HC344_4 := Aside0.mk hl344_4; clear hi344_4 hl344_4; replace p344 := eq_true p344; replace q344 := eq_true q344; have ea_ := Option.some.inj (hx343_4.symm.trans hx344_4); injection ea_ with ea_ en_ ec_; subst ea_; subst ec_; clear en_; have p345 : 0 ≤ (0 : Int) := (by omega); have q345 : 0 < (((rd_T33 t337 0).f4).length : Int) := of_decide_eq_true (by first | (with_reducible assumption) | assumption); obtain ⟨ad345, e345, hx345_0, hx345_1⟩ := at_T35 (by repeat (first | (with_reducible exact HR344_4.out) | (with_reducible refine Kd.C_alloc ?_ _) | (with_reducible refine Kd.C_drewN ?_ _) | (with_reducible refine Kd.C_drew ?_) | exact HR344_4.out)) 0 p345 q345; cases e345; have qi345 : (0 < ((rd_T33 t337 0).f4).length) = True := eq_true (by omega); (try rw [show ((0 : Int)).toNat = 0 from rfl] at hx345_0); (try rw [show 0 * 2 = 0 from rfl] at hx345_0); (try rw [Addr.add_zero'] at hx345_0); (try rw [show ((0 : Int)).toNat = 0 from rfl] at hx345_1); (try rw [show 0 * 2 = 0 from rfl] at hx345_1); (try rw [Addr.add_zero'] at hx345_1); replace p345 := eq_true p345; replace q345 := eq_true q345; have p346 : 0 ≤ (0 : Int) := (by omega); have q346 : 0 < (t337.length : Int) := of_decide_eq_true (by first | (with_reducible assumption) | assumption); obtain ⟨ad346, A346_4, c346_4, e346, hx346_0, hx346_1, hx346_2, hx346_3, hx346_4, hx346_5, hl346_4, hi346_4⟩ := at_T33 (Kd.S_reads' HO341.out).2.2 0 p346 q346; (try rw [← Nbq42.out] at hx346_5); obtain rfl : ad343 = ad346 := (by injection e346); obtain ⟨ce346, hce346, hMe346, hcc346⟩ := Kd.S_get HO341.out z33 0 p346 (by first | exact q346 | exact of_decide_eq_true (by first | (with_reducible assumption) | assumption) | (have e_ := (Kd.S_reads' HO341.out).1; omega)); obtain ⟨ve346_4, rfl, ge346_4⟩ := k33_openM hMe346; have hv346_4 := hcc346 4 _ rfl; rw [add_field _ _ 4 (by omega)] at hv346_4; replace hv346_4 := Option.some.inj (hv346_4.symm.trans hx346_4); rw [hv346_4] at ge346_4; have HL346_4 := Aside0.mk (show Kd.R k35 35 _ _ _ _ ((rd_T33 t337 0).f4) from ge346_4); clear hv346_4 ge346_4; clear hcc346 hce346; have qi346 : (0 < t337.length) = True := eq_true (by omega); (try rw [show ((0 : Int)).toNat = 0 from rfl] at hx346_0); (try rw [show 0 * 6 = 0 from rfl] at hx346_0); (try rw [Addr.add_zero'] at hx346_0); (try rw [show ((0 : Int)).toNat = 0 from rfl] at hx346_1); (try rw [show 0 * 6 = 0 from rfl] at hx346_1); (try rw [Addr.add_zero'] at hx346_1); (try rw [show ((0 : Int)).toNat = 0 from rfl] at hx346_2); (try rw [show 0 * 6 = 0 from rfl] at hx346_2); (try rw [Addr.add_zero'] at hx346_2); (try rw [show ((0 : Int)).toNat = 0 from rfl] at hx346_3); (try rw [show 0 * 6 = 0 from rfl] at hx346_3); (try rw [Addr.add_zero'] at hx346_3); (try rw [show ((0 : Int)).toNat = 0 from rfl] at hx346_4); (try rw [show 0 * 6 = 0 from rfl] at hx346_4); (try rw [Addr.add_zero'] at hx346_4); (try rw [show ((0 : Int)).toNat = 0 from rfl] at hx346_5); (try rw [show 0 * 6 = 0 from rfl] at hx346_5); (try rw [Addr.add_zero'] at hx346_5); have HR346_4 := Aside0.mk hi346_4; have HC346_4 := Aside0.mk hl346_4; clear hi346_4 hl346_4; replace p346 := eq_true p346; replace q346 := eq_true q346; have ea_ := Option.some.inj (hx343_4.symm.trans hx346_4); injection ea_ with ea_ en_ ec_; subst ea_; subst ec_; clear en_))
                                                            go_ret
                                                            exact ⟨by first | rfl | (simp [errW_none, errW_some] <;> rfl) | (simp only [← hji9]; first | rfl | (simp [errW_none, errW_some] <;> rfl)) | (simp [*, errW_none, errW_some] <;> rfl), by repeat (first | (with_reducible first | exact HB.out | apply below_alloc | apply pw_below_drewN | apply below_drew1) | exact HB.out)⟩
                                                          · rw [if_neg c51] at H
                                                            have c51b0 : ((t337.length : Int) == 2) = false := beq_eq_false_iff_ne.mpr c51
                                                            have c51b1 : ((t337.length : Int) != 2) = true := bne_iff_ne.mpr c51
                                                            by_cases c58 : (t337.length : Int) = 3
                                                            · rw [if_pos c58] at H
                                                              have c58b0 : ((t337.length : Int) == 3) = true := beq_iff_eq.mpr c58
                                                              have c58b1 : ((t337.length : Int) != 3) = false := bne_eq_false_iff_eq.mpr c58
                                                              clear c58
                                                              by_cases c59 : 1 < (t337.length : Int)
                                                              · rw [if_pos c59] at H
                                                                have c59b0 : decide (1 < (t337.length : Int)) = true := decide_eq_true c59
                                                                have c59b1 : decide (1 < t337.length) = true := decide_eq_true (by omega)
                                                                clear c59
                                                                first
                                                                  | (simp at H; done)
                                                                  | skip
                                                                    have hr_ := Option.some.inj H
                                                                    clear H
                                                                    go_wp2_with (first | ((with_reducible refine gate_dst (N := 30) rfl ?_); refine add_event ?hg (N := 30) ?hd (x := (⟨#[60, 97]⟩ : ByteArray)) (y := (rdOf ByteArray.empty y332 (ji9))) ?hr ?_; (case hd => rfl); (case hg => rfl); (case hr => have hz_ := C13.out; first | (go_simp; done) | (go_simp; rfl)); intro s30 hs_; clear C13; rw [← hs_] at C14 C15 C16 C17 C18 C19 C20 C21 C22 C23 C24 C25 C26 A27; clear hs_) | ((with_reducible refine gate_dst (N := 31) rfl ?_); refine add_event ?hg (N := 31) ?hd (x := s30) (y := (⟨#[98]⟩ : ByteArray)) ?hr ?_; (case hd => rfl); (case hg => rfl); (case hr => have hz_ := C14.out; first | (go_simp; done) | (go_simp; rfl)); intro s31 hs_; clear C14; rw [← hs_] at C15 C16 C17 C18 C19 C20 C21 C22 C23 C24 C25 C26 A27; clear hs_) | ((with_reducible refine gate_dst (N := 33) rfl ?_); refine add_event ?hg (N := 33) ?hd (x := s31) (y := (rdOf ByteArray.empty y332 (ji9))) ?hr ?_; (case hd => rfl); (case hg => rfl); (case hr => have hz_ := C15.out; first | (go_simp; done) | (go_simp; rfl)); intro s33 hs_; clear C15; rw [← hs_] at C16 C17 C18 C19 C20 C21 C22 C23 C24 C25 C26 A27; clear hs_) | ((with_reducible refine gate_dst (N := 34) rfl ?_); refine add_event ?hg (N := 34) ?hd (x := s33) (y := (⟨#[61]⟩ : ByteArray)) ?hr ?_; (case hd => rfl); (case hg => rfl); (case hr => have hz_ := C16.out; first | (go_simp; done) | (go_simp; rfl)); intro s34 hs_; clear C16; rw [← hs_] at C17 C18 C19 C20 C21 C22 C23 C24 C25 C26 A27; clear hs_) | ((with_reducible refine gate_dst (N := 36) rfl ?_); refine add_event ?hg (N := 36) ?hd (x := s34) (y := (rdOf ByteArray.empty y332 (ji9))) ?hr ?_; (case hd => rfl); (case hg => rfl); (case hr => have hz_ := C17.out; first | (go_simp; done) | (go_simp; rfl)); intro s36 hs_; clear C17; rw [← hs_] at C18 C19 C20 C21 C22 C23 C24 C25 C26 A27; clear hs_) | ((with_reducible refine gate_dst (N := 37) rfl ?_); refine add_event ?hg (N := 37) ?hd (x := s36) (y := (⟨#[39]⟩ : ByteArray)) ?hr ?_; (case hd => rfl); (case hg => rfl); (case hr => have hz_ := C18.out; first | (go_simp; done) | (go_simp; rfl)); intro s37 hs_; clear C18; rw [← hs_] at C19 C20 C21 C22 C23 C24 C25 C26 A27; clear hs_) | ((with_reducible refine gate_dst (N := 39) rfl ?_); refine add_event ?hg (N := 39) ?hd (x := s37) (y := t336) ?hr ?_; (case hd => rfl); (case hg => rfl); (case hr => have hz_ := C19.out; first | (go_simp; done) | (go_simp; rfl)); intro s39 hs_; clear C19; rw [← hs_] at C20 C21 C22 C23 C24 C25 C26 A27; clear hs_) | ((with_reducible refine gate_dst (N := 40) rfl ?_); refine add_event ?hg (N := 40) ?hd (x := s39) (y := (⟨#[39]⟩ : ByteArray)) ?hr ?_; (case hd => rfl); (case hg => rfl); (case hr => have hz_ := C20.out; first | (go_simp; done) | (go_simp; rfl)); intro s40 hs_; clear C20; rw [← hs_] at C21 C22 C23 C24 C25 C26 A27; clear hs_) | ((with_reducible refine gate_dst (N := 42) rfl ?_); refine add_event ?hg (N := 42) ?hd (x := s40) (y := (rdOf ByteArray.empty y332 (ji9))) ?hr ?_; (case hd => rfl); (case hg => rfl); (case hr => have hz_ := C21.out; first | (go_simp; done) | (go_simp; rfl)); intro s42 hs_; clear C21; rw [← hs_] at C22 C23 C24 C25 C26 A27; clear hs_) | ((with_reducible refine gate_dst (N := 43) rfl ?_); refine add_event ?hg (N := 43) ?hd (x := s42) (y := (⟨#[62]⟩ : ByteArray)) ?hr ?_; (case hd => rfl); (case hg => rfl); (case hr => have hz_ := C22.out; first | (go_simp; done) | (go_simp; rfl)); intro s43 hs_; clear C22; rw [← hs_] at C23 C24 C25 C26 A27; clear hs_) | ((with_reducible refine gate_dst (N := 45) rfl ?_); refine add_event ?hg (N := 45) ?hd (x := s43) (y := t336) ?hr ?_; (case hd => rfl); (case hg => rfl); (case hr => have hz_ := C23.out; first | (go_simp; done) | (go_simp; rfl)); intro s45 hs_; clear C23; rw [← hs_] at C24 C25 C26 A27; clear hs_) | ((with_reducible refine gate_dst (N := 46) rfl ?_); refine add_event ?hg (N := 46) ?hd (x := s45) (y := (⟨#[60, 47, 97]⟩ : ByteArray)) ?hr ?_; (case hd => rfl); (case hg => rfl); (case hr => have hz_ := C24.out; first | (go_simp; done) | (go_simp; rfl)); intro s46 hs_; clear C24; rw [← hs_] at C25 C26 A27; clear hs_) | ((with_reducible refine gate_dst (N := 48) rfl ?_); refine add_event ?hg (N := 48) ?hd (x := s46) (y := (rdOf ByteArray.empty y332 (ji9))) ?hr ?_; (case hd => rfl); (case hg => rfl); (case hr => have hz_ := C25.out; first | (go_simp; done) | (go_simp; rfl)); intro s48 hs_; clear C25; rw [← hs_] at C26 A27; clear hs_) | ((with_reducible refine gate_dst (N := 49) rfl ?_); refine add_event ?hg (N := 49) ?hd (x := s48) (y := (⟨#[62]⟩ : ByteArray)) ?hr ?_; (case hd => rfl); (case hg => rfl); (case hr => have hz_ := C26.out; first | (go_simp; done) | (go_simp; rfl)); intro s49 hs_; clear C26; rw [← hs_] at A27; clear hs_) | ((with_reducible refine gate_dst (N := 19) rfl ?_); (try (refine gate_guard (by rfl) ?_; dsimp only)); refine Kd.R_lit Kd.string _ 9 ?hg (N := 19) ?hd (xs := ([(⟨#[32]⟩ : ByteArray), (⟨#[9, 10]⟩ : ByteArray), (⟨#[32, 32]⟩ : ByteArray), (⟨#[13, 32]⟩ : ByteArray)] : List ByteArray)) (inner := [.string (⟨#[32]⟩ : ByteArray), .string (⟨#[9, 10]⟩ : ByteArray), .string (⟨#[32, 32]⟩ : ByteArray), .string (⟨#[13, 32]⟩ : ByteArray)]) (ok := fun _ => True) (okp := fun _ => True) ?hr ?hp (fun _ hk => hk) trivial (Below.refl _ _) (Nat.le_refl _) (by simp) ?_; (case hd => rfl); (case hg => rfl); (case hr => first | (go_simp; done) | (go_simp; rfl)); (case hp => exact (Reps.one (show Kd.M Kd.string _ _ _ (⟨#[32]⟩ : ByteArray) [.string (⟨#[32]⟩ : ByteArray)] from rfl) (Reps.one (show Kd.M Kd.string _ _ _ (⟨#[9, 10]⟩ : ByteArray) [.string (⟨#[9, 10]⟩ : ByteArray)] from rfl) (Reps.one (show Kd.M Kd.string _ _ _ (⟨#[32, 32]⟩ : ByteArray) [.string (⟨#[32, 32]⟩ : ByteArray)] from rfl) (Reps.one (show Kd.M Kd.string _ _ _ (⟨#[13, 32]⟩ : ByteArray) [.string (⟨#[13, 32]⟩ : ByteArray)] from rfl) (Reps.none _ _)))))); intro v333 w60 ho61 hb hg_ hnew_; clear hg_ hnew_; (first | rw [← Ny332.out] at ho61 | (simp only [Int.reduceToNat] at ho61; rw [← Ny332.out] at ho61)); have n0_ := Aside0.mk (Kd.R_lower ho61 (below_size (by repeat (first | (with_reducible first | exact HB.out | apply below_alloc | apply pw_below_drewN | apply below_drew1) | exact HB.out)))); have n1_ := Aside0.mk (below_step (by repeat (first | (with_reducible first | exact HB.out | apply below_alloc | apply pw_below_drewN | apply below_drew1) | exact HB.out)) hb); clear HB; have HO334 := n0_; have HB := n1_; clear n0_ n1_; clear hb ho61; obtain ⟨Ao62, co62, eo62⟩ := Kd.R_slice HO334.out; subst eo62; have p335 : 0 ≤ ((ji9) : Int) := of_decide_eq_true (by first | (with_reducible assumption) | assumption); have q335 : (ji9) < (y332.length : Int) := of_decide_eq_true (by first | (with_reducible assumption) | assumption); obtain ⟨ad335, e335, hx335_0⟩ := Kd.at_string (Kd.R_reads' HO334.out).2.2 (ji9) p335 q335; cases e335; replace p335 := eq_true p335; replace q335 := eq_true q335) | ((with_reducible refine gate_callee (f := 9) rfl ?_); refine goesL_ (some 27) rfl rfl Tryd.func9 (by kernel_rfl) rfl #[.string a0] rfl (by (try simp only [List.map_toArray, List.map_cons, List.map_nil]); first | done | rfl | (simp only [List.length_drop, List.length_take]; rfl)) ?_; (with_reducible refine (cardexref01_Escape.calls kj2 a0 t336 _ ?side1 A12.out).mono ?_); (case side1 => first | exact HG.out | exact Gd.drewN HG.out _ | exact Gd.drew HG.out | exact Gd.below HG.out (by repeat (first | (with_reducible first | exact HB.out | apply below_alloc | apply pw_below_drewN | apply below_drew1) | exact HB.out))); rintro e w' ⟨rfl, ⟨nd, rfl⟩⟩; refine ⟨_, rfl, ?_⟩) | ((with_reducible refine gate_callee (f := 10) rfl ?_); refine goesL_ (some 50) rfl rfl Tryd.func10 (by kernel_rfl) rfl #[.string s49] rfl (by (try simp only [List.map_toArray, List.map_cons, List.map_nil]); first | done | (simp only [hji9]; rfl) | rfl | (simp only [List.length_drop, List.length_take]; rfl)) ?_; (with_reducible refine (G_Tokens.calls s49 t337 t338 t339 _ ?side1 A27.out).mono ?_); (case side1 => first | exact HG.out | exact Gd.drewN HG.out _ | exact Gd.drew HG.out | exact Gd.below HG.out (by repeat (first | (with_reducible first | exact HB.out | apply below_alloc | apply pw_below_drewN | apply below_drew1) | exact HB.out))); rintro e w63 ⟨v340, rfl, ho0, hb⟩; refine ⟨_, rfl, ?_⟩; have n0_ := Aside0.mk (Kd.R_below (by (with_reducible repeat (first | apply Kd.R_alloc | apply Kd.R_drewN | apply Kd.R_drew)); exact HO334.out) hb); have n1_ := Aside0.mk (Kd.S_lower ho0 (below_size (by repeat (first | (with_reducible first | exact HB.out | apply below_alloc | apply pw_below_drewN | apply below_drew1) | exact HB.out)))); have n2_ := Aside0.mk (below_step (by repeat (first | (with_reducible first | exact HB.out | apply below_alloc | apply pw_below_drewN | apply below_drew1) | exact HB.out)) hb); clear HO334; clear HB; have HO334 := n0_; have HO341 := n1_; have HB := n2_; clear n0_ n1_ n2_; (try clear hb); (try clear hb2); (try clear hk); (try clear hi); (try clear ho0)) | ((with_reducible refine gate_callee (f := 8) rfl ?_); refine goesL_ (some 54) rfl rfl Tryd.func8 (by kernel_rfl) rfl #[] rfl (by (try simp only [List.map_toArray, List.map_cons, List.map_nil]); first | done | rfl | (simp only [List.length_drop, List.length_take]; rfl)) ?_; (with_reducible refine (cardexlaw08_awake.calls  true _ ?side1 A28.out).mono ?_); (case side1 => first | exact HG.out | exact Gd.drewN HG.out _ | exact Gd.drew HG.out | exact Gd.below HG.out (by repeat (first | (with_reducible first | exact HB.out | apply below_alloc | apply pw_below_drewN | apply below_drew1) | exact HB.out))); rintro e w64 ⟨rfl, hb⟩; refine ⟨_, rfl, ?_⟩; have n0_ := Aside0.mk (Kd.R_below (by (with_reducible repeat (first | apply Kd.R_alloc | apply Kd.R_drewN | apply Kd.R_drew)); exact HO334.out) hb); have n1_ := Aside0.mk (Kd.S_below (by (with_reducible repeat (first | apply Kd.S_alloc | apply Kd.S_drewN | apply Kd.S_drew)); exact HO341.out) hb); have n2_ := Aside0.mk (below_step (by repeat (first | (with_reducible first | exact HB.out | apply below_alloc | apply pw_below_drewN | apply below_drew1) | exact HB.out)) hb); clear HO334; clear HO341; clear HB; have HO334 := n0_; have HO341 := n1_; have HB := n2_; clear n0_ n1_ n2_; (try clear hb); (try clear hb2); (try clear hk); (try clear hi); obtain ⟨Ao65, co65, eo65⟩ := Kd.S_slice HO341.out; subst eo65; have p343 : 0 ≤ (0 : Int) := (by omega); have q343 : 0 < (t337.length : Int) := of_decide_eq_true (by first | (with_reducible assumption) | assumption); obtain ⟨ad343, A343_4, c343_4, e343, hx343_0, hx343_1, hx343_2, hx343_3, hx343_4, hx343_5, hl343_4, hi343_4⟩ := at_T33 (Kd.S_reads' HO341.out).2.2 0 p343 q343; (try rw [← Nbq42.out] at hx343_5); cases e343; obtain ⟨ce343, hce343, hMe343, hcc343⟩ := Kd.S_get HO341.out z33 0 p343 (by first | exact q343 | exact of_decide_eq_true (by first | (with_reducible assumption) | assumption) | (have e_ := (Kd.S_reads' HO341.out).1; omega)); obtain ⟨ve343_4, rfl, ge343_4⟩ := k33_openM hMe343; have hv343_4 := hcc343 4 _ rfl; rw [add_field _ _ 4 (by omega)] at hv343_4; replace hv343_4 := Option.some.inj (hv343_4.symm.trans hx343_4); rw [hv343_4] at ge343_4; have HL343_4 := Aside0.mk (show Kd.R k35 35 _ _ _ _ ((rd_T33 t337 0).f4) from ge343_4); clear hv343_4 ge343_4; clear hcc343 hce343; have qi343 : (0 < t337.length) = True := eq_true (by omega); (try rw [show ((0 : Int)).toNat = 0 from rfl] at hx343_0); (try rw [show 0 * 6 = 0 from rfl] at hx343_0); (try rw [Addr.add_zero'] at hx343_0); (try rw [show ((0 : Int)).toNat = 0 from rfl] at hx343_1); (try rw [show 0 * 6 = 0 from rfl] at hx343_1); (try rw [Addr.add_zero'] at hx343_1); (try rw [show ((0 : Int)).toNat = 0 from rfl] at hx343_2); (try rw [show 0 * 6 = 0 from rfl] at hx343_2); (try rw [Addr.add_zero'] at hx343_2); (try rw [show ((0 : Int)).toNat = 0 from rfl] at hx343_3); (try rw [show 0 * 6 = 0 from rfl] at hx343_3); (try rw [Addr.add_zero'] at hx343_3); (try rw [show ((0 : Int)).toNat = 0 from rfl] at hx343_4); (try rw [show 0 * 6 = 0 from rfl] at hx343_4); (try rw [Addr.add_zero'] at hx343_4); (try rw [show ((0 : Int)).toNat = 0 from rfl] at hx343_5); (try rw [show 0 * 6 = 0 from rfl] at hx343_5); (try rw [Addr.add_zero'] at hx343_5); have HR343_4 := Aside0.mk hi343_4; have HC343_4 := Aside0.mk hl343_4; clear hi343_4 hl343_4; replace p343 := eq_true p343; replace q343 := eq_true q343; have p344 : 0 ≤ (0 : Int) := (by omega); have q344 : 0 < (t337.length : Int) := of_decide_eq_true (by first | (with_reducible assumption) | assumption); obtain ⟨ad344, A344_4, c344_4, e344, hx344_0, hx344_1, hx344_2, hx344_3, hx344_4, hx344_5, hl344_4, hi344_4⟩ := at_T33 (Kd.S_reads' HO341.out).2.2 0 p344 q344; (try rw [← Nbq42.out] at hx344_5); obtain rfl : ad343 = ad344 := (by injection e344); obtain ⟨ce344, hce344, hMe344, hcc344⟩ := Kd.S_get HO341.out z33 0 p344 (by first | exact q344 | exact of_decide_eq_true (by first | (with_reducible assumption) | assumption) | (have e_ := (Kd.S_reads' HO341.out).1; omega)); obtain ⟨ve344_4, rfl, ge344_4⟩ := k33_openM hMe344; have hv344_4 := hcc344 4 _ rfl; rw [add_field _ _ 4 (by omega)] at hv344_4; replace hv344_4 := Option.some.inj (hv344_4.symm.trans hx344_4); rw [hv344_4] at ge344_4; have HL344_4 := Aside0.mk (show Kd.R k35 35 _ _ _ _ ((rd_T33 t337 0).f4) from ge344_4); clear hv344_4 ge344_4; clear hcc344 hce344; have qi344 : (0 < t337.length) = True := eq_true (by omega); (try rw [show ((0 : Int)).toNat = 0 from rfl] at hx344_0); (try rw [show 0 * 6 = 0 from rfl] at hx344_0); (try rw [Addr.add_zero'] at hx344_0); (try rw [show ((0 : Int)).toNat = 0 from rfl] at hx344_1); (try rw [show 0 * 6 = 0 from rfl] at hx344_1); (try rw [Addr.add_zero'] at hx344_1); (try rw [show ((0 : Int)).toNat = 0 from rfl] at hx344_2); (try rw [show 0 * 6 = 0 from rfl] at hx344_2); (try rw [Addr.add_zero'] at hx344_2); (try rw [show ((0 : Int)).toNat = 0 from rfl] at hx344_3); (try rw [show 0 * 6 = 0 from rfl] at hx344_3); (try rw [Addr.add_zero'] at hx344_3); (try rw [show ((0 : Int)).toNat = 0 from rfl] at hx344_4); (try rw [show 0 * 6 = 0 from rfl] at hx344_4); (try rw [Addr.add_zero'] at hx344_4); (try rw [show ((0 : Int)).toNat = 0 from rfl] at hx344_5); (try rw [show 0 * 6 = 0 from rfl] at hx344_5); (try rw [Addr.add_zero'] at hx344_5); have HR344_4 := Aside0.mk hi344_4; have HC344_4 := Aside0.mk hl344_4; clear hi344_4 hl344_4; replace p344 := eq_true p344; replace q344 := eq_true q344; have ea_ := Option.some.inj (hx343_4.symm.trans hx344_4); injection ea_ with ea_ en_ ec_; subst ea_; subst ec_; clear en_; have p345 : 0 ≤ (0 : Int) := (by omega); have q345 : 0 < (((rd_T33 t337 0).f4).length : Int) := of_decide_eq_true (by first | (with_reducible assumption) | assumption); obtain ⟨ad345, e345, hx345_0, hx345_1⟩ := at_T35 (by repeat (first | (with_reducible exact HR344_4.out) | (with_reducible refine Kd.C_alloc ?_ _) | (with_reducible refine Kd.C_drewN ?_ _) | (with_reducible refine Kd.C_drew ?_) | exact HR344_4.out)) 0 p345 q345; cases e345; have qi345 : (0 < ((rd_T33 t337 0).f4).length) = True := eq_true (by omega); (try rw [show ((0 : Int)).toNat = 0 from rfl] at hx345_0); (try rw [show 0 * 2 = 0 from rfl] at hx345_0); (try rw [Addr.add_zero'] at hx345_0); (try rw [show ((0 : Int)).toNat = 0 from rfl] at hx345_1); (try rw [show 0 * 2 = 0 from rfl] at hx345_1); (try rw [Addr.add_zero'] at hx345_1); replace p345 := eq_true p345; replace q345 := eq_true q345; have p346 : 0 ≤ (0 : Int) := (by omega); have q346 : 0 < (t337.length : Int) := of_decide_eq_true (by first | (with_reducible assumption) | assumption); obtain ⟨ad346, A346_4, c346_4, e346, hx346_0, hx346_1, hx346_2, hx346_3, hx346_4, hx346_5, hl346_4, hi346_4⟩ := at_T33 (Kd.S_reads' HO341.out).2.2 0 p346 q346; (try rw [← Nbq42.out] at hx346_5); obtain rfl : ad343 = ad346 := (by injection e346); obtain ⟨ce346, hce346, hMe346, hcc346⟩ := Kd.S_get HO341.out z33 0 p346 (by first | exact q346 | exact of_decide_eq_true (by first | (with_reducible assumption) | assumption) | (have e_ := (Kd.S_reads' HO341.out).1; omega)); obtain ⟨ve346_4, rfl, ge346_4⟩ := k33_openM hMe346; have hv346_4 := hcc346 4 _ rfl; rw [add_field _ _ 4 (by omega)] at hv346_4; replace hv346_4 := Option.some.inj (hv346_4.symm.trans hx346_4); rw [hv346_4] at ge346_4; have HL346_4 := Aside0.mk (show Kd.R k35 35 _ _ _ _ ((rd_T33 t337 0).f4) from ge346_4); clear hv346_4 ge346_4; clear hcc346 hce346; have qi346 : (0 < t337.length) = True := eq_true (by omega); (try rw [show ((0 : Int)).toNat = 0 from rfl] at hx346_0); (try rw [show 0 * 6 = 0 from rfl] at hx346_0); (try rw [Addr.add_zero'] at hx346_0); (try rw [show ((0 : Int)).toNat = 0 from rfl] at hx346_1); (try rw [show 0 * 6 = 0 from rfl] at hx346_1); (try rw [Addr.add_zero'] at hx346_1); (try rw [show ((0 : Int)).toNat = 0 from rfl] at hx346_2); (try rw [show 0 * 6 = 0 from rfl] at hx346_2); (try rw [Addr.add_zero'] at hx346_2); (try rw [show ((0 : Int)).toNat = 0 from rfl] at hx346_3); (try rw [show 0 * 6 = 0 from rfl] at hx346_3); (try rw [Addr.add_zero'] at hx346_3); (try rw [show ((0 : Int)).toNat = 0 from rfl] at hx346_4); (try rw [show 0 * 6 = 0 from rfl] at hx346_4); (try rw [Addr.add_zero'] at hx346_4); (try rw [show ((0 : Int)).toNat = 0 from rfl] at hx346_5); (try rw [show 0 * 6 = 0 from rfl] at hx346_5); (try rw [Addr.add_zero'] at hx346_5); have HR346_4 := Aside0.mk hi346_4; have HC346_4 := Aside0.mk hl346_4; clear hi346_4 hl346_4; replace p346 := eq_true p346; replace q346 := eq_true q346; have ea_ := Option.some.inj (hx343_4.symm.trans hx346_4); injection ea_ with ea_ en_ ec_; subst ea_; subst ec_; clear en_; have p347 : 0 ≤ (1 : Int) := (by omega); have q347 : 1 < (t337.length : Int) := of_decide_eq_true (by first | (with_reducible assumption) | assumption); obtain ⟨ad347, A347_4, c347_4, e347, hx347_0, hx347_1, hx347_2, hx347_3, hx347_4, hx347_5, hl347_4, hi347_4⟩ := at_T33 (Kd.S_reads' HO341.out).2.2 1 p347 q347; (try rw [← Nbq42.out] at hx347_5); obtain rfl : ad343 = ad347 := (by injection e347); obtain ⟨ce347, hce347, hMe347, hcc347⟩ := Kd.S_get HO341.out z33 1 p347 (by first | exact q347 | exact of_decide_eq_true (by first | (with_reducible assumption) | assumption) | (have e_ := (Kd.S_reads' HO341.out).1; omega)); obtain ⟨ve347_4, rfl, ge347_4⟩ := k33_openM hMe347; have hv347_4 := hcc347 4 _ rfl; rw [add_field _ _ 4 (by omega)] at hv347_4; replace hv347_4 := Option.some.inj (hv347_4.symm.trans hx347_4); rw [hv347_4] at ge347_4; have HL347_4 := Aside0.mk (show Kd.R k35 35 _ _ _ _ ((rd_T33 t337 1).f4) from ge347_4); clear hv347_4 ge347_4; clear hcc347 hce347; (try simp only [show (1 : Int).toNat = 1 from rfl, Nat.reduceMul, Nat.reduceEqDiff, Go.Addr.add, ↓reduceIte] at hx347_0); (try simp only [show (1 : Int).toNat = 1 from rfl, Nat.reduceMul, Nat.reduceEqDiff, Go.Addr.add, ↓reduceIte] at hx347_1); (try simp only [show (1 : Int).toNat = 1 from rfl, Nat.reduceMul, Nat.reduceEqDiff, Go.Addr.add, ↓reduceIte] at hx347_2); (try simp only [show (1 : Int).toNat = 1 from rfl, Nat.reduceMul, Nat.reduceEqDiff, Go.Addr.add, ↓reduceIte] at hx347_3); (try simp only [show (1 : Int).toNat = 1 from rfl, Nat.reduceMul, Nat.reduceEqDiff, Go.Addr.add, ↓reduceIte] at hx347_4); (try simp only [show (1 : Int).toNat = 1 from rfl, Nat.reduceMul, Nat.reduceEqDiff, Go.Addr.add, ↓reduceIte] at hx347_5); have qi347 : (1 < t337.length) = True := eq_true (by omega); (try rw [show ((1 : Int)).toNat = 1 from rfl] at hx347_0); (try rw [show 1 * 6 = 6 from rfl] at hx347_0); (try rw [show ((1 : Int)).toNat = 1 from rfl] at hx347_1); (try rw [show 1 * 6 = 6 from rfl] at hx347_1); (try rw [show ((1 : Int)).toNat = 1 from rfl] at hx347_2); (try rw [show 1 * 6 = 6 from rfl] at hx347_2); (try rw [show ((1 : Int)).toNat = 1 from rfl] at hx347_3); (try rw [show 1 * 6 = 6 from rfl] at hx347_3); (try rw [show ((1 : Int)).toNat = 1 from rfl] at hx347_4); (try rw [show 1 * 6 = 6 from rfl] at hx347_4); (try rw [show ((1 : Int)).toNat = 1 from rfl] at hx347_5); (try rw [show 1 * 6 = 6 from rfl] at hx347_5); have HR347_4 := Aside0.mk hi347_4; have HC347_4 := Aside0.mk hl347_4; clear hi347_4 hl347_4; replace p347 := eq_true p347; replace q347 := eq_true q347))
                                                                    go_ret
                                                                    exact ⟨by first | rfl | (simp [errW_none, errW_some] <;> rfl) | (simp only [← hji9]; first | rfl | (simp [errW_none, errW_some] <;> rfl)) | (simp [*, errW_none, errW_some] <;> rfl), by repeat (first | (with_reducible first | exact HB.out | apply below_alloc | apply pw_below_drewN | apply below_drew1) | exact HB.out)⟩
                                                              · rw [if_neg c59] at H
                                                                exact absurd H (by simp)
                                                            · rw [if_neg c58] at H
                                                              have c58b0 : ((t337.length : Int) == 3) = false := beq_eq_false_iff_ne.mpr c58
                                                              have c58b1 : ((t337.length : Int) != 3) = true := bne_iff_ne.mpr c58
                                                              cases H
                                                        · rw [if_neg c50] at H
                                                          have c50b0 : (a0.toList == ([] : List UInt8)) = false := beq_eq_false_iff_ne.mpr c50
                                                          have c50b1 : (a0.toList != ([] : List UInt8)) = true := bne_iff_ne.mpr c50
                                                          by_cases c72 : (t337.length : Int) = 3
                                                          · rw [if_pos c72] at H
                                                            have c72b0 : ((t337.length : Int) == 3) = true := beq_iff_eq.mpr c72
                                                            have c72b1 : ((t337.length : Int) != 3) = false := bne_eq_false_iff_eq.mpr c72
                                                            clear c72
                                                            by_cases c73 : 1 < (t337.length : Int)
                                                            · rw [if_pos c73] at H
                                                              have c73b0 : decide (1 < (t337.length : Int)) = true := decide_eq_true c73
                                                              have c73b1 : decide (1 < t337.length) = true := decide_eq_true (by omega)
                                                              clear c73
                                                              first
                                                                | (simp at H; done)
                                                                | skip
                                                                  have hr_ := Option.some.inj H
                                                                  clear H
                                                                  go_wp2_with (first | ((with_reducible refine gate_dst (N := 30) rfl ?_); refine add_event ?hg (N := 30) ?hd (x := (⟨#[60, 97]⟩ : ByteArray)) (y := (rdOf ByteArray.empty y332 (ji9))) ?hr ?_; (case hd => rfl); (case hg => rfl); (case hr => have hz_ := C13.out; first | (go_simp; done) | (go_simp; rfl)); intro s30 hs_; clear C13; rw [← hs_] at C14 C15 C16 C17 C18 C19 C20 C21 C22 C23 C24 C25 C26 A27; clear hs_) | ((with_reducible refine gate_dst (N := 31) rfl ?_); refine add_event ?hg (N := 31) ?hd (x := s30) (y := (⟨#[98]⟩ : ByteArray)) ?hr ?_; (case hd => rfl); (case hg => rfl); (case hr => have hz_ := C14.out; first | (go_simp; done) | (go_simp; rfl)); intro s31 hs_; clear C14; rw [← hs_] at C15 C16 C17 C18 C19 C20 C21 C22 C23 C24 C25 C26 A27; clear hs_) | ((with_reducible refine gate_dst (N := 33) rfl ?_); refine add_event ?hg (N := 33) ?hd (x := s31) (y := (rdOf ByteArray.empty y332 (ji9))) ?hr ?_; (case hd => rfl); (case hg => rfl); (case hr => have hz_ := C15.out; first | (go_simp; done) | (go_simp; rfl)); intro s33 hs_; clear C15; rw [← hs_] at C16 C17 C18 C19 C20 C21 C22 C23 C24 C25 C26 A27; clear hs_) | ((with_reducible refine gate_dst (N := 34) rfl ?_); refine add_event ?hg (N := 34) ?hd (x := s33) (y := (⟨#[61]⟩ : ByteArray)) ?hr ?_; (case hd => rfl); (case hg => rfl); (case hr => have hz_ := C16.out; first | (go_simp; done) | (go_simp; rfl)); intro s34 hs_; clear C16; rw [← hs_] at C17 C18 C19 C20 C21 C22 C23 C24 C25 C26 A27; clear hs_) | ((with_reducible refine gate_dst (N := 36) rfl ?_); refine add_event ?hg (N := 36) ?hd (x := s34) (y := (rdOf ByteArray.empty y332 (ji9))) ?hr ?_; (case hd => rfl); (case hg => rfl); (case hr => have hz_ := C17.out; first | (go_simp; done) | (go_simp; rfl)); intro s36 hs_; clear C17; rw [← hs_] at C18 C19 C20 C21 C22 C23 C24 C25 C26 A27; clear hs_) | ((with_reducible refine gate_dst (N := 37) rfl ?_); refine add_event ?hg (N := 37) ?hd (x := s36) (y := (⟨#[39]⟩ : ByteArray)) ?hr ?_; (case hd => rfl); (case hg => rfl); (case hr => have hz_ := C18.out; first | (go_simp; done) | (go_simp; rfl)); intro s37 hs_; clear C18; rw [← hs_] at C19 C20 C21 C22 C23 C24 C25 C26 A27; clear hs_) | ((with_reducible refine gate_dst (N := 39) rfl ?_); refine add_event ?hg (N := 39) ?hd (x := s37) (y := t336) ?hr ?_; (case hd => rfl); (case hg => rfl); (case hr => have hz_ := C19.out; first | (go_simp; done) | (go_simp; rfl)); intro s39 hs_; clear C19; rw [← hs_] at C20 C21 C22 C23 C24 C25 C26 A27; clear hs_) | ((with_reducible refine gate_dst (N := 40) rfl ?_); refine add_event ?hg (N := 40) ?hd (x := s39) (y := (⟨#[39]⟩ : ByteArray)) ?hr ?_; (case hd => rfl); (case hg => rfl); (case hr => have hz_ := C20.out; first | (go_simp; done) | (go_simp; rfl)); intro s40 hs_; clear C20; rw [← hs_] at C21 C22 C23 C24 C25 C26 A27; clear hs_) | ((with_reducible refine gate_dst (N := 42) rfl ?_); refine add_event ?hg (N := 42) ?hd (x := s40) (y := (rdOf ByteArray.empty y332 (ji9))) ?hr ?_; (case hd => rfl); (case hg => rfl); (case hr => have hz_ := C21.out; first | (go_simp; done) | (go_simp; rfl)); intro s42 hs_; clear C21; rw [← hs_] at C22 C23 C24 C25 C26 A27; clear hs_) | ((with_reducible refine gate_dst (N := 43) rfl ?_); refine add_event ?hg (N := 43) ?hd (x := s42) (y := (⟨#[62]⟩ : ByteArray)) ?hr ?_; (case hd => rfl); (case hg => rfl); (case hr => have hz_ := C22.out; first | (go_simp; done) | (go_simp; rfl)); intro s43 hs_; clear C22; rw [← hs_] at C23 C24 C25 C26 A27; clear hs_) | ((with_reducible refine gate_dst (N := 45) rfl ?_); refine add_event ?hg (N := 45) ?hd (x := s43) (y := t336) ?hr ?_; (case hd => rfl); (case hg => rfl); (case hr => have hz_ := C23.out; first | (go_simp; done) | (go_simp; rfl)); intro s45 hs_; clear C23; rw [← hs_] at C24 C25 C26 A27; clear hs_) | ((with_reducible refine gate_dst (N := 46) rfl ?_); refine add_event ?hg (N := 46) ?hd (x := s45) (y := (⟨#[60, 47, 97]⟩ : ByteArray)) ?hr ?_; (case hd => rfl); (case hg => rfl); (case hr => have hz_ := C24.out; first | (go_simp; done) | (go_simp; rfl)); intro s46 hs_; clear C24; rw [← hs_] at C25 C26 A27; clear hs_) | ((with_reducible refine gate_dst (N := 48) rfl ?_); refine add_event ?hg (N := 48) ?hd (x := s46) (y := (rdOf ByteArray.empty y332 (ji9))) ?hr ?_; (case hd => rfl); (case hg => rfl); (case hr => have hz_ := C25.out; first | (go_simp; done) | (go_simp; rfl)); intro s48 hs_; clear C25; rw [← hs_] at C26 A27; clear hs_) | ((with_reducible refine gate_dst (N := 49) rfl ?_); refine add_event ?hg (N := 49) ?hd (x := s48) (y := (⟨#[62]⟩ : ByteArray)) ?hr ?_; (case hd => rfl); (case hg => rfl); (case hr => have hz_ := C26.out; first | (go_simp; done) | (go_simp; rfl)); intro s49 hs_; clear C26; rw [← hs_] at A27; clear hs_) | ((with_reducible refine gate_dst (N := 19) rfl ?_); (try (refine gate_guard (by rfl) ?_; dsimp only)); refine Kd.R_lit Kd.string _ 9 ?hg (N := 19) ?hd (xs := ([(⟨#[32]⟩ : ByteArray), (⟨#[9, 10]⟩ : ByteArray), (⟨#[32, 32]⟩ : ByteArray), (⟨#[13, 32]⟩ : ByteArray)] : List ByteArray)) (inner := [.string (⟨#[32]⟩ : ByteArray), .string (⟨#[9, 10]⟩ : ByteArray), .string (⟨#[32, 32]⟩ : ByteArray), .string (⟨#[13, 32]⟩ : ByteArray)]) (ok := fun _ => True) (okp := fun _ => True) ?hr ?hp (fun _ hk => hk) trivial (Below.refl _ _) (Nat.le_refl _) (by simp) ?_; (case hd => rfl); (case hg => rfl); (case hr => first | (go_simp; done) | (go_simp; rfl)); (case hp => exact (Reps.one (show Kd.M Kd.string _ _ _ (⟨#[32]⟩ : ByteArray) [.string (⟨#[32]⟩ : ByteArray)] from rfl) (Reps.one (show Kd.M Kd.string _ _ _ (⟨#[9, 10]⟩ : ByteArray) [.string (⟨#[9, 10]⟩ : ByteArray)] from rfl) (Reps.one (show Kd.M Kd.string _ _ _ (⟨#[32, 32]⟩ : ByteArray) [.string (⟨#[32, 32]⟩ : ByteArray)] from rfl) (Reps.one (show Kd.M Kd.string _ _ _ (⟨#[13, 32]⟩ : ByteArray) [.string (⟨#[13, 32]⟩ : ByteArray)] from rfl) (Reps.none _ _)))))); intro v333 w74 ho75 hb hg_ hnew_; clear hg_ hnew_; (first | rw [← Ny332.out] at ho75 | (simp only [Int.reduceToNat] at ho75; rw [← Ny332.out] at ho75)); have n0_ := Aside0.mk (Kd.R_lower ho75 (below_size (by repeat (first | (with_reducible first | exact HB.out | apply below_alloc | apply pw_below_drewN | apply below_drew1) | exact HB.out)))); have n1_ := Aside0.mk (below_step (by repeat (first | (with_reducible first | exact HB.out | apply below_alloc | apply pw_below_drewN | apply below_drew1) | exact HB.out)) hb); clear HB; have HO334 := n0_; have HB := n1_; clear n0_ n1_; clear hb ho75; obtain ⟨Ao76, co76, eo76⟩ := Kd.R_slice HO334.out; subst eo76; have p335 : 0 ≤ ((ji9) : Int) := of_decide_eq_true (by first | (with_reducible assumption) | assumption); have q335 : (ji9) < (y332.length : Int) := of_decide_eq_true (by first | (with_reducible assumption) | assumption); obtain ⟨ad335, e335, hx335_0⟩ := Kd.at_string (Kd.R_reads' HO334.out).2.2 (ji9) p335 q335; cases e335; replace p335 := eq_true p335; replace q335 := eq_true q335) | ((with_reducible refine gate_callee (f := 9) rfl ?_); refine goesL_ (some 27) rfl rfl Tryd.func9 (by kernel_rfl) rfl #[.string a0] rfl (by (try simp only [List.map_toArray, List.map_cons, List.map_nil]); first | done | rfl | (simp only [List.length_drop, List.length_take]; rfl)) ?_; (with_reducible refine (cardexref01_Escape.calls kj2 a0 t336 _ ?side1 A12.out).mono ?_); (case side1 => first | exact HG.out | exact Gd.drewN HG.out _ | exact Gd.drew HG.out | exact Gd.below HG.out (by repeat (first | (with_reducible first | exact HB.out | apply below_alloc | apply pw_below_drewN | apply below_drew1) | exact HB.out))); rintro e w' ⟨rfl, ⟨nd, rfl⟩⟩; refine ⟨_, rfl, ?_⟩) | ((with_reducible refine gate_callee (f := 10) rfl ?_); refine goesL_ (some 50) rfl rfl Tryd.func10 (by kernel_rfl) rfl #[.string s49] rfl (by (try simp only [List.map_toArray, List.map_cons, List.map_nil]); first | done | (simp only [hji9]; rfl) | rfl | (simp only [List.length_drop, List.length_take]; rfl)) ?_; (with_reducible refine (G_Tokens.calls s49 t337 t338 t339 _ ?side1 A27.out).mono ?_); (case side1 => first | exact HG.out | exact Gd.drewN HG.out _ | exact Gd.drew HG.out | exact Gd.below HG.out (by repeat (first | (with_reducible first | exact HB.out | apply below_alloc | apply pw_below_drewN | apply below_drew1) | exact HB.out))); rintro e w77 ⟨v340, rfl, ho0, hb⟩; refine ⟨_, rfl, ?_⟩; have n0_ := Aside0.mk (Kd.R_below (by (with_reducible repeat (first | apply Kd.R_alloc | apply Kd.R_drewN | apply Kd.R_drew)); exact HO334.out) hb); have n1_ := Aside0.mk (Kd.S_lower ho0 (below_size (by repeat (first | (with_reducible first | exact HB.out | apply below_alloc | apply pw_below_drewN | apply below_drew1) | exact HB.out)))); have n2_ := Aside0.mk (below_step (by repeat (first | (with_reducible first | exact HB.out | apply below_alloc | apply pw_below_drewN | apply below_drew1) | exact HB.out)) hb); clear HO334; clear HB; have HO334 := n0_; have HO341 := n1_; have HB := n2_; clear n0_ n1_ n2_; (try clear hb); (try clear hb2); (try clear hk); (try clear hi); (try clear ho0)) | ((with_reducible refine gate_callee (f := 8) rfl ?_); refine goesL_ (some 54) rfl rfl Tryd.func8 (by kernel_rfl) rfl #[] rfl (by (try simp only [List.map_toArray, List.map_cons, List.map_nil]); first | done | rfl | (simp only [List.length_drop, List.length_take]; rfl)) ?_; (with_reducible refine (cardexlaw08_awake.calls  true _ ?side1 A28.out).mono ?_); (case side1 => first | exact HG.out | exact Gd.drewN HG.out _ | exact Gd.drew HG.out | exact Gd.below HG.out (by repeat (first | (with_reducible first | exact HB.out | apply below_alloc | apply pw_below_drewN | apply below_drew1) | exact HB.out))); rintro e w78 ⟨rfl, hb⟩; refine ⟨_, rfl, ?_⟩; have n0_ := Aside0.mk (Kd.R_below (by (with_reducible repeat (first | apply Kd.R_alloc | apply Kd.R_drewN | apply Kd.R_drew)); exact HO334.out) hb); have n1_ := Aside0.mk (Kd.S_below (by (with_reducible repeat (first | apply Kd.S_alloc | apply Kd.S_drewN | apply Kd.S_drew)); exact HO341.out) hb); have n2_ := Aside0.mk (below_step (by repeat (first | (with_reducible first | exact HB.out | apply below_alloc | apply pw_below_drewN | apply below_drew1) | exact HB.out)) hb); clear HO334; clear HO341; clear HB; have HO334 := n0_; have HO341 := n1_; have HB := n2_; clear n0_ n1_ n2_; (try clear hb); (try clear hb2); (try clear hk); (try clear hi); obtain ⟨Ao79, co79, eo79⟩ := Kd.S_slice HO341.out; subst eo79; have p343 : 0 ≤ (0 : Int) := (by omega); have q343 : 0 < (t337.length : Int) := of_decide_eq_true (by first | (with_reducible assumption) | assumption); obtain ⟨ad343, A343_4, c343_4, e343, hx343_0, hx343_1, hx343_2, hx343_3, hx343_4, hx343_5, hl343_4, hi343_4⟩ := at_T33 (Kd.S_reads' HO341.out).2.2 0 p343 q343; (try rw [← Nbq42.out] at hx343_5); cases e343; obtain ⟨ce343, hce343, hMe343, hcc343⟩ := Kd.S_get HO341.out z33 0 p343 (by first | exact q343 | exact of_decide_eq_true (by first | (with_reducible assumption) | assumption) | (have e_ := (Kd.S_reads' HO341.out).1; omega)); obtain ⟨ve343_4, rfl, ge343_4⟩ := k33_openM hMe343; have hv343_4 := hcc343 4 _ rfl; rw [add_field _ _ 4 (by omega)] at hv343_4; replace hv343_4 := Option.some.inj (hv343_4.symm.trans hx343_4); rw [hv343_4] at ge343_4; have HL343_4 := Aside0.mk (show Kd.R k35 35 _ _ _ _ ((rd_T33 t337 0).f4) from ge343_4); clear hv343_4 ge343_4; clear hcc343 hce343; have qi343 : (0 < t337.length) = True := eq_true (by omega); (try rw [show ((0 : Int)).toNat = 0 from rfl] at hx343_0); (try rw [show 0 * 6 = 0 from rfl] at hx343_0); (try rw [Addr.add_zero'] at hx343_0); (try rw [show ((0 : Int)).toNat = 0 from rfl] at hx343_1); (try rw [show 0 * 6 = 0 from rfl] at hx343_1); (try rw [Addr.add_zero'] at hx343_1); (try rw [show ((0 : Int)).toNat = 0 from rfl] at hx343_2); (try rw [show 0 * 6 = 0 from rfl] at hx343_2); (try rw [Addr.add_zero'] at hx343_2); (try rw [show ((0 : Int)).toNat = 0 from rfl] at hx343_3); (try rw [show 0 * 6 = 0 from rfl] at hx343_3); (try rw [Addr.add_zero'] at hx343_3); (try rw [show ((0 : Int)).toNat = 0 from rfl] at hx343_4); (try rw [show 0 * 6 = 0 from rfl] at hx343_4); (try rw [Addr.add_zero'] at hx343_4); (try rw [show ((0 : Int)).toNat = 0 from rfl] at hx343_5); (try rw [show 0 * 6 = 0 from rfl] at hx343_5); (try rw [Addr.add_zero'] at hx343_5); have HR343_4 := Aside0.mk hi343_4; have HC343_4 := Aside0.mk hl343_4; clear hi343_4 hl343_4; replace p343 := eq_true p343; replace q343 := eq_true q343; have p344 : 0 ≤ (0 : Int) := (by omega); have q344 : 0 < (t337.length : Int) := of_decide_eq_true (by first | (with_reducible assumption) | assumption); obtain ⟨ad344, A344_4, c344_4, e344, hx344_0, hx344_1, hx344_2, hx344_3, hx344_4, hx344_5, hl344_4, hi344_4⟩ := at_T33 (Kd.S_reads' HO341.out).2.2 0 p344 q344; (try rw [← Nbq42.out] at hx344_5); obtain rfl : ad343 = ad344 := (by injection e344); obtain ⟨ce344, hce344, hMe344, hcc344⟩ := Kd.S_get HO341.out z33 0 p344 (by first | exact q344 | exact of_decide_eq_true (by first | (with_reducible assumption) | assumption) | (have e_ := (Kd.S_reads' HO341.out).1; omega)); obtain ⟨ve344_4, rfl, ge344_4⟩ := k33_openM hMe344; have hv344_4 := hcc344 4 _ rfl; rw [add_field _ _ 4 (by omega)] at hv344_4; replace hv344_4 := Option.some.inj (hv344_4.symm.trans hx344_4); rw [hv344_4] at ge344_4; have HL344_4 := Aside0.mk (show Kd.R k35 35 _ _ _ _ ((rd_T33 t337 0).f4) from ge344_4); clear hv344_4 ge344_4; clear hcc344 hce344; have qi344 : (0 < t337.length) = True := eq_true (by omega); (try rw [show ((0 : Int)).toNat = 0 from rfl] at hx344_0); (try rw [show 0 * 6 = 0 from rfl] at hx344_0); (try rw [Addr.add_zero'] at hx344_0); (try rw [show ((0 : Int)).toNat = 0 from rfl] at hx344_1); (try rw [show 0 * 6 = 0 from rfl] at hx344_1); (try rw [Addr.add_zero'] at hx344_1); (try rw [show ((0 : Int)).toNat = 0 from rfl] at hx344_2); (try rw [show 0 * 6 = 0 from rfl] at hx344_2); (try rw [Addr.add_zero'] at hx344_2); (try rw [show ((0 : Int)).toNat = 0 from rfl] at hx344_3); (try rw [show 0 * 6 = 0 from rfl] at hx344_3); (try rw [Addr.add_zero'] at hx344_3); (try rw [show ((0 : Int)).toNat = 0 from rfl] at hx344_4); (try rw [show 0 * 6 = 0 from rfl] at hx344_4); (try rw [Addr.add_zero'] at hx344_4); (try rw [show ((0 : Int)).toNat = 0 from rfl] at hx344_5); (try rw [show 0 * 6 = 0 from rfl] at hx344_5); (try rw [Addr.add_zero'] at hx344_5); have HR344_4 := Aside0.mk hi344_4; have HC344_4 := Aside0.mk hl344_4; clear hi344_4 hl344_4; replace p344 := eq_true p344; replace q344 := eq_true q344; have ea_ := Option.some.inj (hx343_4.symm.trans hx344_4); injection ea_ with ea_ en_ ec_; subst ea_; subst ec_; clear en_; have p345 : 0 ≤ (0 : Int) := (by omega); have q345 : 0 < (((rd_T33 t337 0).f4).length : Int) := of_decide_eq_true (by first | (with_reducible assumption) | assumption); obtain ⟨ad345, e345, hx345_0, hx345_1⟩ := at_T35 (by repeat (first | (with_reducible exact HR344_4.out) | (with_reducible refine Kd.C_alloc ?_ _) | (with_reducible refine Kd.C_drewN ?_ _) | (with_reducible refine Kd.C_drew ?_) | exact HR344_4.out)) 0 p345 q345; cases e345; have qi345 : (0 < ((rd_T33 t337 0).f4).length) = True := eq_true (by omega); (try rw [show ((0 : Int)).toNat = 0 from rfl] at hx345_0); (try rw [show 0 * 2 = 0 from rfl] at hx345_0); (try rw [Addr.add_zero'] at hx345_0); (try rw [show ((0 : Int)).toNat = 0 from rfl] at hx345_1); (try rw [show 0 * 2 = 0 from rfl] at hx345_1); (try rw [Addr.add_zero'] at hx345_1); replace p345 := eq_true p345; replace q345 := eq_true q345; have p346 : 0 ≤ (0 : Int) := (by omega); have q346 : 0 < (t337.length : Int) := of_decide_eq_true (by first | (with_reducible assumption) | assumption); obtain ⟨ad346, A346_4, c346_4, e346, hx346_0, hx346_1, hx346_2, hx346_3, hx346_4, hx346_5, hl346_4, hi346_4⟩ := at_T33 (Kd.S_reads' HO341.out).2.2 0 p346 q346; (try rw [← Nbq42.out] at hx346_5); obtain rfl : ad343 = ad346 := (by injection e346); obtain ⟨ce346, hce346, hMe346, hcc346⟩ := Kd.S_get HO341.out z33 0 p346 (by first | exact q346 | exact of_decide_eq_true (by first | (with_reducible assumption) | assumption) | (have e_ := (Kd.S_reads' HO341.out).1; omega)); obtain ⟨ve346_4, rfl, ge346_4⟩ := k33_openM hMe346; have hv346_4 := hcc346 4 _ rfl; rw [add_field _ _ 4 (by omega)] at hv346_4; replace hv346_4 := Option.some.inj (hv346_4.symm.trans hx346_4); rw [hv346_4] at ge346_4; have HL346_4 := Aside0.mk (show Kd.R k35 35 _ _ _ _ ((rd_T33 t337 0).f4) from ge346_4); clear hv346_4 ge346_4; clear hcc346 hce346; have qi346 : (0 < t337.length) = True := eq_true (by omega); (try rw [show ((0 : Int)).toNat = 0 from rfl] at hx346_0); (try rw [show 0 * 6 = 0 from rfl] at hx346_0); (try rw [Addr.add_zero'] at hx346_0); (try rw [show ((0 : Int)).toNat = 0 from rfl] at hx346_1); (try rw [show 0 * 6 = 0 from rfl] at hx346_1); (try rw [Addr.add_zero'] at hx346_1); (try rw [show ((0 : Int)).toNat = 0 from rfl] at hx346_2); (try rw [show 0 * 6 = 0 from rfl] at hx346_2); (try rw [Addr.add_zero'] at hx346_2); (try rw [show ((0 : Int)).toNat = 0 from rfl] at hx346_3); (try rw [show 0 * 6 = 0 from rfl] at hx346_3); (try rw [Addr.add_zero'] at hx346_3); (try rw [show ((0 : Int)).toNat = 0 from rfl] at hx346_4); (try rw [show 0 * 6 = 0 from rfl] at hx346_4); (try rw [Addr.add_zero'] at hx346_4); (try rw [show ((0 : Int)).toNat = 0 from rfl] at hx346_5); (try rw [show 0 * 6 = 0 from rfl] at hx346_5); (try rw [Addr.add_zero'] at hx346_5); have HR346_4 := Aside0.mk hi346_4; have HC346_4 := Aside0.mk hl346_4; clear hi346_4 hl346_4; replace p346 := eq_true p346; replace q346 := eq_true q346; have ea_ := Option.some.inj (hx343_4.symm.trans hx346_4); injection ea_ with ea_ en_ ec_; subst ea_; subst ec_; clear en_; have p348 : 0 ≤ (1 : Int) := (by omega); have q348 : 1 < (t337.length : Int) := of_decide_eq_true (by first | (with_reducible assumption) | assumption); obtain ⟨ad348, A348_4, c348_4, e348, hx348_0, hx348_1, hx348_2, hx348_3, hx348_4, hx348_5, hl348_4, hi348_4⟩ := at_T33 (Kd.S_reads' HO341.out).2.2 1 p348 q348; (try rw [← Nbq42.out] at hx348_5); obtain rfl : ad343 = ad348 := (by injection e348); obtain ⟨ce348, hce348, hMe348, hcc348⟩ := Kd.S_get HO341.out z33 1 p348 (by first | exact q348 | exact of_decide_eq_true (by first | (with_reducible assumption) | assumption) | (have e_ := (Kd.S_reads' HO341.out).1; omega)); obtain ⟨ve348_4, rfl, ge348_4⟩ := k33_openM hMe348; have hv348_4 := hcc348 4 _ rfl; rw [add_field _ _ 4 (by omega)] at hv348_4; replace hv348_4 := Option.some.inj (hv348_4.symm.trans hx348_4); rw [hv348_4] at ge348_4; have HL348_4 := Aside0.mk (show Kd.R k35 35 _ _ _ _ ((rd_T33 t337 1).f4) from ge348_4); clear hv348_4 ge348_4; clear hcc348 hce348; (try simp only [show (1 : Int).toNat = 1 from rfl, Nat.reduceMul, Nat.reduceEqDiff, Go.Addr.add, ↓reduceIte] at hx348_0); (try simp only [show (1 : Int).toNat = 1 from rfl, Nat.reduceMul, Nat.reduceEqDiff, Go.Addr.add, ↓reduceIte] at hx348_1); (try simp only [show (1 : Int).toNat = 1 from rfl, Nat.reduceMul, Nat.reduceEqDiff, Go.Addr.add, ↓reduceIte] at hx348_2); (try simp only [show (1 : Int).toNat = 1 from rfl, Nat.reduceMul, Nat.reduceEqDiff, Go.Addr.add, ↓reduceIte] at hx348_3); (try simp only [show (1 : Int).toNat = 1 from rfl, Nat.reduceMul, Nat.reduceEqDiff, Go.Addr.add, ↓reduceIte] at hx348_4); (try simp only [show (1 : Int).toNat = 1 from rfl, Nat.reduceMul, Nat.reduceEqDiff, Go.Addr.add, ↓reduceIte] at hx348_5); have qi348 : (1 < t337.length) = True := eq_true (by omega); (try rw [show ((1 : Int)).toNat = 1 from rfl] at hx348_0); (try rw [show 1 * 6 = 6 from rfl] at hx348_0); (try rw [show ((1 : Int)).toNat = 1 from rfl] at hx348_1); (try rw [show 1 * 6 = 6 from rfl] at hx348_1); (try rw [show ((1 : Int)).toNat = 1 from rfl] at hx348_2); (try rw [show 1 * 6 = 6 from rfl] at hx348_2); (try rw [show ((1 : Int)).toNat = 1 from rfl] at hx348_3); (try rw [show 1 * 6 = 6 from rfl] at hx348_3); (try rw [show ((1 : Int)).toNat = 1 from rfl] at hx348_4); (try rw [show 1 * 6 = 6 from rfl] at hx348_4); (try rw [show ((1 : Int)).toNat = 1 from rfl] at hx348_5); (try rw [show 1 * 6 = 6 from rfl] at hx348_5); have HR348_4 := Aside0.mk hi348_4; have HC348_4 := Aside0.mk hl348_4; clear hi348_4 hl348_4; replace p348 := eq_true p348; replace q348 := eq_true q348))
                                                                  go_ret
                                                                  exact ⟨by first | rfl | (simp [errW_none, errW_some] <;> rfl) | (simp only [← hji9]; first | rfl | (simp [errW_none, errW_some] <;> rfl)) | (simp [*, errW_none, errW_some] <;> rfl), by repeat (first | (with_reducible first | exact HB.out | apply below_alloc | apply pw_below_drewN | apply below_drew1) | exact HB.out)⟩
                                                            · rw [if_neg c73] at H
                                                              exact absurd H (by simp)
                                                          · rw [if_neg c72] at H
                                                            have c72b0 : ((t337.length : Int) == 3) = false := beq_eq_false_iff_ne.mpr c72
                                                            have c72b1 : ((t337.length : Int) != 3) = true := bne_iff_ne.mpr c72
                                                            cases H
                                                    · rw [if_neg c41] at H
                                                      have c41b0 : (((rd_T35 ((rd_T33 t337 0).f4) 0).f1).toList == a0.toList) = false := beq_eq_false_iff_ne.mpr c41
                                                      have c41b1 : (((rd_T35 ((rd_T33 t337 0).f4) 0).f1).toList != a0.toList) = true := bne_iff_ne.mpr c41
                                                      cases H
                                                  · rw [if_neg c40] at H
                                                    exact absurd H (by simp)
                                                · rw [if_neg c39] at H
                                                  have c39b0 : ((((rd_T33 t337 0).f4).length : Int) == 1) = false := beq_eq_false_iff_ne.mpr c39
                                                  have c39b1 : ((((rd_T33 t337 0).f4).length : Int) != 1) = true := bne_iff_ne.mpr c39
                                                  cases H
                                              · rw [if_neg c38] at H
                                                exact absurd H (by simp)
                                          · rw [if_neg c30] at H
                                            have c30b0 : (t339 == 0) = false := beq_eq_false_iff_ne.mpr c30
                                            have c30b1 : (t339 != 0) = true := bne_iff_ne.mpr c30
                                            cases H
                                        · replace c29 := Bool.eq_false_iff.mpr c29
                                          subst c29
                                          have H1 : (some false) = some true := by rw [if_neg (show ¬ (false = true) by decide)] at H; exact H
                                          clear H
                                          have H := H1
                                          clear H1
                                          cases H
                                      · rw [if_neg c26] at H
                                        exact absurd H (by simp)
                                    · rw [if_neg c25] at H
                                      exact absurd H (by simp)
                                  · rw [if_neg c24] at H
                                    exact absurd H (by simp)
                                · rw [if_neg c23] at H
                                  exact absurd H (by simp)
                              · rw [if_neg c22] at H
                                exact absurd H (by simp)
                            · rw [if_neg c21] at H
                              exact absurd H (by simp)
                          · rw [if_neg c20] at H
                            exact absurd H (by simp)
                        · rw [if_neg c19] at H
                          exact absurd H (by simp)
                      · rw [if_neg c18] at H
                        exact absurd H (by simp)
                    · rw [if_neg c17] at H
                      exact absurd H (by simp)
                  · rw [if_neg c16] at H
                    exact absurd H (by simp)
                · rw [if_neg c15] at H
                  exact absurd H (by simp)
              · rw [if_neg c14] at H
                exact absurd H (by simp)
            · rw [if_neg c13] at H
              exact absurd H (by simp)
          · rw [if_neg c11] at H
            exact absurd H (by simp)
        · rw [if_neg c10] at H
          exact absurd H (by simp)

/-- THE ONE PURE STATEMENT of cardexlaw08_TokenTexts: yours. -/
def cardexlaw08_TokenTexts.Pure : Prop := ∀ (a0 : ByteArray) (a1 : Int), a0.size ≤ 140737488351232 → (Lit.int .i64 a1).wf = true → ∃ k, cardexlaw08_TokenTexts.f k a0 a1 = some true
theorem cardexlaw08_TokenTexts.walk (P : cardexlaw08_TokenTexts.Pure) (a0 : ByteArray) (a1 : Int) (w : World) (hG_ : Gd w) (w0 : a0.size ≤ 140737488351232) (w1 : (Lit.int .i64 a1).wf = true) :
    Calls Tryd.prog 3 #[.string a0, .int .i64 a1] w fun e w' => e = .returned (.bool true) ∧ Below w.heap.size w w' := by
  obtain ⟨k, h⟩ := P a0 a1 w0 w1
  refine (cardexlaw08_TokenTexts.calls k a0 a1 w hG_ h).mono ?_
  rintro e w' ⟨rfl, hd⟩
  exact ⟨rfl, hd⟩

end Go.Proofs.YtfelfpjfjjgmoaaDoor.P
end
/- Plain answers of the printed functions that read a token: runs of signs, names, values, attributes, on lists of bytes. -/
section
set_option linter.unusedVariables false
namespace Go.Proofs.YtfelfpjfjjgmoaaDoor
open Go.RowKit Go.Proofs.YtfelfpjfjjgmoaaDoorW.PrintWords

theorem take_drop_while {α : Type} (p : α → Bool) (l : List α) : l.take (l.length - (l.dropWhile p).length) = l.takeWhile p := by
  induction l with
  | nil => rfl
  | cons x l ih =>
    by_cases h : p x = true
    · rw [List.dropWhile_cons_of_pos h, List.takeWhile_cons_of_pos h]
      have hle : (l.dropWhile p).length ≤ l.length := (List.dropWhile_sublist p).length_le
      rw [List.length_cons, show l.length + 1 - (l.dropWhile p).length = (l.length - (l.dropWhile p).length) + 1 from by omega, List.take_succ_cons, ih]
    · rw [List.dropWhile_cons_of_neg h, List.takeWhile_cons_of_neg h]
      simp
theorem bs_eq (s : ByteArray) (l : List UInt8) (h : s.data.toList = l) : s = bs l := by rw [← h, bs_of]
theorem run_eq (s0 : ByteArray) (l cs : List UInt8) (hl : l.length ≤ 1000000000) (hc : asciiB cs = true) (hn : cs.length < 4294967281) :
    P.token_run_string.f s0 (bs l) (bs cs) = some (bs (l.takeWhile (cs.contains ·)), s0, bs (l.dropWhile (cs.contains ·))) := by
  have hle : (l.dropWhile (cs.contains ·)).length ≤ l.length := (List.dropWhile_sublist _).length_le
  have hw : wrap64 ((l.length : Int) - ((l.dropWhile (cs.contains ·)).length : Int)) = ((l.length - (l.dropWhile (cs.contains ·)).length : Nat) : Int) := by unfold wrap64; omega
  unfold P.token_run_string.f G_TrimLeft.f
  rw [bs_size, bs_size, if_pos hn, bs_list, bs_list, if_pos hc]
  simp only [Option.bind_some, Lib.trimLeftS]
  rw [show (⟨(l.dropWhile (cs.contains ·)).toArray⟩ : ByteArray) = bs (l.dropWhile (cs.contains ·)) from rfl, bs_size, hw, if_pos (by omega), if_pos (by omega)]
  congr 2
  apply bs_eq
  rw [extract_list, bs_list, List.drop_zero, Int.toNat_natCast, Nat.sub_zero, take_drop_while]

def blanksL : List UInt8 := [9, 10, 13, 32]
def firstL : List UInt8 := [65, 66, 67, 68, 69, 70, 71, 72, 73, 74, 75, 76, 77, 78, 79, 80, 81, 82, 83, 84, 85, 86, 87, 88, 89, 90, 97, 98, 99, 100, 101, 102, 103, 104, 105, 106, 107, 108, 109, 110, 111, 112, 113, 114, 115, 116, 117, 118, 119, 120, 121, 122, 95]
def otherL : List UInt8 := firstL ++ [48, 49, 50, 51, 52, 53, 54, 55, 56, 57, 45, 46]
/-- A name, and what is behind it. -/
def nameF : List UInt8 → List UInt8 × List UInt8
  | [] => ([], [])
  | c :: l => if firstL.contains c = true then ((c :: l).takeWhile (otherL.contains ·), (c :: l).dropWhile (otherL.contains ·)) else ([], c :: l)
theorem index_ne (c x : UInt8) (l : List UInt8) (h : ¬ c = x) : Lib.index (x :: l) [c] = if (Lib.index l [c] == -1) = true then -1 else Lib.index l [c] + 1 := by
  have hp : ([c].isPrefixOf (x :: l)) = false := by
    simp only [List.isPrefixOf, Bool.and_true]
    exact beq_eq_false_iff_ne.2 h
  conv => lhs; unfold Lib.index; rw [hp]; simp only [Bool.false_eq_true, if_false]
theorem contains_one (l : List UInt8) (c : UInt8) : Lib.contains l [c] = l.contains c := by
  unfold Lib.contains
  induction l with
  | nil => simp [Lib.index]
  | cons x l ih =>
    have hg := index_ge c l
    by_cases h : c = x
    · subst h
      simp [Lib.index]
    · rw [List.contains_cons, show (c == x) = false from beq_eq_false_iff_ne.2 h, Bool.false_or, ← ih, index_ne c x l h]
      by_cases h0 : Lib.index l [c] = -1
      · rw [h0]; decide
      · rw [if_neg (by rw [beq_iff_eq]; exact h0)]
        congr 1
        exact propext ⟨fun _ => by omega, fun _ => by omega⟩
theorem nil_iff (l : List UInt8) : ((bs l).toList = ([] : List UInt8)) = (l = []) := by rw [toList_d, bs_list]
theorem name_eq (s0 : ByteArray) (l : List UInt8) (hl : l.length ≤ 1000000000) : P.token_name.f s0 (bs l) = some (bs (nameF l).1, s0, bs (nameF l).2) := by
  unfold P.token_name.f
  cases l with
  | nil =>
    rw [if_pos (by rw [nil_iff])]
    rfl
  | cons c l =>
    rw [if_neg (by rw [nil_iff]; simp), if_pos (by omega), if_pos (by rw [bs_size, List.length_cons]; omega)]
    unfold G_Contains.f
    rw [if_pos (by decide)]
    simp only [Option.bind_some]
    rw [show ((bs (c :: l)).extract 0 1).data.toList = [c] from by rw [extract_list, bs_list]; rfl, contains_one]
    have hr := run_eq s0 (c :: l) otherL hl (by decide) (by decide)
    by_cases h : firstL.contains c = true
    · rw [show nameF (c :: l) = ((c :: l).takeWhile (otherL.contains ·), (c :: l).dropWhile (otherL.contains ·)) from if_pos h]
      refine Eq.trans (if_pos h) ?_
      rw [show (⟨#[65, 66, 67, 68, 69, 70, 71, 72, 73, 74, 75, 76, 77, 78, 79, 80, 81, 82, 83, 84, 85, 86, 87, 88, 89, 90, 97, 98, 99, 100, 101, 102, 103, 104, 105, 106, 107, 108, 109, 110, 111, 112, 113, 114, 115, 116, 117, 118, 119, 120, 121, 122, 95, 48, 49, 50, 51, 52, 53, 54, 55, 56, 57, 45, 46]⟩ : ByteArray) = bs otherL from rfl, hr]
      rfl
    · rw [show nameF (c :: l) = ([], c :: l) from if_neg h]
      exact if_neg h

/-- Does p stand here? What is behind it. -/
def isF (p l : List UInt8) : Bool × List UInt8 := if (l.take p.length == p) = true then (true, l.drop p.length) else (false, l)
theorem is_eq (s0 : ByteArray) (l p : List UInt8) : P.token_walk_string_is.f s0 (bs l) (bs p) = some ((isF p l).1, s0, bs (isF p l).2) := by
  unfold P.token_walk_string_is.f
  rw [cutP_eq]
  unfold cutP isF
  rw [bs_list, bs_list, bs_size]
  simp only [Option.bind_some]
  split
  · congr 3
    apply bs_eq
    rw [extract_list, bs_list, bs_size, List.take_of_length_le (by rw [List.length_drop]; omega)]
  · rfl
theorem cut_index (c : UInt8) (l : List UInt8) (h : 0 ≤ Lib.index l [c]) : cutAt c l = (l.take (Lib.index l [c]).toNat, l.drop ((Lib.index l [c]).toNat + 1), true) := by
  rw [← cut_eq]
  unfold Lib.cut
  rw [if_pos h]
  rfl
theorem cut_noindex (c : UInt8) (l : List UInt8) (h : ¬ 0 ≤ Lib.index l [c]) : cutAt c l = (l, [], false) := by
  rw [← cut_eq]
  unfold Lib.cut
  rw [if_neg h]
theorem cutAt_join (c : UInt8) : ∀ l : List UInt8, (cutAt c l).2.2 = true → l = (cutAt c l).1 ++ c :: (cutAt c l).2.1
  | [], h => by simp [cutAt] at h
  | x :: l, h => by
    unfold cutAt at h ⊢
    split
    · rename_i hx
      simp [hx]
    · rename_i hx
      rw [if_neg hx] at h
      have ih := cutAt_join c l h
      simp only [List.cons_append]
      rw [← ih]
theorem upTo_eq (s0 : ByteArray) (l : List UInt8) (c : UInt8) (hl : l.length < 4294967281) :
    G_upTo.f s0 (bs l) ⟨#[c]⟩ = some (bs (cutAt c l).1, (cutAt c l).2.2, s0, bs (if (cutAt c l).2.2 = true then c :: (cutAt c l).2.1 else [])) := by
  unfold G_upTo.f
  rw [if_pos (by rw [bs_size]; exact hl), bs_list, show (⟨#[c]⟩ : ByteArray).data.toList = [c] from rfl]
  have hL := cutAt_len c l
  by_cases h : 0 ≤ Lib.index l [c]
  · have hc := cut_index c l h
    have hj := cutAt_join c l (by rw [hc])
    rw [hc] at hL hj ⊢
    simp only [if_true, List.length_take, List.length_drop] at hL
    simp only [] at hj
    have hn : (Lib.index l [c]).toNat < l.length := by
      generalize (Lib.index l [c]).toNat = n at hL ⊢
      omega
    have hd : l.drop (Lib.index l [c]).toNat = c :: l.drop ((Lib.index l [c]).toNat + 1) := by
      have h1 : (l.take (Lib.index l [c]).toNat).length = (Lib.index l [c]).toNat := by rw [List.length_take]; omega
      have h2 := congrArg (List.drop (Lib.index l [c]).toNat) hj
      rw [List.drop_left' h1] at h2
      exact h2
    rw [if_neg (by omega), if_pos (by rw [bs_size]; omega)]
    have e1 : (bs l).extract 0 (Lib.index l [c]).toNat = bs (l.take (Lib.index l [c]).toNat) := by
      apply bs_eq
      rw [extract_list, bs_list, List.drop_zero, Nat.sub_zero]
    have e2 : (bs l).extract (Lib.index l [c]).toNat (bs l).size = bs (c :: l.drop ((Lib.index l [c]).toNat + 1)) := by
      apply bs_eq
      rw [extract_list, bs_list, bs_size, List.take_of_length_le (by rw [List.length_drop]; omega), hd]
    rw [e1, e2, bs_empty]
    rfl
  · rw [if_pos (by omega), cut_noindex c l h]
    simp [bs]

/-! ### values and attributes -/
def valueF : List UInt8 → ByteArray × Bool × List UInt8
  | [] => (⟨#[]⟩, false, [])
  | x :: t =>
    if x = 39 then ((backF (bs (cutAt 39 t).1)).1, (cutAt 39 t).2.2 && ((backF (bs (cutAt 39 t).1)).2 == 0), (cutAt 39 t).2.1)
    else if x = 34 then ((backF (bs (cutAt 34 t).1)).1, (cutAt 34 t).2.2 && ((backF (bs (cutAt 34 t).1)).2 == 0), (cutAt 34 t).2.1)
    else (⟨#[]⟩, false, x :: t)
theorem is_one_yes (s0 : ByteArray) (c : UInt8) (l : List UInt8) : P.token_walk_string_is.f s0 (bs (c :: l)) ⟨#[c]⟩ = some (true, s0, bs l) := by
  rw [show (⟨#[c]⟩ : ByteArray) = bs [c] from rfl, is_eq]
  simp [isF]
theorem is_one_no (s0 : ByteArray) (c x : UInt8) (l : List UInt8) (h : ¬ x = c) : P.token_walk_string_is.f s0 (bs (x :: l)) ⟨#[c]⟩ = some (false, s0, bs (x :: l)) := by
  rw [show (⟨#[c]⟩ : ByteArray) = bs [c] from rfl, is_eq]
  simp [isF, h]
theorem is_one_nil (s0 : ByteArray) (c : UInt8) : P.token_walk_string_is.f s0 (bs []) ⟨#[c]⟩ = some (false, s0, bs []) := by
  rw [show (⟨#[c]⟩ : ByteArray) = bs [c] from rfl, is_eq]
  simp [isF]
theorem cutAt_no (c : UInt8) : ∀ l : List UInt8, (cutAt c l).2.2 = false → (cutAt c l).2.1 = []
  | [], _ => rfl
  | x :: l, h => by
    unfold cutAt at h ⊢
    split
    · rename_i hx
      rw [if_pos hx] at h
      cases h
    · rename_i hx
      rw [if_neg hx] at h
      exact cutAt_no c l h
theorem back_some (l : List UInt8) (hl : l.length < 1000000000) : G_Back.f (bs l) = some (backF (bs l)) := by
  unfold G_Back.f
  rw [if_pos (by rw [bs_size]; exact hl)]
theorem value_eq (s0 : ByteArray) (l : List UInt8) (hl : l.length < 1000000000) : P.token_value.f s0 (bs l) = some ((valueF l).1, (valueF l).2.1, s0, bs (valueF l).2.2) := by
  unfold P.token_value.f
  cases l with
  | nil =>
    rw [is_one_nil]
    simp only [Option.bind_some, Bool.false_eq_true, if_false]
    rw [is_one_nil]
    rfl
  | cons x t =>
    rw [List.length_cons] at hl
    have key : ∀ c : UInt8, (cutAt c t).1.length < 1000000000 := fun c => by have := cutAt_len c t; omega
    by_cases h1 : x = 39
    · subst h1
      rw [is_one_yes]
      simp only [Option.bind_some, if_true]
      rw [upTo_eq s0 t 39 (by omega)]
      simp only [Option.bind_some]
      rw [back_some _ (key 39)]
      simp only [Option.bind_some, valueF]
      cases hc : (cutAt 39 t).2.2 with
      | true =>
        simp only [if_true]
        rw [is_one_yes]
        simp
      | false =>
        rw [cutAt_no 39 t hc]
        simp
    · rw [is_one_no s0 39 x t h1]
      simp only [Option.bind_some, Bool.false_eq_true, if_false]
      by_cases h2 : x = 34
      · subst h2
        rw [is_one_yes]
        simp only [Option.bind_some, if_true]
        rw [upTo_eq s0 t 34 (by omega)]
        simp only [Option.bind_some]
        rw [back_some _ (key 34)]
        simp only [Option.bind_some, valueF]
        cases hc : (cutAt 34 t).2.2 with
        | true =>
          simp only [if_true]
          rw [is_one_yes]
          simp
        | false =>
          rw [cutAt_no 34 t hc]
          simp
      · rw [is_one_no s0 34 x t h2]
        simp only [Option.bind_some, Bool.false_eq_true, if_false]
        simp [valueF, h1, h2]

def skipB (l : List UInt8) : List UInt8 := l.dropWhile (blanksL.contains ·)
def gapB (l : List UInt8) : List UInt8 := l.takeWhile (blanksL.contains ·)
theorem gap_eq (s0 : ByteArray) (l : List UInt8) (hl : l.length ≤ 1000000000) : P.token_run_string.f s0 (bs l) ⟨#[9, 10, 13, 32]⟩ = some (bs (gapB l), s0, bs (skipB l)) :=
  run_eq s0 l blanksL hl (by decide) (by decide)
theorem nameF_le (l : List UInt8) : (nameF l).2.length ≤ l.length := by
  unfold nameF
  split
  · exact Nat.le_refl _
  · split
    · exact (List.dropWhile_sublist _).length_le
    · exact Nat.le_refl _
theorem skipB_le (l : List UInt8) : (skipB l).length ≤ l.length := (List.dropWhile_sublist _).length_le
/-- An attribute: its name, its value, whether it is one, and what is behind it. -/
def attrF (l : List UInt8) : List UInt8 × ByteArray × Bool × List UInt8 :=
  if (nameF l).1 = [] then ([], ⟨#[]⟩, false, skipB (nameF l).2)
  else if (isF [61] (skipB (nameF l).2)).1 = true then
    ((nameF l).1, (valueF (skipB (isF [61] (skipB (nameF l).2)).2)).1, (valueF (skipB (isF [61] (skipB (nameF l).2)).2)).2.1, (valueF (skipB (isF [61] (skipB (nameF l).2)).2)).2.2)
  else ((nameF l).1, ⟨#[]⟩, false, skipB (nameF l).2)
theorem isF_le (p l : List UInt8) : (isF p l).2.length ≤ l.length := by
  unfold isF
  split
  · simp
  · exact Nat.le_refl _
theorem isF_no (p l : List UInt8) (h : (isF p l).1 = false) : (isF p l).2 = l := by
  unfold isF at h ⊢
  split at h
  · cases h
  · rename_i hh
    rw [if_neg hh]
theorem attr_eq (k : Nat) (s0 : ByteArray) (l : List UInt8) (hl : l.length < 1000000000) : P.token_attr.f (k + 1) s0 (bs l) = some (bs (attrF l).1, (attrF l).2.1, (attrF l).2.2.1, s0, bs (attrF l).2.2.2) := by
  have h1 := nameF_le l
  have h2 := skipB_le (nameF l).2
  have h3 := isF_le [61] (skipB (nameF l).2)
  have h4 := skipB_le (isF [61] (skipB (nameF l).2)).2
  unfold P.token_attr.f attrF
  rw [name_eq s0 l (by omega)]
  simp only [Option.bind_some]
  rw [gap_eq s0 _ (by omega)]
  simp only [Option.bind_some, nil_iff]
  by_cases hn : (nameF l).1 = []
  · rw [if_pos hn, if_pos hn]
    simp only [P.token_attr.j0, if_true]
    rw [hn]
  · rw [if_neg hn, if_neg hn, show (⟨#[61]⟩ : ByteArray) = bs [61] from rfl, is_eq]
    simp only [Option.bind_some, P.token_attr.j0]
    cases hi : (isF [61] (skipB (nameF l).2)).1 with
    | true =>
      simp only [Bool.not_true, Bool.false_eq_true, if_false, if_true]
      rw [gap_eq s0 _ (by omega)]
      simp only [Option.bind_some]
      rw [value_eq s0 _ (by omega)]
      rfl
    | false =>
      simp only [Bool.not_false, if_true, Bool.false_eq_true, if_false]
      rw [isF_no _ _ hi]
end Go.Proofs.YtfelfpjfjjgmoaaDoor
end
/- Valid texts on lists of bytes: 'vs' reads a text character by character; utf.Valid answers it; a text is valid where its two parts are, if the second one begins with no continuing byte. -/
section
set_option linter.unusedVariables false
namespace Go.Proofs.YtfelfpjfjjgmoaaDoor
open Go.RowKit Go.Lib Go.Proofs.YtfelfpjfjjgmoaaDoorW.PrintWords

/-- No character stands here. -/
def badL (l : List UInt8) : Bool := decide ((decodeL l).1 = 65533 ∧ (decodeL l).2 = 1)
/-- Characters, each of which may be, by p. -/
def vsN (p : Nat → Bool) : Nat → List UInt8 → Bool
  | 0, _ => true
  | n + 1, l => if l = [] then true else if badL l = true then false else p (decodeL l).1 && vsN p n (l.drop (decodeL l).2)
def vsP (p : Nat → Bool) (l : List UInt8) : Bool := vsN p l.length l
theorem decodeL_pos (l : List UInt8) : 1 ≤ (decodeL l).2 := decodeL_width l
theorem drop_lt (l : List UInt8) (h : l ≠ []) : (l.drop (decodeL l).2).length < l.length := by
  have := decodeL_pos l
  have : 0 < l.length := List.length_pos_iff.2 h
  rw [List.length_drop]; omega
theorem vsN_fuel (p : Nat → Bool) : ∀ (n m : Nat) (l : List UInt8), l.length ≤ n → l.length ≤ m → vsN p n l = vsN p m l
  | 0, m, l, h, _ => by
    have : l = [] := List.length_eq_zero_iff.1 (by omega)
    subst this
    cases m <;> simp [vsN]
  | n + 1, 0, l, _, h => by
    have : l = [] := List.length_eq_zero_iff.1 (by omega)
    subst this
    simp [vsN]
  | n + 1, m + 1, l, h1, h2 => by
    unfold vsN
    by_cases hl : l = []
    · rw [if_pos hl, if_pos hl]
    · have := drop_lt l hl
      rw [if_neg hl, if_neg hl, vsN_fuel p n m _ (by omega) (by omega)]
theorem vsP_nil (p : Nat → Bool) : vsP p [] = true := rfl
theorem vsP_step (p : Nat → Bool) (l : List UInt8) (h : l ≠ []) : vsP p l = if badL l = true then false else p (decodeL l).1 && vsP p (l.drop (decodeL l).2) := by
  have hd := drop_lt l h
  unfold vsP
  cases hn : l.length with
  | zero => exact absurd (List.length_eq_zero_iff.1 hn) h
  | succ n =>
    rw [vsN, if_neg h, vsN_fuel p n _ _ (by omega) (Nat.le_refl _)]
theorem validGo_runes (p : Int → Bool) (s : ByteArray) : ∀ (b i : Nat), s.size ≤ b + i → (validGoD b (s.data.toList.drop i) && allB p (runesZ s b i)) = vsN (fun r => p r) b (s.data.toList.drop i)
  | 0, i, h => by simp [validGoD, runesZ, allB, vsN]
  | b + 1, i, h => by
    have hd := decodeL_drop s i
    unfold validGoD runesZ vsN badL
    simp only [decide_eq_true_eq]
    by_cases hi : i < s.size
    · have hne : s.data.toList.drop i ≠ [] := by rw [Ne, List.drop_eq_nil_iff, data_length]; omega
      rw [if_neg hne, if_neg hne, if_pos hi]
      simp only [hd]
      split
      · rfl
      · rw [List.drop_drop, ← validGo_runes p s b (i + (Utf8.decode s i).2) (by have := decodeL_pos (s.data.toList.drop i); rw [hd] at this; omega)]
        simp only [allB, List.all_cons]
        rw [Bool.and_left_comm]
    · have he : s.data.toList.drop i = [] := by rw [List.drop_eq_nil_iff, data_length]; omega
      rw [if_pos he, if_pos he, if_neg hi]
      rfl
theorem textB_vs (p : Int → Bool) (l : List UInt8) : textB p (bs l) = vsP (fun r => p r) l := by
  unfold textB validD runesOf vsP
  have := validGo_runes p (bs l) l.length 0 (by rw [bs_size]; omega)
  rw [bs_list, List.drop_zero] at this
  rw [bs_list, bs_size]
  exact this

/-- May a text be? Of characters that may be, all of them. -/
def vs (l : List UInt8) : Bool := vsP (fun r => mayB r) l
theorem validB_vs (l : List UInt8) : validB (bs l) = vs l := textB_vs mayB l

/-! ### two texts, one behind the other -/
/-- A text that begins with no continuing byte. -/
def startsB : List UInt8 → Bool
  | [] => true
  | c :: _ => c.toNat / 64 != 2
theorem getD_app (a b : List UInt8) (k : Nat) (h : k < a.length) : (a ++ b).getD k 0 = a.getD k 0 := by
  simp [List.getD, List.getElem?_append_left h]
theorem cont_out (a b : List UInt8) (k : Nat) (hb : startsB b = true) (hk : k = a.length) : ¬ (k < (a ++ b).length ∧ ((a ++ b).getD k 0).toNat / 64 = 2) := by
  rintro ⟨h1, h2⟩
  subst hk
  cases b with
  | nil => simp at h1
  | cons c b =>
    rw [List.getD, List.getElem?_append_right (Nat.le_refl _), Nat.sub_self] at h2
    simp [startsB] at hb
    exact hb (by simpa using h2)
/-- What continues within the first part is what continues there: one place on. -/
theorem cont_app (a b : List UInt8) (k : Nat) (hb : startsB b = true) (hk : k ≤ a.length) : (k < (a ++ b).length ∧ ((a ++ b).getD k 0).toNat / 64 = 2) = (k < a.length ∧ (a.getD k 0).toNat / 64 = 2) := by
  by_cases h : k < a.length
  · rw [getD_app a b k h]
    exact propext ⟨fun x => ⟨h, x.2⟩, fun x => ⟨by rw [List.length_append]; omega, x.2⟩⟩
  · have hk' : k = a.length := by omega
    exact propext ⟨fun x => absurd x (cont_out a b k hb hk'), fun x => absurd x.1 h⟩
theorem decodeL_app (a b : List UInt8) (ha : a ≠ []) (hb : startsB b = true) : decodeL (a ++ b) = decodeL a := by
  have h0 : 0 < a.length := List.length_pos_iff.2 ha
  rw [decodeL_N, decodeL_N, getD_app a b 0 h0]
  generalize hx0 : (a.getD 0 0).toNat = x0
  have c1 := cont_app a b 1 hb (by omega)
  unfold decodeN
  by_cases e1 : 1 < a.length ∧ (a.getD 1 0).toNat / 64 = 2
  · have h1 := e1.1
    have c2 := cont_app a b 2 hb (by omega)
    by_cases e2 : 2 < a.length ∧ (a.getD 2 0).toNat / 64 = 2
    · have h2 := e2.1
      have c3 := cont_app a b 3 hb (by omega)
      by_cases e3 : 3 < a.length ∧ (a.getD 3 0).toNat / 64 = 2
      · simp only [c1, c2, c3]
        simp only [getD_app a b 1 h1, getD_app a b 2 h2, getD_app a b 3 e3.1]
      · simp only [c1, c2, c3, e3, and_false, if_false]
        simp only [getD_app a b 1 h1, getD_app a b 2 h2]
    · simp only [c1, c2, e2, and_false, false_and, if_false]
      simp only [getD_app a b 1 h1]
  · simp only [c1, e1, and_false, false_and, if_false]
theorem vsP_app (p : Nat → Bool) (b : List UInt8) (hb : startsB b = true) : ∀ (n : Nat) (a : List UInt8), a.length ≤ n → vsP p (a ++ b) = (vsP p a && vsP p b)
  | 0, a, h => by
    have : a = [] := List.length_eq_zero_iff.1 (by omega)
    subst this
    simp [vsP_nil]
  | n + 1, a, h => by
    by_cases ha : a = []
    · subst ha; simp [vsP_nil]
    · have hd := drop_lt a ha
      have hw := decodeL_le a ha
      rw [vsP_step p (a ++ b) (by simp [ha]), vsP_step p a ha]
      unfold badL
      rw [decodeL_app a b ha hb]
      split
      · rfl
      · rw [List.drop_append_of_le_length hw, vsP_app p b hb n _ (by omega), Bool.and_assoc]
theorem vs_app (a b : List UInt8) (hb : startsB b = true) : vs (a ++ b) = (vs a && vs b) := vsP_app _ b hb a.length a (Nat.le_refl _)
theorem vs_ascii (c : UInt8) (l : List UInt8) (h : c.toNat < 128) : vs (c :: l) = (mayB c.toNat && vs l) := by
  unfold vs
  rw [vsP_step _ _ (by simp)]
  unfold badL
  rw [decodeL_ascii c l h]
  rw [if_neg (by simp; omega)]
  rfl
/-- Behind an ASCII byte a text may be cut. -/
theorem vs_behind (a b : List UInt8) (c : UInt8) (h : c.toNat < 128) : vs (a ++ c :: b) = (vs a && mayB c.toNat && vs b) := by
  rw [vs_app a (c :: b) (by simp only [startsB, bne_iff_ne, ne_eq]; omega), vs_ascii c b h, Bool.and_assoc]
end Go.Proofs.YtfelfpjfjjgmoaaDoor
end
/- token.Tokens on lists of bytes: 'nextF' is one token, what is behind it; 'tokL' all of them; 'tokensF' what token.Tokens answers (tokens_eq). -/
section
set_option linter.unusedVariables false
namespace Go.Proofs.YtfelfpjfjjgmoaaDoor
open Go.RowKit Go.Proofs.YtfelfpjfjjgmoaaDoorW.PrintWords

abbrev AttrT := P.S35
abbrev TokT := P.S33
def dupB (l : List AttrT) (n : List UInt8) : Bool := l.any fun a => decide (a.f0.toList = n)
theorem dup_any (l : List AttrT) (n : List UInt8) : anyAt (fun j => decide ((l.getD j P.z35).f0.toList = (bs n).toList)) l.length = dupB l n := by
  unfold anyAt dupB
  rw [toList_d (bs n), bs_list, Bool.eq_iff_iff, List.any_eq_true, List.any_eq_true]
  constructor
  · rintro ⟨i, hi, h⟩
    have hi' := List.mem_range.1 hi
    refine ⟨l[i], List.getElem_mem hi', ?_⟩
    simpa [List.getD, hi'] using h
  · rintro ⟨x, hx, h⟩
    obtain ⟨i, hi, rfl⟩ := List.getElem_of_mem hx
    exact ⟨i, List.mem_range.2 hi, by simpa [List.getD, hi] using h⟩
/-- What is behind a name of an opening: its attributes, whether it is empty, whether it is one, what is behind it. -/
def openL : Nat → List AttrT → List UInt8 → List AttrT × Bool × Bool × List UInt8
  | 0, l, r => (l, false, false, r)
  | k + 1, l, r =>
    if (isF [47, 62] (skipB r)).1 = true then (l, true, true, (isF [47, 62] (skipB r)).2)
    else if (isF [62] (skipB r)).1 = true then (l, false, true, (isF [62] (skipB r)).2)
    else if gapB r = [] then (l, false, false, (attrF (skipB r)).2.2.2)
    else if (attrF (skipB r)).2.2.1 = false then (l, false, false, (attrF (skipB r)).2.2.2)
    else if dupB l (attrF (skipB r)).1 = true then (l, false, false, (attrF (skipB r)).2.2.2)
    else openL k (l ++ [⟨bs (attrF (skipB r)).1, (attrF (skipB r)).2.1⟩]) (attrF (skipB r)).2.2.2
theorem gap_skip (r : List UInt8) : gapB r ++ skipB r = r := List.takeWhile_append_dropWhile
theorem valueF_le (l : List UInt8) : (valueF l).2.2.length ≤ l.length := by
  unfold valueF
  split
  · exact Nat.le_refl _
  · rename_i x t
    have h1 := cutAt_len 39 t
    have h2 := cutAt_len 34 t
    split
    · simp only [List.length_cons]
      split at h1 <;> omega
    · split
      · simp only [List.length_cons]
        split at h2 <;> omega
      · exact Nat.le_refl _
theorem attrF_le (l : List UInt8) : (attrF l).2.2.2.length ≤ l.length := by
  have h1 := nameF_le l
  have h2 := skipB_le (nameF l).2
  have h3 := isF_le [61] (skipB (nameF l).2)
  have h4 := skipB_le (isF [61] (skipB (nameF l).2)).2
  have h5 := valueF_le (skipB (isF [61] (skipB (nameF l).2)).2)
  unfold attrF
  split
  · simp only []; omega
  · split
    · simp only []; omega
    · simp only []; omega
theorem openJ_eq (nm : ByteArray) (hn : ¬ nm.toList = ([] : List UInt8)) (s0 : ByteArray) : ∀ (k : Nat) (l : List AttrT) (r : List UInt8), r.length < k → l.length + r.length < 1000000000 →
    openJ k nm l s0 (bs r) = some ((openL k l r).1, (openL k l r).2.1, (openL k l r).2.2.1, s0, bs (openL k l r).2.2.2)
  | 0, l, r, h, _ => absurd h (Nat.not_lt_zero _)
  | k + 1, l, r, h, hb => by
    have h0 := gap_skip r
    have h1 := skipB_le r
    have h2 := attrF_le (skipB r)
    unfold openJ openL
    rw [if_neg hn, gap_eq s0 r (by omega)]
    simp only [Option.bind_some]
    rw [show (⟨#[47, 62]⟩ : ByteArray) = bs [47, 62] from rfl, is_eq]
    simp only [Option.bind_some]
    by_cases c1 : (isF [47, 62] (skipB r)).1 = true
    · rw [if_pos c1, if_pos c1]
    rw [if_neg c1, if_neg c1, isF_no _ _ (by simpa using c1), show (⟨#[62]⟩ : ByteArray) = bs [62] from rfl, is_eq]
    simp only [Option.bind_some]
    by_cases c2 : (isF [62] (skipB r)).1 = true
    · rw [if_pos c2, if_pos c2]
    rw [if_neg c2, if_neg c2, isF_no _ _ (by simpa using c2), attr_eq 1 s0 _ (by omega)]
    simp only [Option.bind_some, nil_iff]
    by_cases c3 : gapB r = []
    · rw [if_pos c3, if_pos c3]
    rw [if_neg c3, if_neg c3]
    by_cases c4 : (attrF (skipB r)).2.2.1 = false
    · rw [if_pos c4, if_pos c4]
    have hg : 0 < (gapB r).length := List.length_pos_iff.2 c3
    have hl := congrArg List.length h0
    rw [List.length_append] at hl
    rw [if_neg c4, if_neg c4, if_neg (by omega), dup_any]
    by_cases c5 : dupB l (attrF (skipB r)).1 = true
    · rw [if_pos c5, if_pos c5]
    rw [if_neg c5, if_neg c5]
    exact openJ_eq nm hn s0 k _ _ (by omega) (by simp only [List.length_append, List.length_cons, List.length_nil]; omega)
theorem openL_le : ∀ (k : Nat) (l : List AttrT) (r : List UInt8), (openL k l r).2.2.2.length ≤ r.length
  | 0, l, r => Nat.le_refl _
  | k + 1, l, r => by
    have h1 := skipB_le r
    have h2 := attrF_le (skipB r)
    have h3 := isF_le [47, 62] (skipB r)
    have h4 := isF_le [62] (skipB r)
    have h5 := openL_le k (l ++ [⟨bs (attrF (skipB r)).1, (attrF (skipB r)).2.1⟩]) (attrF (skipB r)).2.2.2
    unfold openL
    repeat' split
    all_goals first | omega | (simp only []; omega)

/-- One token (its place 0), whether it is one, and what is behind it. -/
def shutT (l : List UInt8) : TokT × Bool × List UInt8 :=
  (⟨2, 0, bs (nameF l).1, ⟨#[]⟩, [], false⟩, if (nameF l).1 = [] then false else (isF [62] (skipB (nameF l).2)).1, if (nameF l).1 = [] then skipB (nameF l).2 else (isF [62] (skipB (nameF l).2)).2)
def openT (l : List UInt8) : TokT × Bool × List UInt8 :=
  if (nameF l).1 = [] then (⟨1, 0, bs [], ⟨#[]⟩, [], false⟩, false, (nameF l).2)
  else (⟨1, 0, bs (nameF l).1, ⟨#[]⟩, (openL (l.length + 2) [] (nameF l).2).1, (openL (l.length + 2) [] (nameF l).2).2.1⟩, (openL (l.length + 2) [] (nameF l).2).2.2.1, (openL (l.length + 2) [] (nameF l).2).2.2.2)
def textT (l : List UInt8) : TokT × Bool × List UInt8 :=
  (⟨3, 0, ⟨#[]⟩, (backF (bs (cutAt 60 l).1)).1, [], false⟩, (backF (bs (cutAt 60 l).1)).2 == 0, if (cutAt 60 l).2.2 = true then 60 :: (cutAt 60 l).2.1 else [])
def nextF (l : List UInt8) : TokT × Bool × List UInt8 :=
  if (isF [60, 47] l).1 = true then shutT (isF [60, 47] l).2
  else if (isF [60] l).1 = true then openT (isF [60] l).2
  else textT l
theorem shut_eq (s0 : ByteArray) (l : List UInt8) (hl : l.length ≤ 1000000000) :
    P.token_shut.f s0 (bs l) = some ((shutT l).1.f0, (shutT l).1.f1, (shutT l).1.f2, (shutT l).1.f3, (shutT l).1.f4, (shutT l).1.f5, (shutT l).2.1, s0, bs (shutT l).2.2) := by
  have h1 := nameF_le l
  unfold P.token_shut.f shutT
  rw [name_eq s0 l hl]
  simp only [Option.bind_some]
  rw [gap_eq s0 _ (by omega)]
  simp only [Option.bind_some, nil_iff]
  by_cases c : (nameF l).1 = []
  · rw [if_pos c, if_pos c, if_pos c]
  · rw [if_neg c, if_neg c, if_neg c, show (⟨#[62]⟩ : ByteArray) = bs [62] from rfl, is_eq]
    rfl
theorem open_eq (s0 : ByteArray) (l : List UInt8) (hl : l.length < 1000000000) :
    G_open.f s0 (bs l) = some ((openT l).1.f0, (openT l).1.f1, (openT l).1.f2, (openT l).1.f3, (openT l).1.f4, (openT l).1.f5, (openT l).2.1, s0, bs (openT l).2.2) := by
  have h1 := nameF_le l
  unfold G_open.f openT
  rw [name_eq s0 l (by omega)]
  simp only [Option.bind_some]
  by_cases c : (nameF l).1 = []
  · rw [if_pos c, c, bs_size]
    unfold openJ
    rw [if_pos (by rw [nil_iff])]
    rfl
  · rw [if_neg c, openJ_eq _ (by rw [nil_iff]; exact c) s0 _ _ _ (by rw [bs_size]; omega) (by simp only [List.length_nil]; omega)]
    simp only [Option.bind_some, bs_size]
theorem next_eq (s0 : ByteArray) (l : List UInt8) (hl : l.length < 1000000000) :
    P.token_next.f s0 (bs l) = some ((nextF l).1.f0, (nextF l).1.f1, (nextF l).1.f2, (nextF l).1.f3, (nextF l).1.f4, (nextF l).1.f5, (nextF l).2.1, s0, bs (nextF l).2.2) := by
  have h1 := isF_le [60, 47] l
  have h2 := isF_le [60] l
  unfold P.token_next.f nextF
  rw [show (⟨#[60, 47]⟩ : ByteArray) = bs [60, 47] from rfl, is_eq]
  simp only [Option.bind_some]
  by_cases c1 : (isF [60, 47] l).1 = true
  · rw [if_pos c1, if_pos c1, shut_eq s0 _ (by omega)]
    rfl
  rw [if_neg c1, if_neg c1, isF_no _ _ (by simpa using c1), show (⟨#[60]⟩ : ByteArray) = bs [60] from rfl, is_eq]
  simp only [Option.bind_some]
  by_cases c2 : (isF [60] l).1 = true
  · rw [if_pos c2, if_pos c2, open_eq s0 _ (by omega)]
    rfl
  rw [if_neg c2, if_neg c2, isF_no _ _ (by simpa using c2), show bs [60] = (⟨#[60]⟩ : ByteArray) from rfl, upTo_eq s0 l 60 (by omega)]
  have h3 := cutAt_len 60 l
  simp only [Option.bind_some]
  rw [back_some _ (by split at h3 <;> omega)]
  rfl

/-- All tokens of what is left; n: how long the whole is. -/
def tokL : Nat → Nat → List TokT → List UInt8 → List TokT × Int × Int
  | 0, _, _, _ => ([], 0, 0)
  | k + 1, n, l, r =>
    if r = [] then (l, 0, 0)
    else if (nextF r).2.1 = false then ([], (n : Int) - r.length, 5)
    else if 10 < (nextF r).1.f4.length then ([], (n : Int) - r.length, 4)
    else tokL k n (l ++ [⟨(nextF r).1.f0, (n : Int) - r.length, (nextF r).1.f2, (nextF r).1.f3, (nextF r).1.f4, (nextF r).1.f5⟩]) (nextF r).2.2
theorem isF_yes (p l : List UInt8) (h : (isF p l).1 = true) : l = p ++ (isF p l).2 := by
  unfold isF at h ⊢
  split at h
  · rename_i hh
    rw [if_pos hh]
    have := beq_iff_eq.1 hh
    conv => lhs; rw [← List.take_append_drop p.length l, this]
  · cases h
theorem nextF_lt (r : List UInt8) (h : r ≠ []) : (nextF r).2.2.length < r.length := by
  unfold nextF
  by_cases c1 : (isF [60, 47] r).1 = true
  · rw [if_pos c1]
    have h1 := congrArg List.length (isF_yes _ _ c1)
    generalize (isF [60, 47] r).2 = l at h1 ⊢
    simp only [List.length_append, List.length_cons, List.length_nil] at h1
    have h2 := nameF_le l
    have h3 := skipB_le (nameF l).2
    have h4 := isF_le [62] (skipB (nameF l).2)
    unfold shutT
    split <;> (simp only []; omega)
  rw [if_neg c1]
  by_cases c2 : (isF [60] r).1 = true
  · rw [if_pos c2]
    have h1 := congrArg List.length (isF_yes _ _ c2)
    generalize (isF [60] r).2 = l at h1 ⊢
    simp only [List.length_append, List.length_cons, List.length_nil] at h1
    have h2 := nameF_le l
    have h3 := openL_le (l.length + 2) [] (nameF l).2
    unfold openT
    split <;> (simp only []; omega)
  · rw [if_neg c2]
    have h3 := cutAt_len 60 r
    have h4 := cutAt_no 60 r
    unfold textT
    simp only []
    have h0 : 0 < r.length := List.length_pos_iff.2 h
    split
    · rename_i hc
      have hj := cutAt_join 60 r hc
      have : (cutAt 60 r).1 ≠ [] := by
        intro he
        rw [he] at hj
        apply c2
        rw [hj]
        simp [isF]
      have := List.length_pos_iff.2 this
      have hl := congrArg List.length hj
      rw [List.length_append, List.length_cons] at hl
      rw [List.length_cons]
      omega
    · exact h0
theorem tokJ_eq (s0 : ByteArray) (hs : s0.size < 500000000) : ∀ (k : Nat) (l : List TokT) (r : List UInt8), r.length < k → r.length ≤ s0.size → l.length + r.length < 1000000000 →
    tokJ k l s0 (bs r) = some (tokL k s0.size l r)
  | 0, l, r, h, _, _ => absurd h (Nat.not_lt_zero _)
  | k + 1, l, r, h, hr, hb => by
    have hw : wrap64 ((s0.size : Int) - (r.length : Int)) = (s0.size : Int) - r.length := by unfold wrap64; omega
    unfold tokJ tokL
    simp only [nil_iff]
    by_cases c : r = []
    · rw [if_pos c, if_pos c]
    have hlt := nextF_lt r c
    rw [if_neg c, if_neg c, next_eq s0 r (by omega)]
    simp only [Option.bind_some, bs_size, hw]
    by_cases c1 : (nextF r).2.1 = false
    · rw [if_pos c1, if_pos c1]
    rw [if_neg c1, if_neg c1]
    by_cases c2 : 10 < (nextF r).1.f4.length
    · rw [if_pos c2, if_pos c2]
    rw [if_neg c2, if_neg c2, if_neg (by omega)]
    exact tokJ_eq s0 hs k _ _ (by omega) (by omega) (by simp only [List.length_append, List.length_cons, List.length_nil]; omega)
def prologB : List UInt8 := [60, 63, 120, 109, 108, 32, 118, 101, 114, 115, 105, 111, 110, 61, 39, 49, 46, 48, 39, 32, 101, 110, 99, 111, 100, 105, 110, 103, 61, 39, 85, 84, 70, 45, 56, 39, 63, 62]
/-- What token.Tokens answers: the tokens; where it is wrong; the number of the error. -/
def tokensF (s : List UInt8) : List TokT × Int × Int :=
  if 20000 < s.length then ([], 0, 4) else if vs s = false then ([], 0, 3) else tokL (s.length + 2) s.length [] (isF prologB s).2
theorem tokens_eq (s : List UInt8) : G_Tokens.f (bs s) = some (tokensF s) := by
  unfold G_Tokens.f tokensF
  rw [bs_size, validB_vs]
  by_cases c1 : 20000 < s.length
  · rw [if_pos c1, if_pos c1]
  rw [if_neg c1, if_neg c1]
  by_cases c2 : vs s = false
  · rw [if_pos c2, if_pos c2]
  have h1 := isF_le prologB s
  rw [if_neg c2, if_neg c2, show prologL = bs prologB from rfl, is_eq]
  simp only [Option.bind_some]
  rw [tokJ_eq (bs s) (by rw [bs_size]; omega) _ _ _ (by omega) (by rw [bs_size]; omega) (by simp only [List.length_nil]; omega), bs_size]
end Go.Proofs.YtfelfpjfjjgmoaaDoor
end
/- Tokens that token.Tokens tells, one behind the other ('Runs'): each begins where the one ahead ends; what is left there is valid, and its tokens are the rest. -/
section
set_option linter.unusedVariables false
namespace Go.Proofs.YtfelfpjfjjgmoaaDoor
open Go.RowKit Go.Proofs.YtfelfpjfjjgmoaaDoorW.PrintWords

/-- What is left at each token. -/
inductive Runs : List UInt8 → List (List UInt8) → Prop
  | nil : Runs [] []
  | cons {r : List UInt8} {rs : List (List UInt8)} : r ≠ [] → (nextF r).2.1 = true → (nextF r).1.f4.length ≤ 10 → Runs (nextF r).2.2 rs → Runs r (r :: rs)
/-- The token of what is left, in a text of n bytes. -/
def tokAt (n : Nat) (r : List UInt8) : TokT := ⟨(nextF r).1.f0, (n : Int) - r.length, (nextF r).1.f2, (nextF r).1.f3, (nextF r).1.f4, (nextF r).1.f5⟩
theorem tokL_ok (n : Nat) : ∀ (k : Nat) (l : List TokT) (r : List UInt8) (L : List TokT) (a : Int), r.length < k → tokL k n l r = (L, a, 0) → ∃ rs, Runs r rs ∧ L = l ++ rs.map (tokAt n) ∧ a = 0
  | 0, l, r, L, a, h, _ => absurd h (Nat.not_lt_zero _)
  | k + 1, l, r, L, a, h, e => by
    unfold tokL at e
    by_cases c : r = []
    · rw [if_pos c] at e
      simp only [Prod.mk.injEq] at e
      subst c
      exact ⟨[], .nil, by simp [e.1.symm], e.2.1.symm⟩
    rw [if_neg c] at e
    by_cases c1 : (nextF r).2.1 = false
    · rw [if_pos c1] at e
      simp only [Prod.mk.injEq] at e
      omega
    rw [if_neg c1] at e
    by_cases c2 : 10 < (nextF r).1.f4.length
    · rw [if_pos c2] at e
      simp only [Prod.mk.injEq] at e
      omega
    rw [if_neg c2] at e
    have hlt := nextF_lt r c
    obtain ⟨rs, h1, h2, h3⟩ := tokL_ok n k _ _ L a (by omega) e
    exact ⟨r :: rs, .cons c (by simpa using c1) (by omega) h1, by rw [h2]; simp [tokAt], h3⟩
theorem tokL_runs (n : Nat) : ∀ (k : Nat) (l : List TokT) (r : List UInt8) (rs : List (List UInt8)), r.length < k → Runs r rs → tokL k n l r = (l ++ rs.map (tokAt n), 0, 0)
  | 0, l, r, rs, h, _ => absurd h (Nat.not_lt_zero _)
  | k + 1, l, _, _, h, .nil => by simp [tokL]
  | k + 1, l, r, _, h, .cons (rs := rs) h1 h2 h3 h4 => by
    have hlt := nextF_lt r h1
    unfold tokL
    rw [if_neg h1, if_neg (by simp [h2]), if_neg (by omega), tokL_runs n k _ _ rs (by omega) h4]
    simp [tokAt]
theorem tokensF_ok (s : List UInt8) (L : List TokT) (a : Int) (h : tokensF s = (L, a, 0)) : s.length ≤ 20000 ∧ vs s = true ∧ a = 0 ∧ ∃ rs, Runs (isF prologB s).2 rs ∧ L = rs.map (tokAt s.length) := by
  unfold tokensF at h
  by_cases c1 : 20000 < s.length
  · rw [if_pos c1] at h
    simp only [Prod.mk.injEq] at h
    omega
  rw [if_neg c1] at h
  by_cases c2 : vs s = false
  · rw [if_pos c2] at h
    simp only [Prod.mk.injEq] at h
    omega
  rw [if_neg c2] at h
  have h1 := isF_le prologB s
  obtain ⟨rs, h3, h4, h5⟩ := tokL_ok s.length _ _ _ L a (by omega) h
  exact ⟨by omega, by simpa using c2, h5, rs, h3, by simpa using h4⟩
theorem tokensF_runs (s : List UInt8) (rs : List (List UInt8)) (h1 : s.length ≤ 20000) (h2 : vs s = true) (h3 : Runs (isF prologB s).2 rs) : tokensF s = (rs.map (tokAt s.length), 0, 0) := by
  have h4 := isF_le prologB s
  unfold tokensF
  rw [if_neg (by omega), if_neg (by simp [h2]), tokL_runs s.length _ _ _ rs (by omega) h3]
  simp

/-! ### what is left is a part of what was -/
theorem isF_suf (p l : List UInt8) : (isF p l).2 <:+ l := by
  unfold isF
  split
  · exact List.drop_suffix _ _
  · exact List.suffix_refl _
theorem skipB_suf (l : List UInt8) : skipB l <:+ l := List.dropWhile_suffix _
theorem nameF_suf (l : List UInt8) : (nameF l).2 <:+ l := by
  unfold nameF
  split
  · exact List.suffix_refl _
  · split
    · exact List.dropWhile_suffix _
    · exact List.suffix_refl _
theorem cutAt_suf (c : UInt8) (l : List UInt8) : (cutAt c l).2.1 <:+ l := by
  cases h : (cutAt c l).2.2 with
  | true => exact ⟨(cutAt c l).1 ++ [c], by rw [List.append_assoc]; exact (cutAt_join c l h).symm⟩
  | false => rw [cutAt_no c l h]; exact List.nil_suffix
theorem valueF_suf (l : List UInt8) : (valueF l).2.2 <:+ l := by
  unfold valueF
  split
  · exact List.suffix_refl _
  · split
    · exact (cutAt_suf 39 _).trans (List.suffix_cons _ _)
    · split
      · exact (cutAt_suf 34 _).trans (List.suffix_cons _ _)
      · exact List.suffix_refl _
theorem attrF_suf (l : List UInt8) : (attrF l).2.2.2 <:+ l := by
  have h1 := nameF_suf l
  have h2 := skipB_suf (nameF l).2
  unfold attrF
  split
  · exact h2.trans h1
  · split
    · exact (valueF_suf _).trans ((skipB_suf _).trans ((isF_suf _ _).trans (h2.trans h1)))
    · exact h2.trans h1
theorem openL_end : ∀ (k : Nat) (l : List AttrT) (r : List UInt8), (openL k l r).2.2.1 = true → (62 :: (openL k l r).2.2.2) <:+ r
  | 0, l, r, h => by simp [openL] at h
  | k + 1, l, r, h => by
    have h5 := openL_end k (l ++ [⟨bs (attrF (skipB r)).1, (attrF (skipB r)).2.1⟩]) (attrF (skipB r)).2.2.2
    unfold openL at h ⊢
    split at h
    · rename_i c
      rw [if_pos c]
      have := isF_yes _ _ c
      refine List.IsSuffix.trans ?_ (skipB_suf r)
      exact ⟨[47], this.symm⟩
    rename_i c
    rw [if_neg c]
    split at h
    · rename_i c
      rw [if_pos c]
      have := isF_yes _ _ c
      refine List.IsSuffix.trans ?_ (skipB_suf r)
      exact ⟨[], this.symm⟩
    rename_i c
    rw [if_neg c]
    split at h
    · cases h
    rename_i c
    rw [if_neg c]
    split at h
    · cases h
    rename_i c
    rw [if_neg c]
    split at h
    · cases h
    rename_i c
    rw [if_neg c]
    exact (h5 h).trans ((attrF_suf _).trans (skipB_suf r))
/-- A token ends behind '>', or ahead of '<', or at the end. -/
theorem next_end (r : List UInt8) (h : (nextF r).2.1 = true) : (62 :: (nextF r).2.2) <:+ r ∨ ((nextF r).2.2 <:+ r ∧ startsB (nextF r).2.2 = true) := by
  unfold nextF at h ⊢
  split at h
  · rename_i c
    rw [if_pos c]
    left
    unfold shutT at h ⊢
    simp only [] at h ⊢
    split at h
    · cases h
    · rename_i c1
      rw [if_neg c1]
      have := isF_yes _ _ h
      refine List.IsSuffix.trans ?_ ((skipB_suf _).trans ((nameF_suf _).trans (isF_suf [60, 47] r)))
      exact ⟨[], this.symm⟩
  rename_i c
  rw [if_neg c]
  split at h
  · rename_i c
    rw [if_pos c]
    left
    unfold openT at h ⊢
    split at h
    · cases h
    · rename_i c1
      rw [if_neg c1]
      exact (openL_end _ _ _ h).trans ((nameF_suf _).trans (isF_suf _ _))
  · rename_i c
    rw [if_neg c]
    right
    unfold textT
    simp only []
    split
    · rename_i c1
      refine ⟨?_, rfl⟩
      exact ⟨(cutAt 60 r).1, (cutAt_join 60 r c1).symm⟩
    · exact ⟨List.nil_suffix, rfl⟩
theorem next_suf (r : List UInt8) (h : (nextF r).2.1 = true) : (nextF r).2.2 <:+ r := by
  rcases next_end r h with h1 | h1
  · exact (List.suffix_cons _ _).trans h1
  · exact h1.1
theorem next_vs (r : List UInt8) (h : (nextF r).2.1 = true) (hv : vs r = true) : vs (nextF r).2.2 = true := by
  rcases next_end r h with ⟨c, h1⟩ | ⟨⟨c, h1⟩, h2⟩
  · rw [← h1, vs_behind c _ 62 (by decide)] at hv
    simp only [Bool.and_eq_true] at hv
    exact hv.2
  · rw [← h1, vs_app c _ h2] at hv
    simp only [Bool.and_eq_true] at hv
    exact hv.2
theorem prolog_vs (s : List UInt8) (hv : vs s = true) : vs (isF prologB s).2 = true := by
  cases h : (isF prologB s).1 with
  | true =>
    have h1 := isF_yes _ _ h
    rw [h1, show prologB ++ (isF prologB s).2 = (prologB.take 37) ++ 62 :: (isF prologB s).2 from rfl, vs_behind _ _ 62 (by decide)] at hv
    simp only [Bool.and_eq_true] at hv
    exact hv.2
  | false => rw [isF_no _ _ h]; exact hv
/-- Where a token begins the prolog does not stand. -/
theorem next_prolog (r : List UInt8) (h : (nextF r).2.1 = true) : (isF prologB r).2 = r := by
  cases hp : (isF prologB r).1 with
  | false => exact isF_no _ _ hp
  | true =>
    have h1 := isF_yes _ _ hp
    have h2 : ∃ t, r = 60 :: 63 :: t := ⟨_, h1⟩
    obtain ⟨t, rfl⟩ := h2
    have : (nextF (60 :: 63 :: t)).2.1 = false := by
      unfold nextF
      simp [isF, openT, nameF, firstL]
    rw [this] at h
    cases h
/-- Each token's rest: not empty, a part of the whole, valid; its tokens are the rest of all. -/
theorem runs_at {r : List UInt8} {rs : List (List UInt8)} (h : Runs r rs) (hv : vs r = true) : ∀ (i : Nat) (x : List UInt8), rs[i]? = some x → x ≠ [] ∧ x <:+ r ∧ vs x = true ∧ (nextF x).2.1 = true ∧ Runs x (rs.drop i) := by
  induction h with
  | nil => intro i x hx; simp at hx
  | @cons r rs h1 h2 h3 h4 ih =>
    intro i x hx
    cases i with
    | zero =>
      simp only [List.getElem?_cons_zero, Option.some.injEq] at hx
      subst hx
      exact ⟨h1, List.suffix_refl _, hv, h2, .cons h1 h2 h3 h4⟩
    | succ i =>
      obtain ⟨a, b, c, d, e⟩ := ih (next_vs r h2 hv) i x (by simpa using hx)
      exact ⟨a, b.trans (next_suf r h2), c, d, e⟩
theorem runs_len {r : List UInt8} {rs : List (List UInt8)} (h : Runs r rs) : rs.length ≤ r.length := by
  induction h with
  | nil => exact Nat.zero_le _
  | @cons r rs h1 h2 h3 h4 ih => have := nextF_lt r h1; simp only [List.length_cons]; omega
theorem tokL_err (n : Nat) : ∀ (k : Nat) (l : List TokT) (r : List UInt8) (L : List TokT) (a e : Int), tokL k n l r = (L, a, e) → e ≠ 0 → L = []
  | 0, l, r, L, a, e, h, he => by
    simp only [tokL, Prod.mk.injEq] at h
    exact h.1.symm
  | k + 1, l, r, L, a, e, h, he => by
    unfold tokL at h
    split at h
    · simp only [Prod.mk.injEq] at h
      exact absurd h.2.2.symm he
    split at h
    · simp only [Prod.mk.injEq] at h
      exact h.1.symm
    split at h
    · simp only [Prod.mk.injEq] at h
      exact h.1.symm
    exact tokL_err n k _ _ L a e h he
theorem tokensF_err (s : List UInt8) (L : List TokT) (a e : Int) (h : tokensF s = (L, a, e)) (he : e ≠ 0) : L = [] := by
  unfold tokensF at h
  split at h
  · simp only [Prod.mk.injEq] at h
    exact h.1.symm
  split at h
  · simp only [Prod.mk.injEq] at h
    exact h.1.symm
  exact tokL_err _ _ _ _ L a e h he
theorem runs_head {r : List UInt8} {rs : List (List UInt8)} (h : Runs r rs) {y : List UInt8} (hy : rs[0]? = some y) : y = r := by
  cases h with
  | nil => simp at hy
  | cons => simpa using hy.symm
theorem runs_less {r : List UInt8} {rs : List (List UInt8)} (h : Runs r rs) : ∀ (i : Nat) (x y : List UInt8), rs[i]? = some x → rs[i + 1]? = some y → y.length < x.length := by
  induction h with
  | nil => intro i x y hx; simp at hx
  | @cons r rs h1 h2 h3 h4 ih =>
    intro i x y hx hy
    cases i with
    | zero =>
      simp only [List.getElem?_cons_zero, Option.some.injEq] at hx
      subst hx
      have hy' : rs[0]? = some y := by simpa using hy
      rw [runs_head h4 hy']
      exact nextF_lt r h1
    | succ i => exact ih i x y (by simpa using hx) (by simpa using hy)
/-- A Text is what begins with no '<'. -/
theorem next_kind (r : List UInt8) (h : r ≠ []) : ((nextF r).1.f0 != 3) = (r.getD 0 0 == 60) := by
  cases r with
  | nil => exact absurd rfl h
  | cons c t =>
    unfold nextF
    by_cases hc : c = 60
    · subst hc
      by_cases h1 : (isF [60, 47] (60 :: t)).1 = true
      · rw [if_pos h1]
        rfl
      · rw [if_neg h1, if_pos (by simp [isF])]
        unfold openT
        split <;> rfl
    · rw [if_neg (by unfold isF; rw [if_neg]; simp; simp [hc]), if_neg (by unfold isF; rw [if_neg]; simp; simp [hc])]
      unfold textT
      simp [hc]
end Go.Proofs.YtfelfpjfjjgmoaaDoor
end
/- awake is true. -/
section
set_option linter.unusedVariables false
namespace Go.Proofs.YtfelfpjfjjgmoaaDoor
theorem awake_eq : P.cardexlaw08_awake.f = some true := by kernel_rfl
end Go.Proofs.YtfelfpjfjjgmoaaDoor
end
/- The reference's Valid is utf.Valid: both read a text character by character ('vs'). -/
section
set_option linter.unusedVariables false
namespace Go.Proofs.YtfelfpjfjjgmoaaDoor
open Go.RowKit Go.Lib Go.Proofs.YtfelfpjfjjgmoaaDoorW.PrintWords

theorem bt_at (s : List UInt8) (i : Nat) (hi : i < s.length) : bt (bs s) (i : Int) = ((s.getD i 0).toNat : Int) := by
  unfold bt
  rw [Int.toNat_natCast, dif_pos (by rw [bs_size]; exact hi)]
  have : (bs s)[i]'(by rw [bs_size]; exact hi) = s.getD i 0 := by
    show (bs s).data[i]'_ = _
    simp [bs, List.getD, hi]
  rw [this]
theorem w64 (x : Int) (h0 : -9223372036854775808 ≤ x) (h1 : x < 9223372036854775808) : wrap64 x = x := by unfold wrap64; omega
theorem wraps_i64 (n : Int) (h0 : 0 ≤ n) (h1 : n < 2 ^ 62) : IntKind.i64.wrap n = n := by rw [IntKind.wrap_i64]; omega
theorem i64_and31 (x : Int) (h0 : 0 ≤ x) (h1 : x < 2 ^ 62) : Go.bits .and .i64 x 31 = x % 32 := bits_mask .i64 62 (by decide) wraps_i64 5 (by decide) x h0 h1
theorem i64_and15 (x : Int) (h0 : 0 ≤ x) (h1 : x < 2 ^ 62) : Go.bits .and .i64 x 15 = x % 16 := bits_mask .i64 62 (by decide) wraps_i64 4 (by decide) x h0 h1
theorem i64_and7 (x : Int) (h0 : 0 ≤ x) (h1 : x < 2 ^ 62) : Go.bits .and .i64 x 7 = x % 8 := bits_mask .i64 62 (by decide) wraps_i64 3 (by decide) x h0 h1
theorem u8_mask63 (b : Nat) (hb : b < 256) : Go.bits .and .u8 (b : Int) 63 = ((b % 64 : Nat) : Int) :=
  Eq.trans (bits_mask .u8 8 (by decide) wraps_u8 6 (by decide) (b : Int) (by omega) (by omega)) (by omega)
theorem and192 : ∀ n : Fin 256, (n.val &&& 192 = 128) = (n.val / 64 = 2) := by decide +kernel
theorem u8_mask192 (b : Nat) (hb : b < 256) : (Go.bits .and .u8 (b : Int) 192 = 128) = (b / 64 = 2) := by
  rw [show (192 : Int) = ((192 : Nat) : Int) from rfl, u8_and_nat b 192 hb (by decide), ← and192 ⟨b, hb⟩]
  exact propext ⟨fun h => by exact_mod_cast h, fun h => by exact_mod_cast h⟩
theorem i64_join (x y : Int) (hx : 0 ≤ x) (h : x % 64 = 0) (h1 : x < 2 ^ 60) (hy : 0 ≤ y) (hy1 : y < 64) : Go.bits .or .i64 x y = x + y :=
  bits_join .i64 62 (by decide) wraps_i64 6 x y (by omega) (by simpa using h) (by omega) hy (by simpa using hy1) (by omega)

section
variable (s : List UInt8) (hs : s.length ≤ 140737488351232)
include hs
theorem ref_l0 (k : Nat) (i j n : Nat) (c least : Int) (hj : j < n) (hij : i + j < s.length) (h0 : 0 ≤ c) (h1 : c < 2 ^ 40) :
    P.cardexref01_decode.l0 (k + 1) (bs s) (i : Int) c (n : Int) least (j : Int) =
      if (s.getD (i + j) 0).toNat / 64 = 2 then P.cardexref01_decode.l0 k (bs s) (i : Int) (c * 64 + ((s.getD (i + j) 0).toNat % 64 : Nat)) (n : Int) least ((j + 1 : Nat) : Int) else some (0, 0) := by
  have hw : wrap64 ((i : Int) + (j : Int)) = ((i + j : Nat) : Int) := w64 _ (by omega) (by omega)
  have hb := UInt8.toNat_lt (s.getD (i + j) 0)
  have hm : (s.getD (i + j) 0).toNat % 64 < 64 := Nat.mod_lt _ (by omega)
  rw [P.cardexref01_decode.l0, if_pos (by omega), hw, if_pos (by omega), if_pos (by rw [bs_size]; omega), bt_at s _ hij, u8_mask63 _ hb]
  simp only [u8_mask192 _ hb]
  rw [w64 (((s.getD (i + j) 0).toNat % 64 : Nat) : Int) (by omega) (by omega), w64 (c * 64) (by omega) (by omega), i64_join (c * 64) _ (by omega) (by omega) (by omega) (by omega) (by omega)]
  rw [show wrap64 ((j : Int) + 1) = ((j + 1 : Nat) : Int) from w64 _ (by omega) (by omega)]
omit hs in
theorem ref_end (k i n : Nat) (c least : Int) : P.cardexref01_decode.l0 (k + 1) (bs s) (i : Int) c (n : Int) least (n : Int) = (if c < least then (some (0, 0)) else (if c > 1114111 then (some (0, 0)) else (if c ≥ 55296 then (if c ≤ 57343 then (some (0, 0)) else (some (c, (n : Int)))) else (some (c, (n : Int)))))) := by
  rw [P.cardexref01_decode.l0, if_neg (by omega)]
theorem ref_j2 (k i n : Nat) (c least : Int) (hn : n ≤ 4) (hi : i < s.length) : P.cardexref01_decode.j2 (k + 1) (bs s) (i : Int) c (n : Int) least = if s.length < i + n then some (0, 0) else P.cardexref01_decode.l0 k (bs s) (i : Int) c (n : Int) least ((1 : Nat) : Int) := by
  rw [P.cardexref01_decode.j2, w64 ((i : Int) + (n : Int)) (by omega) (by omega), bs_size]
  by_cases h : s.length < i + n
  · rw [if_pos h, if_pos (by omega)]
  · rw [if_neg h, if_neg (by omega)]
    rfl
omit hs in
def outc (d : Nat × Nat) : Int × Int := if decide (d.1 = 65533 ∧ d.2 = 1) = true then (0, 0) else ((d.1 : Int), (d.2 : Int))
omit hs in
theorem outc_bad : outc (65533, 1) = (0, 0) := rfl
omit hs in
theorem outc_ok (c n : Nat) (h : n ≠ 1 ∨ c ≠ 65533) : outc (c, n) = ((c : Int), (n : Int)) := by
  unfold outc
  rw [if_neg (by simp only [decide_eq_true_eq]; omega)]
/-- What the reference reads at a place. -/
theorem decode_ref (i : Nat) (hi : i < s.length) : P.cardexref01_decode.f 8 (bs s) (i : Int) =
    some (outc (decodeL (s.drop i))) := by
  have e0 : (s.drop i).getD 0 0 = s.getD i 0 := by simp [List.getD]
  have e1 : (s.drop i).getD 1 0 = s.getD (i + 1) 0 := by simp [List.getD]
  have e2 : (s.drop i).getD 2 0 = s.getD (i + 2) 0 := by simp [List.getD]
  have e3 : (s.drop i).getD 3 0 = s.getD (i + 3) 0 := by simp [List.getD]
  have el : (s.drop i).length = s.length - i := List.length_drop
  have hd := decodeL_N (s.drop i)
  rw [e0, e1, e2, e3, el] at hd
  rw [hd]
  have b0 := UInt8.toNat_lt (s.getD i 0)
  have b1 := UInt8.toNat_lt (s.getD (i + 1) 0)
  have b2 := UInt8.toNat_lt (s.getD (i + 2) 0)
  have b3 := UInt8.toNat_lt (s.getD (i + 3) 0)
  unfold P.cardexref01_decode.f
  rw [if_pos (by omega), if_pos (by rw [bs_size]; omega), bt_at s i hi, w64 ((s.getD i 0).toNat : Int) (by omega) (by omega)]
  have L1 := fun k n c least h1 h2 h3 h4 => ref_l0 s hs k i 1 n c least h1 h2 h3 h4
  have L2 := fun k n c least h1 h2 h3 h4 => ref_l0 s hs k i 2 n c least h1 h2 h3 h4
  have L3 := fun k n c least h1 h2 h3 h4 => ref_l0 s hs k i 3 n c least h1 h2 h3 h4
  generalize (s.getD i 0).toNat = x0 at b0 ⊢
  generalize (s.getD (i + 1) 0).toNat = x1 at b1 L1 ⊢
  generalize (s.getD (i + 2) 0).toNat = x2 at b2 L2 ⊢
  generalize (s.getD (i + 3) 0).toNat = x3 at b3 L3 ⊢
  have J := fun k n c least h1 => ref_j2 s hs k i n c least h1 hi
  by_cases c1 : x0 < 128
  · rw [if_pos (by omega)]
    have := J 7 1 (x0 : Int) 0 (by omega)
    rw [show ((1 : Nat) : Int) = 1 from rfl] at this
    rw [this, if_neg (by omega)]
    have h2 := ref_end s 6 i 1 (x0 : Int) 0
    rw [show ((1 : Nat) : Int) = 1 from rfl] at h2
    rw [h2, if_neg (by omega), if_neg (by omega), if_neg (by omega)]
    unfold decodeN
    rw [if_pos c1, outc_ok _ _ (by omega)]
    rfl
  rw [if_neg (by omega)]
  by_cases c2 : x0 < 192
  · rw [if_neg (by omega)]
    rw [P.cardexref01_decode.j0, if_neg (by decide), if_neg (by omega)]
    rw [P.cardexref01_decode.j1, if_neg (by decide), if_neg (by omega)]
    unfold decodeN
    rw [if_neg c1, if_neg (by omega), if_neg (by omega), if_neg (by omega), outc_bad]
  rw [if_pos (by omega)]
  by_cases c3 : x0 < 224
  · have hm := i64_and31 (x0 : Int) (by omega) (by omega)
    rw [show decide ((x0 : Int) < 224) = true from by simp; omega]
    rw [P.cardexref01_decode.j0, if_pos rfl, hm]
    have h2 := J 6 2 ((x0 : Int) % 32) 128 (by omega)
    rw [show ((2 : Nat) : Int) = 2 from rfl] at h2
    rw [h2]
    unfold decodeN
    rw [if_neg c1]
    by_cases h5 : s.length < i + 2
    · rw [if_pos h5, if_neg (by omega), if_neg (by omega), if_neg (by omega), outc_bad]
    rw [if_neg h5]
    have h3 := L1 5 2 ((x0 : Int) % 32) 128 (by omega) (by omega) (by omega) (by omega)
    rw [show ((2 : Nat) : Int) = 2 from rfl] at h3
    rw [h3]
    by_cases h6 : x1 / 64 = 2
    · rw [if_pos h6, if_pos (by omega)]
      have h4 := ref_end s 4 i 2 ((x0 : Int) % 32 * 64 + ((x1 % 64 : Nat) : Int)) 128
      rw [show ((2 : Nat) : Int) = 2 from rfl] at h4
      rw [h4]
      by_cases h7 : x0 % 32 * 64 + x1 % 64 ≥ 128
      · rw [if_neg (by omega), if_neg (by omega), if_neg (by omega), if_pos h7, outc_ok _ _ (by omega)]
        congr 2
      · rw [if_pos (by omega), if_neg h7, outc_bad]
    · rw [if_neg h6, if_neg (by omega), if_neg (by omega), if_neg (by omega), outc_bad]
  rw [show decide ((x0 : Int) < 224) = false from by simp; omega]
  rw [P.cardexref01_decode.j0, if_neg (by decide), if_pos (by omega)]
  by_cases c4 : x0 < 240
  · have hm := i64_and15 (x0 : Int) (by omega) (by omega)
    rw [show decide ((x0 : Int) < 240) = true from by simp; omega]
    rw [P.cardexref01_decode.j1, if_pos rfl, hm]
    have h2 := J 5 3 ((x0 : Int) % 16) 2048 (by omega)
    rw [show ((3 : Nat) : Int) = 3 from rfl] at h2
    rw [h2]
    by_cases h5 : s.length < i + 3
    · rw [if_pos h5]
      unfold decodeN
      rw [if_neg c1, if_neg (by omega), if_neg (by omega), if_neg (by omega), outc_bad]
    rw [if_neg h5]
    unfold decodeN
    rw [if_neg c1, if_neg (by omega)]
    have h3 := L1 4 3 ((x0 : Int) % 16) 2048 (by omega) (by omega) (by omega) (by omega)
    rw [show ((3 : Nat) : Int) = 3 from rfl] at h3
    rw [h3]
    by_cases h6 : x1 / 64 = 2
    · rw [if_pos h6]
      have h4 := L2 3 3 ((x0 : Int) % 16 * 64 + ((x1 % 64 : Nat) : Int)) 2048 (by omega) (by omega) (by omega) (by omega)
      rw [show ((3 : Nat) : Int) = 3 from rfl] at h4
      rw [h4]
      by_cases h7 : x2 / 64 = 2
      · rw [if_pos h7, if_pos (by omega)]
        have h8 := ref_end s 2 i 3 (((x0 : Int) % 16 * 64 + ((x1 % 64 : Nat) : Int)) * 64 + ((x2 % 64 : Nat) : Int)) 2048
        rw [show ((3 : Nat) : Int) = 3 from rfl] at h8
        rw [h8]
        have hv : ((x0 : Int) % 16 * 64 + ((x1 % 64 : Nat) : Int)) * 64 + ((x2 % 64 : Nat) : Int) = ((x0 % 16 * 4096 + x1 % 64 * 64 + x2 % 64 : Nat) : Int) := by omega
        have hv1 : x0 % 16 * 4096 + x1 % 64 * 64 + x2 % 64 < 65536 := by omega
        rw [hv]
        generalize x0 % 16 * 4096 + x1 % 64 * 64 + x2 % 64 = c at hv1 ⊢
        by_cases q1 : c ≥ 2048 ∧ (c < 55296 ∨ (57344 ≤ c ∧ c ≤ 1114111))
        · rw [if_pos q1, outc_ok _ _ (by omega), if_neg (by omega), if_neg (by omega)]
          by_cases q2 : (c : Int) ≥ 55296
          · rw [if_pos q2, if_neg (by omega)]; rfl
          · rw [if_neg q2]; rfl
        · rw [if_neg q1, outc_bad]
          by_cases q2 : (c : Int) < 2048
          · rw [if_pos q2]
          · rw [if_neg q2, if_neg (by omega), if_pos (by omega), if_pos (by omega)]
      · rw [if_neg h7, if_neg (by omega), if_neg (by omega), outc_bad]
    · rw [if_neg h6, if_neg (by omega), if_neg (by omega), outc_bad]
  rw [show decide ((x0 : Int) < 240) = false from by simp; omega]
  rw [P.cardexref01_decode.j1, if_neg (by decide), if_pos (by omega)]
  by_cases c5 : x0 < 248
  · have hm := i64_and7 (x0 : Int) (by omega) (by omega)
    rw [if_pos (by omega), hm]
    have h2 := J 5 4 ((x0 : Int) % 8) 65536 (by omega)
    rw [show ((4 : Nat) : Int) = 4 from rfl] at h2
    rw [h2]
    by_cases h5 : s.length < i + 4
    · rw [if_pos h5]
      unfold decodeN
      rw [if_neg c1, if_neg (by omega), if_neg (by omega), if_neg (by omega), outc_bad]
    rw [if_neg h5]
    unfold decodeN
    rw [if_neg c1, if_neg (by omega), if_neg (by omega)]
    have h3 := L1 4 4 ((x0 : Int) % 8) 65536 (by omega) (by omega) (by omega) (by omega)
    rw [show ((4 : Nat) : Int) = 4 from rfl] at h3
    rw [h3]
    by_cases h6 : x1 / 64 = 2
    · rw [if_pos h6]
      have h4 := L2 3 4 ((x0 : Int) % 8 * 64 + ((x1 % 64 : Nat) : Int)) 65536 (by omega) (by omega) (by omega) (by omega)
      rw [show ((4 : Nat) : Int) = 4 from rfl] at h4
      rw [h4]
      by_cases h7 : x2 / 64 = 2
      · rw [if_pos h7]
        have h4 := L3 2 4 (((x0 : Int) % 8 * 64 + ((x1 % 64 : Nat) : Int)) * 64 + ((x2 % 64 : Nat) : Int)) 65536 (by omega) (by omega) (by omega) (by omega)
        rw [show ((4 : Nat) : Int) = 4 from rfl] at h4
        rw [h4]
        by_cases h8 : x3 / 64 = 2
        · rw [if_pos h8, if_pos (by omega)]
          have h9 := ref_end s 1 i 4 ((((x0 : Int) % 8 * 64 + ((x1 % 64 : Nat) : Int)) * 64 + ((x2 % 64 : Nat) : Int)) * 64 + ((x3 % 64 : Nat) : Int)) 65536
          rw [show ((4 : Nat) : Int) = 4 from rfl] at h9
          rw [h9]
          have hv : (((x0 : Int) % 8 * 64 + ((x1 % 64 : Nat) : Int)) * 64 + ((x2 % 64 : Nat) : Int)) * 64 + ((x3 % 64 : Nat) : Int) = ((x0 % 8 * 262144 + x1 % 64 * 4096 + x2 % 64 * 64 + x3 % 64 : Nat) : Int) := by omega
          rw [hv]
          generalize x0 % 8 * 262144 + x1 % 64 * 4096 + x2 % 64 * 64 + x3 % 64 = c
          by_cases q1 : c ≥ 65536 ∧ (c < 55296 ∨ (57344 ≤ c ∧ c ≤ 1114111))
          · rw [if_pos q1, outc_ok _ _ (by omega), if_neg (by omega), if_neg (by omega), if_pos (by omega), if_neg (by omega)]; rfl
          · rw [if_neg q1, outc_bad]
            by_cases q2 : (c : Int) < 65536
            · rw [if_pos q2]
            · rw [if_neg q2, if_pos (by omega)]
        · rw [if_neg h8, if_neg (by omega), outc_bad]
      · rw [if_neg h7, if_neg (by omega), outc_bad]
    · rw [if_neg h6, if_neg (by omega), outc_bad]
  · rw [if_neg (by omega)]
    unfold decodeN
    rw [if_neg c1, if_neg (by omega), if_neg (by omega), if_neg (by omega), outc_bad]
end
end Go.Proofs.YtfelfpjfjjgmoaaDoor
end
/- The reference's Valid and Escape on byte lists. -/
section
set_option linter.unusedVariables false
namespace Go.Proofs.YtfelfpjfjjgmoaaDoor
open Go.RowKit Go.Lib Go.Proofs.YtfelfpjfjjgmoaaDoorW.PrintWords

theorem leo_lift {α : Type} {f : Nat → Option α} (h : ∀ k, LeO (f k) (f (k + 1))) {k : Nat} {r : α} (hk : f k = some r) : ∀ m, k ≤ m → f m = some r := by
  intro m hm
  obtain ⟨d, rfl⟩ := Nat.exists_eq_add_of_le hm
  clear hm
  induction d with
  | zero => exact hk
  | succ d ih => exact h (k + d) r ih
theorem char_eq (a : Int) (h : a < 55296 ∨ 57343 < a) : P.cardexref01_Char.f a = some (mayB a) := by
  unfold P.cardexref01_Char.f mayB shownB
  by_cases h1 : a = 9
  · rw [if_pos h1]; subst h1; rfl
  rw [if_neg h1]
  by_cases h2 : a = 10
  · rw [if_pos h2]; subst h2; rfl
  rw [if_neg h2]
  by_cases h3 : a = 13
  · rw [if_pos h3]; subst h3; rfl
  rw [if_neg h3]
  have e1 : (a == 9) = false := beq_eq_false_iff_ne.2 h1
  have e2 : (a == 10) = false := beq_eq_false_iff_ne.2 h2
  have e3 : (a == 13) = false := beq_eq_false_iff_ne.2 h3
  rw [e1, e2, e3]
  simp only [Bool.false_or]
  by_cases h4 : a ≥ 32
  · rw [if_pos h4, show decide (32 ≤ a) = true from decide_eq_true h4]
    by_cases h5 : a < 55296
    · rw [if_pos h5, show decide (a ≤ 65533) = true from decide_eq_true (by omega)]; rfl
    · rw [if_neg h5, if_pos (by omega)]
      by_cases h6 : a < 65534
      · rw [if_pos h6, show decide (a ≤ 65533) = true from decide_eq_true (by omega)]; rfl
      · rw [if_neg h6, show decide (a ≤ 65533) = false from decide_eq_false (by omega)]
        by_cases h7 : a > 65535
        · rw [if_pos h7, show decide (65536 ≤ a) = true from decide_eq_true (by omega)]; rfl
        · rw [if_neg h7, show decide (65536 ≤ a) = false from decide_eq_false (by omega)]; rfl
  · rw [if_neg h4, if_neg (by omega), if_neg (by omega), show decide (32 ≤ a) = false from decide_eq_false (by omega), show decide (65536 ≤ a) = false from decide_eq_false (by omega)]
    rfl
/-- What is decoded is no surrogate. -/
theorem decodeN_plain (n a b c d : Nat) : (decodeN n a b c d).1 < 55296 ∨ 57343 < (decodeN n a b c d).1 := by
  unfold decodeN
  repeat' split
  all_goals (simp only []; omega)
theorem decodeL_plain (l : List UInt8) : (decodeL l).1 < 55296 ∨ 57343 < (decodeL l).1 := by
  rw [decodeL_N]
  exact decodeN_plain _ _ _ _ _
section
variable (s : List UInt8) (hs : s.length ≤ 140737488351232)
include hs
theorem next_ref (k i : Nat) (hk : 8 ≤ k) (hi : i < s.length) : P.cardexref01_Next.f k (bs s) (i : Int) =
    some (if badL (s.drop i) = true then (0, 0) else if mayB ((decodeL (s.drop i)).1 : Int) = true then (((decodeL (s.drop i)).1 : Int), ((decodeL (s.drop i)).2 : Int)) else (0, 0)) := by
  have h1 := leo_lift (P.cardexref01_decode.mono (bs s) (i : Int)) (decode_ref s hs i hi) k hk
  have hp := decodeL_plain (s.drop i)
  have hw := decodeL_pos (s.drop i)
  unfold P.cardexref01_Next.f
  rw [h1]
  simp only [Option.bind_some]
  unfold outc badL
  by_cases hb : decide ((decodeL (s.drop i)).1 = 65533 ∧ (decodeL (s.drop i)).2 = 1) = true
  · rw [if_pos hb, if_pos hb]
    rfl
  · rw [if_neg hb, if_neg hb]
    simp only []
    rw [if_neg (by omega), char_eq _ (by omega)]
    simp only [Option.bind_some]
    split <;> rfl
theorem valid_loop : ∀ (d i m : Nat), s.length ≤ i + d → d + 9 ≤ m → P.cardexref01_Valid.l0 m (bs s) (i : Int) = some (vs (s.drop i))
  | d, i, 0, _, h => absurd h (by omega)
  | d, i, m + 1, h1, h2 => by
    rw [P.cardexref01_Valid.l0, bs_size]
    by_cases hi : i < s.length
    · have hne : s.drop i ≠ [] := by rw [Ne, List.drop_eq_nil_iff]; omega
      have hw := decodeL_pos (s.drop i)
      have hle := decodeL_le (s.drop i) hne
      rw [List.length_drop] at hle
      rw [if_pos (by omega), next_ref s hs m i (by omega) hi]
      simp only [Option.bind_some]
      unfold vs
      rw [vsP_step _ _ hne]
      by_cases hb : badL (s.drop i) = true
      · rw [if_pos hb, if_pos hb]
        rfl
      · rw [if_neg hb, if_neg hb]
        by_cases hm : mayB ((decodeL (s.drop i)).1 : Int) = true
        · rw [if_pos hm, hm]
          simp only []
          rw [if_neg (by omega), show wrap64 ((i : Int) + ((decodeL (s.drop i)).2 : Int)) = ((i + (decodeL (s.drop i)).2 : Nat) : Int) from w64 _ (by omega) (by omega)]
          cases d with
          | zero => omega
          | succ d =>
            rw [valid_loop d (i + (decodeL (s.drop i)).2) m (by omega) (by omega), List.drop_drop]
            rfl
        · rw [if_neg hm, show mayB ((decodeL (s.drop i)).1 : Int) = false from by simpa using hm]
          rfl
    · rw [if_neg (by omega), List.drop_eq_nil_of_le (by omega)]
      rfl
theorem valid_ref (m : Nat) (hm : s.length + 9 ≤ m) : P.cardexref01_Valid.f m (bs s) = some (vs s) := by
  have := valid_loop s hs s.length 0 m (by omega) (by omega)
  rw [List.drop_zero] at this
  exact this
end

/-! ### Escape -/
def escB (c : UInt8) : List UInt8 :=
  if c = 38 then [38, 97, 109, 112, 59] else if c = 60 then [38, 108, 116, 59] else if c = 62 then [38, 103, 116, 59] else if c = 34 then [38, 113, 117, 111, 116, 59]
  else if c = 39 then [38, 97, 112, 111, 115, 59] else if c = 9 then [38, 35, 57, 59] else if c = 10 then [38, 35, 49, 48, 59] else if c = 13 then [38, 35, 49, 51, 59] else [c]
def escL (l : List UInt8) : List UInt8 := l.flatMap escB
theorem escB_le (c : UInt8) : (escB c).length ≤ 6 := by
  unfold escB
  repeat' split
  all_goals first | decide | simp
theorem escL_le (l : List UInt8) : (escL l).length ≤ 6 * l.length := by
  unfold escL
  induction l with
  | nil => simp
  | cons c l ih =>
    have := escB_le c
    simp only [List.flatMap_cons, List.length_append, List.length_cons]
    omega
theorem bs_app (a b : List UInt8) : bs a ++ bs b = bs (a ++ b) := by
  apply ByteArray.ext
  simp [bs]
theorem esc_loop (s : List UInt8) (hs : s.length ≤ 1000000) : ∀ (d i : Nat) (m : Nat) (out : List UInt8), s.length = i + d → d + 1 ≤ m → out.length ≤ 6 * i →
    P.cardexref01_Escape.l0 m (bs s) (bs out) (i : Int) = some (bs (out ++ escL (s.drop i)))
  | d, i, 0, out, _, h, _ => absurd h (by omega)
  | 0, i, m + 1, out, h1, h2, h3 => by
    rw [P.cardexref01_Escape.l0, bs_size, if_neg (by omega), List.drop_eq_nil_of_le (by omega)]
    simp [escL]
  | d + 1, i, m + 1, out, h1, h2, h3 => by
    have hi : i < s.length := by omega
    have hw : wrap64 ((i : Int) + 1) = ((i + 1 : Nat) : Int) := w64 _ (by omega) (by omega)
    have hdr : s.drop i = s.getD i 0 :: s.drop (i + 1) := by
      rw [List.drop_eq_getElem_cons hi]
      congr 1
      simp [List.getD, hi]
    have IH := fun (x : List UInt8) (hx : x.length ≤ 6) => esc_loop s hs d (i + 1) m (out ++ x) (by omega) (by omega) (by rw [List.length_append]; omega)
    have hext : (bs s).extract i (i + 1) = bs [s.getD i 0] := by
      rw [← bs_of ((bs s).extract i (i + 1)), extract_list, bs_list, hdr, Nat.add_sub_cancel_left]
      rfl
    rw [P.cardexref01_Escape.l0, bs_size, if_pos (by omega), if_pos (by omega), bt_at s i hi, hw]
    rw [hdr]
    generalize s.getD i 0 = c at hext ⊢
    have hc : ∀ k : UInt8, (((c.toNat : Int) = (k.toNat : Int)) = (c = k)) := fun k => propext ⟨fun h => UInt8.toNat_inj.1 (by omega), fun h => by rw [h]⟩
    have c38 := hc 38
    have c60 := hc 60
    have c62 := hc 62
    have c34 := hc 34
    have c39 := hc 39
    have c9 := hc 9
    have c10 := hc 10
    have c13 := hc 13
    simp only [show ((38 : UInt8).toNat : Int) = 38 from rfl] at c38
    simp only [show ((60 : UInt8).toNat : Int) = 60 from rfl] at c60
    simp only [show ((62 : UInt8).toNat : Int) = 62 from rfl] at c62
    simp only [show ((34 : UInt8).toNat : Int) = 34 from rfl] at c34
    simp only [show ((39 : UInt8).toNat : Int) = 39 from rfl] at c39
    simp only [show ((9 : UInt8).toNat : Int) = 9 from rfl] at c9
    simp only [show ((10 : UInt8).toNat : Int) = 10 from rfl] at c10
    simp only [show ((13 : UInt8).toNat : Int) = 13 from rfl] at c13
    simp only [c38, c60, c62, c34, c39, c9, c10, c13]
    have step : ∀ x : List UInt8, escB c = x → bs (out ++ escL (c :: s.drop (i + 1))) = bs ((out ++ x) ++ escL (s.drop (i + 1))) := fun x hx => by
      simp [escL, hx]
    have key : ∀ x : List UInt8, escB c = x → (if (bs out).size + x.length ≤ 9223372036854775807 then P.cardexref01_Escape.l0 m (bs s) (bs out ++ bs x) ((i + 1 : Nat) : Int) else none) = some (bs (out ++ escL (c :: s.drop (i + 1)))) := fun x hx => by
      have hl : x.length ≤ 6 := by rw [← hx]; exact escB_le c
      rw [bs_size, if_pos (by omega), bs_app, IH x hl, step x hx]
    unfold escB at key
    by_cases d1 : c = 38
    · rw [if_pos d1]; simp only [d1, if_true] at key ⊢; exact key _ rfl
    rw [if_neg d1]; simp only [d1, if_false] at key
    by_cases d2 : c = 60
    · rw [if_pos d2]; simp only [d2, if_true] at key ⊢; exact key _ rfl
    rw [if_neg d2]; simp only [d2, if_false] at key
    by_cases d3 : c = 62
    · rw [if_pos d3]; simp only [d3, if_true] at key ⊢; exact key _ rfl
    rw [if_neg d3]; simp only [d3, if_false] at key
    by_cases d4 : c = 34
    · rw [if_pos d4]; simp only [d4, if_true] at key ⊢; exact key _ rfl
    rw [if_neg d4]; simp only [d4, if_false] at key
    by_cases d5 : c = 39
    · rw [if_pos d5]; simp only [d5, if_true] at key ⊢; exact key _ rfl
    rw [if_neg d5]; simp only [d5, if_false] at key
    by_cases d6 : c = 9
    · rw [if_pos d6]; simp only [d6, if_true] at key ⊢; exact key _ rfl
    rw [if_neg d6]; simp only [d6, if_false] at key
    by_cases d7 : c = 10
    · rw [if_pos d7]; simp only [d7, if_true] at key ⊢; exact key _ rfl
    rw [if_neg d7]; simp only [d7, if_false] at key
    by_cases d8 : c = 13
    · rw [if_pos d8]; simp only [d8, if_true] at key ⊢; exact key _ rfl
    rw [if_neg d8]; simp only [d8, if_false] at key
    rw [if_pos (by omega), if_pos (by omega), Int.toNat_natCast, Int.toNat_natCast, hext]
    exact key [c] rfl
theorem escape_ref (s : List UInt8) (hs : s.length ≤ 1000000) (m : Nat) (hm : s.length + 1 ≤ m) : P.cardexref01_Escape.f m (bs s) = some (bs (escL s)) := by
  have := esc_loop s hs s.length 0 m [] (by omega) hm (by simp)
  rw [List.drop_zero, List.nil_append] at this
  exact this
end Go.Proofs.YtfelfpjfjjgmoaaDoor
end
/- An escaped text is told back as it was; it is valid where the text is. -/
section
set_option linter.unusedVariables false
set_option maxRecDepth 10000
namespace Go.Proofs.YtfelfpjfjjgmoaaDoor
open Go.RowKit Go.Lib Go.Proofs.YtfelfpjfjjgmoaaDoorW.PrintWords

theorem escL_cons (c : UInt8) (l : List UInt8) : escL (c :: l) = escB c ++ escL l := rfl
theorem escL_app (a b : List UInt8) : escL (a ++ b) = escL a ++ escL b := by simp [escL]
/-- A byte is escaped by a name between '&' and ';', or stands as it is. -/
theorem escB_cases (c : UInt8) : (escB c = [c] ∧ c ≠ 38 ∧ c ≠ 60 ∧ c ≠ 39) ∨ (c.toNat < 128 ∧ ∃ nm, escB c = 38 :: (nm ++ [59]) ∧ (nm.all fun x => x != 59 && x != 60 && x != 39) = true ∧ vs (38 :: (nm ++ [59])) = true ∧ signF (bs nm) = bs [c]) := by
  unfold escB
  by_cases d1 : c = 38
  · right; subst d1; exact ⟨by decide, [97, 109, 112], rfl, by decide, by kernel_rfl, by kernel_rfl⟩
  by_cases d2 : c = 60
  · right; subst d2; exact ⟨by decide, [108, 116], rfl, by decide, by kernel_rfl, by kernel_rfl⟩
  by_cases d3 : c = 62
  · right; subst d3; exact ⟨by decide, [103, 116], rfl, by decide, by kernel_rfl, by kernel_rfl⟩
  by_cases d4 : c = 34
  · right; subst d4; exact ⟨by decide, [113, 117, 111, 116], rfl, by decide, by kernel_rfl, by kernel_rfl⟩
  by_cases d5 : c = 39
  · right; subst d5; exact ⟨by decide, [97, 112, 111, 115], rfl, by decide, by kernel_rfl, by kernel_rfl⟩
  by_cases d6 : c = 9
  · right; subst d6; exact ⟨by decide, [35, 57], rfl, by decide, by kernel_rfl, by kernel_rfl⟩
  by_cases d7 : c = 10
  · right; subst d7; exact ⟨by decide, [35, 49, 48], rfl, by decide, by kernel_rfl, by kernel_rfl⟩
  by_cases d8 : c = 13
  · right; subst d8; exact ⟨by decide, [35, 49, 51], rfl, by decide, by kernel_rfl, by kernel_rfl⟩
  left
  simp only [d1, d2, d3, d4, d5, d6, d7, d8, if_false]
  exact ⟨trivial, d1, d2, d5⟩
theorem escB_high (c : UInt8) (h : 128 ≤ c.toNat) : escB c = [c] := by
  rcases escB_cases c with h1 | h1
  · exact h1.1
  · have := h1.1; omega
theorem cutAt_mid (c : UInt8) : ∀ (a b : List UInt8), (∀ x ∈ a, x ≠ c) → cutAt c (a ++ c :: b) = (a, b, true)
  | [], b, _ => by simp [cutAt]
  | x :: a, b, h => by
    have := cutAt_mid c a b (fun y hy => h y (List.mem_cons_of_mem _ hy))
    rw [List.cons_append]
    unfold cutAt
    rw [if_neg (h x (List.mem_cons_self ..)), this]
theorem cutAt_none (c : UInt8) : ∀ (a : List UInt8), (∀ x ∈ a, x ≠ c) → cutAt c a = (a, [], false)
  | [], _ => rfl
  | x :: a, h => by
    have := cutAt_none c a (fun y hy => h y (List.mem_cons_of_mem _ hy))
    unfold cutAt
    rw [if_neg (h x (List.mem_cons_self ..)), this]
theorem escL_no (l : List UInt8) : ∀ x ∈ escL l, x ≠ 60 ∧ x ≠ 39 := by
  intro x hx
  unfold escL at hx
  rw [List.mem_flatMap] at hx
  obtain ⟨c, _, hx⟩ := hx
  rcases escB_cases c with h | ⟨_, nm, h, h2, _⟩
  · rw [h.1, List.mem_singleton] at hx
    subst hx
    exact h.2.2
  · rw [h] at hx
    rcases List.mem_cons.1 hx with e | e
    · subst e; decide
    · rcases List.mem_append.1 e with e | e
      · have := List.all_eq_true.1 h2 x e
        simp only [Bool.and_eq_true, bne_iff_ne, ne_eq] at this
        exact ⟨this.1.2, this.2⟩
      · rw [List.mem_singleton] at e; subst e; decide
theorem backL_plain (k : Nat) (acc : List UInt8) (x : UInt8) (l : List UInt8) (h : x ≠ 38) : backL (k + 1) acc (x :: l) = backL (k + 1) (acc ++ [x]) l := by
  unfold backL
  rw [show cutAt 38 (x :: l) = (x :: (cutAt 38 l).1, (cutAt 38 l).2.1, (cutAt 38 l).2.2) from by rw [cutAt, if_neg h]]
  simp only [List.append_assoc, List.singleton_append]
theorem back_esc : ∀ (s : List UInt8) (k : Nat) (acc : List UInt8), (escL s).length < k → backL k acc (escL s) = some (acc ++ s)
  | [], 0, acc, h => absurd h (by omega)
  | [], k + 1, acc, _ => by simp [escL, backL, cutAt]
  | c :: s, 0, acc, h => absurd h (by omega)
  | c :: s, k + 1, acc, h => by
    rw [escL_cons] at h ⊢
    rcases escB_cases c with h1 | ⟨_, nm, h1, h2, _, h3⟩
    · rw [h1.1] at h ⊢
      rw [List.singleton_append, backL_plain _ _ _ _ h1.2.1, back_esc s (k + 1) (acc ++ [c]) (by simp only [List.length_append, List.length_cons, List.length_nil] at h; omega)]
      simp
    · rw [h1] at h ⊢
      have hn : ∀ x ∈ nm, x ≠ 59 := fun x hx => by
        have := List.all_eq_true.1 h2 x hx
        simp only [Bool.and_eq_true, bne_iff_ne, ne_eq] at this
        exact this.1.1
      have e1 : cutAt 38 (38 :: (nm ++ [59]) ++ escL s) = ([], nm ++ 59 :: escL s, true) := by simp [cutAt]
      have e2 := cutAt_mid 59 nm (escL s) hn
      unfold backL
      rw [e1]
      simp only [if_true, List.append_nil]
      rw [e2]
      simp only [if_true]
      rw [h3, bs_list, if_neg (by simp)]
      rw [back_esc s k (acc ++ [c]) (by simp only [List.length_append, List.length_cons, List.length_nil] at h; omega)]
      simp

/-! ### valid -/
theorem decodeN_w (n a b c d : Nat) (r w : Nat) (h : decodeN n a b c d = (r, w)) (hw : w ≠ 1) : w ≤ n ∧ (∀ n' b' c' d', w ≤ n' → b' = b → (2 < w → c' = c) → (3 < w → d' = d) → decodeN n' a b' c' d' = (r, w)) ∧ 128 ≤ a ∧ 1 < w ∧ w ≤ 4 ∧ b / 64 = 2 ∧ (2 < w → c / 64 = 2) ∧ (3 < w → d / 64 = 2) := by
  unfold decodeN at h
  by_cases c0 : a < 128
  · rw [if_pos c0] at h
    simp only [Prod.mk.injEq] at h
    omega
  rw [if_neg c0] at h
  by_cases c1 : a / 32 = 6 ∧ (1 < n ∧ b / 64 = 2)
  · rw [if_pos c1] at h
    split at h
    · rename_i hh
      simp only [Prod.mk.injEq] at h
      obtain ⟨rfl, rfl⟩ := h
      refine ⟨by omega, fun n' b' c' d' h1 h2 h3 h4 => ?_, by omega, by omega, by omega, by omega, by omega, by omega⟩
      subst h2
      unfold decodeN
      rw [if_neg c0, if_pos (by omega), if_pos hh]
    · simp only [Prod.mk.injEq] at h
      omega
  rw [if_neg c1] at h
  by_cases c2 : a / 16 = 14 ∧ (1 < n ∧ b / 64 = 2) ∧ (2 < n ∧ c / 64 = 2)
  · rw [if_pos c2] at h
    split at h
    · rename_i hh
      simp only [Prod.mk.injEq] at h
      obtain ⟨rfl, rfl⟩ := h
      refine ⟨by omega, fun n' b' c' d' h1 h2 h3 h4 => ?_, by omega, by omega, by omega, by omega, by omega, by omega⟩
      have h3 := h3 (by omega)
      subst h2 h3
      unfold decodeN
      rw [if_neg c0, if_neg (by omega), if_pos (by omega), if_pos hh]
    · simp only [Prod.mk.injEq] at h
      omega
  rw [if_neg c2] at h
  by_cases c3 : a / 8 = 30 ∧ (1 < n ∧ b / 64 = 2) ∧ (2 < n ∧ c / 64 = 2) ∧ (3 < n ∧ d / 64 = 2)
  · rw [if_pos c3] at h
    split at h
    · rename_i hh
      simp only [Prod.mk.injEq] at h
      obtain ⟨rfl, rfl⟩ := h
      refine ⟨by omega, fun n' b' c' d' h1 h2 h3 h4 => ?_, by omega, by omega, by omega, by omega, by omega, by omega⟩
      have h3 := h3 (by omega)
      have h4 := h4 (by omega)
      subst h2 h3 h4
      unfold decodeN
      rw [if_neg c0, if_neg (by omega), if_neg (by omega), if_pos (by omega), if_pos hh]
    · simp only [Prod.mk.injEq] at h
      omega
  · rw [if_neg c3] at h
    simp only [Prod.mk.injEq] at h
    omega
theorem getD_take (l X : List UInt8) (w k : Nat) (hk : k < w) (hw : w ≤ l.length) : (l.take w ++ X).getD k 0 = l.getD k 0 := by
  rw [List.getD, List.getElem?_append_left (by rw [List.length_take]; omega), List.getElem?_take_of_lt hk, ← List.getD]
/-- A character of several bytes: no byte of it is escaped; it is read alike whatever follows. -/
theorem wide_esc (l X : List UInt8) (hw : (decodeL l).2 ≠ 1) : decodeL (l.take (decodeL l).2 ++ X) = decodeL l ∧ escL (l.take (decodeL l).2) = l.take (decodeL l).2 ∧ (decodeL l).2 ≤ l.length := by
  have hd := decodeL_N l
  obtain ⟨r, w, hrw⟩ : ∃ r w, decodeL l = (r, w) := ⟨_, _, rfl⟩
  rw [hrw] at hw hd ⊢
  simp only [] at hw ⊢
  obtain ⟨h1, h2, h3, h4, h5, h6, h7, h8⟩ := decodeN_w _ _ _ _ _ r w hd.symm hw
  refine ⟨?_, ?_, h1⟩
  · rw [decodeL_N, getD_take l X w 0 (by omega) h1]
    refine h2 _ _ _ _ (by rw [List.length_append, List.length_take]; omega) (by rw [getD_take l X w 1 (by omega) h1]) (fun h => by rw [getD_take l X w 2 h h1]) (fun h => by rw [getD_take l X w 3 h h1])
  · have hall : ∀ x ∈ l.take w, 128 ≤ x.toNat := by
      intro x hx
      obtain ⟨i, hi, rfl⟩ := List.getElem_of_mem hx
      rw [List.length_take] at hi
      have e : (l.take w)[i] = l.getD i 0 := by
        rw [List.getElem_take]
        simp [List.getD, show i < l.length by omega]
      rw [e]
      have : i = 0 ∨ i = 1 ∨ i = 2 ∨ i = 3 := by omega
      rcases this with rfl | rfl | rfl | rfl
      · exact h3
      · omega
      · have := h7 (by omega); omega
      · have := h8 (by omega); omega
    generalize l.take w = m at hall
    induction m with
    | nil => rfl
    | cons c m ih =>
      rw [escL_cons, escB_high c (hall c (List.mem_cons_self ..)), ih (fun x hx => hall x (List.mem_cons_of_mem _ hx))]
      rfl
theorem decodeN_one (n a b c d : Nat) (h : ¬ a < 128) : (decodeN n a b c d).2 = 1 → (decodeN n a b c d).1 = 65533 := by
  unfold decodeN
  rw [if_neg h]
  repeat' split
  all_goals (intro hw; first | rfl | (simp at hw))
theorem vs_ent (nm X : List UInt8) (h : vs (38 :: (nm ++ [59])) = true) : vs (38 :: (nm ++ [59]) ++ X) = vs X := by
  rw [show 38 :: (nm ++ [59]) ++ X = (38 :: nm) ++ 59 :: X from by simp, vs_behind _ _ 59 (by decide)]
  rw [show (38 :: (nm ++ [59]) : List UInt8) = (38 :: nm) ++ 59 :: [] from by simp, vs_behind _ _ 59 (by decide)] at h
  simp only [Bool.and_eq_true] at h
  rw [h.1.1, h.1.2]
  rfl
theorem vs_esc : ∀ (n : Nat) (s : List UInt8), s.length ≤ n → vs s = true → vs (escL s) = true
  | n, [], _, _ => rfl
  | 0, c :: s, h, _ => by simp at h
  | n + 1, c :: s, h, hv => by
    rw [List.length_cons] at h
    by_cases hc : c.toNat < 128
    · rw [vs_ascii c s hc, Bool.and_eq_true] at hv
      have ih := vs_esc n s (by omega) hv.2
      rw [escL_cons]
      rcases escB_cases c with h1 | ⟨_, nm, h1, _, h3, _⟩
      · rw [h1.1, List.singleton_append, vs_ascii c _ hc, hv.1, ih]
        rfl
      · rw [h1, vs_ent nm _ h3, ih]
    · have hs := hv
      unfold vs at hv
      rw [vsP_step _ _ (by simp)] at hv
      by_cases hb : badL (c :: s) = true
      · rw [if_pos hb] at hv; cases hv
      rw [if_neg hb, Bool.and_eq_true] at hv
      have hw : (decodeL (c :: s)).2 ≠ 1 := by
        intro hw
        apply hb
        unfold badL
        rw [decide_eq_true_eq]
        refine ⟨?_, hw⟩
        rw [decodeL_N] at hw ⊢
        exact decodeN_one _ _ _ _ _ hc hw
      obtain ⟨e1, e2, e3⟩ := wide_esc (c :: s) (escL ((c :: s).drop (decodeL (c :: s)).2)) hw
      have hd := drop_lt (c :: s) (by simp)
      have ih := vs_esc n ((c :: s).drop (decodeL (c :: s)).2) (by simp only [List.length_cons] at hd; omega) hv.2
      have hsp : escL (c :: s) = (c :: s).take (decodeL (c :: s)).2 ++ escL ((c :: s).drop (decodeL (c :: s)).2) := by
        conv => lhs; rw [← List.take_append_drop (decodeL (c :: s)).2 (c :: s), escL_app, e2]
      rw [hsp]
      have hpos := decodeL_pos (c :: s)
      unfold vs
      rw [vsP_step _ _ (by intro he; have := congrArg List.length he; rw [List.length_append, List.length_take] at this; simp only [List.length_nil] at this; omega)]
      unfold badL at hb ⊢
      rw [e1, if_neg hb, hv.1, Bool.true_and, List.drop_append_of_le_length (by rw [List.length_take]; omega), List.drop_take, Nat.sub_self, List.take_zero, List.nil_append]
      exact ih
theorem backF_esc (s : List UInt8) (hv : vs s = true) : backF (bs (escL s)) = (bs s, 0) := by
  unfold backF
  rw [validB_vs, vs_esc s.length s (Nat.le_refl _) hv, if_pos rfl, bs_list, bs_size, contains_one]
  rw [if_neg (by rw [List.contains_iff_mem]; exact fun h => (escL_no s 60 h).1 rfl), back_esc s _ [] (by omega)]
  rfl
end Go.Proofs.YtfelfpjfjjgmoaaDoor
end
/- TokenTexts, plain: the text that the law makes is an opening with one attribute, a text where there is one, and a closing. -/
section
set_option linter.unusedVariables false
set_option maxRecDepth 100000
namespace Go.Proofs.YtfelfpjfjjgmoaaDoor
open Go.RowKit Go.Proofs.YtfelfpjfjjgmoaaDoorW.PrintWords

theorem mod_at (a : Int) (m : Nat) (h0 : 0 < m) (h1 : m ≤ 1000) : ∃ i : Nat, i < m ∧ wrap64 (Int.tmod (IntKind.u64.wrap a) m) = (i : Int) := by
  have hw : ∃ n : Nat, IntKind.u64.wrap a = (n : Int) := by
    refine ⟨(IntKind.u64.wrap a).toNat, ?_⟩
    have : 0 ≤ IntKind.u64.wrap a := by
      show 0 ≤ (a % 18446744073709551616 : Int)
      exact Int.emod_nonneg _ (by omega)
    omega
  obtain ⟨n, hn⟩ := hw
  refine ⟨n % m, Nat.mod_lt _ h0, ?_⟩
  rw [hn, ← Int.ofNat_tmod]
  have := Nat.mod_lt n h0
  unfold wrap64
  omega
theorem take_app {p : UInt8 → Bool} : ∀ (a : List UInt8) (y : UInt8) (t : List UInt8), (∀ x ∈ a, p x = true) → p y = false → (a ++ y :: t).takeWhile p = a ∧ (a ++ y :: t).dropWhile p = y :: t
  | [], y, t, _, hy => by simp [hy]
  | x :: a, y, t, h, hy => by
    obtain ⟨h1, h2⟩ := take_app a y t (fun z hz => h z (List.mem_cons_of_mem _ hz)) hy
    have hx := h x (List.mem_cons_self ..)
    simp [List.takeWhile_cons_of_pos, List.dropWhile_cons_of_pos, hx, h1, h2]
/-- Blanks, one at least. -/
def gapOk (g : List UInt8) : Prop := g ≠ [] ∧ ∀ x ∈ g, blanksL.contains x = true
theorem skip_g {g : List UInt8} (hg : gapOk g) (y : UInt8) (t : List UInt8) (hy : blanksL.contains y = false) : skipB (g ++ y :: t) = y :: t := (take_app g y t hg.2 hy).2
theorem gap_g {g : List UInt8} (hg : gapOk g) (y : UInt8) (t : List UInt8) (hy : blanksL.contains y = false) : gapB (g ++ y :: t) = g := (take_app g y t hg.2 hy).1
theorem blank_other : ∀ x ∈ blanksL, otherL.contains x = false := by decide
theorem name_g {g : List UInt8} (hg : gapOk g) (c : UInt8) (t : List UInt8) (h1 : firstL.contains c = true) (h2 : otherL.contains c = true) : nameF (c :: (g ++ t)) = ([c], g ++ t) := by
  obtain ⟨hne, hall⟩ := hg
  cases g with
  | nil => exact absurd rfl hne
  | cons x g =>
    have hx := blank_other x (by have := hall x (List.mem_cons_self ..); simpa using this)
    rw [show nameF (c :: (x :: g ++ t)) = (List.takeWhile (otherL.contains ·) (c :: (x :: g ++ t)), List.dropWhile (otherL.contains ·) (c :: (x :: g ++ t))) from if_pos h1]
    have := take_app [c] x (g ++ t) (p := (otherL.contains ·)) (by simpa using h2) hx
    exact Prod.ext this.1 this.2
theorem isF_hit (p l : List UInt8) : isF p (p ++ l) = (true, l) := by
  unfold isF
  rw [if_pos (by simp)]
  simp
theorem isF_miss (p l : List UInt8) (h : (l.take p.length == p) = false) : isF p l = (false, l) := by
  unfold isF
  rw [if_neg (by simp [h])]
theorem value_39 (t : List UInt8) : valueF (39 :: t) = ((backF (bs (cutAt 39 t).1)).1, (cutAt 39 t).2.2 && ((backF (bs (cutAt 39 t).1)).2 == 0), (cutAt 39 t).2.1) := by
  simp only [valueF, if_true]
section
variable (s g : List UInt8) (hv : vs s = true) (hg : gapOk g)
include hv hg
theorem attr_tt (X : List UInt8) : attrF (98 :: (g ++ 61 :: (g ++ 39 :: (escL s ++ 39 :: X)))) = ([98], bs s, true, X) := by
  have h1 := name_g hg 98 (61 :: (g ++ 39 :: (escL s ++ 39 :: X))) (by decide) (by decide)
  have h2 := skip_g hg 61 (g ++ 39 :: (escL s ++ 39 :: X)) (by decide)
  have h3 : isF [61] (61 :: (g ++ 39 :: (escL s ++ 39 :: X))) = (true, g ++ 39 :: (escL s ++ 39 :: X)) := isF_hit [61] _
  have h4 := skip_g hg 39 (escL s ++ 39 :: X) (by decide)
  have h5 : valueF (39 :: (escL s ++ 39 :: X)) = (bs s, true, X) := by
    have hc := cutAt_mid 39 (escL s) X (fun x hx => (escL_no s x hx).2)
    rw [value_39]
    rw [hc, backF_esc s hv]
    rfl
  unfold attrF
  rw [h1]
  simp only []
  rw [h2, h3]
  simp only []
  rw [h4, h5, if_neg (by simp), if_pos trivial]
theorem open_tt (R : List UInt8) : openT (97 :: (g ++ 98 :: (g ++ 61 :: (g ++ 39 :: (escL s ++ 39 :: (g ++ 62 :: R)))))) = (⟨1, 0, bs [97], ⟨#[]⟩, [⟨bs [98], bs s⟩], false⟩, true, R) := by
  have h1 := name_g hg 97 (98 :: (g ++ 61 :: (g ++ 39 :: (escL s ++ 39 :: (g ++ 62 :: R))))) (by decide) (by decide)
  have h2 := skip_g hg 98 (g ++ 61 :: (g ++ 39 :: (escL s ++ 39 :: (g ++ 62 :: R)))) (by decide)
  have h3 := gap_g hg 98 (g ++ 61 :: (g ++ 39 :: (escL s ++ 39 :: (g ++ 62 :: R)))) (by decide)
  have h4 := attr_tt s g hv hg (g ++ 62 :: R)
  have h5 := skip_g hg 62 R (by decide)
  have second : ∀ k, openL (k + 1) [⟨bs [98], bs s⟩] (g ++ 62 :: R) = ([⟨bs [98], bs s⟩], false, true, R) := by
    intro k
    unfold openL
    rw [h5, isF_miss [47, 62] (62 :: R) (by cases R <;> simp), isF_hit [62] R |> (fun h => (show isF [62] (62 :: R) = (true, R) from h))]
    simp
  have first : ∀ k, openL (k + 2) [] (g ++ 98 :: (g ++ 61 :: (g ++ 39 :: (escL s ++ 39 :: (g ++ 62 :: R))))) = ([⟨bs [98], bs s⟩], false, true, R) := by
    intro k
    rw [openL, h2, h3, h4, isF_miss [47, 62] (98 :: _) (by cases g <;> simp), isF_miss [62] (98 :: _) (by simp)]
    simp only [Bool.false_eq_true, if_false]
    rw [if_neg hg.1, if_neg (by decide), if_neg (by simp [dupB]), List.nil_append]
    exact second k
  unfold openT
  rw [h1]
  simp only []
  rw [if_neg (by simp), first]
end
theorem close_tt (g : List UInt8) (hg : gapOk g) : nextF (60 :: 47 :: 97 :: (g ++ [62])) = (⟨2, 0, bs [97], ⟨#[]⟩, [], false⟩, true, []) := by
  have h1 := name_g hg 97 [62] (by decide) (by decide)
  have h2 := skip_g hg 62 [] (by decide)
  have h3 : isF [62] [62] = (true, []) := isF_hit [62] []
  unfold nextF
  rw [show isF [60, 47] (60 :: 47 :: 97 :: (g ++ [62])) = (true, 97 :: (g ++ [62])) from isF_hit [60, 47] _, if_pos rfl]
  simp only []
  unfold shutT
  rw [h1]
  simp only []
  rw [h2, h3]
  simp
/-- The text of the law. -/
def ttL (s g : List UInt8) : List UInt8 := 60 :: 97 :: (g ++ 98 :: (g ++ 61 :: (g ++ 39 :: (escL s ++ 39 :: (g ++ 62 :: (escL s ++ 60 :: 47 :: 97 :: (g ++ [62])))))))
theorem runs_tt (s g : List UInt8) (hv : vs s = true) (hg : gapOk g) : ∃ rs, Runs (ttL s g) rs ∧ (rs.map (tokAt 0)).map (fun t => (t.f0, t.f3, t.f4, t.f5)) =
    (1, ⟨#[]⟩, [⟨bs [98], bs s⟩], false) :: (if s = [] then [] else [(3, bs s, [], false)]) ++ [(2, ⟨#[]⟩, [], false)] := by
  have h1 : nextF (ttL s g) = (⟨1, 0, bs [97], ⟨#[]⟩, [⟨bs [98], bs s⟩], false⟩, true, escL s ++ 60 :: 47 :: 97 :: (g ++ [62])) := by
    have h := open_tt s g hv hg (escL s ++ 60 :: 47 :: 97 :: (g ++ [62]))
    unfold nextF ttL
    rw [isF_miss [60, 47] (60 :: 97 :: _) (by simp), if_neg (by simp)]
    rw [show isF [60] (60 :: 97 :: (g ++ 98 :: (g ++ 61 :: (g ++ 39 :: (escL s ++ 39 :: (g ++ 62 :: (escL s ++ 60 :: 47 :: 97 :: (g ++ [62])))))))) = (true, 97 :: (g ++ 98 :: (g ++ 61 :: (g ++ 39 :: (escL s ++ 39 :: (g ++ 62 :: (escL s ++ 60 :: 47 :: 97 :: (g ++ [62])))))))) from isF_hit [60] _, if_pos rfl]
    exact h
  have h2 := close_tt g hg
  have rc : Runs (60 :: 47 :: 97 :: (g ++ [62])) [60 :: 47 :: 97 :: (g ++ [62])] := .cons (by simp) (by rw [h2]) (by rw [h2]; simp) (by rw [h2]; exact .nil)
  by_cases he : s = []
  · refine ⟨[ttL s g, 60 :: 47 :: 97 :: (g ++ [62])], .cons (by simp [ttL]) (by rw [h1]) (by rw [h1]; simp) ?_, ?_⟩
    · rw [h1]
      simp only []
      rw [show escL s = [] from by rw [he]; rfl, List.nil_append]
      exact rc
    · rw [if_pos he]
      simp [tokAt, h1, h2]
  · have hne : ∃ c t, escL s = c :: t ∧ c ≠ 60 := by
      cases s with
      | nil => exact absurd rfl he
      | cons c t =>
        cases hx : escL (c :: t) with
        | nil =>
          rw [escL_cons] at hx
          have := (List.append_eq_nil_iff.1 hx).1
          rcases escB_cases c with ⟨h, _⟩ | ⟨_, nm, h, _⟩ <;> rw [h] at this <;> cases this
        | cons x y => exact ⟨x, y, rfl, (escL_no (c :: t) x (by rw [hx]; exact List.mem_cons_self ..)).1⟩
    obtain ⟨c, t, hc, hc2⟩ := hne
    have h3 : nextF (escL s ++ 60 :: 47 :: 97 :: (g ++ [62])) = (⟨3, 0, ⟨#[]⟩, bs s, [], false⟩, true, 60 :: 47 :: 97 :: (g ++ [62])) := by
      unfold nextF
      rw [isF_miss [60, 47] _ (by rw [hc]; cases t <;> simp [hc2]), if_neg (by simp), isF_miss [60] _ (by rw [hc]; simp [hc2]), if_neg (by simp)]
      unfold textT
      rw [cutAt_mid 60 (escL s) _ (fun x hx => (escL_no s x hx).1), backF_esc s hv]
      rfl
    refine ⟨[ttL s g, escL s ++ 60 :: 47 :: 97 :: (g ++ [62]), 60 :: 47 :: 97 :: (g ++ [62])], .cons (by simp [ttL]) (by rw [h1]) (by rw [h1]; simp) ?_, ?_⟩
    · rw [h1]
      exact .cons (by simp) (by rw [h3]) (by rw [h3]; simp) (by rw [h3]; exact rc)
    · rw [if_neg he]
      simp [tokAt, h1, h2, h3]
/-- It is valid, and no greater than may be. -/
theorem vs_gap {g : List UInt8} (hg : gapOk g) (X : List UInt8) (h : vs X = true) : vs (g ++ X) = true := by
  obtain ⟨hx0, hall⟩ := hg
  clear hx0
  induction g with
  | nil => exact h
  | cons x g ih =>
    have hx : x ∈ blanksL := by have := hall x (List.mem_cons_self ..); simpa using this
    have h2 : ∀ x ∈ blanksL, x.toNat < 128 ∧ mayB x.toNat = true := by decide
    rw [List.cons_append, vs_ascii x _ (h2 x hx).1, (h2 x hx).2, ih (fun y hy => hall y (List.mem_cons_of_mem _ hy))]
    rfl
theorem vs_one (c : UInt8) (X : List UInt8) (hc : c.toNat < 128 ∧ mayB c.toNat = true) (h : vs X = true) : vs (c :: X) = true := by
  rw [vs_ascii c X hc.1, hc.2, h]; rfl
theorem vs_txt (v X : List UInt8) (hv : vs v = true) (hs : startsB X = true) (h : vs X = true) : vs (v ++ X) = true := by
  rw [vs_app v X hs, hv, h]; rfl
theorem tt_vs (s g : List UInt8) (hv : vs s = true) (hg : gapOk g) : vs (ttL s g) = true := by
  have he := vs_esc s.length s (Nat.le_refl _) hv
  unfold ttL
  refine vs_one _ _ (by decide) (vs_one _ _ (by decide) (vs_gap hg _ (vs_one _ _ (by decide) (vs_gap hg _ (vs_one _ _ (by decide) (vs_gap hg _ (vs_one _ _ (by decide) (vs_txt _ _ he rfl (vs_one _ _ (by decide) (vs_gap hg _ (vs_one _ _ (by decide) (vs_txt _ _ he rfl (vs_one _ _ (by decide) (vs_one _ _ (by decide) (vs_one _ _ (by decide) (vs_gap hg _ (vs_one _ _ (by decide) rfl)))))))))))))))))
theorem tt_len (s g : List UInt8) (hs : s.length ≤ 500) (hg : g.length ≤ 2) : (ttL s g).length ≤ 7000 := by
  have := escL_le s
  unfold ttL
  simp only [List.length_append, List.length_cons, List.length_nil]
  omega
def gapsL : List ByteArray := [(⟨#[32]⟩ : ByteArray), (⟨#[9, 10]⟩ : ByteArray), (⟨#[32, 32]⟩ : ByteArray), (⟨#[13, 32]⟩ : ByteArray)]
theorem gaps_at (i : Nat) (h : i < 4) : ∃ g, rdOf ByteArray.empty gapsL (i : Int) = bs g ∧ gapOk g ∧ g.length ≤ 2 := by
  obtain rfl | rfl | rfl | rfl : i = 0 ∨ i = 1 ∨ i = 2 ∨ i = 3 := by omega
  · exact ⟨[32], rfl, ⟨by simp, by decide⟩, by simp⟩
  · exact ⟨[9, 10], rfl, ⟨by simp, by decide⟩, by simp⟩
  · exact ⟨[32, 32], rfl, ⟨by simp, by decide⟩, by simp⟩
  · exact ⟨[13, 32], rfl, ⟨by simp, by decide⟩, by simp⟩
theorem lit_bs (a : Array UInt8) : (⟨a⟩ : ByteArray) = bs a.toList := by simp [bs]
/-- The last step: what the law asks of the tokens. -/
theorem tt_end (s : List UInt8) (L : List TokT) (n : Nat) (rs : List (List UInt8)) (hL : L = rs.map (tokAt n))
    (h : (rs.map (tokAt 0)).map (fun t => (t.f0, t.f3, t.f4, t.f5)) = (1, ⟨#[]⟩, [⟨bs [98], bs s⟩], false) :: (if s = [] then [] else [(3, bs s, [], false)]) ++ [(2, ⟨#[]⟩, [], false)]) :
    (s = [] ∧ L.length = 2 ∨ s ≠ [] ∧ L.length = 3 ∧ (P.rd_T33 L 1).f3 = bs s) ∧ (P.rd_T33 L 0).f4 = [⟨bs [98], bs s⟩] ∧ (P.rd_T33 L 0).f5 = false := by
  subst hL
  by_cases he : s = []
  · rw [if_pos he] at h
    match rs, h with
    | [a, b], h =>
      simp [tokAt] at h
      exact ⟨.inl ⟨he, rfl⟩, h.1.2.2.1, h.1.2.2.2⟩
    | [], h => simp at h
    | [a], h => simp at h
    | a :: b :: c :: d, h => simp at h
  · rw [if_neg he] at h
    match rs, h with
    | [a, b, c], h =>
      simp [tokAt] at h
      exact ⟨.inr ⟨he, rfl, h.2.1.2.1⟩, h.1.2.2.1, h.1.2.2.2⟩
    | [], h => simp at h
    | [a], h => simp at h
    | [a, b], h => simp at h
    | a :: b :: c :: d :: e, h => simp at h
theorem TokenTexts_j0 (s : List UInt8) (hs : s.length ≤ 500) (hv : vs s = true) (a1 : Int) (k : Nat) (hk : 501 ≤ k) : P.cardexlaw08_TokenTexts.j0 (k + 1) (bs s) a1 false = some true := by
  obtain ⟨i, hi, ei⟩ := mod_at a1 4 (by omega) (by omega)
  have ei' : wrap64 (Int.tmod (IntKind.u64.wrap a1) 4) = (i : Int) := ei
  obtain ⟨g, eg, hg, hgl⟩ := gaps_at i hi
  have hesc := escape_ref s (by omega) k (by omega)
  have hel := escL_le s
  have hT : G_Tokens.f (bs (ttL s g)) = some (tokensF (ttL s g)) := tokens_eq _
  obtain ⟨rs, hr, hrs⟩ := runs_tt s g hv hg
  have hpro : isF prologB (ttL s g) = (false, ttL s g) := isF_miss _ _ rfl
  have htk := tokensF_runs (ttL s g) rs (by have := tt_len s g hs hgl; omega) (tt_vs s g hv hg) (by rw [hpro]; exact hr)
  rw [htk] at hT
  obtain ⟨hend, ha, hem⟩ := tt_end s _ (ttL s g).length rs rfl hrs
  generalize rs.map (tokAt (ttL s g).length) = L at hT hend ha hem
  rw [P.cardexlaw08_TokenTexts.j0, if_neg (by decide)]
  show ((some gapsL).bind _) = some true
  simp only [Option.bind_some, ei', eg]
  rw [if_pos (by omega), if_pos (show (i : Int) < (gapsL.length : Int) from by show (i : Int) < 4; omega), hesc]
  simp only [Option.bind_some, lit_bs, bs_app, bs_size, List.length_append]
  have hz : ∀ n : Nat, n ≤ 100000 → n ≤ 9223372036854775807 := fun n h => by omega
  simp only [List.length_cons, List.length_nil]
  iterate 14 rw [if_pos (hz _ (by omega))]
  have htt : ∀ x, x = ttL s g → G_Tokens.f (bs x) = some (L, 0, 0) := fun x hx => by rw [hx]; exact hT
  rw [htt _ (by simp [ttL])]
  simp only [Option.bind_some, awake_eq, if_true, ha, hem, List.length_cons, List.length_nil]
  have hL2 : 2 ≤ L.length := by rcases hend with h | h <;> omega
  rw [if_neg (by omega), if_pos (by omega), if_pos (by omega), if_pos (by omega)]
  rw [show P.rd_T35 [⟨bs [98], bs s⟩] 0 = ⟨bs [98], bs s⟩ from rfl, if_pos rfl, if_neg (by decide)]
  simp only [nil_iff]
  rcases hend with ⟨h1, h2⟩ | ⟨h1, h2, h3⟩
  · rw [if_pos h1, if_pos (by omega)]
  · rw [if_neg h1, if_pos (by omega), if_pos (by omega), h3]
    simp
theorem TokenTexts_pure : P.cardexlaw08_TokenTexts.Pure := by
  intro a0 a1 h0 _
  rw [← bs_of a0] at h0 ⊢
  rw [bs_size] at h0
  generalize a0.data.toList = s at h0 ⊢
  refine ⟨s.length + 600, ?_⟩
  unfold P.cardexlaw08_TokenTexts.f
  rw [bs_size, valid_ref s (by omega) _ (by omega)]
  have haw : ∀ k, P.cardexlaw08_TokenTexts.j0 (k + 1) (bs s) a1 true = some true := fun k => by
    rw [P.cardexlaw08_TokenTexts.j0, if_pos rfl, awake_eq]; rfl
  by_cases hs : (s.length : Int) > 500
  · rw [if_pos hs]; exact haw _
  · rw [if_neg hs]
    simp only [Option.bind_some]
    cases hv : vs s with
    | false => exact haw _
    | true => exact TokenTexts_j0 s (by omega) hv a1 _ (by omega)
end Go.Proofs.YtfelfpjfjjgmoaaDoor
end
