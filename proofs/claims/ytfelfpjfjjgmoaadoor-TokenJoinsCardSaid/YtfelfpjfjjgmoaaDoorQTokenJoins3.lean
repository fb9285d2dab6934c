/- Texts of this proof, one behind the other. -/
import Derived.Test.YtfelfpjfjjgmoaaDoorQTokenJoins2
import Derived.Test.YtfelfpjfjjgmoaaDoorQTokenJoins1
import Derived.StillTailTactics
import Derived.Lib.TrimUEq
import Derived.Lib.TrimAscii
import Derived.Lib.MapLaws
/- The walk of token.Tokens: called with a text it returns what G_Tokens.f tells, where the library's variables are as Gd says. -/
section
set_option linter.unusedVariables false
namespace Go.Proofs.YtfelfpjfjjgmoaaDoor
open Go.RowKit Go.Shelf Go.Proofs.YtfelfpjfjjgmoaaDoorW.PrintWords Go.Proofs.YtfelfpjfjjgmoaaDoorW.PrintLast

theorem tok_attr0 {w W W5 : World} {g : Nat} {s0 s1 : ByteArray} {v : Value} {l : List P.S33} (h : TokInv w W g s0 s1 v l) {u : Value} {xs : List P.S35} (hr : Kd.R P.k35 35 W5 W.heap.size (fun _ => True) u xs) :
    Kd.R P.k35 35 W5 w.heap.size (fun k => (k ≠ g ∧ some k ≠ v.ownBlock) ∧ W.heap.size ≤ k) u xs :=
  Kd.R_lower (Kd.R_mono (Kd.R_bound hr) (fun k hk => by
    have h1 := h.hI.lt
    have h2 := hk.2.1
    refine ⟨⟨by omega, fun e => ?_⟩, h2⟩
    have := Kd.S_lt h.hR k e.symm
    omega)) h.hB.size
theorem tok_old {w W W5 : World} {g : Nat} {s0 s1 : ByteArray} {v : Value} {l : List P.S33} (h : TokInv w W g s0 s1 v l) (hk : KeepBut W W5 g none) :
    Kd.S P.k33 33 W5 w.heap.size (fun k => k ≠ g ∧ ¬ ((k ≠ g ∧ some k ≠ v.ownBlock) ∧ W.heap.size ≤ k)) v l :=
  Kd.S_mono (Kd.S_bound (Kd.S_oldK (ok := fun k => k ≠ g) (Kd.S_mono h.hR (fun k hk => ⟨hk, hk⟩)) hk)) (fun k hk => ⟨hk.1.1, fun h2 => by have := hk.1.2; have := h2.2; omega⟩)
theorem tok_app {w W W1 : World} {g : Nat} {s0 s1 : ByteArray} {v v1 : Value} {l l' : List P.S33} {o : Obj} (h : TokInv w W g s0 s1 v l) (ho : Kd.S P.k33 33 W1 w.heap.size (fun k => k ≠ g) v1 l')
    (hb : Below w.heap.size (W.alloc o) W1) (hg : (W.alloc o).grownBy W1 v.ownBlock) : TokInv w W1 g s0 s1 v1 l' :=
  ⟨(h.hI.alloc o).grown hg (Kd.S_away h.hR (fun k hk => hk)), (below_alloc h.hB o).trans hb, ho⟩

set_option maxHeartbeats 8000000 in
set_option maxRecDepth 100000 in
theorem G_Tokens.calls (s : ByteArray) (r1 : List P.S33) (r2 r3 : Int) (w : World) (hG_ : Gd w) (h : G_Tokens.f s = some (r1, r2, r3)) :
    Calls Tryd.prog 10 #[.string s] w fun e w' => ∃ v_ : Value, e = .returned (.tuple #[v_, .int .i64 r2, .int .i64 r3]) ∧ Kd.S P.k33 33 w' w.heap.size (fun _ => True) v_ r1 ∧ Below w.heap.size w w' := by
  have hu33 := Tryd.underlying33
  have hu46 := Tryd.underlying46
  unfold G_Tokens.f at h
  by_cases hs : 20000 < s.size
  · rw [if_pos hs] at h
    simp only [Option.some.injEq, Prod.mk.injEq] at h
    obtain ⟨rfl, rfl, rfl⟩ := h
    have hz : (s.size : Int) > 20000 := by omega
    go_enter Tryd.func10, Tryd.ntmps10
    go_wp2
    go_ret3
    exact ⟨_, rfl, Kd.S_nil _ _ _ _ _, Below.refl _ _⟩
  · rw [if_neg hs] at h
    have hz : ¬ (s.size : Int) > 20000 := by omega
    have CV := G_Valid.calls s (validB s) w hG_ (by unfold G_Valid.f; rw [if_pos (by omega)])
    generalize validB s = q at CV h
    cases q with
    | false =>
      simp only [if_true, Option.some.injEq, Prod.mk.injEq] at h
      obtain ⟨rfl, rfl, rfl⟩ := h
      go_enter Tryd.func10, Tryd.ntmps10
      go_wp2_with (go_at_call 14; refine CV.mono ?_; rintro e w1 ⟨rfl, hb1⟩)
      go_ret3
      exact ⟨_, rfl, Kd.S_nil _ _ _ _ _, hb1⟩
    | true =>
      simp only [Bool.true_eq_false, if_false] at h
      replace h := Option.bind_eq_some_iff.1 h
      obtain ⟨⟨b0, t0, t1⟩, HA, HJ⟩ := h
      have HJ' := Aside0.mk (show tokJ (s.size + 2) [] t0 t1 = some (r1, r2, r3) from HJ)
      have CA := fun (g : Nat) (W : World) (h1 : P.IsS46 w W g s s) (h2 : Below w.heap.size w W) => P.token_walk_string_is.calls g s s prologL b0 t0 t1 w W hG_ h1 h2 HA
      clear HJ HA
      go_enter Tryd.func10, Tryd.ntmps10
      go_wp2_with (first | (go_at_call 14; refine CV.mono ?_; rintro e w1 ⟨rfl, hb1⟩) | ((with_reducible refine gate_dst (N := 21) rfl ?_); refine box_event ?hg (N := 21) ?hd (cs := #[.string s, .string s]) (t := 46) ?hr ?_; (case hd => rfl); (case hg => rfl); (case hr => first | (go_simp; done) | (go_simp; rfl)); intro g hg w2 hbox hb; have ng : w.heap.size ≤ g := (by rw [hg]; exact hb1.size); clear hg; have INV := Aside0.mk (show TokInv w w2 g s s (.slice none 0 0) [] from ⟨⟨hbox, ng⟩, below_step hb1 hb, Kd.S_nil _ _ _ _ _⟩); clear hbox hb hb1) | (go_at_call 15; with_reducible refine (CA g _ INV.out.hI INV.out.hB).mono ?_; rintro e w3 ⟨rfl, hi, hb, hk⟩; have INV1 := Aside0.mk (INV.out.call hi hb hk); clear INV hi hb hk))
      go_loopg [6] (s.size + 2) (fun gg s6 wr => ∃ s0 s1 v l k, k ≤ gg ∧ s6 = v ∧ Aside (tokJ k l s0 s1 = some (r1, r2, r3)) ∧ Aside (TokInv w wr g s0 s1 v l))
      case atStart => exact ⟨t0, t1, _, _, _, Nat.le_refl _, rfl, HJ'.out, INV1.out⟩
      case round =>
        obtain ⟨s0, s1, v, l, k, hkk, rfl, HJ, INV⟩ := hrel
        have INV := Aside0.mk INV.out
        have HJ := HJ.out
        cases k with
        | zero => simp [tokJ] at HJ
        | succ k =>
        unfold tokJ at HJ
        have c0 := P.cellS46_0 INV.out.hI.1
        have c1 := P.cellS46_1 INV.out.hI.1
        by_cases hnm : s1.toList = ([] : List UInt8)
        · rw [if_pos hnm] at HJ
          simp only [Option.some.injEq, Prod.mk.injEq] at HJ
          obtain ⟨rfl, rfl, rfl⟩ := HJ
          have hne : s1.toList.isEmpty = true := by rw [hnm]; rfl
          go_wp2
          go_ret3
          exact ⟨_, rfl, Kd.S_mono INV.out.hR (fun _ _ => trivial), INV.out.hB⟩
        · rw [if_neg hnm] at HJ
          have hne : s1.toList.isEmpty = false := by cases hx : s1.toList with | nil => exact absurd hx hnm | cons _ _ => rfl
          replace HJ := Option.bind_eq_some_iff.1 HJ
          obtain ⟨⟨n1, n2, n3, n4, n5, n6, n7, n8, n9⟩, HN, HJ⟩ := HJ
          have CAt := fun (W : World) (hi : P.IsS46 w W g s0 s1) => at_calls g s0 s1 w W hi
          have CN := fun (W : World) (h1 : P.IsS46 w W g s0 s1) (h2 : Below w.heap.size w W) => P.token_next.calls g s0 s1 n1 n2 n3 n4 n5 n6 n7 n8 n9 w W hG_ h1 h2 HN
          clear HN
          simp only [] at HJ
          cases n7 with
          | false =>
            simp only [if_true, Option.some.injEq, Prod.mk.injEq] at HJ
            obtain ⟨rfl, rfl, rfl⟩ := HJ
            go_wp2_with (first | (go_at_call 16; with_reducible refine (CAt _ INV.out.hI).mono ?_; rintro e w4 ⟨rfl, ⟨nd, rfl⟩⟩) | (go_at_call 17; with_reducible refine (CN _ (INV.out.below (pw_below_drewN (Below.refl _ _) nd)).hI (INV.out.below (pw_below_drewN (Below.refl _ _) nd)).hB).mono ?_; rintro e w5 ⟨v4, rfl, hr4, hi, hb, hk⟩; obtain ⟨A4, c4, rfl⟩ := Kd.R_slice hr4; have HR4 := Aside0.mk hr4; have INV1 := Aside0.mk ((INV.out.below (pw_below_drewN (Below.refl _ _) nd)).call hi hb hk); clear hr4 hi hb hk) | ((with_reducible refine gate_dst (N := 8) rfl ?_); refine box_event ?hg (N := 8) ?hd (cs := #[.int .i64 0, .int .i64 0, .string ⟨#[]⟩, .string ⟨#[]⟩, .slice none 0 0, .bool false]) (t := 33) ?hr ?_; (case hd => rfl); (case hg => rfl); (case hr => first | (go_simp; done) | (go_simp; rfl)); intro b8 hg8 w8 hbox8 hb8; have nb8 : w.heap.size ≤ b8 := (by rw [hg8]; exact INV1.out.hB.size); have HB8 := Aside0.mk (below_step INV1.out.hB hb8); clear hg8; have z0 := blk_cell hbox8 0; have z1 := blk_cell hbox8 1; have z2 := blk_cell hbox8 2; have z3 := blk_cell hbox8 3; have z4 := blk_cell hbox8 4; have z5 := blk_cell hbox8 5; have y0 := blk_frozen hbox8 0; have y1 := blk_frozen hbox8 1; have y2 := blk_frozen hbox8 2; have y3 := blk_frozen hbox8 3; have y4 := blk_frozen hbox8 4; have y5 := blk_frozen hbox8 5; clear hbox8))
            go_ret3
            refine ⟨_, rfl, Kd.S_nil _ _ _ _ _, ?_⟩
            iterate 7 refine below_set ?_ nb8
            exact HB8.out
          | true =>
            simp only [Bool.true_eq_false, if_false] at HJ
            by_cases h10 : 10 < n5.length
            · rw [if_pos h10] at HJ
              have hz10 : (n5.length : Int) > 10 := by omega
              simp only [Option.some.injEq, Prod.mk.injEq] at HJ
              obtain ⟨rfl, rfl, rfl⟩ := HJ
              go_wp2_with (first | (go_at_call 16; with_reducible refine (CAt _ INV.out.hI).mono ?_; rintro e w4 ⟨rfl, ⟨nd, rfl⟩⟩) | (go_at_call 17; with_reducible refine (CN _ (INV.out.below (pw_below_drewN (Below.refl _ _) nd)).hI (INV.out.below (pw_below_drewN (Below.refl _ _) nd)).hB).mono ?_; rintro e w5 ⟨v4, rfl, hr4, hi, hb, hk⟩; obtain ⟨A4, c4, rfl⟩ := Kd.R_slice hr4; have HR4 := Aside0.mk hr4; have INV1 := Aside0.mk ((INV.out.below (pw_below_drewN (Below.refl _ _) nd)).call hi hb hk); clear hr4 hi hb hk) | ((with_reducible refine gate_dst (N := 8) rfl ?_); refine box_event ?hg (N := 8) ?hd (cs := #[.int .i64 0, .int .i64 0, .string ⟨#[]⟩, .string ⟨#[]⟩, .slice none 0 0, .bool false]) (t := 33) ?hr ?_; (case hd => rfl); (case hg => rfl); (case hr => first | (go_simp; done) | (go_simp; rfl)); intro b8 hg8 w8 hbox8 hb8; have nb8 : w.heap.size ≤ b8 := (by rw [hg8]; exact INV1.out.hB.size); have HB8 := Aside0.mk (below_step INV1.out.hB hb8); clear hg8; have z0 := blk_cell hbox8 0; have z1 := blk_cell hbox8 1; have z2 := blk_cell hbox8 2; have z3 := blk_cell hbox8 3; have z4 := blk_cell hbox8 4; have z5 := blk_cell hbox8 5; have y0 := blk_frozen hbox8 0; have y1 := blk_frozen hbox8 1; have y2 := blk_frozen hbox8 2; have y3 := blk_frozen hbox8 3; have y4 := blk_frozen hbox8 4; have y5 := blk_frozen hbox8 5; clear hbox8))
              go_ret3
              refine ⟨_, rfl, Kd.S_nil _ _ _ _ _, ?_⟩
              iterate 7 refine below_set ?_ nb8
              exact HB8.out
            · rw [if_neg h10] at HJ
              have hz10 : ¬ (n5.length : Int) > 10 := by omega
              by_cases hlen : 1000000000 < l.length
              · rw [if_pos hlen] at HJ
                cases HJ
              rw [if_neg hlen] at HJ
              have HJ := Aside0.mk HJ
              have info33_ : (Tryd.prog.info? 33).map (fun i => (i.zero, i.size, i.bytes)) = some (some (.agg #[.int .i64 0, .int .i64 0, .string ⟨#[]⟩, .string ⟨#[]⟩, .slice none 0 0, .bool false]), 6, 80) := by kernel_rfl
              go_wp2_with (first | (go_at_call 16; with_reducible refine (CAt _ INV.out.hI).mono ?_; rintro e w4 ⟨rfl, ⟨nd, rfl⟩⟩) | (go_at_call 17; with_reducible refine (CN _ (INV.out.below (pw_below_drewN (Below.refl _ _) nd)).hI (INV.out.below (pw_below_drewN (Below.refl _ _) nd)).hB).mono ?_; rintro e w5 ⟨v4, rfl, hr4, hi, hb, hk⟩; obtain ⟨A4, c4, rfl⟩ := Kd.R_slice hr4; have HR4 := Aside0.mk (tok_attr0 (INV.out.below (pw_below_drewN (Below.refl _ _) nd)) hr4); have HOLD := Aside0.mk (tok_old (INV.out.below (pw_below_drewN (Below.refl _ _) nd)) hk); have INV1 := Aside0.mk ((INV.out.below (pw_below_drewN (Below.refl _ _) nd)).call hi hb hk); clear hr4 hi hb hk INV c0 c1) | ((with_reducible refine gate_builtin (b := .append) (xs := #[.tmp 48, .tmp 50]) rfl ?_); at_builtin; refine Kd.S_append P.k33 w.heap.size rfl (.tmp 48) (.tmp 50) 27 33 (.agg #[.int .i64 0, .int .i64 0, .string ⟨#[]⟩, .string ⟨#[]⟩, .slice none 0 0, .bool false]) 80 rfl Tryd.underlying27 info33_ rfl (by decide) (by decide) u6 l ⟨n1, wrap64 ((s0.size : Int) - (s1.size : Int)), n3, n4, n5, n6⟩ [.int .i64 n1, .int .i64 (wrap64 ((s0.size : Int) - (s1.size : Int))), .string n3, .string n4, .slice A4 n5.length c4, .bool n6] (fun k => k ≠ g) (fun k => (k ≠ g ∧ some k ≠ u6.ownBlock) ∧ (wr.drewN nd).heap.size ≤ k) rfl ?aX ?aP (fun _ hk => hk.1) ?aF ?aO (Below.refl _ _) ?aS ?aL ?_; (case aX => first | rfl | (go_simp; done) | (simp [Act.eval]; done)); (case aP => exact P.k33_mkM _ _ _ ⟨n1, wrap64 ((s0.size : Int) - (s1.size : Int)), n3, n4, n5, n6⟩ (Kd.R_alloc HR4.out _)); (case aF => exact fun k hk => (by have h1 := INV1.out.hI.lt; simp at hk; omega)); (case aO => exact Kd.S_alloc HOLD.out _); (case aS => exact Nat.le_trans INV1.out.hB.size (by simp)); (case aL => omega); intro v1 w1 ho hb hg hat; have INVn := Aside0.mk (tok_app INV1.out ho hb hg); clear ho hb hg hat))
              go_roundg k
              case measure => omega
              case rel => exact ⟨n8, n9, _, _, k, Nat.le_refl _, rfl, HJ.out, INVn.out⟩

end Go.Proofs.YtfelfpjfjjgmoaaDoor
end
/- Lean functions for functions of the program, and that the Go code comes to their answers, where the library's variables are as Gd says. Written by a turned copy of the kit's print; Lean checks it. -/
section
namespace Go.Proofs.YtfelfpjfjjgmoaaDoor.P
open Go.RowKit Go.Proofs.YtfelfpjfjjgmoaaDoorW.PrintWords Go.Proofs.YtfelfpjfjjgmoaaDoorW.PrintLast Go.Proofs.YtfelfpjfjjgmoaaDoorW.PrintMore
attribute [local go_sem] max2_int min2_int max_two min_two max_three min_three max_four min_four   -- for this text's walks alone
set_option linter.unusedVariables false
set_option linter.unusedSimpArgs false

/-! ### cardexlaw08_awake: function 8 -/
def cardexlaw08_awake.f  : Option (Bool) := (G_Tokens.f (⟨#[60, 97, 62, 120, 60, 47, 97, 62]⟩ : ByteArray)).bind fun bt266 => ((G_Tokens.f (⟨#[60, 97, 62, 60]⟩ : ByteArray)).bind fun bt271 => (if bt266.2.2 = 0 then (if bt266.2.1 = 0 then (if (bt266.1.length : Int) = 3 then (if 1 < (bt266.1.length : Int) then (if ((rd_T33 bt266.1 1).f3).toList = ([120] : List UInt8) then (if ((rd_T33 bt266.1 1).f1) = 3 then (if bt271.2.2 = 5 then (some (bt271.2.1 == 3)) else (some false)) else (some false)) else (some false)) else (none)) else (some false)) else (some false)) else (some false)))
set_option maxHeartbeats 8000000 in
set_option maxRecDepth 100000 in
theorem cardexlaw08_awake.calls  (r : Bool) (w : World) (hG_ : Gd w) (h : cardexlaw08_awake.f  = some r) :
    Calls Tryd.prog 8 #[] w fun e w' => e = .returned (.bool r) ∧ Below w.heap.size w w' := by
  have HB := Aside0.mk (Below.refl w.heap.size w)
  have HG := Aside0.mk hG_
  clear hG_
  have H : ((G_Tokens.f (⟨#[60, 97, 62, 120, 60, 47, 97, 62]⟩ : ByteArray)).bind fun bt266 => ((G_Tokens.f (⟨#[60, 97, 62, 60]⟩ : ByteArray)).bind fun bt271 => (if bt266.2.2 = 0 then (if bt266.2.1 = 0 then (if (bt266.1.length : Int) = 3 then (if 1 < (bt266.1.length : Int) then (if ((rd_T33 bt266.1 1).f3).toList = ([120] : List UInt8) then (if ((rd_T33 bt266.1 1).f1) = 3 then (if bt271.2.2 = 5 then (some (bt271.2.1 == 3)) else (some false)) else (some false)) else (some false)) else (none)) else (some false)) else (some false)) else (some false)))) = some r := h
  clear h
  replace H := Option.bind_eq_some_iff.mp H
  obtain ⟨⟨t266, t267, t268⟩, A10, H⟩ := H
  replace H : ((G_Tokens.f (⟨#[60, 97, 62, 60]⟩ : ByteArray)).bind fun bt271 => (if t268 = 0 then (if t267 = 0 then (if (t266.length : Int) = 3 then (if 1 < (t266.length : Int) then (if ((rd_T33 t266 1).f3).toList = ([120] : List UInt8) then (if ((rd_T33 t266 1).f1) = 3 then (if bt271.2.2 = 5 then (some (bt271.2.1 == 3)) else (some false)) else (some false)) else (some false)) else (none)) else (some false)) else (some false)) else (some false))) = some r := H
  have A1 := Aside0.mk A10
  clear A10
  replace H := Option.bind_eq_some_iff.mp H
  obtain ⟨⟨t271, t272, t273⟩, A20, H⟩ := H
  replace H : (if t268 = 0 then (if t267 = 0 then (if (t266.length : Int) = 3 then (if 1 < (t266.length : Int) then (if ((rd_T33 t266 1).f3).toList = ([120] : List UInt8) then (if ((rd_T33 t266 1).f1) = 3 then (if t273 = 5 then (some (t272 == 3)) else (some false)) else (some false)) else (some false)) else (none)) else (some false)) else (some false)) else (some false)) = some r := H
  have A2 := Aside0.mk A20
  clear A20
  by_cases c3 : t268 = 0
  · rw [if_pos c3] at H
    have c3b0 : (t268 == 0) = true := beq_iff_eq.mpr c3
    have c3b1 : (t268 != 0) = false := bne_eq_false_iff_eq.mpr c3
    clear c3
    by_cases c4 : t267 = 0
    · rw [if_pos c4] at H
      have c4b0 : (t267 == 0) = true := beq_iff_eq.mpr c4
      have c4b1 : (t267 != 0) = false := bne_eq_false_iff_eq.mpr c4
      clear c4
      by_cases c5 : (t266.length : Int) = 3
      · rw [if_pos c5] at H
        have c5b0 : ((t266.length : Int) == 3) = true := beq_iff_eq.mpr c5
        have c5b1 : ((t266.length : Int) != 3) = false := bne_eq_false_iff_eq.mpr c5
        clear c5
        by_cases c6 : 1 < (t266.length : Int)
        · rw [if_pos c6] at H
          have c6b0 : decide (1 < (t266.length : Int)) = true := decide_eq_true c6
          have c6b1 : decide (1 < t266.length) = true := decide_eq_true (by omega)
          clear c6
          by_cases c7 : ((rd_T33 t266 1).f3).toList = ([120] : List UInt8)
          · rw [if_pos c7] at H
            have c7b0 : (((rd_T33 t266 1).f3).toList == ([120] : List UInt8)) = true := beq_iff_eq.mpr c7
            have c7b1 : (((rd_T33 t266 1).f3).toList != ([120] : List UInt8)) = false := bne_eq_false_iff_eq.mpr c7
            clear c7
            by_cases c8 : ((rd_T33 t266 1).f1) = 3
            · rw [if_pos c8] at H
              have c8b0 : (((rd_T33 t266 1).f1) == 3) = true := beq_iff_eq.mpr c8
              have c8b1 : (((rd_T33 t266 1).f1) != 3) = false := bne_eq_false_iff_eq.mpr c8
              clear c8
              by_cases c9 : t273 = 5
              · rw [if_pos c9] at H
                have c9b0 : (t273 == 5) = true := beq_iff_eq.mpr c9
                have c9b1 : (t273 != 5) = false := bne_eq_false_iff_eq.mpr c9
                clear c9
                obtain rfl := Option.some.inj H
                go_enter Tryd.func8, Tryd.ntmps8
                go_wp2_with (first | ((with_reducible refine gate_callee (f := 10) rfl ?_); refine goesL_ (some 8) rfl rfl Tryd.func10 (by kernel_rfl) rfl #[.string (⟨#[60, 97, 62, 120, 60, 47, 97, 62]⟩ : ByteArray)] rfl (by (try simp only [List.map_toArray, List.map_cons, List.map_nil]); first | done | rfl | (simp only [List.length_drop, List.length_take]; rfl)) ?_; (with_reducible refine (G_Tokens.calls (⟨#[60, 97, 62, 120, 60, 47, 97, 62]⟩ : ByteArray) t266 t267 t268 _ ?side1 A1.out).mono ?_); (case side1 => first | exact HG.out | exact Gd.drewN HG.out _ | exact Gd.drew HG.out | exact Gd.below HG.out (by repeat (first | (with_reducible first | exact HB.out | apply below_alloc | apply pw_below_drewN | apply below_drew1) | exact HB.out))); rintro e w10 ⟨v269, rfl, ho0, hb⟩; refine ⟨_, rfl, ?_⟩; have n0_ := Aside0.mk (Kd.S_lower ho0 (below_size (by repeat (first | (with_reducible first | exact HB.out | apply below_alloc | apply pw_below_drewN | apply below_drew1) | exact HB.out)))); have n1_ := Aside0.mk (below_step (by repeat (first | (with_reducible first | exact HB.out | apply below_alloc | apply pw_below_drewN | apply below_drew1) | exact HB.out)) hb); clear HB; have HO270 := n0_; have HB := n1_; clear n0_ n1_; (try clear hb); (try clear hb2); (try clear hk); (try clear hi); (try clear ho0)) | ((with_reducible refine gate_callee (f := 10) rfl ?_); refine goesL_ (some 13) rfl rfl Tryd.func10 (by kernel_rfl) rfl #[.string (⟨#[60, 97, 62, 60]⟩ : ByteArray)] rfl (by (try simp only [List.map_toArray, List.map_cons, List.map_nil]); first | done | rfl | (simp only [List.length_drop, List.length_take]; rfl)) ?_; (with_reducible refine (G_Tokens.calls (⟨#[60, 97, 62, 60]⟩ : ByteArray) t271 t272 t273 _ ?side1 A2.out).mono ?_); (case side1 => first | exact HG.out | exact Gd.drewN HG.out _ | exact Gd.drew HG.out | exact Gd.below HG.out (by repeat (first | (with_reducible first | exact HB.out | apply below_alloc | apply pw_below_drewN | apply below_drew1) | exact HB.out))); rintro e w11 ⟨v274, rfl, ho0, hb⟩; refine ⟨_, rfl, ?_⟩; have n0_ := Aside0.mk (Kd.S_elder' (by (with_reducible repeat (first | apply Kd.S_alloc | apply Kd.S_drewN | apply Kd.S_drew)); exact HO270.out) (Kd.S_base ho0) hb); have n1_ := Aside0.mk (Kd.S_lower (Kd.S_new' ho0 (Kd.S_lt (by (with_reducible repeat (first | apply Kd.S_alloc | apply Kd.S_drewN | apply Kd.S_drew)); exact HO270.out))) (below_size (by repeat (first | (with_reducible first | exact HB.out | apply below_alloc | apply pw_below_drewN | apply below_drew1) | exact HB.out)))); have n2_ := Aside0.mk (below_step (by repeat (first | (with_reducible first | exact HB.out | apply below_alloc | apply pw_below_drewN | apply below_drew1) | exact HB.out)) hb); clear HO270; clear HB; have HO270 := n0_; have HO275 := n1_; have HB := n2_; clear n0_ n1_ n2_; (try clear hb); (try clear hb2); (try clear hk); (try clear hi); (try clear ho0); obtain ⟨Ao12, co12, eo12⟩ := Kd.S_slice HO270.out; subst eo12; have p276 : 0 ≤ (1 : Int) := (by omega); have q276 : 1 < (t266.length : Int) := of_decide_eq_true (by first | (with_reducible assumption) | assumption); obtain ⟨ad276, A276_4, c276_4, e276, hx276_0, hx276_1, hx276_2, hx276_3, hx276_4, hx276_5, hl276_4, hi276_4⟩ := at_T33 (Kd.S_reads' HO270.out).2.2 1 p276 q276; cases e276; obtain ⟨ce276, hce276, hMe276, hcc276⟩ := Kd.S_get HO270.out z33 1 p276 (by first | exact q276 | exact of_decide_eq_true (by first | (with_reducible assumption) | assumption) | (have e_ := (Kd.S_reads' HO270.out).1; omega)); obtain ⟨ve276_4, rfl, ge276_4⟩ := k33_openM hMe276; have hv276_4 := hcc276 4 _ rfl; rw [add_field _ _ 4 (by omega)] at hv276_4; replace hv276_4 := Option.some.inj (hv276_4.symm.trans hx276_4); rw [hv276_4] at ge276_4; have HL276_4 := Aside0.mk (show Kd.R k35 35 _ _ _ _ ((rd_T33 t266 1).f4) from ge276_4); clear hv276_4 ge276_4; clear hcc276 hce276; (try simp only [show (1 : Int).toNat = 1 from rfl, Nat.reduceMul, Nat.reduceEqDiff, Go.Addr.add, ↓reduceIte] at hx276_0); (try simp only [show (1 : Int).toNat = 1 from rfl, Nat.reduceMul, Nat.reduceEqDiff, Go.Addr.add, ↓reduceIte] at hx276_1); (try simp only [show (1 : Int).toNat = 1 from rfl, Nat.reduceMul, Nat.reduceEqDiff, Go.Addr.add, ↓reduceIte] at hx276_2); (try simp only [show (1 : Int).toNat = 1 from rfl, Nat.reduceMul, Nat.reduceEqDiff, Go.Addr.add, ↓reduceIte] at hx276_3); (try simp only [show (1 : Int).toNat = 1 from rfl, Nat.reduceMul, Nat.reduceEqDiff, Go.Addr.add, ↓reduceIte] at hx276_4); (try simp only [show (1 : Int).toNat = 1 from rfl, Nat.reduceMul, Nat.reduceEqDiff, Go.Addr.add, ↓reduceIte] at hx276_5); have qi276 : (1 < t266.length) = True := eq_true (by omega); (try rw [show ((1 : Int)).toNat = 1 from rfl] at hx276_0); (try rw [show 1 * 6 = 6 from rfl] at hx276_0); (try rw [show ((1 : Int)).toNat = 1 from rfl] at hx276_1); (try rw [show 1 * 6 = 6 from rfl] at hx276_1); (try rw [show ((1 : Int)).toNat = 1 from rfl] at hx276_2); (try rw [show 1 * 6 = 6 from rfl] at hx276_2); (try rw [show ((1 : Int)).toNat = 1 from rfl] at hx276_3); (try rw [show 1 * 6 = 6 from rfl] at hx276_3); (try rw [show ((1 : Int)).toNat = 1 from rfl] at hx276_4); (try rw [show 1 * 6 = 6 from rfl] at hx276_4); (try rw [show ((1 : Int)).toNat = 1 from rfl] at hx276_5); (try rw [show 1 * 6 = 6 from rfl] at hx276_5); have HR276_4 := Aside0.mk hi276_4; have HC276_4 := Aside0.mk hl276_4; clear hi276_4 hl276_4; replace p276 := eq_true p276; replace q276 := eq_true q276; have p277 : 0 ≤ (1 : Int) := (by omega); have q277 : 1 < (t266.length : Int) := of_decide_eq_true (by first | (with_reducible assumption) | assumption); obtain ⟨ad277, A277_4, c277_4, e277, hx277_0, hx277_1, hx277_2, hx277_3, hx277_4, hx277_5, hl277_4, hi277_4⟩ := at_T33 (Kd.S_reads' HO270.out).2.2 1 p277 q277; obtain rfl : ad276 = ad277 := (by injection e277); obtain ⟨ce277, hce277, hMe277, hcc277⟩ := Kd.S_get HO270.out z33 1 p277 (by first | exact q277 | exact of_decide_eq_true (by first | (with_reducible assumption) | assumption) | (have e_ := (Kd.S_reads' HO270.out).1; omega)); obtain ⟨ve277_4, rfl, ge277_4⟩ := k33_openM hMe277; have hv277_4 := hcc277 4 _ rfl; rw [add_field _ _ 4 (by omega)] at hv277_4; replace hv277_4 := Option.some.inj (hv277_4.symm.trans hx277_4); rw [hv277_4] at ge277_4; have HL277_4 := Aside0.mk (show Kd.R k35 35 _ _ _ _ ((rd_T33 t266 1).f4) from ge277_4); clear hv277_4 ge277_4; clear hcc277 hce277; (try simp only [show (1 : Int).toNat = 1 from rfl, Nat.reduceMul, Nat.reduceEqDiff, Go.Addr.add, ↓reduceIte] at hx277_0); (try simp only [show (1 : Int).toNat = 1 from rfl, Nat.reduceMul, Nat.reduceEqDiff, Go.Addr.add, ↓reduceIte] at hx277_1); (try simp only [show (1 : Int).toNat = 1 from rfl, Nat.reduceMul, Nat.reduceEqDiff, Go.Addr.add, ↓reduceIte] at hx277_2); (try simp only [show (1 : Int).toNat = 1 from rfl, Nat.reduceMul, Nat.reduceEqDiff, Go.Addr.add, ↓reduceIte] at hx277_3); (try simp only [show (1 : Int).toNat = 1 from rfl, Nat.reduceMul, Nat.reduceEqDiff, Go.Addr.add, ↓reduceIte] at hx277_4); (try simp only [show (1 : Int).toNat = 1 from rfl, Nat.reduceMul, Nat.reduceEqDiff, Go.Addr.add, ↓reduceIte] at hx277_5); have qi277 : (1 < t266.length) = True := eq_true (by omega); (try rw [show ((1 : Int)).toNat = 1 from rfl] at hx277_0); (try rw [show 1 * 6 = 6 from rfl] at hx277_0); (try rw [show ((1 : Int)).toNat = 1 from rfl] at hx277_1); (try rw [show 1 * 6 = 6 from rfl] at hx277_1); (try rw [show ((1 : Int)).toNat = 1 from rfl] at hx277_2); (try rw [show 1 * 6 = 6 from rfl] at hx277_2); (try rw [show ((1 : Int)).toNat = 1 from rfl] at hx277_3); (try rw [show 1 * 6 = 6 from rfl] at hx277_3); (try rw [show ((1 : Int)).toNat = 1 from rfl] at hx277_4); (try rw [show 1 * 6 = 6 from rfl] at hx277_4); (try rw [show ((1 : Int)).toNat = 1 from rfl] at hx277_5); (try rw [show 1 * 6 = 6 from rfl] at hx277_5); have HR277_4 := Aside0.mk hi277_4; have HC277_4 := Aside0.mk hl277_4; clear hi277_4 hl277_4; replace p277 := eq_true p277; replace q277 := eq_true q277; have ea_ := Option.some.inj (hx276_4.symm.trans hx277_4); injection ea_ with ea_ en_ ec_; subst ea_; subst ec_; clear en_))
                go_ret
                exact ⟨by first | rfl | (simp [errW_none, errW_some] <;> rfl) | (simp [*, errW_none, errW_some] <;> rfl), by repeat (first | (with_reducible first | exact HB.out | apply below_alloc | apply pw_below_drewN | apply below_drew1) | exact HB.out)⟩
              · rw [if_neg c9] at H
                have c9b0 : (t273 == 5) = false := beq_eq_false_iff_ne.mpr c9
                have c9b1 : (t273 != 5) = true := bne_iff_ne.mpr c9
                obtain rfl := Option.some.inj H
                go_enter Tryd.func8, Tryd.ntmps8
                go_wp2_with (first | ((with_reducible refine gate_callee (f := 10) rfl ?_); refine goesL_ (some 8) rfl rfl Tryd.func10 (by kernel_rfl) rfl #[.string (⟨#[60, 97, 62, 120, 60, 47, 97, 62]⟩ : ByteArray)] rfl (by (try simp only [List.map_toArray, List.map_cons, List.map_nil]); first | done | rfl | (simp only [List.length_drop, List.length_take]; rfl)) ?_; (with_reducible refine (G_Tokens.calls (⟨#[60, 97, 62, 120, 60, 47, 97, 62]⟩ : ByteArray) t266 t267 t268 _ ?side1 A1.out).mono ?_); (case side1 => first | exact HG.out | exact Gd.drewN HG.out _ | exact Gd.drew HG.out | exact Gd.below HG.out (by repeat (first | (with_reducible first | exact HB.out | apply below_alloc | apply pw_below_drewN | apply below_drew1) | exact HB.out))); rintro e w13 ⟨v269, rfl, ho0, hb⟩; refine ⟨_, rfl, ?_⟩; have n0_ := Aside0.mk (Kd.S_lower ho0 (below_size (by repeat (first | (with_reducible first | exact HB.out | apply below_alloc | apply pw_below_drewN | apply below_drew1) | exact HB.out)))); have n1_ := Aside0.mk (below_step (by repeat (first | (with_reducible first | exact HB.out | apply below_alloc | apply pw_below_drewN | apply below_drew1) | exact HB.out)) hb); clear HB; have HO270 := n0_; have HB := n1_; clear n0_ n1_; (try clear hb); (try clear hb2); (try clear hk); (try clear hi); (try clear ho0)) | ((with_reducible refine gate_callee (f := 10) rfl ?_); refine goesL_ (some 13) rfl rfl Tryd.func10 (by kernel_rfl) rfl #[.string (⟨#[60, 97, 62, 60]⟩ : ByteArray)] rfl (by (try simp only [List.map_toArray, List.map_cons, List.map_nil]); first | done | rfl | (simp only [List.length_drop, List.length_take]; rfl)) ?_; (with_reducible refine (G_Tokens.calls (⟨#[60, 97, 62, 60]⟩ : ByteArray) t271 t272 t273 _ ?side1 A2.out).mono ?_); (case side1 => first | exact HG.out | exact Gd.drewN HG.out _ | exact Gd.drew HG.out | exact Gd.below HG.out (by repeat (first | (with_reducible first | exact HB.out | apply below_alloc | apply pw_below_drewN | apply below_drew1) | exact HB.out))); rintro e w14 ⟨v274, rfl, ho0, hb⟩; refine ⟨_, rfl, ?_⟩; have n0_ := Aside0.mk (Kd.S_elder' (by (with_reducible repeat (first | apply Kd.S_alloc | apply Kd.S_drewN | apply Kd.S_drew)); exact HO270.out) (Kd.S_base ho0) hb); have n1_ := Aside0.mk (Kd.S_lower (Kd.S_new' ho0 (Kd.S_lt (by (with_reducible repeat (first | apply Kd.S_alloc | apply Kd.S_drewN | apply Kd.S_drew)); exact HO270.out))) (below_size (by repeat (first | (with_reducible first | exact HB.out | apply below_alloc | apply pw_below_drewN | apply below_drew1) | exact HB.out)))); have n2_ := Aside0.mk (below_step (by repeat (first | (with_reducible first | exact HB.out | apply below_alloc | apply pw_below_drewN | apply below_drew1) | exact HB.out)) hb); clear HO270; clear HB; have HO270 := n0_; have HO275 := n1_; have HB := n2_; clear n0_ n1_ n2_; (try clear hb); (try clear hb2); (try clear hk); (try clear hi); (try clear ho0); obtain ⟨Ao15, co15, eo15⟩ := Kd.S_slice HO270.out; subst eo15; have p276 : 0 ≤ (1 : Int) := (by omega); have q276 : 1 < (t266.length : Int) := of_decide_eq_true (by first | (with_reducible assumption) | assumption); obtain ⟨ad276, A276_4, c276_4, e276, hx276_0, hx276_1, hx276_2, hx276_3, hx276_4, hx276_5, hl276_4, hi276_4⟩ := at_T33 (Kd.S_reads' HO270.out).2.2 1 p276 q276; cases e276; obtain ⟨ce276, hce276, hMe276, hcc276⟩ := Kd.S_get HO270.out z33 1 p276 (by first | exact q276 | exact of_decide_eq_true (by first | (with_reducible assumption) | assumption) | (have e_ := (Kd.S_reads' HO270.out).1; omega)); obtain ⟨ve276_4, rfl, ge276_4⟩ := k33_openM hMe276; have hv276_4 := hcc276 4 _ rfl; rw [add_field _ _ 4 (by omega)] at hv276_4; replace hv276_4 := Option.some.inj (hv276_4.symm.trans hx276_4); rw [hv276_4] at ge276_4; have HL276_4 := Aside0.mk (show Kd.R k35 35 _ _ _ _ ((rd_T33 t266 1).f4) from ge276_4); clear hv276_4 ge276_4; clear hcc276 hce276; (try simp only [show (1 : Int).toNat = 1 from rfl, Nat.reduceMul, Nat.reduceEqDiff, Go.Addr.add, ↓reduceIte] at hx276_0); (try simp only [show (1 : Int).toNat = 1 from rfl, Nat.reduceMul, Nat.reduceEqDiff, Go.Addr.add, ↓reduceIte] at hx276_1); (try simp only [show (1 : Int).toNat = 1 from rfl, Nat.reduceMul, Nat.reduceEqDiff, Go.Addr.add, ↓reduceIte] at hx276_2); (try simp only [show (1 : Int).toNat = 1 from rfl, Nat.reduceMul, Nat.reduceEqDiff, Go.Addr.add, ↓reduceIte] at hx276_3); (try simp only [show (1 : Int).toNat = 1 from rfl, Nat.reduceMul, Nat.reduceEqDiff, Go.Addr.add, ↓reduceIte] at hx276_4); (try simp only [show (1 : Int).toNat = 1 from rfl, Nat.reduceMul, Nat.reduceEqDiff, Go.Addr.add, ↓reduceIte] at hx276_5); have qi276 : (1 < t266.length) = True := eq_true (by omega); (try rw [show ((1 : Int)).toNat = 1 from rfl] at hx276_0); (try rw [show 1 * 6 = 6 from rfl] at hx276_0); (try rw [show ((1 : Int)).toNat = 1 from rfl] at hx276_1); (try rw [show 1 * 6 = 6 from rfl] at hx276_1); (try rw [show ((1 : Int)).toNat = 1 from rfl] at hx276_2); (try rw [show 1 * 6 = 6 from rfl] at hx276_2); (try rw [show ((1 : Int)).toNat = 1 from rfl] at hx276_3); (try rw [show 1 * 6 = 6 from rfl] at hx276_3); (try rw [show ((1 : Int)).toNat = 1 from rfl] at hx276_4); (try rw [show 1 * 6 = 6 from rfl] at hx276_4); (try rw [show ((1 : Int)).toNat = 1 from rfl] at hx276_5); (try rw [show 1 * 6 = 6 from rfl] at hx276_5); have HR276_4 := Aside0.mk hi276_4; have HC276_4 := Aside0.mk hl276_4; clear hi276_4 hl276_4; replace p276 := eq_true p276; replace q276 := eq_true q276; have p277 : 0 ≤ (1 : Int) := (by omega); have q277 : 1 < (t266.length : Int) := of_decide_eq_true (by first | (with_reducible assumption) | assumption); obtain ⟨ad277, A277_4, c277_4, e277, hx277_0, hx277_1, hx277_2, hx277_3, hx277_4, hx277_5, hl277_4, hi277_4⟩ := at_T33 (Kd.S_reads' HO270.out).2.2 1 p277 q277; obtain rfl : ad276 = ad277 := (by injection e277); obtain ⟨ce277, hce277, hMe277, hcc277⟩ := Kd.S_get HO270.out z33 1 p277 (by first | exact q277 | exact of_decide_eq_true (by first | (with_reducible assumption) | assumption) | (have e_ := (Kd.S_reads' HO270.out).1; omega)); obtain ⟨ve277_4, rfl, ge277_4⟩ := k33_openM hMe277; have hv277_4 := hcc277 4 _ rfl; rw [add_field _ _ 4 (by omega)] at hv277_4; replace hv277_4 := Option.some.inj (hv277_4.symm.trans hx277_4); rw [hv277_4] at ge277_4; have HL277_4 := Aside0.mk (show Kd.R k35 35 _ _ _ _ ((rd_T33 t266 1).f4) from ge277_4); clear hv277_4 ge277_4; clear hcc277 hce277; (try simp only [show (1 : Int).toNat = 1 from rfl, Nat.reduceMul, Nat.reduceEqDiff, Go.Addr.add, ↓reduceIte] at hx277_0); (try simp only [show (1 : Int).toNat = 1 from rfl, Nat.reduceMul, Nat.reduceEqDiff, Go.Addr.add, ↓reduceIte] at hx277_1); (try simp only [show (1 : Int).toNat = 1 from rfl, Nat.reduceMul, Nat.reduceEqDiff, Go.Addr.add, ↓reduceIte] at hx277_2); (try simp only [show (1 : Int).toNat = 1 from rfl, Nat.reduceMul, Nat.reduceEqDiff, Go.Addr.add, ↓reduceIte] at hx277_3); (try simp only [show (1 : Int).toNat = 1 from rfl, Nat.reduceMul, Nat.reduceEqDiff, Go.Addr.add, ↓reduceIte] at hx277_4); (try simp only [show (1 : Int).toNat = 1 from rfl, Nat.reduceMul, Nat.reduceEqDiff, Go.Addr.add, ↓reduceIte] at hx277_5); have qi277 : (1 < t266.length) = True := eq_true (by omega); (try rw [show ((1 : Int)).toNat = 1 from rfl] at hx277_0); (try rw [show 1 * 6 = 6 from rfl] at hx277_0); (try rw [show ((1 : Int)).toNat = 1 from rfl] at hx277_1); (try rw [show 1 * 6 = 6 from rfl] at hx277_1); (try rw [show ((1 : Int)).toNat = 1 from rfl] at hx277_2); (try rw [show 1 * 6 = 6 from rfl] at hx277_2); (try rw [show ((1 : Int)).toNat = 1 from rfl] at hx277_3); (try rw [show 1 * 6 = 6 from rfl] at hx277_3); (try rw [show ((1 : Int)).toNat = 1 from rfl] at hx277_4); (try rw [show 1 * 6 = 6 from rfl] at hx277_4); (try rw [show ((1 : Int)).toNat = 1 from rfl] at hx277_5); (try rw [show 1 * 6 = 6 from rfl] at hx277_5); have HR277_4 := Aside0.mk hi277_4; have HC277_4 := Aside0.mk hl277_4; clear hi277_4 hl277_4; replace p277 := eq_true p277; replace q277 := eq_true q277; have ea_ := Option.some.inj (hx276_4.symm.trans hx277_4); injection ea_ with ea_ en_ ec_; subst ea_; subst ec_; clear en_))
                go_ret
                exact ⟨by first | rfl | (simp [errW_none, errW_some] <;> rfl) | (simp [*, errW_none, errW_some] <;> rfl), by repeat (first | (with_reducible first | exact HB.out | apply below_alloc | apply pw_below_drewN | apply below_drew1) | exact HB.out)⟩
            · rw [if_neg c8] at H
              have c8b0 : (((rd_T33 t266 1).f1) == 3) = false := beq_eq_false_iff_ne.mpr c8
              have c8b1 : (((rd_T33 t266 1).f1) != 3) = true := bne_iff_ne.mpr c8
              obtain rfl := Option.some.inj H
              go_enter Tryd.func8, Tryd.ntmps8
              go_wp2_with (first | ((with_reducible refine gate_callee (f := 10) rfl ?_); refine goesL_ (some 8) rfl rfl Tryd.func10 (by kernel_rfl) rfl #[.string (⟨#[60, 97, 62, 120, 60, 47, 97, 62]⟩ : ByteArray)] rfl (by (try simp only [List.map_toArray, List.map_cons, List.map_nil]); first | done | rfl | (simp only [List.length_drop, List.length_take]; rfl)) ?_; (with_reducible refine (G_Tokens.calls (⟨#[60, 97, 62, 120, 60, 47, 97, 62]⟩ : ByteArray) t266 t267 t268 _ ?side1 A1.out).mono ?_); (case side1 => first | exact HG.out | exact Gd.drewN HG.out _ | exact Gd.drew HG.out | exact Gd.below HG.out (by repeat (first | (with_reducible first | exact HB.out | apply below_alloc | apply pw_below_drewN | apply below_drew1) | exact HB.out))); rintro e w16 ⟨v269, rfl, ho0, hb⟩; refine ⟨_, rfl, ?_⟩; have n0_ := Aside0.mk (Kd.S_lower ho0 (below_size (by repeat (first | (with_reducible first | exact HB.out | apply below_alloc | apply pw_below_drewN | apply below_drew1) | exact HB.out)))); have n1_ := Aside0.mk (below_step (by repeat (first | (with_reducible first | exact HB.out | apply below_alloc | apply pw_below_drewN | apply below_drew1) | exact HB.out)) hb); clear HB; have HO270 := n0_; have HB := n1_; clear n0_ n1_; (try clear hb); (try clear hb2); (try clear hk); (try clear hi); (try clear ho0)) | ((with_reducible refine gate_callee (f := 10) rfl ?_); refine goesL_ (some 13) rfl rfl Tryd.func10 (by kernel_rfl) rfl #[.string (⟨#[60, 97, 62, 60]⟩ : ByteArray)] rfl (by (try simp only [List.map_toArray, List.map_cons, List.map_nil]); first | done | rfl | (simp only [List.length_drop, List.length_take]; rfl)) ?_; (with_reducible refine (G_Tokens.calls (⟨#[60, 97, 62, 60]⟩ : ByteArray) t271 t272 t273 _ ?side1 A2.out).mono ?_); (case side1 => first | exact HG.out | exact Gd.drewN HG.out _ | exact Gd.drew HG.out | exact Gd.below HG.out (by repeat (first | (with_reducible first | exact HB.out | apply below_alloc | apply pw_below_drewN | apply below_drew1) | exact HB.out))); rintro e w17 ⟨v274, rfl, ho0, hb⟩; refine ⟨_, rfl, ?_⟩; have n0_ := Aside0.mk (Kd.S_elder' (by (with_reducible repeat (first | apply Kd.S_alloc | apply Kd.S_drewN | apply Kd.S_drew)); exact HO270.out) (Kd.S_base ho0) hb); have n1_ := Aside0.mk (Kd.S_lower (Kd.S_new' ho0 (Kd.S_lt (by (with_reducible repeat (first | apply Kd.S_alloc | apply Kd.S_drewN | apply Kd.S_drew)); exact HO270.out))) (below_size (by repeat (first | (with_reducible first | exact HB.out | apply below_alloc | apply pw_below_drewN | apply below_drew1) | exact HB.out)))); have n2_ := Aside0.mk (below_step (by repeat (first | (with_reducible first | exact HB.out | apply below_alloc | apply pw_below_drewN | apply below_drew1) | exact HB.out)) hb); clear HO270; clear HB; have HO270 := n0_; have HO275 := n1_; have HB := n2_; clear n0_ n1_ n2_; (try clear hb); (try clear hb2); (try clear hk); (try clear hi); (try clear ho0); obtain ⟨Ao18, co18, eo18⟩ := Kd.S_slice HO270.out; subst eo18; have p276 : 0 ≤ (1 : Int) := (by omega); have q276 : 1 < (t266.length : Int) := of_decide_eq_true (by first | (with_reducible assumption) | assumption); obtain ⟨ad276, A276_4, c276_4, e276, hx276_0, hx276_1, hx276_2, hx276_3, hx276_4, hx276_5, hl276_4, hi276_4⟩ := at_T33 (Kd.S_reads' HO270.out).2.2 1 p276 q276; cases e276; obtain ⟨ce276, hce276, hMe276, hcc276⟩ := Kd.S_get HO270.out z33 1 p276 (by first | exact q276 | exact of_decide_eq_true (by first | (with_reducible assumption) | assumption) | (have e_ := (Kd.S_reads' HO270.out).1; omega)); obtain ⟨ve276_4, rfl, ge276_4⟩ := k33_openM hMe276; have hv276_4 := hcc276 4 _ rfl; rw [add_field _ _ 4 (by omega)] at hv276_4; replace hv276_4 := Option.some.inj (hv276_4.symm.trans hx276_4); rw [hv276_4] at ge276_4; have HL276_4 := Aside0.mk (show Kd.R k35 35 _ _ _ _ ((rd_T33 t266 1).f4) from ge276_4); clear hv276_4 ge276_4; clear hcc276 hce276; (try simp only [show (1 : Int).toNat = 1 from rfl, Nat.reduceMul, Nat.reduceEqDiff, Go.Addr.add, ↓reduceIte] at hx276_0); (try simp only [show (1 : Int).toNat = 1 from rfl, Nat.reduceMul, Nat.reduceEqDiff, Go.Addr.add, ↓reduceIte] at hx276_1); (try simp only [show (1 : Int).toNat = 1 from rfl, Nat.reduceMul, Nat.reduceEqDiff, Go.Addr.add, ↓reduceIte] at hx276_2); (try simp only [show (1 : Int).toNat = 1 from rfl, Nat.reduceMul, Nat.reduceEqDiff, Go.Addr.add, ↓reduceIte] at hx276_3); (try simp only [show (1 : Int).toNat = 1 from rfl, Nat.reduceMul, Nat.reduceEqDiff, Go.Addr.add, ↓reduceIte] at hx276_4); (try simp only [show (1 : Int).toNat = 1 from rfl, Nat.reduceMul, Nat.reduceEqDiff, Go.Addr.add, ↓reduceIte] at hx276_5); have qi276 : (1 < t266.length) = True := eq_true (by omega); (try rw [show ((1 : Int)).toNat = 1 from rfl] at hx276_0); (try rw [show 1 * 6 = 6 from rfl] at hx276_0); (try rw [show ((1 : Int)).toNat = 1 from rfl] at hx276_1); (try rw [show 1 * 6 = 6 from rfl] at hx276_1); (try rw [show ((1 : Int)).toNat = 1 from rfl] at hx276_2); (try rw [show 1 * 6 = 6 from rfl] at hx276_2); (try rw [show ((1 : Int)).toNat = 1 from rfl] at hx276_3); (try rw [show 1 * 6 = 6 from rfl] at hx276_3); (try rw [show ((1 : Int)).toNat = 1 from rfl] at hx276_4); (try rw [show 1 * 6 = 6 from rfl] at hx276_4); (try rw [show ((1 : Int)).toNat = 1 from rfl] at hx276_5); (try rw [show 1 * 6 = 6 from rfl] at hx276_5); have HR276_4 := Aside0.mk hi276_4; have HC276_4 := Aside0.mk hl276_4; clear hi276_4 hl276_4; replace p276 := eq_true p276; replace q276 := eq_true q276; have p277 : 0 ≤ (1 : Int) := (by omega); have q277 : 1 < (t266.length : Int) := of_decide_eq_true (by first | (with_reducible assumption) | assumption); obtain ⟨ad277, A277_4, c277_4, e277, hx277_0, hx277_1, hx277_2, hx277_3, hx277_4, hx277_5, hl277_4, hi277_4⟩ := at_T33 (Kd.S_reads' HO270.out).2.2 1 p277 q277; obtain rfl : ad276 = ad277 := (by injection e277); obtain ⟨ce277, hce277, hMe277, hcc277⟩ := Kd.S_get HO270.out z33 1 p277 (by first | exact q277 | exact of_decide_eq_true (by first | (with_reducible assumption) | assumption) | (have e_ := (Kd.S_reads' HO270.out).1; omega)); obtain ⟨ve277_4, rfl, ge277_4⟩ := k33_openM hMe277; have hv277_4 := hcc277 4 _ rfl; rw [add_field _ _ 4 (by omega)] at hv277_4; replace hv277_4 := Option.some.inj (hv277_4.symm.trans hx277_4); rw [hv277_4] at ge277_4; have HL277_4 := Aside0.mk (show Kd.R k35 35 _ _ _ _ ((rd_T33 t266 1).f4) from ge277_4); clear hv277_4 ge277_4; clear hcc277 hce277; (try simp only [show (1 : Int).toNat = 1 from rfl, Nat.reduceMul, Nat.reduceEqDiff, Go.Addr.add, ↓reduceIte] at hx277_0); (try simp only [show (1 : Int).toNat = 1 from rfl, Nat.reduceMul, Nat.reduceEqDiff, Go.Addr.add, ↓reduceIte] at hx277_1); (try simp only [show (1 : Int).toNat = 1 from rfl, Nat.reduceMul, Nat.reduceEqDiff, Go.Addr.add, ↓reduceIte] at hx277_2); (try simp only [show (1 : Int).toNat = 1 from rfl, Nat.reduceMul, Nat.reduceEqDiff, Go.Addr.add, ↓reduceIte] at hx277_3); (try simp only [show (1 : Int).toNat = 1 from rfl, Nat.reduceMul, Nat.reduceEqDiff, Go.Addr.add, ↓reduceIte] at hx277_4); (try simp only [show (1 : Int).toNat = 1 from rfl, Nat.reduceMul, Nat.reduceEqDiff, Go.Addr.add, ↓reduceIte] at hx277_5); have qi277 : (1 < t266.length) = True := eq_true (by omega); (try rw [show ((1 : Int)).toNat = 1 from rfl] at hx277_0); (try rw [show 1 * 6 = 6 from rfl] at hx277_0); (try rw [show ((1 : Int)).toNat = 1 from rfl] at hx277_1); (try rw [show 1 * 6 = 6 from rfl] at hx277_1); (try rw [show ((1 : Int)).toNat = 1 from rfl] at hx277_2); (try rw [show 1 * 6 = 6 from rfl] at hx277_2); (try rw [show ((1 : Int)).toNat = 1 from rfl] at hx277_3); (try rw [show 1 * 6 = 6 from rfl] at hx277_3); (try rw [show ((1 : Int)).toNat = 1 from rfl] at hx277_4); (try rw [show 1 * 6 = 6 from rfl] at hx277_4); (try rw [show ((1 : Int)).toNat = 1 from rfl] at hx277_5); (try rw [show 1 * 6 = 6 from rfl] at hx277_5); have HR277_4 := Aside0.mk hi277_4; have HC277_4 := Aside0.mk hl277_4; clear hi277_4 hl277_4; replace p277 := eq_true p277; replace q277 := eq_true q277; have ea_ := Option.some.inj (hx276_4.symm.trans hx277_4); injection ea_ with ea_ en_ ec_; subst ea_; subst ec_; clear en_))
              go_ret
              exact ⟨by first | rfl | (simp [errW_none, errW_some] <;> rfl) | (simp [*, errW_none, errW_some] <;> rfl), by repeat (first | (with_reducible first | exact HB.out | apply below_alloc | apply pw_below_drewN | apply below_drew1) | exact HB.out)⟩
          · rw [if_neg c7] at H
            have c7b0 : (((rd_T33 t266 1).f3).toList == ([120] : List UInt8)) = false := beq_eq_false_iff_ne.mpr c7
            have c7b1 : (((rd_T33 t266 1).f3).toList != ([120] : List UInt8)) = true := bne_iff_ne.mpr c7
            obtain rfl := Option.some.inj H
            go_enter Tryd.func8, Tryd.ntmps8
            go_wp2_with (first | ((with_reducible refine gate_callee (f := 10) rfl ?_); refine goesL_ (some 8) rfl rfl Tryd.func10 (by kernel_rfl) rfl #[.string (⟨#[60, 97, 62, 120, 60, 47, 97, 62]⟩ : ByteArray)] rfl (by (try simp only [List.map_toArray, List.map_cons, List.map_nil]); first | done | rfl | (simp only [List.length_drop, List.length_take]; rfl)) ?_; (with_reducible refine (G_Tokens.calls (⟨#[60, 97, 62, 120, 60, 47, 97, 62]⟩ : ByteArray) t266 t267 t268 _ ?side1 A1.out).mono ?_); (case side1 => first | exact HG.out | exact Gd.drewN HG.out _ | exact Gd.drew HG.out | exact Gd.below HG.out (by repeat (first | (with_reducible first | exact HB.out | apply below_alloc | apply pw_below_drewN | apply below_drew1) | exact HB.out))); rintro e w19 ⟨v269, rfl, ho0, hb⟩; refine ⟨_, rfl, ?_⟩; have n0_ := Aside0.mk (Kd.S_lower ho0 (below_size (by repeat (first | (with_reducible first | exact HB.out | apply below_alloc | apply pw_below_drewN | apply below_drew1) | exact HB.out)))); have n1_ := Aside0.mk (below_step (by repeat (first | (with_reducible first | exact HB.out | apply below_alloc | apply pw_below_drewN | apply below_drew1) | exact HB.out)) hb); clear HB; have HO270 := n0_; have HB := n1_; clear n0_ n1_; (try clear hb); (try clear hb2); (try clear hk); (try clear hi); (try clear ho0)) | ((with_reducible refine gate_callee (f := 10) rfl ?_); refine goesL_ (some 13) rfl rfl Tryd.func10 (by kernel_rfl) rfl #[.string (⟨#[60, 97, 62, 60]⟩ : ByteArray)] rfl (by (try simp only [List.map_toArray, List.map_cons, List.map_nil]); first | done | rfl | (simp only [List.length_drop, List.length_take]; rfl)) ?_; (with_reducible refine (G_Tokens.calls (⟨#[60, 97, 62, 60]⟩ : ByteArray) t271 t272 t273 _ ?side1 A2.out).mono ?_); (case side1 => first | exact HG.out | exact Gd.drewN HG.out _ | exact Gd.drew HG.out | exact Gd.below HG.out (by repeat (first | (with_reducible first | exact HB.out | apply below_alloc | apply pw_below_drewN | apply below_drew1) | exact HB.out))); rintro e w20 ⟨v274, rfl, ho0, hb⟩; refine ⟨_, rfl, ?_⟩; have n0_ := Aside0.mk (Kd.S_elder' (by (with_reducible repeat (first | apply Kd.S_alloc | apply Kd.S_drewN | apply Kd.S_drew)); exact HO270.out) (Kd.S_base ho0) hb); have n1_ := Aside0.mk (Kd.S_lower (Kd.S_new' ho0 (Kd.S_lt (by (with_reducible repeat (first | apply Kd.S_alloc | apply Kd.S_drewN | apply Kd.S_drew)); exact HO270.out))) (below_size (by repeat (first | (with_reducible first | exact HB.out | apply below_alloc | apply pw_below_drewN | apply below_drew1) | exact HB.out)))); have n2_ := Aside0.mk (below_step (by repeat (first | (with_reducible first | exact HB.out | apply below_alloc | apply pw_below_drewN | apply below_drew1) | exact HB.out)) hb); clear HO270; clear HB; have HO270 := n0_; have HO275 := n1_; have HB := n2_; clear n0_ n1_ n2_; (try clear hb); (try clear hb2); (try clear hk); (try clear hi); (try clear ho0); obtain ⟨Ao21, co21, eo21⟩ := Kd.S_slice HO270.out; subst eo21; have p276 : 0 ≤ (1 : Int) := (by omega); have q276 : 1 < (t266.length : Int) := of_decide_eq_true (by first | (with_reducible assumption) | assumption); obtain ⟨ad276, A276_4, c276_4, e276, hx276_0, hx276_1, hx276_2, hx276_3, hx276_4, hx276_5, hl276_4, hi276_4⟩ := at_T33 (Kd.S_reads' HO270.out).2.2 1 p276 q276; cases e276; obtain ⟨ce276, hce276, hMe276, hcc276⟩ := Kd.S_get HO270.out z33 1 p276 (by first | exact q276 | exact of_decide_eq_true (by first | (with_reducible assumption) | assumption) | (have e_ := (Kd.S_reads' HO270.out).1; omega)); obtain ⟨ve276_4, rfl, ge276_4⟩ := k33_openM hMe276; have hv276_4 := hcc276 4 _ rfl; rw [add_field _ _ 4 (by omega)] at hv276_4; replace hv276_4 := Option.some.inj (hv276_4.symm.trans hx276_4); rw [hv276_4] at ge276_4; have HL276_4 := Aside0.mk (show Kd.R k35 35 _ _ _ _ ((rd_T33 t266 1).f4) from ge276_4); clear hv276_4 ge276_4; clear hcc276 hce276; (try simp only [show (1 : Int).toNat = 1 from rfl, Nat.reduceMul, Nat.reduceEqDiff, Go.Addr.add, ↓reduceIte] at hx276_0); (try simp only [show (1 : Int).toNat = 1 from rfl, Nat.reduceMul, Nat.reduceEqDiff, Go.Addr.add, ↓reduceIte] at hx276_1); (try simp only [show (1 : Int).toNat = 1 from rfl, Nat.reduceMul, Nat.reduceEqDiff, Go.Addr.add, ↓reduceIte] at hx276_2); (try simp only [show (1 : Int).toNat = 1 from rfl, Nat.reduceMul, Nat.reduceEqDiff, Go.Addr.add, ↓reduceIte] at hx276_3); (try simp only [show (1 : Int).toNat = 1 from rfl, Nat.reduceMul, Nat.reduceEqDiff, Go.Addr.add, ↓reduceIte] at hx276_4); (try simp only [show (1 : Int).toNat = 1 from rfl, Nat.reduceMul, Nat.reduceEqDiff, Go.Addr.add, ↓reduceIte] at hx276_5); have qi276 : (1 < t266.length) = True := eq_true (by omega); (try rw [show ((1 : Int)).toNat = 1 from rfl] at hx276_0); (try rw [show 1 * 6 = 6 from rfl] at hx276_0); (try rw [show ((1 : Int)).toNat = 1 from rfl] at hx276_1); (try rw [show 1 * 6 = 6 from rfl] at hx276_1); (try rw [show ((1 : Int)).toNat = 1 from rfl] at hx276_2); (try rw [show 1 * 6 = 6 from rfl] at hx276_2); (try rw [show ((1 : Int)).toNat = 1 from rfl] at hx276_3); (try rw [show 1 * 6 = 6 from rfl] at hx276_3); (try rw [show ((1 : Int)).toNat = 1 from rfl] at hx276_4); (try rw [show 1 * 6 = 6 from rfl] at hx276_4); (try rw [show ((1 : Int)).toNat = 1 from rfl] at hx276_5); (try rw [show 1 * 6 = 6 from rfl] at hx276_5); have HR276_4 := Aside0.mk hi276_4; have HC276_4 := Aside0.mk hl276_4; clear hi276_4 hl276_4; replace p276 := eq_true p276; replace q276 := eq_true q276))
            go_ret
            exact ⟨by first | rfl | (simp [errW_none, errW_some] <;> rfl) | (simp [*, errW_none, errW_some] <;> rfl), by repeat (first | (with_reducible first | exact HB.out | apply below_alloc | apply pw_below_drewN | apply below_drew1) | exact HB.out)⟩
        · rw [if_neg c6] at H
          exact absurd H (by simp)
      · rw [if_neg c5] at H
        have c5b0 : ((t266.length : Int) == 3) = false := beq_eq_false_iff_ne.mpr c5
        have c5b1 : ((t266.length : Int) != 3) = true := bne_iff_ne.mpr c5
        obtain rfl := Option.some.inj H
        go_enter Tryd.func8, Tryd.ntmps8
        go_wp2_with (first | ((with_reducible refine gate_callee (f := 10) rfl ?_); refine goesL_ (some 8) rfl rfl Tryd.func10 (by kernel_rfl) rfl #[.string (⟨#[60, 97, 62, 120, 60, 47, 97, 62]⟩ : ByteArray)] rfl (by (try simp only [List.map_toArray, List.map_cons, List.map_nil]); first | done | rfl | (simp only [List.length_drop, List.length_take]; rfl)) ?_; (with_reducible refine (G_Tokens.calls (⟨#[60, 97, 62, 120, 60, 47, 97, 62]⟩ : ByteArray) t266 t267 t268 _ ?side1 A1.out).mono ?_); (case side1 => first | exact HG.out | exact Gd.drewN HG.out _ | exact Gd.drew HG.out | exact Gd.below HG.out (by repeat (first | (with_reducible first | exact HB.out | apply below_alloc | apply pw_below_drewN | apply below_drew1) | exact HB.out))); rintro e w22 ⟨v269, rfl, ho0, hb⟩; refine ⟨_, rfl, ?_⟩; have n0_ := Aside0.mk (Kd.S_lower ho0 (below_size (by repeat (first | (with_reducible first | exact HB.out | apply below_alloc | apply pw_below_drewN | apply below_drew1) | exact HB.out)))); have n1_ := Aside0.mk (below_step (by repeat (first | (with_reducible first | exact HB.out | apply below_alloc | apply pw_below_drewN | apply below_drew1) | exact HB.out)) hb); clear HB; have HO270 := n0_; have HB := n1_; clear n0_ n1_; (try clear hb); (try clear hb2); (try clear hk); (try clear hi); (try clear ho0)) | ((with_reducible refine gate_callee (f := 10) rfl ?_); refine goesL_ (some 13) rfl rfl Tryd.func10 (by kernel_rfl) rfl #[.string (⟨#[60, 97, 62, 60]⟩ : ByteArray)] rfl (by (try simp only [List.map_toArray, List.map_cons, List.map_nil]); first | done | rfl | (simp only [List.length_drop, List.length_take]; rfl)) ?_; (with_reducible refine (G_Tokens.calls (⟨#[60, 97, 62, 60]⟩ : ByteArray) t271 t272 t273 _ ?side1 A2.out).mono ?_); (case side1 => first | exact HG.out | exact Gd.drewN HG.out _ | exact Gd.drew HG.out | exact Gd.below HG.out (by repeat (first | (with_reducible first | exact HB.out | apply below_alloc | apply pw_below_drewN | apply below_drew1) | exact HB.out))); rintro e w23 ⟨v274, rfl, ho0, hb⟩; refine ⟨_, rfl, ?_⟩; have n0_ := Aside0.mk (Kd.S_elder' (by (with_reducible repeat (first | apply Kd.S_alloc | apply Kd.S_drewN | apply Kd.S_drew)); exact HO270.out) (Kd.S_base ho0) hb); have n1_ := Aside0.mk (Kd.S_lower (Kd.S_new' ho0 (Kd.S_lt (by (with_reducible repeat (first | apply Kd.S_alloc | apply Kd.S_drewN | apply Kd.S_drew)); exact HO270.out))) (below_size (by repeat (first | (with_reducible first | exact HB.out | apply below_alloc | apply pw_below_drewN | apply below_drew1) | exact HB.out)))); have n2_ := Aside0.mk (below_step (by repeat (first | (with_reducible first | exact HB.out | apply below_alloc | apply pw_below_drewN | apply below_drew1) | exact HB.out)) hb); clear HO270; clear HB; have HO270 := n0_; have HO275 := n1_; have HB := n2_; clear n0_ n1_ n2_; (try clear hb); (try clear hb2); (try clear hk); (try clear hi); (try clear ho0); obtain ⟨Ao24, co24, eo24⟩ := Kd.S_slice HO270.out; subst eo24))
        go_ret
        exact ⟨by first | rfl | (simp [errW_none, errW_some] <;> rfl) | (simp [*, errW_none, errW_some] <;> rfl), by repeat (first | (with_reducible first | exact HB.out | apply below_alloc | apply pw_below_drewN | apply below_drew1) | exact HB.out)⟩
    · rw [if_neg c4] at H
      have c4b0 : (t267 == 0) = false := beq_eq_false_iff_ne.mpr c4
      have c4b1 : (t267 != 0) = true := bne_iff_ne.mpr c4
      obtain rfl := Option.some.inj H
      go_enter Tryd.func8, Tryd.ntmps8
      go_wp2_with (first | ((with_reducible refine gate_callee (f := 10) rfl ?_); refine goesL_ (some 8) rfl rfl Tryd.func10 (by kernel_rfl) rfl #[.string (⟨#[60, 97, 62, 120, 60, 47, 97, 62]⟩ : ByteArray)] rfl (by (try simp only [List.map_toArray, List.map_cons, List.map_nil]); first | done | rfl | (simp only [List.length_drop, List.length_take]; rfl)) ?_; (with_reducible refine (G_Tokens.calls (⟨#[60, 97, 62, 120, 60, 47, 97, 62]⟩ : ByteArray) t266 t267 t268 _ ?side1 A1.out).mono ?_); (case side1 => first | exact HG.out | exact Gd.drewN HG.out _ | exact Gd.drew HG.out | exact Gd.below HG.out (by repeat (first | (with_reducible first | exact HB.out | apply below_alloc | apply pw_below_drewN | apply below_drew1) | exact HB.out))); rintro e w25 ⟨v269, rfl, ho0, hb⟩; refine ⟨_, rfl, ?_⟩; have n0_ := Aside0.mk (Kd.S_lower ho0 (below_size (by repeat (first | (with_reducible first | exact HB.out | apply below_alloc | apply pw_below_drewN | apply below_drew1) | exact HB.out)))); have n1_ := Aside0.mk (below_step (by repeat (first | (with_reducible first | exact HB.out | apply below_alloc | apply pw_below_drewN | apply below_drew1) | exact HB.out)) hb); clear HB; have HO270 := n0_; have HB := n1_; clear n0_ n1_; (try clear hb); (try clear hb2); (try clear hk); (try clear hi); (try clear ho0)) | ((with_reducible refine gate_callee (f := 10) rfl ?_); refine goesL_ (some 13) rfl rfl Tryd.func10 (by kernel_rfl) rfl #[.string (⟨#[60, 97, 62, 60]⟩ : ByteArray)] rfl (by (try simp only [List.map_toArray, List.map_cons, List.map_nil]); first | done | rfl | (simp only [List.length_drop, List.length_take]; rfl)) ?_; (with_reducible refine (G_Tokens.calls (⟨#[60, 97, 62, 60]⟩ : ByteArray) t271 t272 t273 _ ?side1 A2.out).mono ?_); (case side1 => first | exact HG.out | exact Gd.drewN HG.out _ | exact Gd.drew HG.out | exact Gd.below HG.out (by repeat (first | (with_reducible first | exact HB.out | apply below_alloc | apply pw_below_drewN | apply below_drew1) | exact HB.out))); rintro e w26 ⟨v274, rfl, ho0, hb⟩; refine ⟨_, rfl, ?_⟩; have n0_ := Aside0.mk (Kd.S_elder' (by (with_reducible repeat (first | apply Kd.S_alloc | apply Kd.S_drewN | apply Kd.S_drew)); exact HO270.out) (Kd.S_base ho0) hb); have n1_ := Aside0.mk (Kd.S_lower (Kd.S_new' ho0 (Kd.S_lt (by (with_reducible repeat (first | apply Kd.S_alloc | apply Kd.S_drewN | apply Kd.S_drew)); exact HO270.out))) (below_size (by repeat (first | (with_reducible first | exact HB.out | apply below_alloc | apply pw_below_drewN | apply below_drew1) | exact HB.out)))); have n2_ := Aside0.mk (below_step (by repeat (first | (with_reducible first | exact HB.out | apply below_alloc | apply pw_below_drewN | apply below_drew1) | exact HB.out)) hb); clear HO270; clear HB; have HO270 := n0_; have HO275 := n1_; have HB := n2_; clear n0_ n1_ n2_; (try clear hb); (try clear hb2); (try clear hk); (try clear hi); (try clear ho0)))
      go_ret
      exact ⟨by first | rfl | (simp [errW_none, errW_some] <;> rfl) | (simp [*, errW_none, errW_some] <;> rfl), by repeat (first | (with_reducible first | exact HB.out | apply below_alloc | apply pw_below_drewN | apply below_drew1) | exact HB.out)⟩
  · rw [if_neg c3] at H
    have c3b0 : (t268 == 0) = false := beq_eq_false_iff_ne.mpr c3
    have c3b1 : (t268 != 0) = true := bne_iff_ne.mpr c3
    obtain rfl := Option.some.inj H
    go_enter Tryd.func8, Tryd.ntmps8
    go_wp2_with (first | ((with_reducible refine gate_callee (f := 10) rfl ?_); refine goesL_ (some 8) rfl rfl Tryd.func10 (by kernel_rfl) rfl #[.string (⟨#[60, 97, 62, 120, 60, 47, 97, 62]⟩ : ByteArray)] rfl (by (try simp only [List.map_toArray, List.map_cons, List.map_nil]); first | done | rfl | (simp only [List.length_drop, List.length_take]; rfl)) ?_; (with_reducible refine (G_Tokens.calls (⟨#[60, 97, 62, 120, 60, 47, 97, 62]⟩ : ByteArray) t266 t267 t268 _ ?side1 A1.out).mono ?_); (case side1 => first | exact HG.out | exact Gd.drewN HG.out _ | exact Gd.drew HG.out | exact Gd.below HG.out (by repeat (first | (with_reducible first | exact HB.out | apply below_alloc | apply pw_below_drewN | apply below_drew1) | exact HB.out))); rintro e w27 ⟨v269, rfl, ho0, hb⟩; refine ⟨_, rfl, ?_⟩; have n0_ := Aside0.mk (Kd.S_lower ho0 (below_size (by repeat (first | (with_reducible first | exact HB.out | apply below_alloc | apply pw_below_drewN | apply below_drew1) | exact HB.out)))); have n1_ := Aside0.mk (below_step (by repeat (first | (with_reducible first | exact HB.out | apply below_alloc | apply pw_below_drewN | apply below_drew1) | exact HB.out)) hb); clear HB; have HO270 := n0_; have HB := n1_; clear n0_ n1_; (try clear hb); (try clear hb2); (try clear hk); (try clear hi); (try clear ho0)) | ((with_reducible refine gate_callee (f := 10) rfl ?_); refine goesL_ (some 13) rfl rfl Tryd.func10 (by kernel_rfl) rfl #[.string (⟨#[60, 97, 62, 60]⟩ : ByteArray)] rfl (by (try simp only [List.map_toArray, List.map_cons, List.map_nil]); first | done | rfl | (simp only [List.length_drop, List.length_take]; rfl)) ?_; (with_reducible refine (G_Tokens.calls (⟨#[60, 97, 62, 60]⟩ : ByteArray) t271 t272 t273 _ ?side1 A2.out).mono ?_); (case side1 => first | exact HG.out | exact Gd.drewN HG.out _ | exact Gd.drew HG.out | exact Gd.below HG.out (by repeat (first | (with_reducible first | exact HB.out | apply below_alloc | apply pw_below_drewN | apply below_drew1) | exact HB.out))); rintro e w28 ⟨v274, rfl, ho0, hb⟩; refine ⟨_, rfl, ?_⟩; have n0_ := Aside0.mk (Kd.S_elder' (by (with_reducible repeat (first | apply Kd.S_alloc | apply Kd.S_drewN | apply Kd.S_drew)); exact HO270.out) (Kd.S_base ho0) hb); have n1_ := Aside0.mk (Kd.S_lower (Kd.S_new' ho0 (Kd.S_lt (by (with_reducible repeat (first | apply Kd.S_alloc | apply Kd.S_drewN | apply Kd.S_drew)); exact HO270.out))) (below_size (by repeat (first | (with_reducible first | exact HB.out | apply below_alloc | apply pw_below_drewN | apply below_drew1) | exact HB.out)))); have n2_ := Aside0.mk (below_step (by repeat (first | (with_reducible first | exact HB.out | apply below_alloc | apply pw_below_drewN | apply below_drew1) | exact HB.out)) hb); clear HO270; clear HB; have HO270 := n0_; have HO275 := n1_; have HB := n2_; clear n0_ n1_ n2_; (try clear hb); (try clear hb2); (try clear hk); (try clear hi); (try clear ho0)))
    go_ret
    exact ⟨by first | rfl | (simp [errW_none, errW_some] <;> rfl) | (simp [*, errW_none, errW_some] <;> rfl), by repeat (first | (with_reducible first | exact HB.out | apply below_alloc | apply pw_below_drewN | apply below_drew1) | exact HB.out)⟩

end Go.Proofs.YtfelfpjfjjgmoaaDoor.P
end
/- cardexhelp.Same: two lists of structs held against each other, one by one, by a function; and by which one. -/
section
set_option linter.unusedVariables false
namespace Go.Proofs.YtfelfpjfjjgmoaaDoor
open Go.RowKit Go.Shelf Go.Proofs.YtfelfpjfjjgmoaaDoorW.PrintWords Go.Proofs.YtfelfpjfjjgmoaaDoorW.PrintLast
/-- p holds of the last d places below n. -/
def allAt (p : Nat → Bool) (n : Nat) : Nat → Bool
  | 0 => true
  | d + 1 => p (n - (d + 1)) && allAt p n d
set_option maxHeartbeats 4000000 in
set_option maxRecDepth 100000 in
theorem SameAttr (g : Nat) (eg : ∀ args w, (callFunc g args).run Tryd.prog w = .ok (.enter g args) w) (A B : Option Addr) (n c c' : Nat) (x0 x1 y0 y1 : Nat → Value) (p : Nat → Bool) (w : World)
    (hp : ∀ W j, j < n → Below w.heap.size w W → Calls Tryd.prog g #[.agg #[x0 j, x1 j], .agg #[y0 j, y1 j]] W fun e w' => e = .returned (.bool (p j)) ∧ Below W.heap.size W w') (hbig : n ≤ 9223372036854775807)
    (hcA : 0 < n → ∃ ad, A = some ad ∧ ∀ j, j < n → w.cell? (ad.add (j * 2)) = some (x0 j) ∧ w.cell? ⟨(ad.add (j * 2)).block, (ad.add (j * 2)).off + 1, none⟩ = some (x1 j))
    (hcB : 0 < n → ∃ bd, B = some bd ∧ ∀ j, j < n → w.cell? (bd.add (j * 2)) = some (y0 j) ∧ w.cell? ⟨(bd.add (j * 2)).block, (bd.add (j * 2)).off + 1, none⟩ = some (y1 j)) :
    Calls Tryd.prog 28 #[.slice A n c, .slice B n c', .func (.func g) #[] #[]] w fun e w' => e = .returned (.bool (allAt p n n)) ∧ Below w.heap.size w w' := by
  have huT := Tryd.underlying35
  go_enter Tryd.func28, Tryd.ntmps28
  go_wp2
  go_loopg [7] n (fun gg s7 wr => ∃ kk : Nat, kk ≤ n ∧ n - kk ≤ gg ∧ s7 = .int .i64 kk ∧ Aside (Below w.heap.size w wr) ∧ Aside (allAt p n n = allAt p n (n - kk)))
  case atStart => exact ⟨0, Nat.zero_le _, by omega, rfl, Below.refl _ w, rfl⟩
  case round =>
    obtain ⟨kk, hkk, hg, rfl, BW, HA⟩ := hrel
    by_cases hlt : kk < n
    · have hltz : (kk : Int) < (n : Int) := by omega
      obtain ⟨ad, rfl, hcellA⟩ := hcA (by omega)
      obtain ⟨bd, rfl, hcellB⟩ := hcB (by omega)
      have hcall := hp wr.drew kk hlt (below_drew BW.out)
      have ha0 := pw_cell_below BW.out (hcellA kk hlt).1
      have ha1 := pw_cell_below BW.out (hcellA kk hlt).2
      have hb0 := pw_cell_below BW.out (hcellB kk hlt).1
      have hb1 := pw_cell_below BW.out (hcellB kk hlt).2
      clear hcA hcB hp hcellA hcellB
      have HE := Aside0.mk (show allAt p n (n - kk) = (p kk && allAt p n (n - (kk + 1))) from by
        obtain ⟨d, hd⟩ : ∃ d, n - kk = d + 1 := ⟨n - kk - 1, by omega⟩
        rw [hd]
        simp only [allAt]
        rw [show n - (d + 1) = kk from by omega, show n - (kk + 1) = d from by omega])
      cases hq : p kk with
      | true =>
        rw [hq] at hcall HE
        go_wp2
        go_still_tail 9, (by kernel_rfl)
        change wpList _ _ _ _ _ wr.drew
        go_wp2_with (go_at_fn g; refine hcall.mono ?_; rintro e w' ⟨rfl, hb'⟩)
        go_roundg (n - (kk + 1))
        case measure => omega
        case rel =>
          refine ⟨kk + 1, by omega, by omega, by go_num, ?_, ?_⟩
          · exact (below_drew BW.out).trans (hb'.mono (below_drew BW.out).size)
          · show allAt _ n n = _
            rw [HA.out, HE.out]
            rfl
      | false =>
        rw [hq] at hcall HE
        go_wp2
        go_still_tail 9, (by kernel_rfl)
        change wpList _ _ _ _ _ wr.drew
        go_wp2_with (go_at_fn g; refine hcall.mono ?_; rintro e w' ⟨rfl, hb'⟩)
        go_ret
        refine ⟨?_, (below_drew BW.out).trans (hb'.mono (below_drew BW.out).size)⟩
        rw [HA.out, HE.out]
        rfl
    · have hltz : ¬ (kk : Int) < (n : Int) := by omega
      have : kk = n := by omega
      subst this
      clear hp hcA hcB
      go_wp2
      go_ret
      refine ⟨?_, BW.out⟩
      rw [HA.out, Nat.sub_self]
      rfl

set_option maxHeartbeats 4000000 in
set_option maxRecDepth 100000 in
theorem SameToken (g : Nat) (eg : ∀ args w, (callFunc g args).run Tryd.prog w = .ok (.enter g args) w) (A B : Option Addr) (n c c' : Nat) (x0 x1 x2 x3 x4 x5 y0 y1 y2 y3 y4 y5 : Nat → Value) (p : Nat → Bool) (w : World)
    (hp : ∀ W j, j < n → Below w.heap.size w W → Calls Tryd.prog g #[.agg #[x0 j, x1 j, x2 j, x3 j, x4 j, x5 j], .agg #[y0 j, y1 j, y2 j, y3 j, y4 j, y5 j]] W fun e w' => e = .returned (.bool (p j)) ∧ Below W.heap.size W w') (hbig : n ≤ 9223372036854775807)
    (hcA : 0 < n → ∃ ad, A = some ad ∧ ∀ j, j < n → w.cell? (ad.add (j * 6)) = some (x0 j) ∧ w.cell? ⟨(ad.add (j * 6)).block, (ad.add (j * 6)).off + 1, none⟩ = some (x1 j) ∧ w.cell? ⟨(ad.add (j * 6)).block, (ad.add (j * 6)).off + 2, none⟩ = some (x2 j) ∧ w.cell? ⟨(ad.add (j * 6)).block, (ad.add (j * 6)).off + 3, none⟩ = some (x3 j) ∧ w.cell? ⟨(ad.add (j * 6)).block, (ad.add (j * 6)).off + 4, none⟩ = some (x4 j) ∧ w.cell? ⟨(ad.add (j * 6)).block, (ad.add (j * 6)).off + 5, none⟩ = some (x5 j))
    (hcB : 0 < n → ∃ bd, B = some bd ∧ ∀ j, j < n → w.cell? (bd.add (j * 6)) = some (y0 j) ∧ w.cell? ⟨(bd.add (j * 6)).block, (bd.add (j * 6)).off + 1, none⟩ = some (y1 j) ∧ w.cell? ⟨(bd.add (j * 6)).block, (bd.add (j * 6)).off + 2, none⟩ = some (y2 j) ∧ w.cell? ⟨(bd.add (j * 6)).block, (bd.add (j * 6)).off + 3, none⟩ = some (y3 j) ∧ w.cell? ⟨(bd.add (j * 6)).block, (bd.add (j * 6)).off + 4, none⟩ = some (y4 j) ∧ w.cell? ⟨(bd.add (j * 6)).block, (bd.add (j * 6)).off + 5, none⟩ = some (y5 j)) :
    Calls Tryd.prog 11 #[.slice A n c, .slice B n c', .func (.func g) #[] #[]] w fun e w' => e = .returned (.bool (allAt p n n)) ∧ Below w.heap.size w w' := by
  have huT := Tryd.underlying33
  go_enter Tryd.func11, Tryd.ntmps11
  go_wp2
  go_loopg [7] n (fun gg s7 wr => ∃ kk : Nat, kk ≤ n ∧ n - kk ≤ gg ∧ s7 = .int .i64 kk ∧ Aside (Below w.heap.size w wr) ∧ Aside (allAt p n n = allAt p n (n - kk)))
  case atStart => exact ⟨0, Nat.zero_le _, by omega, rfl, Below.refl _ w, rfl⟩
  case round =>
    obtain ⟨kk, hkk, hg, rfl, BW, HA⟩ := hrel
    by_cases hlt : kk < n
    · have hltz : (kk : Int) < (n : Int) := by omega
      obtain ⟨ad, rfl, hcellA⟩ := hcA (by omega)
      obtain ⟨bd, rfl, hcellB⟩ := hcB (by omega)
      have hcall := hp wr.drew kk hlt (below_drew BW.out)
      have ha0 := pw_cell_below BW.out (hcellA kk hlt).1
      have ha1 := pw_cell_below BW.out (hcellA kk hlt).2.1
      have ha2 := pw_cell_below BW.out (hcellA kk hlt).2.2.1
      have ha3 := pw_cell_below BW.out (hcellA kk hlt).2.2.2.1
      have ha4 := pw_cell_below BW.out (hcellA kk hlt).2.2.2.2.1
      have ha5 := pw_cell_below BW.out (hcellA kk hlt).2.2.2.2.2
      have hb0 := pw_cell_below BW.out (hcellB kk hlt).1
      have hb1 := pw_cell_below BW.out (hcellB kk hlt).2.1
      have hb2 := pw_cell_below BW.out (hcellB kk hlt).2.2.1
      have hb3 := pw_cell_below BW.out (hcellB kk hlt).2.2.2.1
      have hb4 := pw_cell_below BW.out (hcellB kk hlt).2.2.2.2.1
      have hb5 := pw_cell_below BW.out (hcellB kk hlt).2.2.2.2.2
      clear hcA hcB hp hcellA hcellB
      have HE := Aside0.mk (show allAt p n (n - kk) = (p kk && allAt p n (n - (kk + 1))) from by
        obtain ⟨d, hd⟩ : ∃ d, n - kk = d + 1 := ⟨n - kk - 1, by omega⟩
        rw [hd]
        simp only [allAt]
        rw [show n - (d + 1) = kk from by omega, show n - (kk + 1) = d from by omega])
      cases hq : p kk with
      | true =>
        rw [hq] at hcall HE
        go_wp2
        go_still_tail 9, (by kernel_rfl)
        change wpList _ _ _ _ _ wr.drew
        go_wp2_with (go_at_fn g; refine hcall.mono ?_; rintro e w' ⟨rfl, hb'⟩)
        go_roundg (n - (kk + 1))
        case measure => omega
        case rel =>
          refine ⟨kk + 1, by omega, by omega, by go_num, ?_, ?_⟩
          · exact (below_drew BW.out).trans (hb'.mono (below_drew BW.out).size)
          · show allAt _ n n = _
            rw [HA.out, HE.out]
            rfl
      | false =>
        rw [hq] at hcall HE
        go_wp2
        go_still_tail 9, (by kernel_rfl)
        change wpList _ _ _ _ _ wr.drew
        go_wp2_with (go_at_fn g; refine hcall.mono ?_; rintro e w' ⟨rfl, hb'⟩)
        go_ret
        refine ⟨?_, (below_drew BW.out).trans (hb'.mono (below_drew BW.out).size)⟩
        rw [HA.out, HE.out]
        rfl
    · have hltz : ¬ (kk : Int) < (n : Int) := by omega
      have : kk = n := by omega
      subst this
      clear hp hcA hcB
      go_wp2
      go_ret
      refine ⟨?_, BW.out⟩
      rw [HA.out, Nat.sub_self]
      rfl

end Go.Proofs.YtfelfpjfjjgmoaaDoor
end
/- cardexhelp.Plain at attributes: two lists of attributes are alike, one by one. -/
section
set_option linter.unusedVariables false
namespace Go.Proofs.YtfelfpjfjjgmoaaDoor
open Go.RowKit Go.Shelf Go.Proofs.YtfelfpjfjjgmoaaDoorW.PrintWords Go.Proofs.YtfelfpjfjjgmoaaDoorW.PrintLast

theorem allAt_range (p : Nat → Bool) (n : Nat) : ∀ d, d ≤ n → allAt p n d = ((List.range d).all fun j => p (n - d + j))
  | 0, _ => rfl
  | d + 1, h => by
    rw [allAt, allAt_range p n d (by omega), List.range_succ_eq_map, List.all_cons, List.all_map]
    congr 1
    have : ∀ j, n - d + j = n - (d + 1) + (j + 1) := fun j => by omega
    simp only [this]
    rfl
theorem allAt_zip {α : Type} (z : α) (q : α → α → Bool) (l m : List α) (h : l.length = m.length) : allAt (fun j => q (l.getD j z) (m.getD j z)) l.length l.length = (List.zipWith q l m).all id := by
  rw [allAt_range _ _ _ (Nat.le_refl _), Nat.sub_self, Bool.eq_iff_iff, List.all_eq_true, List.all_eq_true]
  constructor
  · intro hh x hx
    obtain ⟨i, hi, rfl⟩ := List.getElem_of_mem hx
    rw [List.length_zipWith] at hi
    have := hh i (List.mem_range.2 (by omega))
    simp only [Nat.zero_add] at this
    rw [List.getElem_zipWith]
    simpa [List.getD, show i < l.length by omega, show i < m.length by omega] using this
  · intro hh i hi
    have hi' := List.mem_range.1 hi
    have := hh ((List.zipWith q l m)[i]'(by rw [List.length_zipWith]; omega)) (List.getElem_mem _)
    rw [List.getElem_zipWith] at this
    simp only [Nat.zero_add]
    simpa [List.getD, hi', show i < m.length by omega] using this
set_option maxRecDepth 100000 in
theorem attr_eq_calls (a b c d : ByteArray) (w : World) :
    Calls Tryd.prog 29 #[.agg #[.string a, .string b], .agg #[.string c, .string d]] w fun e w' => e = .returned (.bool (decide (a.toList = c.toList ∧ b.toList = d.toList))) ∧ Below w.heap.size w w' := by
  have hu35 := Tryd.underlying35
  go_enter Tryd.func29, Tryd.ntmps29
  go_wp2
  all_goals
    go_ret
    refine ⟨by simp [*], ?_⟩
    exact below_alloc (below_alloc (Below.refl _ _) _) _
def attrEqB (a b : P.S35) : Bool := decide (a.f0.toList = b.f0.toList ∧ a.f1.toList = b.f1.toList)
def attrsEqB (l m : List P.S35) : Bool := decide (l.length = m.length) && (List.zipWith attrEqB l m).all id
def G_PlainAttr.f (l0 l1 : List P.S35) : Option Bool := if l0.length ≤ 9223372036854775807 then some (attrsEqB l0 l1) else none
theorem G_PlainAttr.calls (A0 : Option Addr) (c0 : Nat) (l0 : List P.S35) (A1 : Option Addr) (c1 : Nat) (l1 : List P.S35) (r : Bool) (w : World) (hG_ : Gd w) (hr0 : Kd.C P.k35 w A0 l0.length l0) (hc0 : l0.length ≤ c0) (hr1 : Kd.C P.k35 w A1 l1.length l1) (hc1 : l1.length ≤ c1) (h : G_PlainAttr.f l0 l1 = some r) :
    Calls Tryd.prog 18 #[.slice A0 l0.length c0, .slice A1 l1.length c1] w fun e w' => e = .returned (.bool r) ∧ Below w.heap.size w w' := by
  unfold G_PlainAttr.f at h
  split at h
  rotate_left
  · cases h
  rename_i hsz
  injection h with h
  subst h
  by_cases hl : l0.length = l1.length
  · have C := SameAttr 29 (enters_of Tryd.func29 (by kernel_rfl) rfl) A0 A1 l0.length c0 c1 (fun j => .string (l0.getD j P.z35).f0) (fun j => .string (l0.getD j P.z35).f1) (fun j => .string (l1.getD j P.z35).f0) (fun j => .string (l1.getD j P.z35).f1)
      (fun j => attrEqB (l0.getD j P.z35) (l1.getD j P.z35)) w (fun W j hj hb => attr_eq_calls _ _ _ _ W) hsz
      (fun h0 => by
        obtain ⟨ad, e, _⟩ := P.at_T35 hr0 0 (by omega) (by omega)
        refine ⟨ad, e, fun j hj => ?_⟩
        obtain ⟨ad', e', h1, h2⟩ := P.at_T35 hr0 (j : Int) (by omega) (by omega)
        obtain rfl : ad = ad' := by rw [e] at e'; injection e'
        exact ⟨h1, h2⟩)
      (fun h0 => by
        obtain ⟨ad, e, _⟩ := P.at_T35 hr1 0 (by omega) (by omega)
        refine ⟨ad, e, fun j hj => ?_⟩
        obtain ⟨ad', e', h1, h2⟩ := P.at_T35 hr1 (j : Int) (by omega) (by omega)
        obtain rfl : ad = ad' := by rw [e] at e'; injection e'
        exact ⟨h1, h2⟩)
    rw [allAt_zip P.z35 attrEqB l0 l1 hl] at C
    have hA := Aside0.mk (show attrsEqB l0 l1 = (List.zipWith attrEqB l0 l1).all id from by unfold attrsEqB; rw [decide_eq_true hl]; rfl)
    rw [hA.out]
    clear hr0 hr1
    rw [hl] at C ⊢
    generalize (List.zipWith attrEqB l0 l1).all id = q at C ⊢
    clear hA hsz hc0 hc1
    generalize l1.length = n at C ⊢
    clear hl
    go_enter Tryd.func18, Tryd.ntmps18
    go_wp2_with (go_at_call 28; refine C.mono ?_; rintro e w' ⟨rfl, hb'⟩)
    go_ret
    exact ⟨rfl, hb'⟩
  · have hA := Aside0.mk (show attrsEqB l0 l1 = false from by unfold attrsEqB; rw [decide_eq_false hl]; rfl)
    rw [hA.out]
    have hne : ((l0.length : Int) != (l1.length : Int)) = true := by simp; omega
    have C : Calls Tryd.prog 28 #[.slice A0 l0.length c0, .slice A1 l1.length c1, .func (.func 29) #[] #[]] w fun e w' => e = .returned (.bool false) ∧ Below w.heap.size w w' := by
      clear hr0 hr1 hA
      go_enter Tryd.func28, Tryd.ntmps28
      go_wp2
      go_ret
      exact ⟨rfl, Below.refl _ _⟩
    clear hr0 hr1 hA hne hl
    go_enter Tryd.func18, Tryd.ntmps18
    go_wp2_with (go_at_call 28; refine C.mono ?_; rintro e w' ⟨rfl, hb'⟩)
    go_ret
    exact ⟨rfl, hb'⟩
end Go.Proofs.YtfelfpjfjjgmoaaDoor
end
/- Lean functions for functions of the program, and that the Go code comes to their answers, where the library's variables are as Gd says. Written by a turned copy of the kit's print; Lean checks it. -/
section
namespace Go.Proofs.YtfelfpjfjjgmoaaDoor.P
open Go.RowKit Go.Proofs.YtfelfpjfjjgmoaaDoorW.PrintWords Go.Proofs.YtfelfpjfjjgmoaaDoorW.PrintLast Go.Proofs.YtfelfpjfjjgmoaaDoorW.PrintMore
attribute [local go_sem] max2_int min2_int max_two min_two max_three min_three max_four min_four   -- for this text's walks alone
set_option linter.unusedVariables false
set_option linter.unusedSimpArgs false

/-! ### cardexhelp_Token: function 12 -/
def cardexhelp_Token.f (a0_0 : Int) (a0_1 : Int) (a0_2 : ByteArray) (a0_3 : ByteArray) (l0_4 : List (S35)) (a0_5 : Bool) (a1_0 : Int) (a1_1 : Int) (a1_2 : ByteArray) (a1_3 : ByteArray) (l1_4 : List (S35)) (a1_5 : Bool) : Option (Bool) := if a0_0 = a1_0 then (if a0_1 = a1_1 then (if a0_2.toList = a1_2.toList then (if a0_3.toList = a1_3.toList then (if (a0_5 == a1_5) = true then ((G_PlainAttr.f l0_4 l1_4).bind fun t351 => (some t351)) else (some false)) else (some false)) else (some false)) else (some false)) else (some false)
set_option maxHeartbeats 8000000 in
set_option maxRecDepth 100000 in
theorem cardexhelp_Token.calls (a0_0 : Int) (a0_1 : Int) (a0_2 : ByteArray) (a0_3 : ByteArray) (A0_4 : Option Addr) (c0_4 : Nat) (l0_4 : List (S35)) (a0_5 : Bool) (a1_0 : Int) (a1_1 : Int) (a1_2 : ByteArray) (a1_3 : ByteArray) (A1_4 : Option Addr) (c1_4 : Nat) (l1_4 : List (S35)) (a1_5 : Bool) (r : Bool) (w : World) (hG_ : Gd w) (hr0_4 : Kd.C k35 w A0_4 l0_4.length l0_4) (hc0_4 : l0_4.length ≤ c0_4) (hr1_4 : Kd.C k35 w A1_4 l1_4.length l1_4) (hc1_4 : l1_4.length ≤ c1_4) (h : cardexhelp_Token.f a0_0 a0_1 a0_2 a0_3 l0_4 a0_5 a1_0 a1_1 a1_2 a1_3 l1_4 a1_5 = some r) :
    Calls Tryd.prog 12 #[.agg #[.int .i64 a0_0, .int .i64 a0_1, .string a0_2, .string a0_3, .slice A0_4 l0_4.length c0_4, .bool a0_5], .agg #[.int .i64 a1_0, .int .i64 a1_1, .string a1_2, .string a1_3, .slice A1_4 l1_4.length c1_4, .bool a1_5]] w fun e w' => e = .returned (.bool r) ∧ Below w.heap.size w w' := by
  have hu33 := Tryd.underlying33
  have HR0_4 := Aside0.mk hr0_4
  have HC0_4 := Aside0.mk hc0_4
  clear hr0_4 hc0_4
  have HR1_4 := Aside0.mk hr1_4
  have HC1_4 := Aside0.mk hc1_4
  clear hr1_4 hc1_4
  have HB := Aside0.mk (Below.refl w.heap.size w)
  have HG := Aside0.mk hG_
  clear hG_
  have H : (if a0_0 = a1_0 then (if a0_1 = a1_1 then (if a0_2.toList = a1_2.toList then (if a0_3.toList = a1_3.toList then (if (a0_5 == a1_5) = true then ((G_PlainAttr.f l0_4 l1_4).bind fun t351 => (some t351)) else (some false)) else (some false)) else (some false)) else (some false)) else (some false)) = some r := h
  clear h
  by_cases c3 : a0_0 = a1_0
  · rw [if_pos c3] at H
    have c3b0 : (a0_0 == a1_0) = true := beq_iff_eq.mpr c3
    have c3b1 : (a0_0 != a1_0) = false := bne_eq_false_iff_eq.mpr c3
    clear c3
    by_cases c4 : a0_1 = a1_1
    · rw [if_pos c4] at H
      have c4b0 : (a0_1 == a1_1) = true := beq_iff_eq.mpr c4
      have c4b1 : (a0_1 != a1_1) = false := bne_eq_false_iff_eq.mpr c4
      clear c4
      by_cases c5 : a0_2.toList = a1_2.toList
      · rw [if_pos c5] at H
        have c5b0 : (a0_2.toList == a1_2.toList) = true := beq_iff_eq.mpr c5
        have c5b1 : (a0_2.toList != a1_2.toList) = false := bne_eq_false_iff_eq.mpr c5
        clear c5
        by_cases c6 : a0_3.toList = a1_3.toList
        · rw [if_pos c6] at H
          have c6b0 : (a0_3.toList == a1_3.toList) = true := beq_iff_eq.mpr c6
          have c6b1 : (a0_3.toList != a1_3.toList) = false := bne_eq_false_iff_eq.mpr c6
          clear c6
          by_cases c7 : (a0_5 == a1_5) = true
          · rw [if_pos c7] at H
            have c7b0 : (a0_5 == a1_5) = true := c7
            (try (have c7b1 : decide (a0_5 = a1_5) = true := by simpa using c7))
            (try (have c7b2 : (a0_5 == a1_5) = true := by simpa using c7))
            clear c7
            replace H := Option.bind_eq_some_iff.mp H
            obtain ⟨t351, A80, H⟩ := H
            replace H : (some t351) = some r := H
            have A8 := Aside0.mk A80
            clear A80
            obtain rfl := Option.some.inj H
            go_enter Tryd.func12, Tryd.ntmps12
            go_wp2_with (first | ((with_reducible refine gate_dst (N := 2) rfl ?_); refine box_event ?hg (N := 2) ?hd (cs := #[.int .i64 a0_0, .int .i64 a0_1, .string a0_2, .string a0_3, .slice A0_4 l0_4.length c0_4, .bool a0_5]) (t := 33) ?hr ?_; (case hd => rfl); (case hg => rfl); (case hr => first | (go_simp; done) | (go_simp; rfl)); intro gb349 hg w9 hbox hb; have n0_ := Aside0.mk (below_step (by repeat (first | (with_reducible first | exact HB.out | apply below_alloc | apply pw_below_drewN | apply below_drew1) | exact HB.out)) hb); have n1_ := Aside0.mk (hbox); have n2_ := Aside0.mk ((by rw [hg]; exact (below_size (by repeat (first | (with_reducible first | exact HB.out | apply below_alloc | apply pw_below_drewN | apply below_drew1) | exact HB.out))) : w.heap.size ≤ gb349)); have n3_ := Aside0.mk ((by rw [hg]; exact (below_size (by repeat (first | (with_reducible first | exact HB.out | apply below_alloc | apply pw_below_drewN | apply below_drew1) | exact HB.out))) : w.heap.size ≤ gb349)); clear HB; have HB := n0_; have BK349 := n1_; have GW349 := n2_; have GE349 := n3_; clear n0_ n1_ n2_ n3_; clear hb hbox hg) | ((with_reducible refine gate_dst (N := 3) rfl ?_); refine box_event ?hg (N := 3) ?hd (cs := #[.int .i64 a1_0, .int .i64 a1_1, .string a1_2, .string a1_3, .slice A1_4 l1_4.length c1_4, .bool a1_5]) (t := 33) ?hr ?_; (case hd => rfl); (case hg => rfl); (case hr => first | (go_simp; done) | (go_simp; rfl)); intro gb350 hg w10 hbox hb; have n0_ := Aside0.mk (blk_below (g := gb349) (o := .cells #[.int .i64 a0_0, .int .i64 a0_1, .string a0_2, .string a0_3, .slice A0_4 l0_4.length c0_4, .bool a0_5] 33 (0, 0)) (by (with_reducible repeat (first | refine blk_drewN ?_ _ | refine blk_drew ?_ | refine blk_alloc ?_ _)); exact BK349.out) hb); have n1_ := Aside0.mk (below_step (by repeat (first | (with_reducible first | exact HB.out | apply below_alloc | apply pw_below_drewN | apply below_drew1 | refine below_set ?_ GE349.out) | exact HB.out)) hb); have n2_ := Aside0.mk (hbox); have n3_ := Aside0.mk ((by rw [hg]; exact (below_size (by repeat (first | (with_reducible first | exact HB.out | apply below_alloc | apply pw_below_drewN | apply below_drew1 | refine below_set ?_ GE349.out) | exact HB.out))) : w.heap.size ≤ gb350)); have n4_ := Aside0.mk ((by rw [hg]; exact (below_size (by repeat (first | (with_reducible first | exact HB.out | apply below_alloc | apply pw_below_drewN | apply below_drew1 | refine below_set ?_ GE349.out) | exact HB.out))) : w.heap.size ≤ gb350)); have n5_ := Aside0.mk ((by rw [hg]; exact Nat.ne_of_lt (blk_lt (g := gb349) (o := .cells #[.int .i64 a0_0, .int .i64 a0_1, .string a0_2, .string a0_3, .slice A0_4 l0_4.length c0_4, .bool a0_5] 33 (0, 0)) (by (with_reducible repeat (first | refine blk_drewN ?_ _ | refine blk_drew ?_ | refine blk_alloc ?_ _)); exact BK349.out)) : gb349 ≠ gb350)); have n6_ := Aside0.mk ((by rw [hg]; exact Nat.ne_of_gt (blk_lt (g := gb349) (o := .cells #[.int .i64 a0_0, .int .i64 a0_1, .string a0_2, .string a0_3, .slice A0_4 l0_4.length c0_4, .bool a0_5] 33 (0, 0)) (by (with_reducible repeat (first | refine blk_drewN ?_ _ | refine blk_drew ?_ | refine blk_alloc ?_ _)); exact BK349.out)) : gb350 ≠ gb349)); clear BK349; clear HB; have BK349 := n0_; have HB := n1_; have BK350 := n2_; have GW350 := n3_; have GE350 := n4_; have NB349_350 := n5_; have NB350_349 := n6_; clear n0_ n1_ n2_ n3_ n4_ n5_ n6_; clear hb hbox hg; have hnb11 := NB349_350.out; have hnc11 := NB350_349.out; have hcz12_0 : w10.cell? ⟨gb349, 0, none⟩ = some (.int .i64 a0_0) := (blk_cell BK349.out 0).trans rfl; have hcz12_1 : w10.cell? ⟨gb349, 1, none⟩ = some (.int .i64 a0_1) := (blk_cell BK349.out 1).trans rfl; have hcz12_2 : w10.cell? ⟨gb349, 2, none⟩ = some (.string a0_2) := (blk_cell BK349.out 2).trans rfl; have hcz12_3 : w10.cell? ⟨gb349, 3, none⟩ = some (.string a0_3) := (blk_cell BK349.out 3).trans rfl; have hcz12_4 : w10.cell? ⟨gb349, 4, none⟩ = some (.slice A0_4 l0_4.length c0_4) := (blk_cell BK349.out 4).trans rfl; have hcz12_5 : w10.cell? ⟨gb349, 5, none⟩ = some (.bool a0_5) := (blk_cell BK349.out 5).trans rfl; have hfz12_0 := blk_frozen BK349.out 0; have hfz12_1 := blk_frozen BK349.out 1; have hfz12_2 := blk_frozen BK349.out 2; have hfz12_3 := blk_frozen BK349.out 3; have hfz12_4 := blk_frozen BK349.out 4; have hfz12_5 := blk_frozen BK349.out 5; have hcz13_0 : w10.cell? ⟨gb350, 0, none⟩ = some (.int .i64 a1_0) := (blk_cell BK350.out 0).trans rfl; have hcz13_1 : w10.cell? ⟨gb350, 1, none⟩ = some (.int .i64 a1_1) := (blk_cell BK350.out 1).trans rfl; have hcz13_2 : w10.cell? ⟨gb350, 2, none⟩ = some (.string a1_2) := (blk_cell BK350.out 2).trans rfl; have hcz13_3 : w10.cell? ⟨gb350, 3, none⟩ = some (.string a1_3) := (blk_cell BK350.out 3).trans rfl; have hcz13_4 : w10.cell? ⟨gb350, 4, none⟩ = some (.slice A1_4 l1_4.length c1_4) := (blk_cell BK350.out 4).trans rfl; have hcz13_5 : w10.cell? ⟨gb350, 5, none⟩ = some (.bool a1_5) := (blk_cell BK350.out 5).trans rfl; have hfz13_0 := blk_frozen BK350.out 0; have hfz13_1 := blk_frozen BK350.out 1; have hfz13_2 := blk_frozen BK350.out 2; have hfz13_3 := blk_frozen BK350.out 3; have hfz13_4 := blk_frozen BK350.out 4; have hfz13_5 := blk_frozen BK350.out 5) | (go_at_call 18; (with_reducible refine (G_PlainAttr.calls _ _ l0_4 _ _ l1_4 t351 _ ?side5 ?side1 ?side2 ?side3 ?side4 A8.out).mono ?_); (case side1 => repeat (first | exact (Kd.C_below HR0_4.out HB.out) | (with_reducible refine Kd.C_alloc ?_ _) | (with_reducible refine Kd.C_drewN ?_ _) | (with_reducible refine Kd.C_drew ?_))); (case side2 => exact HC0_4.out); (case side3 => repeat (first | exact (Kd.C_below HR1_4.out HB.out) | (with_reducible refine Kd.C_alloc ?_ _) | (with_reducible refine Kd.C_drewN ?_ _) | (with_reducible refine Kd.C_drew ?_))); (case side4 => exact HC1_4.out); (case side5 => first | exact HG.out | exact Gd.drewN HG.out _ | exact Gd.drew HG.out | exact Gd.below HG.out (by repeat (first | (with_reducible first | exact HB.out | apply below_alloc | apply pw_below_drewN | apply below_drew1 | refine below_set ?_ GE349.out | refine below_set ?_ GE350.out) | exact HB.out))); rintro e w14 ⟨rfl, hb⟩; have n0_ := Aside0.mk (blk_below (g := gb349) (o := .cells #[.int .i64 a0_0, .int .i64 a0_1, .string a0_2, .string a0_3, .slice A0_4 l0_4.length c0_4, .bool a0_5] 33 (0, 0)) (by (with_reducible repeat (first | refine blk_drewN ?_ _ | refine blk_drew ?_ | refine blk_alloc ?_ _)); exact BK349.out) hb); have n1_ := Aside0.mk (blk_below (g := gb350) (o := .cells #[.int .i64 a1_0, .int .i64 a1_1, .string a1_2, .string a1_3, .slice A1_4 l1_4.length c1_4, .bool a1_5] 33 (0, 0)) (by (with_reducible repeat (first | refine blk_drewN ?_ _ | refine blk_drew ?_ | refine blk_alloc ?_ _)); exact BK350.out) hb); have n2_ := Aside0.mk (below_step (by repeat (first | (with_reducible first | exact HB.out | apply below_alloc | apply pw_below_drewN | apply below_drew1 | refine below_set ?_ GE349.out | refine below_set ?_ GE350.out) | exact HB.out)) hb); clear BK349; clear BK350; clear HB; have BK349 := n0_; have BK350 := n1_; have HB := n2_; clear n0_ n1_ n2_; (try clear hb); (try clear hb2); (try clear hk); (try clear hi)))
            go_ret
            exact ⟨by first | rfl | (simp [errW_none, errW_some] <;> rfl) | (simp [*, errW_none, errW_some] <;> rfl), by repeat (first | (with_reducible first | exact HB.out | apply below_alloc | apply pw_below_drewN | apply below_drew1 | refine below_set ?_ GE349.out | refine below_set ?_ GE350.out) | exact HB.out)⟩
          · rw [if_neg c7] at H
            have c7b0 : (a0_5 == a1_5) = false := by simpa using c7
            (try (have c7b1 : decide (a0_5 = a1_5) = false := by simpa using c7))
            (try (have c7b2 : (a0_5 == a1_5) = false := by simpa using c7))
            (try (have c7b3 : ¬ (a0_5 = a1_5) := by simpa using c7))
            clear c7
            obtain rfl := Option.some.inj H
            go_enter Tryd.func12, Tryd.ntmps12
            go_wp2_with (first | ((with_reducible refine gate_dst (N := 2) rfl ?_); refine box_event ?hg (N := 2) ?hd (cs := #[.int .i64 a0_0, .int .i64 a0_1, .string a0_2, .string a0_3, .slice A0_4 l0_4.length c0_4, .bool a0_5]) (t := 33) ?hr ?_; (case hd => rfl); (case hg => rfl); (case hr => first | (go_simp; done) | (go_simp; rfl)); intro gb349 hg w15 hbox hb; have n0_ := Aside0.mk (below_step (by repeat (first | (with_reducible first | exact HB.out | apply below_alloc | apply pw_below_drewN | apply below_drew1) | exact HB.out)) hb); have n1_ := Aside0.mk (hbox); have n2_ := Aside0.mk ((by rw [hg]; exact (below_size (by repeat (first | (with_reducible first | exact HB.out | apply below_alloc | apply pw_below_drewN | apply below_drew1) | exact HB.out))) : w.heap.size ≤ gb349)); have n3_ := Aside0.mk ((by rw [hg]; exact (below_size (by repeat (first | (with_reducible first | exact HB.out | apply below_alloc | apply pw_below_drewN | apply below_drew1) | exact HB.out))) : w.heap.size ≤ gb349)); clear HB; have HB := n0_; have BK349 := n1_; have GW349 := n2_; have GE349 := n3_; clear n0_ n1_ n2_ n3_; clear hb hbox hg) | ((with_reducible refine gate_dst (N := 3) rfl ?_); refine box_event ?hg (N := 3) ?hd (cs := #[.int .i64 a1_0, .int .i64 a1_1, .string a1_2, .string a1_3, .slice A1_4 l1_4.length c1_4, .bool a1_5]) (t := 33) ?hr ?_; (case hd => rfl); (case hg => rfl); (case hr => first | (go_simp; done) | (go_simp; rfl)); intro gb350 hg w16 hbox hb; have n0_ := Aside0.mk (blk_below (g := gb349) (o := .cells #[.int .i64 a0_0, .int .i64 a0_1, .string a0_2, .string a0_3, .slice A0_4 l0_4.length c0_4, .bool a0_5] 33 (0, 0)) (by (with_reducible repeat (first | refine blk_drewN ?_ _ | refine blk_drew ?_ | refine blk_alloc ?_ _)); exact BK349.out) hb); have n1_ := Aside0.mk (below_step (by repeat (first | (with_reducible first | exact HB.out | apply below_alloc | apply pw_below_drewN | apply below_drew1 | refine below_set ?_ GE349.out) | exact HB.out)) hb); have n2_ := Aside0.mk (hbox); have n3_ := Aside0.mk ((by rw [hg]; exact (below_size (by repeat (first | (with_reducible first | exact HB.out | apply below_alloc | apply pw_below_drewN | apply below_drew1 | refine below_set ?_ GE349.out) | exact HB.out))) : w.heap.size ≤ gb350)); have n4_ := Aside0.mk ((by rw [hg]; exact (below_size (by repeat (first | (with_reducible first | exact HB.out | apply below_alloc | apply pw_below_drewN | apply below_drew1 | refine below_set ?_ GE349.out) | exact HB.out))) : w.heap.size ≤ gb350)); have n5_ := Aside0.mk ((by rw [hg]; exact Nat.ne_of_lt (blk_lt (g := gb349) (o := .cells #[.int .i64 a0_0, .int .i64 a0_1, .string a0_2, .string a0_3, .slice A0_4 l0_4.length c0_4, .bool a0_5] 33 (0, 0)) (by (with_reducible repeat (first | refine blk_drewN ?_ _ | refine blk_drew ?_ | refine blk_alloc ?_ _)); exact BK349.out)) : gb349 ≠ gb350)); have n6_ := Aside0.mk ((by rw [hg]; exact Nat.ne_of_gt (blk_lt (g := gb349) (o := .cells #[.int .i64 a0_0, .int .i64 a0_1, .string a0_2, .string a0_3, .slice A0_4 l0_4.length c0_4, .bool a0_5] 33 (0, 0)) (by (with_reducible repeat (first | refine blk_drewN ?_ _ | refine blk_drew ?_ | refine blk_alloc ?_ _)); exact BK349.out)) : gb350 ≠ gb349)); clear BK349; clear HB; have BK349 := n0_; have HB := n1_; have BK350 := n2_; have GW350 := n3_; have GE350 := n4_; have NB349_350 := n5_; have NB350_349 := n6_; clear n0_ n1_ n2_ n3_ n4_ n5_ n6_; clear hb hbox hg; have hnb17 := NB349_350.out; have hnc17 := NB350_349.out; have hcz18_0 : w16.cell? ⟨gb349, 0, none⟩ = some (.int .i64 a0_0) := (blk_cell BK349.out 0).trans rfl; have hcz18_1 : w16.cell? ⟨gb349, 1, none⟩ = some (.int .i64 a0_1) := (blk_cell BK349.out 1).trans rfl; have hcz18_2 : w16.cell? ⟨gb349, 2, none⟩ = some (.string a0_2) := (blk_cell BK349.out 2).trans rfl; have hcz18_3 : w16.cell? ⟨gb349, 3, none⟩ = some (.string a0_3) := (blk_cell BK349.out 3).trans rfl; have hcz18_4 : w16.cell? ⟨gb349, 4, none⟩ = some (.slice A0_4 l0_4.length c0_4) := (blk_cell BK349.out 4).trans rfl; have hcz18_5 : w16.cell? ⟨gb349, 5, none⟩ = some (.bool a0_5) := (blk_cell BK349.out 5).trans rfl; have hfz18_0 := blk_frozen BK349.out 0; have hfz18_1 := blk_frozen BK349.out 1; have hfz18_2 := blk_frozen BK349.out 2; have hfz18_3 := blk_frozen BK349.out 3; have hfz18_4 := blk_frozen BK349.out 4; have hfz18_5 := blk_frozen BK349.out 5; have hcz19_0 : w16.cell? ⟨gb350, 0, none⟩ = some (.int .i64 a1_0) := (blk_cell BK350.out 0).trans rfl; have hcz19_1 : w16.cell? ⟨gb350, 1, none⟩ = some (.int .i64 a1_1) := (blk_cell BK350.out 1).trans rfl; have hcz19_2 : w16.cell? ⟨gb350, 2, none⟩ = some (.string a1_2) := (blk_cell BK350.out 2).trans rfl; have hcz19_3 : w16.cell? ⟨gb350, 3, none⟩ = some (.string a1_3) := (blk_cell BK350.out 3).trans rfl; have hcz19_4 : w16.cell? ⟨gb350, 4, none⟩ = some (.slice A1_4 l1_4.length c1_4) := (blk_cell BK350.out 4).trans rfl; have hcz19_5 : w16.cell? ⟨gb350, 5, none⟩ = some (.bool a1_5) := (blk_cell BK350.out 5).trans rfl; have hfz19_0 := blk_frozen BK350.out 0; have hfz19_1 := blk_frozen BK350.out 1; have hfz19_2 := blk_frozen BK350.out 2; have hfz19_3 := blk_frozen BK350.out 3; have hfz19_4 := blk_frozen BK350.out 4; have hfz19_5 := blk_frozen BK350.out 5))
            go_ret
            exact ⟨by first | rfl | (simp [errW_none, errW_some] <;> rfl) | (simp [*, errW_none, errW_some] <;> rfl), by repeat (first | (with_reducible first | exact HB.out | apply below_alloc | apply pw_below_drewN | apply below_drew1 | refine below_set ?_ GE349.out | refine below_set ?_ GE350.out) | exact HB.out)⟩
        · rw [if_neg c6] at H
          have c6b0 : (a0_3.toList == a1_3.toList) = false := beq_eq_false_iff_ne.mpr c6
          have c6b1 : (a0_3.toList != a1_3.toList) = true := bne_iff_ne.mpr c6
          obtain rfl := Option.some.inj H
          go_enter Tryd.func12, Tryd.ntmps12
          go_wp2_with (first | ((with_reducible refine gate_dst (N := 2) rfl ?_); refine box_event ?hg (N := 2) ?hd (cs := #[.int .i64 a0_0, .int .i64 a0_1, .string a0_2, .string a0_3, .slice A0_4 l0_4.length c0_4, .bool a0_5]) (t := 33) ?hr ?_; (case hd => rfl); (case hg => rfl); (case hr => first | (go_simp; done) | (go_simp; rfl)); intro gb349 hg w20 hbox hb; have n0_ := Aside0.mk (below_step (by repeat (first | (with_reducible first | exact HB.out | apply below_alloc | apply pw_below_drewN | apply below_drew1) | exact HB.out)) hb); have n1_ := Aside0.mk (hbox); have n2_ := Aside0.mk ((by rw [hg]; exact (below_size (by repeat (first | (with_reducible first | exact HB.out | apply below_alloc | apply pw_below_drewN | apply below_drew1) | exact HB.out))) : w.heap.size ≤ gb349)); have n3_ := Aside0.mk ((by rw [hg]; exact (below_size (by repeat (first | (with_reducible first | exact HB.out | apply below_alloc | apply pw_below_drewN | apply below_drew1) | exact HB.out))) : w.heap.size ≤ gb349)); clear HB; have HB := n0_; have BK349 := n1_; have GW349 := n2_; have GE349 := n3_; clear n0_ n1_ n2_ n3_; clear hb hbox hg) | ((with_reducible refine gate_dst (N := 3) rfl ?_); refine box_event ?hg (N := 3) ?hd (cs := #[.int .i64 a1_0, .int .i64 a1_1, .string a1_2, .string a1_3, .slice A1_4 l1_4.length c1_4, .bool a1_5]) (t := 33) ?hr ?_; (case hd => rfl); (case hg => rfl); (case hr => first | (go_simp; done) | (go_simp; rfl)); intro gb350 hg w21 hbox hb; have n0_ := Aside0.mk (blk_below (g := gb349) (o := .cells #[.int .i64 a0_0, .int .i64 a0_1, .string a0_2, .string a0_3, .slice A0_4 l0_4.length c0_4, .bool a0_5] 33 (0, 0)) (by (with_reducible repeat (first | refine blk_drewN ?_ _ | refine blk_drew ?_ | refine blk_alloc ?_ _)); exact BK349.out) hb); have n1_ := Aside0.mk (below_step (by repeat (first | (with_reducible first | exact HB.out | apply below_alloc | apply pw_below_drewN | apply below_drew1 | refine below_set ?_ GE349.out) | exact HB.out)) hb); have n2_ := Aside0.mk (hbox); have n3_ := Aside0.mk ((by rw [hg]; exact (below_size (by repeat (first | (with_reducible first | exact HB.out | apply below_alloc | apply pw_below_drewN | apply below_drew1 | refine below_set ?_ GE349.out) | exact HB.out))) : w.heap.size ≤ gb350)); have n4_ := Aside0.mk ((by rw [hg]; exact (below_size (by repeat (first | (with_reducible first | exact HB.out | apply below_alloc | apply pw_below_drewN | apply below_drew1 | refine below_set ?_ GE349.out) | exact HB.out))) : w.heap.size ≤ gb350)); have n5_ := Aside0.mk ((by rw [hg]; exact Nat.ne_of_lt (blk_lt (g := gb349) (o := .cells #[.int .i64 a0_0, .int .i64 a0_1, .string a0_2, .string a0_3, .slice A0_4 l0_4.length c0_4, .bool a0_5] 33 (0, 0)) (by (with_reducible repeat (first | refine blk_drewN ?_ _ | refine blk_drew ?_ | refine blk_alloc ?_ _)); exact BK349.out)) : gb349 ≠ gb350)); have n6_ := Aside0.mk ((by rw [hg]; exact Nat.ne_of_gt (blk_lt (g := gb349) (o := .cells #[.int .i64 a0_0, .int .i64 a0_1, .string a0_2, .string a0_3, .slice A0_4 l0_4.length c0_4, .bool a0_5] 33 (0, 0)) (by (with_reducible repeat (first | refine blk_drewN ?_ _ | refine blk_drew ?_ | refine blk_alloc ?_ _)); exact BK349.out)) : gb350 ≠ gb349)); clear BK349; clear HB; have BK349 := n0_; have HB := n1_; have BK350 := n2_; have GW350 := n3_; have GE350 := n4_; have NB349_350 := n5_; have NB350_349 := n6_; clear n0_ n1_ n2_ n3_ n4_ n5_ n6_; clear hb hbox hg; have hnb22 := NB349_350.out; have hnc22 := NB350_349.out; have hcz23_0 : w21.cell? ⟨gb349, 0, none⟩ = some (.int .i64 a0_0) := (blk_cell BK349.out 0).trans rfl; have hcz23_1 : w21.cell? ⟨gb349, 1, none⟩ = some (.int .i64 a0_1) := (blk_cell BK349.out 1).trans rfl; have hcz23_2 : w21.cell? ⟨gb349, 2, none⟩ = some (.string a0_2) := (blk_cell BK349.out 2).trans rfl; have hcz23_3 : w21.cell? ⟨gb349, 3, none⟩ = some (.string a0_3) := (blk_cell BK349.out 3).trans rfl; have hcz23_4 : w21.cell? ⟨gb349, 4, none⟩ = some (.slice A0_4 l0_4.length c0_4) := (blk_cell BK349.out 4).trans rfl; have hcz23_5 : w21.cell? ⟨gb349, 5, none⟩ = some (.bool a0_5) := (blk_cell BK349.out 5).trans rfl; have hfz23_0 := blk_frozen BK349.out 0; have hfz23_1 := blk_frozen BK349.out 1; have hfz23_2 := blk_frozen BK349.out 2; have hfz23_3 := blk_frozen BK349.out 3; have hfz23_4 := blk_frozen BK349.out 4; have hfz23_5 := blk_frozen BK349.out 5; have hcz24_0 : w21.cell? ⟨gb350, 0, none⟩ = some (.int .i64 a1_0) := (blk_cell BK350.out 0).trans rfl; have hcz24_1 : w21.cell? ⟨gb350, 1, none⟩ = some (.int .i64 a1_1) := (blk_cell BK350.out 1).trans rfl; have hcz24_2 : w21.cell? ⟨gb350, 2, none⟩ = some (.string a1_2) := (blk_cell BK350.out 2).trans rfl; have hcz24_3 : w21.cell? ⟨gb350, 3, none⟩ = some (.string a1_3) := (blk_cell BK350.out 3).trans rfl; have hcz24_4 : w21.cell? ⟨gb350, 4, none⟩ = some (.slice A1_4 l1_4.length c1_4) := (blk_cell BK350.out 4).trans rfl; have hcz24_5 : w21.cell? ⟨gb350, 5, none⟩ = some (.bool a1_5) := (blk_cell BK350.out 5).trans rfl; have hfz24_0 := blk_frozen BK350.out 0; have hfz24_1 := blk_frozen BK350.out 1; have hfz24_2 := blk_frozen BK350.out 2; have hfz24_3 := blk_frozen BK350.out 3; have hfz24_4 := blk_frozen BK350.out 4; have hfz24_5 := blk_frozen BK350.out 5))
          go_ret
          exact ⟨by first | rfl | (simp [errW_none, errW_some] <;> rfl) | (simp [*, errW_none, errW_some] <;> rfl), by repeat (first | (with_reducible first | exact HB.out | apply below_alloc | apply pw_below_drewN | apply below_drew1 | refine below_set ?_ GE349.out | refine below_set ?_ GE350.out) | exact HB.out)⟩
      · rw [if_neg c5] at H
        have c5b0 : (a0_2.toList == a1_2.toList) = false := beq_eq_false_iff_ne.mpr c5
        have c5b1 : (a0_2.toList != a1_2.toList) = true := bne_iff_ne.mpr c5
        obtain rfl := Option.some.inj H
        go_enter Tryd.func12, Tryd.ntmps12
        go_wp2_with (first | ((with_reducible refine gate_dst (N := 2) rfl ?_); refine box_event ?hg (N := 2) ?hd (cs := #[.int .i64 a0_0, .int .i64 a0_1, .string a0_2, .string a0_3, .slice A0_4 l0_4.length c0_4, .bool a0_5]) (t := 33) ?hr ?_; (case hd => rfl); (case hg => rfl); (case hr => first | (go_simp; done) | (go_simp; rfl)); intro gb349 hg w25 hbox hb; have n0_ := Aside0.mk (below_step (by repeat (first | (with_reducible first | exact HB.out | apply below_alloc | apply pw_below_drewN | apply below_drew1) | exact HB.out)) hb); have n1_ := Aside0.mk (hbox); have n2_ := Aside0.mk ((by rw [hg]; exact (below_size (by repeat (first | (with_reducible first | exact HB.out | apply below_alloc | apply pw_below_drewN | apply below_drew1) | exact HB.out))) : w.heap.size ≤ gb349)); have n3_ := Aside0.mk ((by rw [hg]; exact (below_size (by repeat (first | (with_reducible first | exact HB.out | apply below_alloc | apply pw_below_drewN | apply below_drew1) | exact HB.out))) : w.heap.size ≤ gb349)); clear HB; have HB := n0_; have BK349 := n1_; have GW349 := n2_; have GE349 := n3_; clear n0_ n1_ n2_ n3_; clear hb hbox hg) | ((with_reducible refine gate_dst (N := 3) rfl ?_); refine box_event ?hg (N := 3) ?hd (cs := #[.int .i64 a1_0, .int .i64 a1_1, .string a1_2, .string a1_3, .slice A1_4 l1_4.length c1_4, .bool a1_5]) (t := 33) ?hr ?_; (case hd => rfl); (case hg => rfl); (case hr => first | (go_simp; done) | (go_simp; rfl)); intro gb350 hg w26 hbox hb; have n0_ := Aside0.mk (blk_below (g := gb349) (o := .cells #[.int .i64 a0_0, .int .i64 a0_1, .string a0_2, .string a0_3, .slice A0_4 l0_4.length c0_4, .bool a0_5] 33 (0, 0)) (by (with_reducible repeat (first | refine blk_drewN ?_ _ | refine blk_drew ?_ | refine blk_alloc ?_ _)); exact BK349.out) hb); have n1_ := Aside0.mk (below_step (by repeat (first | (with_reducible first | exact HB.out | apply below_alloc | apply pw_below_drewN | apply below_drew1 | refine below_set ?_ GE349.out) | exact HB.out)) hb); have n2_ := Aside0.mk (hbox); have n3_ := Aside0.mk ((by rw [hg]; exact (below_size (by repeat (first | (with_reducible first | exact HB.out | apply below_alloc | apply pw_below_drewN | apply below_drew1 | refine below_set ?_ GE349.out) | exact HB.out))) : w.heap.size ≤ gb350)); have n4_ := Aside0.mk ((by rw [hg]; exact (below_size (by repeat (first | (with_reducible first | exact HB.out | apply below_alloc | apply pw_below_drewN | apply below_drew1 | refine below_set ?_ GE349.out) | exact HB.out))) : w.heap.size ≤ gb350)); have n5_ := Aside0.mk ((by rw [hg]; exact Nat.ne_of_lt (blk_lt (g := gb349) (o := .cells #[.int .i64 a0_0, .int .i64 a0_1, .string a0_2, .string a0_3, .slice A0_4 l0_4.length c0_4, .bool a0_5] 33 (0, 0)) (by (with_reducible repeat (first | refine blk_drewN ?_ _ | refine blk_drew ?_ | refine blk_alloc ?_ _)); exact BK349.out)) : gb349 ≠ gb350)); have n6_ := Aside0.mk ((by rw [hg]; exact Nat.ne_of_gt (blk_lt (g := gb349) (o := .cells #[.int .i64 a0_0, .int .i64 a0_1, .string a0_2, .string a0_3, .slice A0_4 l0_4.length c0_4, .bool a0_5] 33 (0, 0)) (by (with_reducible repeat (first | refine blk_drewN ?_ _ | refine blk_drew ?_ | refine blk_alloc ?_ _)); exact BK349.out)) : gb350 ≠ gb349)); clear BK349; clear HB; have BK349 := n0_; have HB := n1_; have BK350 := n2_; have GW350 := n3_; have GE350 := n4_; have NB349_350 := n5_; have NB350_349 := n6_; clear n0_ n1_ n2_ n3_ n4_ n5_ n6_; clear hb hbox hg; have hnb27 := NB349_350.out; have hnc27 := NB350_349.out; have hcz28_0 : w26.cell? ⟨gb349, 0, none⟩ = some (.int .i64 a0_0) := (blk_cell BK349.out 0).trans rfl; have hcz28_1 : w26.cell? ⟨gb349, 1, none⟩ = some (.int .i64 a0_1) := (blk_cell BK349.out 1).trans rfl; have hcz28_2 : w26.cell? ⟨gb349, 2, none⟩ = some (.string a0_2) := (blk_cell BK349.out 2).trans rfl; have hcz28_3 : w26.cell? ⟨gb349, 3, none⟩ = some (.string a0_3) := (blk_cell BK349.out 3).trans rfl; have hcz28_4 : w26.cell? ⟨gb349, 4, none⟩ = some (.slice A0_4 l0_4.length c0_4) := (blk_cell BK349.out 4).trans rfl; have hcz28_5 : w26.cell? ⟨gb349, 5, none⟩ = some (.bool a0_5) := (blk_cell BK349.out 5).trans rfl; have hfz28_0 := blk_frozen BK349.out 0; have hfz28_1 := blk_frozen BK349.out 1; have hfz28_2 := blk_frozen BK349.out 2; have hfz28_3 := blk_frozen BK349.out 3; have hfz28_4 := blk_frozen BK349.out 4; have hfz28_5 := blk_frozen BK349.out 5; have hcz29_0 : w26.cell? ⟨gb350, 0, none⟩ = some (.int .i64 a1_0) := (blk_cell BK350.out 0).trans rfl; have hcz29_1 : w26.cell? ⟨gb350, 1, none⟩ = some (.int .i64 a1_1) := (blk_cell BK350.out 1).trans rfl; have hcz29_2 : w26.cell? ⟨gb350, 2, none⟩ = some (.string a1_2) := (blk_cell BK350.out 2).trans rfl; have hcz29_3 : w26.cell? ⟨gb350, 3, none⟩ = some (.string a1_3) := (blk_cell BK350.out 3).trans rfl; have hcz29_4 : w26.cell? ⟨gb350, 4, none⟩ = some (.slice A1_4 l1_4.length c1_4) := (blk_cell BK350.out 4).trans rfl; have hcz29_5 : w26.cell? ⟨gb350, 5, none⟩ = some (.bool a1_5) := (blk_cell BK350.out 5).trans rfl; have hfz29_0 := blk_frozen BK350.out 0; have hfz29_1 := blk_frozen BK350.out 1; have hfz29_2 := blk_frozen BK350.out 2; have hfz29_3 := blk_frozen BK350.out 3; have hfz29_4 := blk_frozen BK350.out 4; have hfz29_5 := blk_frozen BK350.out 5))
        go_ret
        exact ⟨by first | rfl | (simp [errW_none, errW_some] <;> rfl) | (simp [*, errW_none, errW_some] <;> rfl), by repeat (first | (with_reducible first | exact HB.out | apply below_alloc | apply pw_below_drewN | apply below_drew1 | refine below_set ?_ GE349.out | refine below_set ?_ GE350.out) | exact HB.out)⟩
    · rw [if_neg c4] at H
      have c4b0 : (a0_1 == a1_1) = false := beq_eq_false_iff_ne.mpr c4
      have c4b1 : (a0_1 != a1_1) = true := bne_iff_ne.mpr c4
      obtain rfl := Option.some.inj H
      go_enter Tryd.func12, Tryd.ntmps12
      go_wp2_with (first | ((with_reducible refine gate_dst (N := 2) rfl ?_); refine box_event ?hg (N := 2) ?hd (cs := #[.int .i64 a0_0, .int .i64 a0_1, .string a0_2, .string a0_3, .slice A0_4 l0_4.length c0_4, .bool a0_5]) (t := 33) ?hr ?_; (case hd => rfl); (case hg => rfl); (case hr => first | (go_simp; done) | (go_simp; rfl)); intro gb349 hg w30 hbox hb; have n0_ := Aside0.mk (below_step (by repeat (first | (with_reducible first | exact HB.out | apply below_alloc | apply pw_below_drewN | apply below_drew1) | exact HB.out)) hb); have n1_ := Aside0.mk (hbox); have n2_ := Aside0.mk ((by rw [hg]; exact (below_size (by repeat (first | (with_reducible first | exact HB.out | apply below_alloc | apply pw_below_drewN | apply below_drew1) | exact HB.out))) : w.heap.size ≤ gb349)); have n3_ := Aside0.mk ((by rw [hg]; exact (below_size (by repeat (first | (with_reducible first | exact HB.out | apply below_alloc | apply pw_below_drewN | apply below_drew1) | exact HB.out))) : w.heap.size ≤ gb349)); clear HB; have HB := n0_; have BK349 := n1_; have GW349 := n2_; have GE349 := n3_; clear n0_ n1_ n2_ n3_; clear hb hbox hg) | ((with_reducible refine gate_dst (N := 3) rfl ?_); refine box_event ?hg (N := 3) ?hd (cs := #[.int .i64 a1_0, .int .i64 a1_1, .string a1_2, .string a1_3, .slice A1_4 l1_4.length c1_4, .bool a1_5]) (t := 33) ?hr ?_; (case hd => rfl); (case hg => rfl); (case hr => first | (go_simp; done) | (go_simp; rfl)); intro gb350 hg w31 hbox hb; have n0_ := Aside0.mk (blk_below (g := gb349) (o := .cells #[.int .i64 a0_0, .int .i64 a0_1, .string a0_2, .string a0_3, .slice A0_4 l0_4.length c0_4, .bool a0_5] 33 (0, 0)) (by (with_reducible repeat (first | refine blk_drewN ?_ _ | refine blk_drew ?_ | refine blk_alloc ?_ _)); exact BK349.out) hb); have n1_ := Aside0.mk (below_step (by repeat (first | (with_reducible first | exact HB.out | apply below_alloc | apply pw_below_drewN | apply below_drew1 | refine below_set ?_ GE349.out) | exact HB.out)) hb); have n2_ := Aside0.mk (hbox); have n3_ := Aside0.mk ((by rw [hg]; exact (below_size (by repeat (first | (with_reducible first | exact HB.out | apply below_alloc | apply pw_below_drewN | apply below_drew1 | refine below_set ?_ GE349.out) | exact HB.out))) : w.heap.size ≤ gb350)); have n4_ := Aside0.mk ((by rw [hg]; exact (below_size (by repeat (first | (with_reducible first | exact HB.out | apply below_alloc | apply pw_below_drewN | apply below_drew1 | refine below_set ?_ GE349.out) | exact HB.out))) : w.heap.size ≤ gb350)); have n5_ := Aside0.mk ((by rw [hg]; exact Nat.ne_of_lt (blk_lt (g := gb349) (o := .cells #[.int .i64 a0_0, .int .i64 a0_1, .string a0_2, .string a0_3, .slice A0_4 l0_4.length c0_4, .bool a0_5] 33 (0, 0)) (by (with_reducible repeat (first | refine blk_drewN ?_ _ | refine blk_drew ?_ | refine blk_alloc ?_ _)); exact BK349.out)) : gb349 ≠ gb350)); have n6_ := Aside0.mk ((by rw [hg]; exact Nat.ne_of_gt (blk_lt (g := gb349) (o := .cells #[.int .i64 a0_0, .int .i64 a0_1, .string a0_2, .string a0_3, .slice A0_4 l0_4.length c0_4, .bool a0_5] 33 (0, 0)) (by (with_reducible repeat (first | refine blk_drewN ?_ _ | refine blk_drew ?_ | refine blk_alloc ?_ _)); exact BK349.out)) : gb350 ≠ gb349)); clear BK349; clear HB; have BK349 := n0_; have HB := n1_; have BK350 := n2_; have GW350 := n3_; have GE350 := n4_; have NB349_350 := n5_; have NB350_349 := n6_; clear n0_ n1_ n2_ n3_ n4_ n5_ n6_; clear hb hbox hg; have hnb32 := NB349_350.out; have hnc32 := NB350_349.out; have hcz33_0 : w31.cell? ⟨gb349, 0, none⟩ = some (.int .i64 a0_0) := (blk_cell BK349.out 0).trans rfl; have hcz33_1 : w31.cell? ⟨gb349, 1, none⟩ = some (.int .i64 a0_1) := (blk_cell BK349.out 1).trans rfl; have hcz33_2 : w31.cell? ⟨gb349, 2, none⟩ = some (.string a0_2) := (blk_cell BK349.out 2).trans rfl; have hcz33_3 : w31.cell? ⟨gb349, 3, none⟩ = some (.string a0_3) := (blk_cell BK349.out 3).trans rfl; have hcz33_4 : w31.cell? ⟨gb349, 4, none⟩ = some (.slice A0_4 l0_4.length c0_4) := (blk_cell BK349.out 4).trans rfl; have hcz33_5 : w31.cell? ⟨gb349, 5, none⟩ = some (.bool a0_5) := (blk_cell BK349.out 5).trans rfl; have hfz33_0 := blk_frozen BK349.out 0; have hfz33_1 := blk_frozen BK349.out 1; have hfz33_2 := blk_frozen BK349.out 2; have hfz33_3 := blk_frozen BK349.out 3; have hfz33_4 := blk_frozen BK349.out 4; have hfz33_5 := blk_frozen BK349.out 5; have hcz34_0 : w31.cell? ⟨gb350, 0, none⟩ = some (.int .i64 a1_0) := (blk_cell BK350.out 0).trans rfl; have hcz34_1 : w31.cell? ⟨gb350, 1, none⟩ = some (.int .i64 a1_1) := (blk_cell BK350.out 1).trans rfl; have hcz34_2 : w31.cell? ⟨gb350, 2, none⟩ = some (.string a1_2) := (blk_cell BK350.out 2).trans rfl; have hcz34_3 : w31.cell? ⟨gb350, 3, none⟩ = some (.string a1_3) := (blk_cell BK350.out 3).trans rfl; have hcz34_4 : w31.cell? ⟨gb350, 4, none⟩ = some (.slice A1_4 l1_4.length c1_4) := (blk_cell BK350.out 4).trans rfl; have hcz34_5 : w31.cell? ⟨gb350, 5, none⟩ = some (.bool a1_5) := (blk_cell BK350.out 5).trans rfl; have hfz34_0 := blk_frozen BK350.out 0; have hfz34_1 := blk_frozen BK350.out 1; have hfz34_2 := blk_frozen BK350.out 2; have hfz34_3 := blk_frozen BK350.out 3; have hfz34_4 := blk_frozen BK350.out 4; have hfz34_5 := blk_frozen BK350.out 5))
      go_ret
      exact ⟨by first | rfl | (simp [errW_none, errW_some] <;> rfl) | (simp [*, errW_none, errW_some] <;> rfl), by repeat (first | (with_reducible first | exact HB.out | apply below_alloc | apply pw_below_drewN | apply below_drew1 | refine below_set ?_ GE349.out | refine below_set ?_ GE350.out) | exact HB.out)⟩
  · rw [if_neg c3] at H
    have c3b0 : (a0_0 == a1_0) = false := beq_eq_false_iff_ne.mpr c3
    have c3b1 : (a0_0 != a1_0) = true := bne_iff_ne.mpr c3
    obtain rfl := Option.some.inj H
    go_enter Tryd.func12, Tryd.ntmps12
    go_wp2_with (first | ((with_reducible refine gate_dst (N := 2) rfl ?_); refine box_event ?hg (N := 2) ?hd (cs := #[.int .i64 a0_0, .int .i64 a0_1, .string a0_2, .string a0_3, .slice A0_4 l0_4.length c0_4, .bool a0_5]) (t := 33) ?hr ?_; (case hd => rfl); (case hg => rfl); (case hr => first | (go_simp; done) | (go_simp; rfl)); intro gb349 hg w35 hbox hb; have n0_ := Aside0.mk (below_step (by repeat (first | (with_reducible first | exact HB.out | apply below_alloc | apply pw_below_drewN | apply below_drew1) | exact HB.out)) hb); have n1_ := Aside0.mk (hbox); have n2_ := Aside0.mk ((by rw [hg]; exact (below_size (by repeat (first | (with_reducible first | exact HB.out | apply below_alloc | apply pw_below_drewN | apply below_drew1) | exact HB.out))) : w.heap.size ≤ gb349)); have n3_ := Aside0.mk ((by rw [hg]; exact (below_size (by repeat (first | (with_reducible first | exact HB.out | apply below_alloc | apply pw_below_drewN | apply below_drew1) | exact HB.out))) : w.heap.size ≤ gb349)); clear HB; have HB := n0_; have BK349 := n1_; have GW349 := n2_; have GE349 := n3_; clear n0_ n1_ n2_ n3_; clear hb hbox hg) | ((with_reducible refine gate_dst (N := 3) rfl ?_); refine box_event ?hg (N := 3) ?hd (cs := #[.int .i64 a1_0, .int .i64 a1_1, .string a1_2, .string a1_3, .slice A1_4 l1_4.length c1_4, .bool a1_5]) (t := 33) ?hr ?_; (case hd => rfl); (case hg => rfl); (case hr => first | (go_simp; done) | (go_simp; rfl)); intro gb350 hg w36 hbox hb; have n0_ := Aside0.mk (blk_below (g := gb349) (o := .cells #[.int .i64 a0_0, .int .i64 a0_1, .string a0_2, .string a0_3, .slice A0_4 l0_4.length c0_4, .bool a0_5] 33 (0, 0)) (by (with_reducible repeat (first | refine blk_drewN ?_ _ | refine blk_drew ?_ | refine blk_alloc ?_ _)); exact BK349.out) hb); have n1_ := Aside0.mk (below_step (by repeat (first | (with_reducible first | exact HB.out | apply below_alloc | apply pw_below_drewN | apply below_drew1 | refine below_set ?_ GE349.out) | exact HB.out)) hb); have n2_ := Aside0.mk (hbox); have n3_ := Aside0.mk ((by rw [hg]; exact (below_size (by repeat (first | (with_reducible first | exact HB.out | apply below_alloc | apply pw_below_drewN | apply below_drew1 | refine below_set ?_ GE349.out) | exact HB.out))) : w.heap.size ≤ gb350)); have n4_ := Aside0.mk ((by rw [hg]; exact (below_size (by repeat (first | (with_reducible first | exact HB.out | apply below_alloc | apply pw_below_drewN | apply below_drew1 | refine below_set ?_ GE349.out) | exact HB.out))) : w.heap.size ≤ gb350)); have n5_ := Aside0.mk ((by rw [hg]; exact Nat.ne_of_lt (blk_lt (g := gb349) (o := .cells #[.int .i64 a0_0, .int .i64 a0_1, .string a0_2, .string a0_3, .slice A0_4 l0_4.length c0_4, .bool a0_5] 33 (0, 0)) (by (with_reducible repeat (first | refine blk_drewN ?_ _ | refine blk_drew ?_ | refine blk_alloc ?_ _)); exact BK349.out)) : gb349 ≠ gb350)); have n6_ := Aside0.mk ((by rw [hg]; exact Nat.ne_of_gt (blk_lt (g := gb349) (o := .cells #[.int .i64 a0_0, .int .i64 a0_1, .string a0_2, .string a0_3, .slice A0_4 l0_4.length c0_4, .bool a0_5] 33 (0, 0)) (by (with_reducible repeat (first | refine blk_drewN ?_ _ | refine blk_drew ?_ | refine blk_alloc ?_ _)); exact BK349.out)) : gb350 ≠ gb349)); clear BK349; clear HB; have BK349 := n0_; have HB := n1_; have BK350 := n2_; have GW350 := n3_; have GE350 := n4_; have NB349_350 := n5_; have NB350_349 := n6_; clear n0_ n1_ n2_ n3_ n4_ n5_ n6_; clear hb hbox hg; have hnb37 := NB349_350.out; have hnc37 := NB350_349.out; have hcz38_0 : w36.cell? ⟨gb349, 0, none⟩ = some (.int .i64 a0_0) := (blk_cell BK349.out 0).trans rfl; have hcz38_1 : w36.cell? ⟨gb349, 1, none⟩ = some (.int .i64 a0_1) := (blk_cell BK349.out 1).trans rfl; have hcz38_2 : w36.cell? ⟨gb349, 2, none⟩ = some (.string a0_2) := (blk_cell BK349.out 2).trans rfl; have hcz38_3 : w36.cell? ⟨gb349, 3, none⟩ = some (.string a0_3) := (blk_cell BK349.out 3).trans rfl; have hcz38_4 : w36.cell? ⟨gb349, 4, none⟩ = some (.slice A0_4 l0_4.length c0_4) := (blk_cell BK349.out 4).trans rfl; have hcz38_5 : w36.cell? ⟨gb349, 5, none⟩ = some (.bool a0_5) := (blk_cell BK349.out 5).trans rfl; have hfz38_0 := blk_frozen BK349.out 0; have hfz38_1 := blk_frozen BK349.out 1; have hfz38_2 := blk_frozen BK349.out 2; have hfz38_3 := blk_frozen BK349.out 3; have hfz38_4 := blk_frozen BK349.out 4; have hfz38_5 := blk_frozen BK349.out 5; have hcz39_0 : w36.cell? ⟨gb350, 0, none⟩ = some (.int .i64 a1_0) := (blk_cell BK350.out 0).trans rfl; have hcz39_1 : w36.cell? ⟨gb350, 1, none⟩ = some (.int .i64 a1_1) := (blk_cell BK350.out 1).trans rfl; have hcz39_2 : w36.cell? ⟨gb350, 2, none⟩ = some (.string a1_2) := (blk_cell BK350.out 2).trans rfl; have hcz39_3 : w36.cell? ⟨gb350, 3, none⟩ = some (.string a1_3) := (blk_cell BK350.out 3).trans rfl; have hcz39_4 : w36.cell? ⟨gb350, 4, none⟩ = some (.slice A1_4 l1_4.length c1_4) := (blk_cell BK350.out 4).trans rfl; have hcz39_5 : w36.cell? ⟨gb350, 5, none⟩ = some (.bool a1_5) := (blk_cell BK350.out 5).trans rfl; have hfz39_0 := blk_frozen BK350.out 0; have hfz39_1 := blk_frozen BK350.out 1; have hfz39_2 := blk_frozen BK350.out 2; have hfz39_3 := blk_frozen BK350.out 3; have hfz39_4 := blk_frozen BK350.out 4; have hfz39_5 := blk_frozen BK350.out 5))
    go_ret
    exact ⟨by first | rfl | (simp [errW_none, errW_some] <;> rfl) | (simp [*, errW_none, errW_some] <;> rfl), by repeat (first | (with_reducible first | exact HB.out | apply below_alloc | apply pw_below_drewN | apply below_drew1 | refine below_set ?_ GE349.out | refine below_set ?_ GE350.out) | exact HB.out)⟩

end Go.Proofs.YtfelfpjfjjgmoaaDoor.P
end
/- cardexhelp.Same at tokens, by cardexhelp.Token. -/
section
set_option linter.unusedVariables false
namespace Go.Proofs.YtfelfpjfjjgmoaaDoor
open Go.RowKit Go.Shelf Go.Proofs.YtfelfpjfjjgmoaaDoorW.PrintWords Go.Proofs.YtfelfpjfjjgmoaaDoorW.PrintLast

def tokEqB (t u : P.S33) : Bool := decide (t.f0 = u.f0 ∧ t.f1 = u.f1 ∧ t.f2.toList = u.f2.toList ∧ t.f3.toList = u.f3.toList ∧ t.f5 = u.f5) && attrsEqB t.f4 u.f4
theorem tokEq_f (t u : P.S33) (h : t.f4.length ≤ 9223372036854775807) : P.cardexhelp_Token.f t.f0 t.f1 t.f2 t.f3 t.f4 t.f5 u.f0 u.f1 u.f2 u.f3 u.f4 u.f5 = some (tokEqB t u) := by
  unfold P.cardexhelp_Token.f tokEqB G_PlainAttr.f
  by_cases h1 : t.f0 = u.f0
  · by_cases h2 : t.f1 = u.f1
    · by_cases h3 : t.f2.toList = u.f2.toList
      · by_cases h4 : t.f3.toList = u.f3.toList
        · by_cases h5 : t.f5 = u.f5
          · simp [h1, h2, h3, h4, h5, h]
          · simp [h1, h2, h3, h4, h5]
        · simp [h1, h2, h3, h4]
      · simp [h1, h2, h3]
    · simp [h1, h2]
  · simp [h1]
def toksEqB (l m : List P.S33) : Bool := decide (l.length = m.length) && (List.zipWith tokEqB l m).all id
def G_SameTok.f (l0 l1 : List P.S33) (a2 : Int) : Option Bool := if l0.length ≤ 9223372036854775807 then (if (l0.all fun t => decide (t.f4.length ≤ 9223372036854775807)) = true then some (toksEqB l0 l1) else none) else none
/-- Each token's attributes lie somewhere. -/
theorem tok_rows {w : World} {A : Option Addr} {l : List P.S33} (h : Kd.C P.k33 w A l.length l) : ∃ F : Nat → Option Addr × Nat, ∀ j, j < l.length → ∃ ad, A = some ad ∧
    (w.cell? (ad.add (j * 6)) = some (.int .i64 (l.getD j P.z33).f0) ∧ w.cell? ⟨(ad.add (j * 6)).block, (ad.add (j * 6)).off + 1, none⟩ = some (.int .i64 (l.getD j P.z33).f1) ∧ w.cell? ⟨(ad.add (j * 6)).block, (ad.add (j * 6)).off + 2, none⟩ = some (.string (l.getD j P.z33).f2) ∧ w.cell? ⟨(ad.add (j * 6)).block, (ad.add (j * 6)).off + 3, none⟩ = some (.string (l.getD j P.z33).f3) ∧ w.cell? ⟨(ad.add (j * 6)).block, (ad.add (j * 6)).off + 4, none⟩ = some (.slice (F j).1 (l.getD j P.z33).f4.length (F j).2) ∧ w.cell? ⟨(ad.add (j * 6)).block, (ad.add (j * 6)).off + 5, none⟩ = some (.bool (l.getD j P.z33).f5)) ∧
    (l.getD j P.z33).f4.length ≤ (F j).2 ∧ Kd.C P.k35 w (F j).1 (l.getD j P.z33).f4.length (l.getD j P.z33).f4 := by
  have H : ∀ j, j < l.length → ∃ x : Option Addr × Nat, ∃ ad, A = some ad ∧
      (w.cell? (ad.add (j * 6)) = some (.int .i64 (l.getD j P.z33).f0) ∧ w.cell? ⟨(ad.add (j * 6)).block, (ad.add (j * 6)).off + 1, none⟩ = some (.int .i64 (l.getD j P.z33).f1) ∧ w.cell? ⟨(ad.add (j * 6)).block, (ad.add (j * 6)).off + 2, none⟩ = some (.string (l.getD j P.z33).f2) ∧ w.cell? ⟨(ad.add (j * 6)).block, (ad.add (j * 6)).off + 3, none⟩ = some (.string (l.getD j P.z33).f3) ∧ w.cell? ⟨(ad.add (j * 6)).block, (ad.add (j * 6)).off + 4, none⟩ = some (.slice x.1 (l.getD j P.z33).f4.length x.2) ∧ w.cell? ⟨(ad.add (j * 6)).block, (ad.add (j * 6)).off + 5, none⟩ = some (.bool (l.getD j P.z33).f5)) ∧
      (l.getD j P.z33).f4.length ≤ x.2 ∧ Kd.C P.k35 w x.1 (l.getD j P.z33).f4.length (l.getD j P.z33).f4 := fun j hj => by
    obtain ⟨ad, A4, c4, e, h0, h1, h2, h3, h4, h5, h6, h7⟩ := P.at_T33 h (j : Int) (by omega) (by omega)
    exact ⟨(A4, c4), ad, e, ⟨h0, h1, h2, h3, h4, h5⟩, h6, h7⟩
  exact ⟨fun j => if h : j < l.length then Classical.choose (H j h) else (none, 0), fun j hj => by
    simp only [dif_pos hj]
    exact Classical.choose_spec (H j hj)⟩
theorem G_SameTok.calls (A0 : Option Addr) (c0 : Nat) (l0 : List P.S33) (A1 : Option Addr) (c1 : Nat) (l1 : List P.S33) (a2 : Int) (r : Bool) (w : World) (hG_ : Gd w) (hr0 : Kd.C P.k33 w A0 l0.length l0) (hc0 : l0.length ≤ c0) (hr1 : Kd.C P.k33 w A1 l1.length l1) (hc1 : l1.length ≤ c1) (h : G_SameTok.f l0 l1 a2 = some r) :
    Calls Tryd.prog 11 #[.slice A0 l0.length c0, .slice A1 l1.length c1, .func (.func 12) #[] #[]] w fun e w' => e = .returned (.bool r) ∧ Below w.heap.size w w' := by
  unfold G_SameTok.f at h
  split at h
  rotate_left
  · cases h
  rename_i hsz
  split at h
  rotate_left
  · cases h
  rename_i hat
  injection h with h
  subst h
  rw [List.all_eq_true] at hat
  by_cases hl : l0.length = l1.length
  · obtain ⟨F, hF⟩ := tok_rows hr0
    obtain ⟨G, hGG⟩ := tok_rows hr1
    have C := SameToken 12 (enters_of Tryd.func12 (by kernel_rfl) rfl) A0 A1 l0.length c0 c1
      (fun j => .int .i64 (l0.getD j P.z33).f0) (fun j => .int .i64 (l0.getD j P.z33).f1) (fun j => .string (l0.getD j P.z33).f2) (fun j => .string (l0.getD j P.z33).f3) (fun j => .slice (F j).1 (l0.getD j P.z33).f4.length (F j).2) (fun j => .bool (l0.getD j P.z33).f5)
      (fun j => .int .i64 (l1.getD j P.z33).f0) (fun j => .int .i64 (l1.getD j P.z33).f1) (fun j => .string (l1.getD j P.z33).f2) (fun j => .string (l1.getD j P.z33).f3) (fun j => .slice (G j).1 (l1.getD j P.z33).f4.length (G j).2) (fun j => .bool (l1.getD j P.z33).f5)
      (fun j => tokEqB (l0.getD j P.z33) (l1.getD j P.z33)) w
      (fun W j hj hb => by
        obtain ⟨_, _, _, g1, g2⟩ := hF j hj
        obtain ⟨_, _, _, g3, g4⟩ := hGG j (by omega)
        have hm : l0.getD j P.z33 ∈ l0 := by
          rw [List.getD, List.getElem?_eq_getElem hj]
          exact List.getElem_mem hj
        exact P.cardexhelp_Token.calls _ _ _ _ (F j).1 (F j).2 _ _ _ _ _ _ (G j).1 (G j).2 _ _ _ W (hG_.below hb) (Kd.C_below g2 hb) g1 (Kd.C_below g4 hb) g3 (tokEq_f _ _ (of_decide_eq_true (hat _ hm)))) hsz
      (fun h0 => by
        obtain ⟨ad, e, _⟩ := hF 0 h0
        refine ⟨ad, e, fun j hj => ?_⟩
        obtain ⟨ad', e', h1, _⟩ := hF j hj
        obtain rfl : ad = ad' := by rw [e] at e'; injection e'
        exact h1)
      (fun h0 => by
        obtain ⟨ad, e, _⟩ := hGG 0 (by omega)
        refine ⟨ad, e, fun j hj => ?_⟩
        obtain ⟨ad', e', h1, _⟩ := hGG j (by omega)
        obtain rfl : ad = ad' := by rw [e] at e'; injection e'
        exact h1)
    rw [allAt_zip P.z33 tokEqB l0 l1 hl] at C
    rw [show toksEqB l0 l1 = (List.zipWith tokEqB l0 l1).all id from by unfold toksEqB; rw [decide_eq_true hl]; rfl]
    rw [← hl]
    exact C
  · rw [show toksEqB l0 l1 = false from by unfold toksEqB; rw [decide_eq_false hl]; rfl]
    have hne : ((l0.length : Int) != (l1.length : Int)) = true := by simp; omega
    clear hr0 hr1 hat
    go_enter Tryd.func11, Tryd.ntmps11
    go_wp2
    go_ret
    exact ⟨rfl, Below.refl _ _⟩
end Go.Proofs.YtfelfpjfjjgmoaaDoor
end
/- Lean functions for functions of the program, and that the Go code comes to their answers, where the library's variables are as Gd says. Written by a turned copy of the kit's print; Lean checks it. -/
section
namespace Go.Proofs.YtfelfpjfjjgmoaaDoor.P
open Go.RowKit Go.Proofs.YtfelfpjfjjgmoaaDoorW.PrintWords Go.Proofs.YtfelfpjfjjgmoaaDoorW.PrintLast Go.Proofs.YtfelfpjfjjgmoaaDoorW.PrintMore
attribute [local go_sem] max2_int min2_int max_two min_two max_three min_three max_four min_four   -- for this text's walks alone
set_option linter.unusedVariables false
set_option linter.unusedSimpArgs false

/-! ### cardexlaw08_TokenJoins: function 6 -/
mutual
def cardexlaw08_TokenJoins.j0 : Nat → ByteArray → ByteArray → Bool → Option (Bool)
  | 0, _, _, _ => none
  | k + 1, x0, x1, x22 => if x22 = true then ((cardexlaw08_awake.f).bind fun t352 => (some t352)) else (if x0.size + 4 ≤ 9223372036854775807 then ((G_Tokens.f (x0 ++ (⟨#[60, 113, 47, 62]⟩ : ByteArray))).bind fun bt353 => (if 4 + x1.size ≤ 9223372036854775807 then ((G_Tokens.f ((⟨#[60, 113, 47, 62]⟩ : ByteArray) ++ x1)).bind fun bt358 => (if (x0 ++ (⟨#[60, 113, 47, 62]⟩ : ByteArray)).size + x1.size ≤ 9223372036854775807 then ((G_Tokens.f ((x0 ++ (⟨#[60, 113, 47, 62]⟩ : ByteArray)) ++ x1)).bind fun bt363 => (if bt353.2.2 = 0 then (cardexlaw08_TokenJoins.j1 k x0 bt353.1 bt358.1 bt363.1 bt363.2.2 (bt358.2.2 != 0)) else (cardexlaw08_TokenJoins.j1 k x0 bt353.1 bt358.1 bt363.1 bt363.2.2 true))) else (none))) else (none))) else (none))
def cardexlaw08_TokenJoins.j1 : Nat → ByteArray → List (S33) → List (S33) → List (S33) → Int → Bool → Option (Bool)
  | 0, _, _, _, _, _, _ => none
  | k + 1, x0, x5, x8, x11, x13, x52 => if x52 = true then ((cardexlaw08_awake.f).bind fun t368 => (some t368)) else (if x13 = 0 then (if (x5.length : Int) < 1 then (cardexlaw08_TokenJoins.j2 k x0 x5 x8 x11 true) else (if (x8.length : Int) < 1 then (cardexlaw08_TokenJoins.j2 k x0 x5 x8 x11 true) else (cardexlaw08_TokenJoins.j2 k x0 x5 x8 x11 ((x11.length : Int) != (wrap64 ((wrap64 ((x5.length : Int) + (x8.length : Int))) - 1)))))) else (cardexlaw08_TokenJoins.j2 k x0 x5 x8 x11 true))
def cardexlaw08_TokenJoins.j2 : Nat → ByteArray → List (S33) → List (S33) → List (S33) → Bool → Option (Bool)
  | 0, _, _, _, _, _ => none
  | k + 1, x0, x5, x8, x11, x76 => if x76 = true then (some false) else (cardexlaw08_TokenJoins.l0 k x0 x5 x8 x11 0)
def cardexlaw08_TokenJoins.l0 : Nat → ByteArray → List (S33) → List (S33) → List (S33) → Int → Option (Bool)
  | 0, _, _, _, _, _ => none
  | k + 1, x0, x5, x8, x11, x14 => if x14 < (x8.length : Int) then (if 0 ≤ x14 then (cardexlaw08_TokenJoins.l0 k x0 x5 (x8.set (x14 : Int).toNat (⟨(rd_T33 x8 x14).f0, wrap64 (((rd_T33 x8 x14).f1) + (x0.size : Int)), (rd_T33 x8 x14).f2, (rd_T33 x8 x14).f3, (rd_T33 x8 x14).f4, (rd_T33 x8 x14).f5⟩ : S33)) x11 (wrap64 (x14 + 1))) else (none)) else ((cardexlaw08_awake.f).bind fun t371 => (if t371 = true then (if 0 ≤ (x5.length : Int) then (if (x5.length : Int) ≤ (x11.length : Int) then ((G_SameTok.f (x11.take ((x5.length : Int) : Int).toNat) x5 7770012).bind fun t376 => (if t376 = true then (if 0 ≤ (wrap64 ((x5.length : Int) - 1)) then (if (wrap64 ((x5.length : Int) - 1)) ≤ (x11.length : Int) then ((G_SameTok.f (x11.drop ((wrap64 ((x5.length : Int) - 1)) : Int).toNat) x8 7770012).bind fun t381 => (some t381)) else (none)) else (none)) else (some false))) else (none)) else (none)) else (some false)))
end
def cardexlaw08_TokenJoins.f (k : Nat) (a0 : ByteArray) (a1 : ByteArray) : Option (Bool) := if (a0.size : Int) > 1500 then (cardexlaw08_TokenJoins.j0 k a0 a1 true) else (cardexlaw08_TokenJoins.j0 k a0 a1 (decide ((a1.size : Int) > 1500)))
theorem cardexlaw08_TokenJoins.mono_l : ∀ k, (∀ y0 y1 y2, LeO (cardexlaw08_TokenJoins.j0 k y0 y1 y2) (cardexlaw08_TokenJoins.j0 (k + 1) y0 y1 y2)) ∧ (∀ y0 y1 y2 y3 y4 y5, LeO (cardexlaw08_TokenJoins.j1 k y0 y1 y2 y3 y4 y5) (cardexlaw08_TokenJoins.j1 (k + 1) y0 y1 y2 y3 y4 y5)) ∧ (∀ y0 y1 y2 y3 y4, LeO (cardexlaw08_TokenJoins.j2 k y0 y1 y2 y3 y4) (cardexlaw08_TokenJoins.j2 (k + 1) y0 y1 y2 y3 y4)) ∧ (∀ y0 y1 y2 y3 y4, LeO (cardexlaw08_TokenJoins.l0 k y0 y1 y2 y3 y4) (cardexlaw08_TokenJoins.l0 (k + 1) y0 y1 y2 y3 y4))
  | 0 => ⟨fun _ _ _ r h => by simp [cardexlaw08_TokenJoins.j0] at h, fun _ _ _ _ _ _ r h => by simp [cardexlaw08_TokenJoins.j1] at h, fun _ _ _ _ _ r h => by simp [cardexlaw08_TokenJoins.j2] at h, fun _ _ _ _ _ r h => by simp [cardexlaw08_TokenJoins.l0] at h⟩
  | k + 1 => by
    obtain ⟨ih0, ih1, ih2, ih3⟩ := cardexlaw08_TokenJoins.mono_l k
    refine ⟨?_, ?_, ?_, ?_⟩
    · intro y0 y1 y2
      unfold cardexlaw08_TokenJoins.j0
      repeat' first
      | (with_reducible exact ih0 _ _ _)
      | (with_reducible exact ih1 _ _ _ _ _ _)
      | (with_reducible exact ih2 _ _ _ _ _)
      | (with_reducible exact ih3 _ _ _ _ _)
      | (with_reducible exact LeO.refl _)
      | (with_reducible exact LeO.none _)
      | (with_reducible refine LeO.ite ?_ ?_)
      | (with_reducible refine LeO.bind ?_ (fun _ => ?_))
      | exact ih0 _ _ _
      | exact ih1 _ _ _ _ _ _
      | exact ih2 _ _ _ _ _
      | exact ih3 _ _ _ _ _
      | exact LeO.none _
      | refine LeO.ite ?_ ?_
      | refine LeO.bind ?_ (fun _ => ?_)
    · intro y0 y1 y2 y3 y4 y5
      unfold cardexlaw08_TokenJoins.j1
      repeat' first
      | (with_reducible exact ih0 _ _ _)
      | (with_reducible exact ih1 _ _ _ _ _ _)
      | (with_reducible exact ih2 _ _ _ _ _)
      | (with_reducible exact ih3 _ _ _ _ _)
      | (with_reducible exact LeO.refl _)
      | (with_reducible exact LeO.none _)
      | (with_reducible refine LeO.ite ?_ ?_)
      | (with_reducible refine LeO.bind ?_ (fun _ => ?_))
      | exact ih0 _ _ _
      | exact ih1 _ _ _ _ _ _
      | exact ih2 _ _ _ _ _
      | exact ih3 _ _ _ _ _
      | exact LeO.none _
      | refine LeO.ite ?_ ?_
      | refine LeO.bind ?_ (fun _ => ?_)
    · intro y0 y1 y2 y3 y4
      unfold cardexlaw08_TokenJoins.j2
      repeat' first
      | (with_reducible exact ih0 _ _ _)
      | (with_reducible exact ih1 _ _ _ _ _ _)
      | (with_reducible exact ih2 _ _ _ _ _)
      | (with_reducible exact ih3 _ _ _ _ _)
      | (with_reducible exact LeO.refl _)
      | (with_reducible exact LeO.none _)
      | (with_reducible refine LeO.ite ?_ ?_)
      | (with_reducible refine LeO.bind ?_ (fun _ => ?_))
      | exact ih0 _ _ _
      | exact ih1 _ _ _ _ _ _
      | exact ih2 _ _ _ _ _
      | exact ih3 _ _ _ _ _
      | exact LeO.none _
      | refine LeO.ite ?_ ?_
      | refine LeO.bind ?_ (fun _ => ?_)
    · intro y0 y1 y2 y3 y4
      unfold cardexlaw08_TokenJoins.l0
      repeat' first
      | (with_reducible exact ih0 _ _ _)
      | (with_reducible exact ih1 _ _ _ _ _ _)
      | (with_reducible exact ih2 _ _ _ _ _)
      | (with_reducible exact ih3 _ _ _ _ _)
      | (with_reducible exact LeO.refl _)
      | (with_reducible exact LeO.none _)
      | (with_reducible refine LeO.ite ?_ ?_)
      | (with_reducible refine LeO.bind ?_ (fun _ => ?_))
      | exact ih0 _ _ _
      | exact ih1 _ _ _ _ _ _
      | exact ih2 _ _ _ _ _
      | exact ih3 _ _ _ _ _
      | exact LeO.none _
      | refine LeO.ite ?_ ?_
      | refine LeO.bind ?_ (fun _ => ?_)
theorem cardexlaw08_TokenJoins.mono : ∀ a0 a1 k, LeO (cardexlaw08_TokenJoins.f k a0 a1) (cardexlaw08_TokenJoins.f (k + 1) a0 a1) := by
  intro a0 a1 k
  obtain ⟨ih0, ih1, ih2, ih3⟩ := cardexlaw08_TokenJoins.mono_l k
  unfold cardexlaw08_TokenJoins.f
  repeat' first
      | (with_reducible exact ih0 _ _ _)
      | (with_reducible exact ih1 _ _ _ _ _ _)
      | (with_reducible exact ih2 _ _ _ _ _)
      | (with_reducible exact ih3 _ _ _ _ _)
      | (with_reducible exact LeO.refl _)
      | (with_reducible exact LeO.none _)
      | (with_reducible refine LeO.ite ?_ ?_)
      | (with_reducible refine LeO.bind ?_ (fun _ => ?_))
      | exact ih0 _ _ _
      | exact ih1 _ _ _ _ _ _
      | exact ih2 _ _ _ _ _
      | exact ih3 _ _ _ _ _
      | exact LeO.none _
      | refine LeO.ite ?_ ?_
      | refine LeO.bind ?_ (fun _ => ?_)
set_option maxHeartbeats 8000000 in
set_option maxRecDepth 100000 in
theorem cardexlaw08_TokenJoins.calls (k : Nat) (a0 : ByteArray) (a1 : ByteArray) (w : World) (hG_ : Gd w) (h : cardexlaw08_TokenJoins.f k a0 a1 = some true) :
    Calls Tryd.prog 6 #[.string a0, .string a1] w fun e w' => e = .returned (.bool true) ∧ Below w.heap.size w w' := by
  have HB := Aside0.mk (Below.refl w.heap.size w)
  have HG := Aside0.mk hG_
  clear hG_
  have H : (if (a0.size : Int) > 1500 then (cardexlaw08_TokenJoins.j0 k a0 a1 true) else (cardexlaw08_TokenJoins.j0 k a0 a1 (decide ((a1.size : Int) > 1500)))) = some true := h
  clear h
  have HC3 := Aside0.mk H
  clear H
  go_enter Tryd.func6, Tryd.ntmps6
  go_upto_region 1 with (fail)
  go_cut [22] (fun v22 wc => ∃ (kq : Nat) (x22_2 : Bool), v22 = .bool x22_2 ∧ Aside0 (cardexlaw08_TokenJoins.j0 kq a0 a1 x22_2 = some true) ∧ Aside0 (kq ≤ k) ∧ Aside0 (Below w.heap.size w wc))
  case first =>
    have H := HC3.out
    clear HC3
    by_cases c4 : (a0.size : Int) > 1500
    · rw [if_pos c4] at H
      have c4b0 : decide (1500 < (a0.size : Int)) = true := decide_eq_true c4
      have c4b1 : decide (1500 < a0.size) = true := decide_eq_true (by omega)
      clear c4
      (first | rw [c4b0] | (simp only [i64_w, i32_w]; rw [c4b0]) | skip)
      have H' := Aside0.mk H
      clear H
      go_wp2
      go_meet
      case rel => exact ⟨_, (true), (by first | rfl | (simp; done) | (simp [*]; done)), H', ⟨by first | omega | exact Nat.le_refl _⟩, ⟨by repeat (first | (with_reducible first | exact HB.out | apply below_alloc | apply pw_below_drewN | apply below_drew1) | exact HB.out)⟩⟩
    · rw [if_neg c4] at H
      have c4b0 : decide (1500 < (a0.size : Int)) = false := decide_eq_false c4
      have c4b1 : decide (1500 < a0.size) = false := decide_eq_false (by omega)
      clear c4
      (first | rw [c4b0] | (simp only [i64_w, i32_w]; rw [c4b0]) | skip)
      have H' := Aside0.mk H
      clear H
      go_wp2
      go_meet
      case rel => exact ⟨_, (decide ((a1.size : Int) > 1500)), (by first | rfl | (simp; done) | (simp [*]; done)), H', ⟨by first | omega | exact Nat.le_refl _⟩, ⟨by repeat (first | (with_reducible first | exact HB.out | apply below_alloc | apply pw_below_drewN | apply below_drew1) | exact HB.out)⟩⟩
  case rest =>
    clear HC3
    try clear p2
    try clear c4
    try clear c4b0
    try clear c4b1
    obtain ⟨kq, x22_2, rfl, HA, HJ2, HB⟩ := hcut
    cases kq with
    | zero => exact absurd HA.out (by simp [cardexlaw08_TokenJoins.j0])
    | succ kj2 =>
      have H := HA.out
      clear HA
      simp only [cardexlaw08_TokenJoins.j0] at H
      by_cases c5 : x22_2 = true
      · subst c5
        have H1 : ((cardexlaw08_awake.f).bind fun t352 => (some t352)) = some true := by rw [if_pos rfl] at H; exact H
        clear H
        have H := H1
        clear H1
        replace H := Option.bind_eq_some_iff.mp H
        obtain ⟨t352, A60, H⟩ := H
        replace H : (some t352) = some true := H
        have A6 := Aside0.mk A60
        clear A60
        first
          | (simp at H; done)
          | skip
            have hr_ := Option.some.inj H
            clear H
            go_wp2_with (first | ((with_reducible refine gate_callee (f := 8) rfl ?_); refine goesL_ (some 23) rfl rfl Tryd.func8 (by kernel_rfl) rfl #[] rfl (by (try simp only [List.map_toArray, List.map_cons, List.map_nil]); first | done | rfl | (simp only [List.length_drop, List.length_take]; rfl)) ?_; (with_reducible refine (cardexlaw08_awake.calls  t352 _ ?side1 A6.out).mono ?_); (case side1 => first | exact HG.out | exact Gd.drewN HG.out _ | exact Gd.drew HG.out | exact Gd.below HG.out (by repeat (first | (with_reducible first | exact HB.out | apply below_alloc | apply pw_below_drewN | apply below_drew1) | exact HB.out))); rintro e w7 ⟨rfl, hb⟩; refine ⟨_, rfl, ?_⟩; have n0_ := Aside0.mk (below_step (by repeat (first | (with_reducible first | exact HB.out | apply below_alloc | apply pw_below_drewN | apply below_drew1) | exact HB.out)) hb); clear HB; have HB := n0_; clear n0_; (try clear hb); (try clear hb2); (try clear hk); (try clear hi)))
            go_ret
            exact ⟨by first | rfl | (simp [errW_none, errW_some] <;> rfl) | (simp [*, errW_none, errW_some] <;> rfl), by repeat (first | (with_reducible first | exact HB.out | apply below_alloc | apply pw_below_drewN | apply below_drew1) | exact HB.out)⟩
      · replace c5 := Bool.eq_false_iff.mpr c5
        subst c5
        have H1 : (if a0.size + 4 ≤ 9223372036854775807 then ((G_Tokens.f (a0 ++ (⟨#[60, 113, 47, 62]⟩ : ByteArray))).bind fun bt353 => (if 4 + a1.size ≤ 9223372036854775807 then ((G_Tokens.f ((⟨#[60, 113, 47, 62]⟩ : ByteArray) ++ a1)).bind fun bt358 => (if (a0 ++ (⟨#[60, 113, 47, 62]⟩ : ByteArray)).size + a1.size ≤ 9223372036854775807 then ((G_Tokens.f ((a0 ++ (⟨#[60, 113, 47, 62]⟩ : ByteArray)) ++ a1)).bind fun bt363 => (if bt353.2.2 = 0 then (cardexlaw08_TokenJoins.j1 kj2 a0 bt353.1 bt358.1 bt363.1 bt363.2.2 (bt358.2.2 != 0)) else (cardexlaw08_TokenJoins.j1 kj2 a0 bt353.1 bt358.1 bt363.1 bt363.2.2 true))) else (none))) else (none))) else (none)) = some true := by rw [if_neg (show ¬ (false = true) by decide)] at H; exact H
        clear H
        have H := H1
        clear H1
        by_cases c8 : a0.size + 4 ≤ 9223372036854775807
        · rw [if_pos c8] at H
          have c8b0 := eq_true c8
          have c8b1 : decide (a0.size + 4 ≤ 9223372036854775807) = true := decide_eq_true c8
          try have c8b2 : (9223372036854775807 < a0.size + 4) = False := eq_false (Nat.not_lt.2 c8)
          replace H := Option.bind_eq_some_iff.mp H
          obtain ⟨⟨t353, t354, t355⟩, A90, H⟩ := H
          replace H : (if 4 + a1.size ≤ 9223372036854775807 then ((G_Tokens.f ((⟨#[60, 113, 47, 62]⟩ : ByteArray) ++ a1)).bind fun bt358 => (if (a0 ++ (⟨#[60, 113, 47, 62]⟩ : ByteArray)).size + a1.size ≤ 9223372036854775807 then ((G_Tokens.f ((a0 ++ (⟨#[60, 113, 47, 62]⟩ : ByteArray)) ++ a1)).bind fun bt363 => (if t355 = 0 then (cardexlaw08_TokenJoins.j1 kj2 a0 t353 bt358.1 bt363.1 bt363.2.2 (bt358.2.2 != 0)) else (cardexlaw08_TokenJoins.j1 kj2 a0 t353 bt358.1 bt363.1 bt363.2.2 true))) else (none))) else (none)) = some true := H
          have A9 := Aside0.mk A90
          clear A90
          by_cases c10 : 4 + a1.size ≤ 9223372036854775807
          · rw [if_pos c10] at H
            have c10b0 := eq_true c10
            have c10b1 : decide (4 + a1.size ≤ 9223372036854775807) = true := decide_eq_true c10
            try have c10b2 : (9223372036854775807 < 4 + a1.size) = False := eq_false (Nat.not_lt.2 c10)
            replace H := Option.bind_eq_some_iff.mp H
            obtain ⟨⟨t358, t359, t360⟩, A110, H⟩ := H
            replace H : (if (a0 ++ (⟨#[60, 113, 47, 62]⟩ : ByteArray)).size + a1.size ≤ 9223372036854775807 then ((G_Tokens.f ((a0 ++ (⟨#[60, 113, 47, 62]⟩ : ByteArray)) ++ a1)).bind fun bt363 => (if t355 = 0 then (cardexlaw08_TokenJoins.j1 kj2 a0 t353 t358 bt363.1 bt363.2.2 (t360 != 0)) else (cardexlaw08_TokenJoins.j1 kj2 a0 t353 t358 bt363.1 bt363.2.2 true))) else (none)) = some true := H
            have A11 := Aside0.mk A110
            clear A110
            by_cases c12 : (a0 ++ (⟨#[60, 113, 47, 62]⟩ : ByteArray)).size + a1.size ≤ 9223372036854775807
            · rw [if_pos c12] at H
              have c12b0 := eq_true c12
              have c12b1 : decide ((a0 ++ (⟨#[60, 113, 47, 62]⟩ : ByteArray)).size + a1.size ≤ 9223372036854775807) = true := decide_eq_true c12
              try have c12b2 : (9223372036854775807 < (a0 ++ (⟨#[60, 113, 47, 62]⟩ : ByteArray)).size + a1.size) = False := eq_false (Nat.not_lt.2 c12)
              replace H := Option.bind_eq_some_iff.mp H
              obtain ⟨⟨t363, t364, t365⟩, A130, H⟩ := H
              replace H : (if t355 = 0 then (cardexlaw08_TokenJoins.j1 kj2 a0 t353 t358 t363 t365 (t360 != 0)) else (cardexlaw08_TokenJoins.j1 kj2 a0 t353 t358 t363 t365 true)) = some true := H
              have A13 := Aside0.mk A130
              clear A130
              have HC14 := Aside0.mk H
              clear H
              go_upto_region 6 with (first | ((with_reducible refine gate_callee (f := 10) rfl ?_); refine goesL_ (some 27) rfl rfl Tryd.func10 (by kernel_rfl) rfl #[.string (a0 ++ (⟨#[60, 113, 47, 62]⟩ : ByteArray))] rfl (by (try simp only [List.map_toArray, List.map_cons, List.map_nil]); first | done | rfl | (simp only [List.length_drop, List.length_take]; rfl)) ?_; (with_reducible refine (G_Tokens.calls (a0 ++ (⟨#[60, 113, 47, 62]⟩ : ByteArray)) t353 t354 t355 _ ?side1 A9.out).mono ?_); (case side1 => first | exact HG.out | exact Gd.drewN HG.out _ | exact Gd.drew HG.out | exact Gd.below HG.out (by repeat (first | (with_reducible first | exact HB.out | apply below_alloc | apply pw_below_drewN | apply below_drew1) | exact HB.out))); rintro e w15 ⟨v356, rfl, ho0, hb⟩; refine ⟨_, rfl, ?_⟩; have n0_ := Aside0.mk (Kd.S_lower ho0 (below_size (by repeat (first | (with_reducible first | exact HB.out | apply below_alloc | apply pw_below_drewN | apply below_drew1) | exact HB.out)))); have n1_ := Aside0.mk (below_step (by repeat (first | (with_reducible first | exact HB.out | apply below_alloc | apply pw_below_drewN | apply below_drew1) | exact HB.out)) hb); clear HB; have HO357 := n0_; have HB := n1_; clear n0_ n1_; (try clear hb); (try clear hb2); (try clear hk); (try clear hi); (try clear ho0)) | ((with_reducible refine gate_callee (f := 10) rfl ?_); refine goesL_ (some 34) rfl rfl Tryd.func10 (by kernel_rfl) rfl #[.string ((⟨#[60, 113, 47, 62]⟩ : ByteArray) ++ a1)] rfl (by (try simp only [List.map_toArray, List.map_cons, List.map_nil]); first | done | rfl | (simp only [List.length_drop, List.length_take]; rfl)) ?_; (with_reducible refine (G_Tokens.calls ((⟨#[60, 113, 47, 62]⟩ : ByteArray) ++ a1) t358 t359 t360 _ ?side1 A11.out).mono ?_); (case side1 => first | exact HG.out | exact Gd.drewN HG.out _ | exact Gd.drew HG.out | exact Gd.below HG.out (by repeat (first | (with_reducible first | exact HB.out | apply below_alloc | apply pw_below_drewN | apply below_drew1) | exact HB.out))); rintro e w16 ⟨v361, rfl, ho0, hb⟩; refine ⟨_, rfl, ?_⟩; have n0_ := Aside0.mk (Kd.S_elder' (by (with_reducible repeat (first | apply Kd.S_alloc | apply Kd.S_drewN | apply Kd.S_drew)); exact HO357.out) (Kd.S_base ho0) hb); have n1_ := Aside0.mk (Kd.S_lower (Kd.S_new' ho0 (Kd.S_lt (by (with_reducible repeat (first | apply Kd.S_alloc | apply Kd.S_drewN | apply Kd.S_drew)); exact HO357.out))) (below_size (by repeat (first | (with_reducible first | exact HB.out | apply below_alloc | apply pw_below_drewN | apply below_drew1) | exact HB.out)))); have n2_ := Aside0.mk (below_step (by repeat (first | (with_reducible first | exact HB.out | apply below_alloc | apply pw_below_drewN | apply below_drew1) | exact HB.out)) hb); clear HO357; clear HB; have HO357 := n0_; have HO362 := n1_; have HB := n2_; clear n0_ n1_ n2_; (try clear hb); (try clear hb2); (try clear hk); (try clear hi); (try clear ho0)) | ((with_reducible refine gate_callee (f := 10) rfl ?_); refine goesL_ (some 43) rfl rfl Tryd.func10 (by kernel_rfl) rfl #[.string ((a0 ++ (⟨#[60, 113, 47, 62]⟩ : ByteArray)) ++ a1)] rfl (by (try simp only [List.map_toArray, List.map_cons, List.map_nil]); first | done | rfl | (simp only [List.length_drop, List.length_take]; rfl)) ?_; (with_reducible refine (G_Tokens.calls ((a0 ++ (⟨#[60, 113, 47, 62]⟩ : ByteArray)) ++ a1) t363 t364 t365 _ ?side1 A13.out).mono ?_); (case side1 => first | exact HG.out | exact Gd.drewN HG.out _ | exact Gd.drew HG.out | exact Gd.below HG.out (by repeat (first | (with_reducible first | exact HB.out | apply below_alloc | apply pw_below_drewN | apply below_drew1) | exact HB.out))); rintro e w17 ⟨v366, rfl, ho0, hb⟩; refine ⟨_, rfl, ?_⟩; have n0_ := Aside0.mk (Kd.S_elder' (by (with_reducible repeat (first | apply Kd.S_alloc | apply Kd.S_drewN | apply Kd.S_drew)); exact HO357.out) (Kd.S_base ho0) hb); have n1_ := Aside0.mk (Kd.S_elder' (by (with_reducible repeat (first | apply Kd.S_alloc | apply Kd.S_drewN | apply Kd.S_drew)); exact HO362.out) (Kd.S_base ho0) hb); have n2_ := Aside0.mk (Kd.S_lower (Kd.S_new' (Kd.S_new' ho0 (Kd.S_lt (by (with_reducible repeat (first | apply Kd.S_alloc | apply Kd.S_drewN | apply Kd.S_drew)); exact HO357.out))) (Kd.S_lt (by (with_reducible repeat (first | apply Kd.S_alloc | apply Kd.S_drewN | apply Kd.S_drew)); exact HO362.out))) (below_size (by repeat (first | (with_reducible first | exact HB.out | apply below_alloc | apply pw_below_drewN | apply below_drew1) | exact HB.out)))); have n3_ := Aside0.mk (below_step (by repeat (first | (with_reducible first | exact HB.out | apply below_alloc | apply pw_below_drewN | apply below_drew1) | exact HB.out)) hb); clear HO357; clear HO362; clear HB; have HO357 := n0_; have HO362 := n1_; have HO367 := n2_; have HB := n3_; clear n0_ n1_ n2_ n3_; (try clear hb); (try clear hb2); (try clear hk); (try clear hi); (try clear ho0)))
              (try simp only [Act.put, List.setIfInBounds_toArray, List.set_cons_zero, List.set_cons_succ])
              go_cut [52] (fun v52 wc => ∃ (kq : Nat) (x52_13 : Bool), v52 = .bool x52_13 ∧ Aside0 (cardexlaw08_TokenJoins.j1 kq a0 t353 t358 t363 t365 x52_13 = some true) ∧ Aside0 (kq ≤ kj2) ∧ Aside0 (Kd.S k33 33 wc w.heap.size (fun k_ => some k_ ≠ (v361 : Value).ownBlock ∧ some k_ ≠ (v366 : Value).ownBlock) v356 t353) ∧ Aside0 (Kd.S k33 33 wc w.heap.size (fun k_ => some k_ ≠ (v356 : Value).ownBlock ∧ some k_ ≠ (v366 : Value).ownBlock) v361 t358) ∧ Aside0 (Kd.S k33 33 wc w.heap.size (fun k_ => some k_ ≠ (v356 : Value).ownBlock ∧ some k_ ≠ (v361 : Value).ownBlock) v366 t363) ∧ Aside0 (Below w.heap.size w wc))
              case first =>
                have H := HC14.out
                clear HC14
                by_cases c18 : t355 = 0
                · rw [if_pos c18] at H
                  have c18b0 : (t355 == 0) = true := beq_iff_eq.mpr c18
                  have c18b1 : (t355 != 0) = false := bne_eq_false_iff_eq.mpr c18
                  clear c18
                  (first | rw [c18b0] | (simp only [i64_w, i32_w]; rw [c18b0]) | skip)
                  have H' := Aside0.mk H
                  clear H
                  go_wp2
                  go_meet
                  case rel => exact ⟨_, ((t360 != 0)), (by first | rfl | (simp; done) | (simp [*]; done)), H', ⟨by have := HJ2.out; first | omega | exact Nat.le_refl _⟩, ⟨by (with_reducible repeat (first | apply Kd.S_alloc | apply Kd.S_drewN | apply Kd.S_drew)); exact Kd.S_mono HO357.out (fun _ hk => ⟨hk.1.2, hk.2⟩)⟩, ⟨by (with_reducible repeat (first | apply Kd.S_alloc | apply Kd.S_drewN | apply Kd.S_drew)); exact Kd.S_mono HO362.out (fun _ hk => ⟨hk.1.2, hk.2⟩)⟩, ⟨by (with_reducible repeat (first | apply Kd.S_alloc | apply Kd.S_drewN | apply Kd.S_drew)); exact Kd.S_mono HO367.out (fun _ hk => ⟨hk.1.2, hk.2⟩)⟩, ⟨by repeat (first | (with_reducible first | exact HB.out | apply below_alloc | apply pw_below_drewN | apply below_drew1) | exact HB.out)⟩⟩
                · rw [if_neg c18] at H
                  have c18b0 : (t355 == 0) = false := beq_eq_false_iff_ne.mpr c18
                  have c18b1 : (t355 != 0) = true := bne_iff_ne.mpr c18
                  (first | rw [c18b0] | (simp only [i64_w, i32_w]; rw [c18b0]) | skip)
                  have H' := Aside0.mk H
                  clear H
                  go_wp2
                  go_meet
                  case rel => exact ⟨_, (true), (by first | rfl | (simp; done) | (simp [*]; done)), H', ⟨by have := HJ2.out; first | omega | exact Nat.le_refl _⟩, ⟨by (with_reducible repeat (first | apply Kd.S_alloc | apply Kd.S_drewN | apply Kd.S_drew)); exact Kd.S_mono HO357.out (fun _ hk => ⟨hk.1.2, hk.2⟩)⟩, ⟨by (with_reducible repeat (first | apply Kd.S_alloc | apply Kd.S_drewN | apply Kd.S_drew)); exact Kd.S_mono HO362.out (fun _ hk => ⟨hk.1.2, hk.2⟩)⟩, ⟨by (with_reducible repeat (first | apply Kd.S_alloc | apply Kd.S_drewN | apply Kd.S_drew)); exact Kd.S_mono HO367.out (fun _ hk => ⟨hk.1.2, hk.2⟩)⟩, ⟨by repeat (first | (with_reducible first | exact HB.out | apply below_alloc | apply pw_below_drewN | apply below_drew1) | exact HB.out)⟩⟩
              case rest =>
                clear HC14
                try clear c1
                try clear p2
                try clear c4
                try clear c4b0
                try clear c4b1
                try clear c5
                try clear c6
                try clear c8
                try clear c8b0
                try clear c8b1
                try clear c8b2
                try clear c10
                try clear c10b0
                try clear c10b1
                try clear c10b2
                try clear c12
                try clear c12b0
                try clear c12b1
                try clear c12b2
                try clear c18
                try clear c18b0
                try clear c18b1
                try clear p2
                obtain ⟨kq, x52_13, rfl, HA, HJ13, HO_5, HO_8, HO_11, HB⟩ := hcut
                cases kq with
                | zero => exact absurd HA.out (by simp [cardexlaw08_TokenJoins.j1])
                | succ kj13 =>
                  have H := HA.out
                  clear HA
                  simp only [cardexlaw08_TokenJoins.j1] at H
                  by_cases c19 : x52_13 = true
                  · subst c19
                    have H1 : ((cardexlaw08_awake.f).bind fun t368 => (some t368)) = some true := by rw [if_pos rfl] at H; exact H
                    clear H
                    have H := H1
                    clear H1
                    replace H := Option.bind_eq_some_iff.mp H
                    obtain ⟨t368, A200, H⟩ := H
                    replace H : (some t368) = some true := H
                    have A20 := Aside0.mk A200
                    clear A200
                    first
                      | (simp at H; done)
                      | skip
                        have hr_ := Option.some.inj H
                        clear H
                        go_wp2_with (first | ((with_reducible refine gate_callee (f := 8) rfl ?_); refine goesL_ (some 53) rfl rfl Tryd.func8 (by kernel_rfl) rfl #[] rfl (by (try simp only [List.map_toArray, List.map_cons, List.map_nil]); first | done | rfl | (simp only [List.length_drop, List.length_take]; rfl)) ?_; (with_reducible refine (cardexlaw08_awake.calls  t368 _ ?side1 A20.out).mono ?_); (case side1 => first | exact HG.out | exact Gd.drewN HG.out _ | exact Gd.drew HG.out | exact Gd.below HG.out (by repeat (first | (with_reducible first | exact HB.out | apply below_alloc | apply pw_below_drewN | apply below_drew1) | exact HB.out))); rintro e w21 ⟨rfl, hb⟩; refine ⟨_, rfl, ?_⟩; have n0_ := Aside0.mk (Kd.S_below (by (with_reducible repeat (first | apply Kd.S_alloc | apply Kd.S_drewN | apply Kd.S_drew)); exact HO_5.out) hb); have n1_ := Aside0.mk (Kd.S_below (by (with_reducible repeat (first | apply Kd.S_alloc | apply Kd.S_drewN | apply Kd.S_drew)); exact HO_8.out) hb); have n2_ := Aside0.mk (Kd.S_below (by (with_reducible repeat (first | apply Kd.S_alloc | apply Kd.S_drewN | apply Kd.S_drew)); exact HO_11.out) hb); have n3_ := Aside0.mk (below_step (by repeat (first | (with_reducible first | exact HB.out | apply below_alloc | apply pw_below_drewN | apply below_drew1) | exact HB.out)) hb); clear HO_5; clear HO_8; clear HO_11; clear HB; have HO_5 := n0_; have HO_8 := n1_; have HO_11 := n2_; have HB := n3_; clear n0_ n1_ n2_ n3_; (try clear hb); (try clear hb2); (try clear hk); (try clear hi)))
                        go_ret
                        exact ⟨by first | rfl | (simp [errW_none, errW_some] <;> rfl) | (simp [*, errW_none, errW_some] <;> rfl), by repeat (first | (with_reducible first | exact HB.out | apply below_alloc | apply pw_below_drewN | apply below_drew1) | exact HB.out)⟩
                  · replace c19 := Bool.eq_false_iff.mpr c19
                    subst c19
                    have H1 : (if t365 = 0 then (if (t353.length : Int) < 1 then (cardexlaw08_TokenJoins.j2 kj13 a0 t353 t358 t363 true) else (if (t358.length : Int) < 1 then (cardexlaw08_TokenJoins.j2 kj13 a0 t353 t358 t363 true) else (cardexlaw08_TokenJoins.j2 kj13 a0 t353 t358 t363 ((t363.length : Int) != (wrap64 ((wrap64 ((t353.length : Int) + (t358.length : Int))) - 1)))))) else (cardexlaw08_TokenJoins.j2 kj13 a0 t353 t358 t363 true)) = some true := by rw [if_neg (show ¬ (false = true) by decide)] at H; exact H
                    clear H
                    have H := H1
                    clear H1
                    have HC22 := Aside0.mk H
                    clear H
                    go_upto_region 8 with (fail)
                    go_cut [76] (fun v76 wc => ∃ (kq : Nat) (x76_21 : Bool), v76 = .bool x76_21 ∧ Aside0 (cardexlaw08_TokenJoins.j2 kq a0 t353 t358 t363 x76_21 = some true) ∧ Aside0 (kq ≤ kj13) ∧ Aside0 (Kd.S k33 33 wc w.heap.size (fun k_ => some k_ ≠ (v361 : Value).ownBlock ∧ some k_ ≠ (v366 : Value).ownBlock) v356 t353) ∧ Aside0 (Kd.S k33 33 wc w.heap.size (fun k_ => some k_ ≠ (v356 : Value).ownBlock ∧ some k_ ≠ (v366 : Value).ownBlock) v361 t358) ∧ Aside0 (Kd.S k33 33 wc w.heap.size (fun k_ => some k_ ≠ (v356 : Value).ownBlock ∧ some k_ ≠ (v361 : Value).ownBlock) v366 t363) ∧ Aside0 (Below w.heap.size w wc))
                    case first =>
                      have H := HC22.out
                      clear HC22
                      by_cases c23 : t365 = 0
                      · rw [if_pos c23] at H
                        have c23b0 : (t365 == 0) = true := beq_iff_eq.mpr c23
                        have c23b1 : (t365 != 0) = false := bne_eq_false_iff_eq.mpr c23
                        clear c23
                        (first | rw [c23b0] | (simp only [i64_w, i32_w]; rw [c23b0]) | skip)
                        by_cases c24 : (t353.length : Int) < 1
                        · rw [if_pos c24] at H
                          have c24b0 : decide ((t353.length : Int) < 1) = true := decide_eq_true c24
                          have c24b1 : decide (t353.length < 1) = true := decide_eq_true (by omega)
                          clear c24
                          have H' := Aside0.mk H
                          clear H
                          obtain ⟨Ao25, co25, eo25⟩ := Kd.S_slice HO_5.out
                          subst eo25
                          go_wp2
                          go_meet
                          case rel => exact ⟨_, (true), (by first | rfl | (simp; done) | (simp [*]; done)), H', ⟨by have := HJ2.out; have := HJ13.out; first | omega | exact Nat.le_refl _⟩, ⟨by (with_reducible repeat (first | apply Kd.S_alloc | apply Kd.S_drewN | apply Kd.S_drew)); exact HO_5.out⟩, ⟨by (with_reducible repeat (first | apply Kd.S_alloc | apply Kd.S_drewN | apply Kd.S_drew)); exact HO_8.out⟩, ⟨by (with_reducible repeat (first | apply Kd.S_alloc | apply Kd.S_drewN | apply Kd.S_drew)); exact HO_11.out⟩, ⟨by repeat (first | (with_reducible first | exact HB.out | apply below_alloc | apply pw_below_drewN | apply below_drew1) | exact HB.out)⟩⟩
                        · rw [if_neg c24] at H
                          have c24b0 : decide ((t353.length : Int) < 1) = false := decide_eq_false c24
                          have c24b1 : decide (t353.length < 1) = false := decide_eq_false (by omega)
                          clear c24
                          by_cases c26 : (t358.length : Int) < 1
                          · rw [if_pos c26] at H
                            have c26b0 : decide ((t358.length : Int) < 1) = true := decide_eq_true c26
                            have c26b1 : decide (t358.length < 1) = true := decide_eq_true (by omega)
                            clear c26
                            have H' := Aside0.mk H
                            clear H
                            obtain ⟨Ao27, co27, eo27⟩ := Kd.S_slice HO_5.out
                            subst eo27
                            obtain ⟨Ao28, co28, eo28⟩ := Kd.S_slice HO_8.out
                            subst eo28
                            go_wp2
                            go_meet
                            case rel => exact ⟨_, (true), (by first | rfl | (simp; done) | (simp [*]; done)), H', ⟨by have := HJ2.out; have := HJ13.out; first | omega | exact Nat.le_refl _⟩, ⟨by (with_reducible repeat (first | apply Kd.S_alloc | apply Kd.S_drewN | apply Kd.S_drew)); exact HO_5.out⟩, ⟨by (with_reducible repeat (first | apply Kd.S_alloc | apply Kd.S_drewN | apply Kd.S_drew)); exact HO_8.out⟩, ⟨by (with_reducible repeat (first | apply Kd.S_alloc | apply Kd.S_drewN | apply Kd.S_drew)); exact HO_11.out⟩, ⟨by repeat (first | (with_reducible first | exact HB.out | apply below_alloc | apply pw_below_drewN | apply below_drew1) | exact HB.out)⟩⟩
                          · rw [if_neg c26] at H
                            have c26b0 : decide ((t358.length : Int) < 1) = false := decide_eq_false c26
                            have c26b1 : decide (t358.length < 1) = false := decide_eq_false (by omega)
                            clear c26
                            have H' := Aside0.mk H
                            clear H
                            obtain ⟨Ao29, co29, eo29⟩ := Kd.S_slice HO_5.out
                            subst eo29
                            obtain ⟨Ao30, co30, eo30⟩ := Kd.S_slice HO_8.out
                            subst eo30
                            obtain ⟨Ao31, co31, eo31⟩ := Kd.S_slice HO_11.out
                            subst eo31
                            go_wp2
                            go_meet
                            case rel => exact ⟨_, (((t363.length : Int) != (wrap64 ((wrap64 ((t353.length : Int) + (t358.length : Int))) - 1)))), (by first | rfl | (simp; done) | (simp [*]; done)), H', ⟨by have := HJ2.out; have := HJ13.out; first | omega | exact Nat.le_refl _⟩, ⟨by (with_reducible repeat (first | apply Kd.S_alloc | apply Kd.S_drewN | apply Kd.S_drew)); exact HO_5.out⟩, ⟨by (with_reducible repeat (first | apply Kd.S_alloc | apply Kd.S_drewN | apply Kd.S_drew)); exact HO_8.out⟩, ⟨by (with_reducible repeat (first | apply Kd.S_alloc | apply Kd.S_drewN | apply Kd.S_drew)); exact HO_11.out⟩, ⟨by repeat (first | (with_reducible first | exact HB.out | apply below_alloc | apply pw_below_drewN | apply below_drew1) | exact HB.out)⟩⟩
                      · rw [if_neg c23] at H
                        have c23b0 : (t365 == 0) = false := beq_eq_false_iff_ne.mpr c23
                        have c23b1 : (t365 != 0) = true := bne_iff_ne.mpr c23
                        (first | rw [c23b0] | (simp only [i64_w, i32_w]; rw [c23b0]) | skip)
                        have H' := Aside0.mk H
                        clear H
                        go_wp2
                        go_meet
                        case rel => exact ⟨_, (true), (by first | rfl | (simp; done) | (simp [*]; done)), H', ⟨by have := HJ2.out; have := HJ13.out; first | omega | exact Nat.le_refl _⟩, ⟨by (with_reducible repeat (first | apply Kd.S_alloc | apply Kd.S_drewN | apply Kd.S_drew)); exact HO_5.out⟩, ⟨by (with_reducible repeat (first | apply Kd.S_alloc | apply Kd.S_drewN | apply Kd.S_drew)); exact HO_8.out⟩, ⟨by (with_reducible repeat (first | apply Kd.S_alloc | apply Kd.S_drewN | apply Kd.S_drew)); exact HO_11.out⟩, ⟨by repeat (first | (with_reducible first | exact HB.out | apply below_alloc | apply pw_below_drewN | apply below_drew1) | exact HB.out)⟩⟩
                    case rest =>
                      clear HC22
                      try clear c1
                      try clear c2
                      try clear p2
                      try clear c4
                      try clear c4b0
                      try clear c4b1
                      try clear c5
                      try clear c6
                      try clear p6
                      try clear c8
                      try clear c8b0
                      try clear c8b1
                      try clear c8b2
                      try clear c10
                      try clear c10b0
                      try clear c10b1
                      try clear c10b2
                      try clear c12
                      try clear c12b0
                      try clear c12b1
                      try clear c12b2
                      try clear c18
                      try clear c18b0
                      try clear c18b1
                      try clear c19
                      try clear c23
                      try clear c23b0
                      try clear c23b1
                      try clear c24
                      try clear c24b0
                      try clear c24b1
                      try clear c26
                      try clear c26b0
                      try clear c26b1
                      try clear p2
                      obtain ⟨kq, x76_21, rfl, HA, HJ21, HO_5, HO_8, HO_11, HB⟩ := hcut
                      cases kq with
                      | zero => exact absurd HA.out (by simp [cardexlaw08_TokenJoins.j2])
                      | succ kj21 =>
                        have H := HA.out
                        clear HA
                        simp only [cardexlaw08_TokenJoins.j2] at H
                        by_cases c32 : x76_21 = true
                        · subst c32
                          have H1 : (some false) = some true := by rw [if_pos rfl] at H; exact H
                          clear H
                          have H := H1
                          clear H1
                          cases H
                        · replace c32 := Bool.eq_false_iff.mpr c32
                          subst c32
                          have H1 : (cardexlaw08_TokenJoins.l0 kj21 a0 t353 t358 t363 0) = some true := by rw [if_neg (show ¬ (false = true) by decide)] at H; exact H
                          clear H
                          have H := H1
                          clear H1
                          have H' := Aside0.mk H
                          clear H
                          go_wp2
                          go_loopg [14] kj21 (fun kq v14 w' => ∃ (x8_4 : List (S33)) (x14_4 : Int), v14 = .int .i64 x14_4 ∧ Aside0 (cardexlaw08_TokenJoins.l0 kq a0 t353 x8_4 t363 x14_4 = some true) ∧ Aside0 (kq ≤ kj21) ∧ Aside0 (Kd.S k33 33 w' w.heap.size (fun k_ => some k_ ≠ (v361 : Value).ownBlock ∧ some k_ ≠ (v366 : Value).ownBlock) v356 t353) ∧ Aside0 (Kd.S k33 33 w' w.heap.size (fun k_ => some k_ ≠ (v356 : Value).ownBlock ∧ some k_ ≠ (v366 : Value).ownBlock) v361 x8_4) ∧ Aside0 (Kd.S k33 33 w' w.heap.size (fun k_ => some k_ ≠ (v356 : Value).ownBlock ∧ some k_ ≠ (v361 : Value).ownBlock) v366 t363) ∧ Aside0 (Below w.heap.size w w'))
                          case atStart => exact ⟨(t358), (0), (by first | rfl | (simp; done) | (simp [*]; done)), H', ⟨Nat.le_refl _⟩, ⟨by (with_reducible repeat (first | apply Kd.S_alloc | apply Kd.S_drewN | apply Kd.S_drew)); exact HO_5.out⟩, ⟨by (with_reducible repeat (first | apply Kd.S_alloc | apply Kd.S_drewN | apply Kd.S_drew)); exact HO_8.out⟩, ⟨by (with_reducible repeat (first | apply Kd.S_alloc | apply Kd.S_drewN | apply Kd.S_drew)); exact HO_11.out⟩, ⟨by repeat (first | (with_reducible first | exact HB.out | apply below_alloc | apply pw_below_drewN | apply below_drew1) | exact HB.out)⟩⟩
                          case round =>
                            clear H'
                            try clear c1
                            try clear c2
                            try clear p2
                            try clear c3
                            try clear c4
                            try clear c4b0
                            try clear c4b1
                            try clear c5
                            try clear c6
                            try clear p6
                            try clear c8
                            try clear c8b0
                            try clear c8b1
                            try clear c8b2
                            try clear c10
                            try clear c10b0
                            try clear c10b1
                            try clear c10b2
                            try clear c12
                            try clear c12b0
                            try clear c12b1
                            try clear c12b2
                            try clear c18
                            try clear c18b0
                            try clear c18b1
                            try clear c19
                            try clear c23
                            try clear c23b0
                            try clear c23b1
                            try clear c24
                            try clear c24b0
                            try clear c24b1
                            try clear c26
                            try clear c26b0
                            try clear c26b1
                            try clear c32
                            try clear p2
                            try clear p6
                            obtain ⟨x8_4, x14_4, rfl, HA, HK4, HO_5, HO_8, HO_11, HB⟩ := hrel
                            cases gk with
                            | zero => exact absurd HA.out (by simp [cardexlaw08_TokenJoins.l0])
                            | succ k4 =>
                              have H := HA.out
                              clear HA
                              simp only [cardexlaw08_TokenJoins.l0] at H
                              by_cases c33 : x14_4 < (x8_4.length : Int)
                              · rw [if_pos c33] at H
                                have c33b0 : decide (x14_4 < (x8_4.length : Int)) = true := decide_eq_true c33
                                clear c33
                                by_cases c34 : 0 ≤ x14_4
                                · rw [if_pos c34] at H
                                  have c34b0 : decide (0 ≤ x14_4) = true := decide_eq_true c34
                                  clear c34
                                  obtain ⟨y370, hy370⟩ : ∃ y_ : List (S33), y_ = (x8_4.set (x14_4 : Int).toNat (⟨(rd_T33 x8_4 x14_4).f0, wrap64 (((rd_T33 x8_4 x14_4).f1) + (a0.size : Int)), (rd_T33 x8_4 x14_4).f2, (rd_T33 x8_4 x14_4).f3, (rd_T33 x8_4 x14_4).f4, (rd_T33 x8_4 x14_4).f5⟩ : S33)) := ⟨_, rfl⟩
                                  replace H : (cardexlaw08_TokenJoins.l0 k4 a0 t353 y370 t363 (wrap64 (x14_4 + 1))) = some true := by first | (rw [hy370]; with_reducible exact H) | (have H2_ := (Option.bind_some _ _).symm.trans H; rw [hy370]; with_reducible exact H2_) | (have H2_ := (Option.bind_some _ _).symm.trans H; with_reducible exact H2_) | with_reducible exact H | (rw [hy370]; exact H) | exact H
                                  have Ny370 := Aside0.mk hy370
                                  clear hy370
                                  have H' := Aside0.mk H
                                  clear H
                                  obtain ⟨Ao36, co36, eo36⟩ := Kd.S_slice HO_8.out
                                  subst eo36
                                  have p369 : 0 ≤ (x14_4 : Int) := of_decide_eq_true (by first | (with_reducible assumption) | assumption)
                                  have q369 : x14_4 < (x8_4.length : Int) := of_decide_eq_true (by first | (with_reducible assumption) | assumption)
                                  obtain ⟨ad369, A369_4, c369_4, e369, hx369_0, hx369_1, hx369_2, hx369_3, hx369_4, hx369_5, hl369_4, hi369_4⟩ := at_T33 (Kd.S_reads' HO_8.out).2.2 x14_4 p369 q369
                                  cases e369
                                  obtain ⟨ce369, hce369, hMe369, hcc369⟩ := Kd.S_get HO_8.out z33 x14_4 p369 (by first | exact q369 | exact of_decide_eq_true (by first | (with_reducible assumption) | assumption) | (have e_ := (Kd.S_reads' HO_8.out).1; omega))
                                  obtain ⟨ve369_4, rfl, ge369_4⟩ := k33_openM hMe369
                                  have hv369_4 := hcc369 4 _ rfl
                                  rw [add_field _ _ 4 (by omega)] at hv369_4
                                  replace hv369_4 := Option.some.inj (hv369_4.symm.trans hx369_4)
                                  rw [hv369_4] at ge369_4
                                  have HL369_4 := Aside0.mk (show Kd.R k35 35 _ _ _ _ ((rd_T33 x8_4 x14_4).f4) from ge369_4)
                                  clear hv369_4 ge369_4
                                  clear hcc369 hce369
                                  have HR369_4 := Aside0.mk hi369_4
                                  have HC369_4 := Aside0.mk hl369_4
                                  clear hi369_4 hl369_4
                                  replace p369 := eq_true p369
                                  replace q369 := eq_true q369
                                  have p35 : 0 ≤ (x14_4 : Int) := of_decide_eq_true (by first | (with_reducible assumption) | assumption)
                                  have q35 : (x14_4 : Int) < ((x8_4.length : Int) : Int) := of_decide_eq_true (by first | (with_reducible assumption) | assumption)
                                  obtain ⟨go35, co35, eo35, gb35, gl35, cl35, HG35⟩ := Kd.S_form HO_8.out (by omega)
                                  (first | cases eo35 | (injection eo35 with ea_ en_ ec_; (first | subst ea_ | (injection ea_ with ea_; subst ea_)); subst ec_; clear en_))
                                  have GB35 := Aside0.mk gb35
                                  have GG35 := Aside0.mk HG35
                                  clear gb35 gl35 HG35
                                  (first | simp only [add_plain] at hx369_0 | skip)
                                  (first | simp only [add_plain] at hx369_1 | skip)
                                  (first | simp only [add_plain] at hx369_2 | skip)
                                  (first | simp only [add_plain] at hx369_3 | skip)
                                  (first | simp only [add_plain] at hx369_4 | skip)
                                  (first | simp only [add_plain] at hx369_5 | skip)
                                  obtain ⟨_, ce35, hcl35, hM35, hcc35, hfr35, _, _⟩ := Kd.S_elem HO_8.out z33 (x14_4 : Int) p35 q35
                                  obtain ⟨ve35_4, rfl, ge35_4⟩ := k33_openM hM35
                                  have hx35_0 : wr.cell? ⟨go35, (x14_4 : Int).toNat * 6, none⟩ = some (.int .i64 ((rd_T33 x8_4 x14_4).f0)) := hcc35 0 _ rfl
                                  have hx35_1 : wr.cell? ⟨go35, (x14_4 : Int).toNat * 6 + 1, none⟩ = some (.int .i64 ((rd_T33 x8_4 x14_4).f1)) := hcc35 1 _ rfl
                                  have hx35_2 : wr.cell? ⟨go35, (x14_4 : Int).toNat * 6 + 2, none⟩ = some (.string ((rd_T33 x8_4 x14_4).f2)) := hcc35 2 _ rfl
                                  have hx35_3 : wr.cell? ⟨go35, (x14_4 : Int).toNat * 6 + 3, none⟩ = some (.string ((rd_T33 x8_4 x14_4).f3)) := hcc35 3 _ rfl
                                  have hx35_4 : wr.cell? ⟨go35, (x14_4 : Int).toNat * 6 + 4, none⟩ = some (ve35_4) := hcc35 4 _ rfl
                                  have hx35_5 : wr.cell? ⟨go35, (x14_4 : Int).toNat * 6 + 5, none⟩ = some (.bool ((rd_T33 x8_4 x14_4).f5)) := hcc35 5 _ rfl
                                  have hf35_0 : wr.frozen? ⟨go35, (x14_4 : Int).toNat * 6, none⟩ = false := hfr35 0
                                  have hf35_1 : wr.frozen? ⟨go35, (x14_4 : Int).toNat * 6 + 1, none⟩ = false := hfr35 1
                                  have hf35_2 : wr.frozen? ⟨go35, (x14_4 : Int).toNat * 6 + 2, none⟩ = false := hfr35 2
                                  have hf35_3 : wr.frozen? ⟨go35, (x14_4 : Int).toNat * 6 + 3, none⟩ = false := hfr35 3
                                  have hf35_4 : wr.frozen? ⟨go35, (x14_4 : Int).toNat * 6 + 4, none⟩ = false := hfr35 4
                                  have hf35_5 : wr.frozen? ⟨go35, (x14_4 : Int).toNat * 6 + 5, none⟩ = false := hfr35 5
                                  clear hcl35 hcc35 hfr35 hM35
                                  replace p35 := eq_true p35
                                  replace q35 := eq_true q35
                                  have HX37 := Aside0.mk (show Kd.S k33 33 wr w.heap.size (fun k_ => ((fun k_ => some k_ ≠ (v356 : Value).ownBlock ∧ some k_ ≠ (v366 : Value).ownBlock)) k_ ∧ ¬ ((fun _ => False)) k_) (.slice (some ⟨go35, 0, none⟩) x8_4.length co36) x8_4 from (by (with_reducible repeat (first | apply Kd.S_alloc | apply Kd.S_drewN | apply Kd.S_drew)); exact Kd.S_mono HO_8.out (fun k_ hk => ⟨⟨hk.1, hk.2⟩, fun e_ => e_⟩)))
                                  obtain ⟨oki37, ce37, hcl37, hM37, hcc37, hfr37, hoki37, hH37⟩ := Kd.S_elem HX37.out z33 (x14_4 : Int) (of_decide_eq_true (by first | (with_reducible assumption) | assumption)) (by have h_ : (x14_4 : Int) < ((x8_4.length : Int) : Int) := of_decide_eq_true (by first | (with_reducible assumption) | assumption); first | exact h_ | (have e_ := (Kd.S_reads' HO_8.out).1; omega) | simpa using h_)
                                  obtain ⟨ve37_4, rfl, ge37_4⟩ := k33_openM hM37
                                  have HP37 := Kd.S_seg hH37 (of_decide_eq_true (by first | (with_reducible assumption) | assumption)) (by have h_ : (x14_4 : Int) < ((x8_4.length : Int) : Int) := of_decide_eq_true (by first | (with_reducible assumption) | assumption); first | exact h_ | (have e_ := (Kd.S_reads' HO_8.out).1; omega) | simpa using h_) (seg := [.int .i64 (wrap64 (((rd_T33 x8_4 x14_4).f1) + (a0.size : Int)))]) (j := 1) (show 2 ≤ 6 from by decide) (x' := (⟨(rd_T33 x8_4 x14_4).f0, wrap64 (((rd_T33 x8_4 x14_4).f1) + (a0.size : Int)), (rd_T33 x8_4 x14_4).f2, (rd_T33 x8_4 x14_4).f3, (rd_T33 x8_4 x14_4).f4, (rd_T33 x8_4 x14_4).f5⟩ : S33)) (k33_mkM _ _ _ (⟨(rd_T33 x8_4 x14_4).f0, wrap64 (((rd_T33 x8_4 x14_4).f1) + (a0.size : Int)), (rd_T33 x8_4 x14_4).f2, (rd_T33 x8_4 x14_4).f3, (rd_T33 x8_4 x14_4).f4, (rd_T33 x8_4 x14_4).f5⟩ : S33) (Kd.R_mono ge37_4 (fun _ h_ => Or.inl h_))) (fun _ hk => hk) (fun k_ hk_ => hk_.elim)
                                  have hx37_1 := hcc37 1 _ rfl
                                  (try simp only [show (k33).sz = 6 from rfl, Nat.mul_one, Nat.add_zero] at hx37_1)
                                  have hf37_1 := hfr37 1
                                  (try simp only [show (k33).sz = 6 from rfl, Nat.mul_one, Nat.add_zero] at hf37_1)
                                  clear hcl37 hcc37 hfr37 hM37 hoki37 hH37
                                  go_wp2_with (first | ((with_reducible refine gate_store (t := 3) (p := 94) rfl ?_); refine store_event (t := 3) (p := 94) (v := ?vo_w38) (w1 := (wr.setCell ⟨go35, (x14_4 : Int).toNat * 6 + 1, none⟩ (.int .i64 (wrap64 (((rd_T33 x8_4 x14_4).f1) + (a0.size : Int)))))) ?hg ?ho ?hn ?hr ?_; (case ho => rfl); (case hg => rfl); (case hn => rfl); (case hr => first | (go_simp; done) | (go_simp; rfl)); intro w38 hw; have hg : wr.grownBy w38 (some go35) := (by rw [hw]; exact HP37.2); have hp_ : Kd.S k33 33 w38 w.heap.size (fun k_ => some k_ ≠ (v356 : Value).ownBlock ∧ some k_ ≠ (v366 : Value).ownBlock) (.slice (some ⟨go35, 0, none⟩) x8_4.length co36) y370 := (by rw [hw, Ny370.out]; exact HP37.1); clear HP37; have n0_ := Aside0.mk (Kd.S_after (v := (.slice (some ⟨go35, 0, none⟩) x8_4.length co36)) (v1 := (.slice (some ⟨go35, 0, none⟩) x8_4.length co36)) (ok := (fun k_ => some k_ ≠ (v366 : Value).ownBlock)) (by (with_reducible repeat (first | apply Kd.S_alloc | apply Kd.S_drewN | apply Kd.S_drew)); exact Kd.S_mono HO_5.out (fun _ hk => ⟨hk.2, hk.1⟩)) hg (.inl rfl)); have n1_ := Aside0.mk (hp_); have n2_ := Aside0.mk (Kd.S_after (v := (.slice (some ⟨go35, 0, none⟩) x8_4.length co36)) (v1 := (.slice (some ⟨go35, 0, none⟩) x8_4.length co36)) (ok := (fun k_ => some k_ ≠ (v356 : Value).ownBlock)) (by (with_reducible repeat (first | apply Kd.S_alloc | apply Kd.S_drewN | apply Kd.S_drew)); exact HO_11.out) hg (.inl rfl)); have n3_ := Aside0.mk (Kd.R_after (v := (.slice (some ⟨go35, 0, none⟩) x8_4.length co36)) (v1 := (.slice (some ⟨go35, 0, none⟩) x8_4.length co36)) (ok := (fun k_ => some k_ ≠ (v356 : Value).ownBlock ∧ some k_ ≠ (v366 : Value).ownBlock)) (by (with_reducible repeat (first | apply Kd.R_alloc | apply Kd.R_drewN | apply Kd.R_drew)); exact HL369_4.out) hg (.inl rfl)); have n4_ := Aside0.mk ((by rw [hw]; exact below_set (HB.out) GB35.out : Below w.heap.size w w38)); clear HO_5; clear HO_8; clear HO_11; clear HL369_4; clear HB; have HO_5 := n0_; have HO_8 := n1_; have HO_11 := n2_; have HL369_4 := n3_; have HB := n4_; clear n0_ n1_ n2_ n3_ n4_; clear hg hw hp_))
                                  go_roundg k4
                                  case measure => have := HJ2.out; have := HJ13.out; have := HJ21.out; have := HK4.out; omega
                                  case rel => exact ⟨(y370), (wrap64 (x14_4 + 1)), (by first | rfl | (simp; done) | (simp [*]; done)), H', ⟨by have := HJ2.out; have := HJ13.out; have := HJ21.out; have := HK4.out; omega⟩, ⟨by (with_reducible repeat (first | apply Kd.S_alloc | apply Kd.S_drewN | apply Kd.S_drew)); exact Kd.S_mono HO_5.out (fun _ hk => ⟨hk.2, hk.1⟩)⟩, ⟨by (with_reducible repeat (first | apply Kd.S_alloc | apply Kd.S_drewN | apply Kd.S_drew)); exact HO_8.out⟩, ⟨by (with_reducible repeat (first | apply Kd.S_alloc | apply Kd.S_drewN | apply Kd.S_drew)); exact HO_11.out⟩, ⟨by repeat (first | (with_reducible first | exact HB.out | apply below_alloc | apply pw_below_drewN | apply below_drew1) | exact HB.out)⟩⟩
                                · rw [if_neg c34] at H
                                  exact absurd H (by simp)
                              · rw [if_neg c33] at H
                                have c33b0 : decide (x14_4 < (x8_4.length : Int)) = false := decide_eq_false c33
                                clear c33
                                replace H := Option.bind_eq_some_iff.mp H
                                obtain ⟨t371, A390, H⟩ := H
                                replace H : (if t371 = true then (if 0 ≤ (t353.length : Int) then (if (t353.length : Int) ≤ (t363.length : Int) then ((G_SameTok.f (t363.take ((t353.length : Int) : Int).toNat) t353 7770012).bind fun t376 => (if t376 = true then (if 0 ≤ (wrap64 ((t353.length : Int) - 1)) then (if (wrap64 ((t353.length : Int) - 1)) ≤ (t363.length : Int) then ((G_SameTok.f (t363.drop ((wrap64 ((t353.length : Int) - 1)) : Int).toNat) x8_4 7770012).bind fun t381 => (some t381)) else (none)) else (none)) else (some false))) else (none)) else (none)) else (some false)) = some true := H
                                have A39 := Aside0.mk A390
                                clear A390
                                by_cases c40 : t371 = true
                                · subst c40
                                  have H1 : (if 0 ≤ (t353.length : Int) then (if (t353.length : Int) ≤ (t363.length : Int) then ((G_SameTok.f (t363.take ((t353.length : Int) : Int).toNat) t353 7770012).bind fun t376 => (if t376 = true then (if 0 ≤ (wrap64 ((t353.length : Int) - 1)) then (if (wrap64 ((t353.length : Int) - 1)) ≤ (t363.length : Int) then ((G_SameTok.f (t363.drop ((wrap64 ((t353.length : Int) - 1)) : Int).toNat) x8_4 7770012).bind fun t381 => (some t381)) else (none)) else (none)) else (some false))) else (none)) else (none)) = some true := by rw [if_pos rfl] at H; exact H
                                  clear H
                                  have H := H1
                                  clear H1
                                  by_cases c41 : 0 ≤ (t353.length : Int)
                                  · rw [if_pos c41] at H
                                    have c41b0 := eq_true c41
                                    have c41b1 : decide (0 ≤ (t353.length : Int)) = true := decide_eq_true c41
                                    clear c41
                                    by_cases c42 : (t353.length : Int) ≤ (t363.length : Int)
                                    · rw [if_pos c42] at H
                                      have c42b0 := eq_true c42
                                      have c42b1 : decide ((t353.length : Int) ≤ (t363.length : Int)) = true := decide_eq_true c42
                                      clear c42
                                      obtain ⟨y372, hy372⟩ : ∃ y_ : List (S33), y_ = (t363.take ((t353.length : Int) : Int).toNat) := ⟨_, rfl⟩
                                      replace H : ((G_SameTok.f y372 t353 7770012).bind fun t376 => (if t376 = true then (if 0 ≤ (wrap64 ((t353.length : Int) - 1)) then (if (wrap64 ((t353.length : Int) - 1)) ≤ (t363.length : Int) then ((G_SameTok.f (t363.drop ((wrap64 ((t353.length : Int) - 1)) : Int).toNat) x8_4 7770012).bind fun t381 => (some t381)) else (none)) else (none)) else (some false))) = some true := by first | (rw [hy372]; with_reducible exact H) | (have H2_ := (Option.bind_some _ _).symm.trans H; rw [hy372]; with_reducible exact H2_) | (have H2_ := (Option.bind_some _ _).symm.trans H; with_reducible exact H2_) | with_reducible exact H | (rw [hy372]; exact H) | exact H
                                      have Ny372 := Aside0.mk hy372
                                      clear hy372
                                      replace H := Option.bind_eq_some_iff.mp H
                                      obtain ⟨t376, A430, H⟩ := H
                                      replace H : (if t376 = true then (if 0 ≤ (wrap64 ((t353.length : Int) - 1)) then (if (wrap64 ((t353.length : Int) - 1)) ≤ (t363.length : Int) then ((G_SameTok.f (t363.drop ((wrap64 ((t353.length : Int) - 1)) : Int).toNat) x8_4 7770012).bind fun t381 => (some t381)) else (none)) else (none)) else (some false)) = some true := H
                                      have A43 := Aside0.mk A430
                                      clear A430
                                      by_cases c44 : t376 = true
                                      · subst c44
                                        have H1 : (if 0 ≤ (wrap64 ((t353.length : Int) - 1)) then (if (wrap64 ((t353.length : Int) - 1)) ≤ (t363.length : Int) then ((G_SameTok.f (t363.drop ((wrap64 ((t353.length : Int) - 1)) : Int).toNat) x8_4 7770012).bind fun t381 => (some t381)) else (none)) else (none)) = some true := by rw [if_pos rfl] at H; exact H
                                        clear H
                                        have H := H1
                                        clear H1
                                        obtain ⟨ji45, hji45⟩ : ∃ j_ : Int, (wrap64 ((t353.length : Int) - 1)) = j_ := ⟨_, rfl⟩
                                        replace H : (if 0 ≤ (ji45) then (if (ji45) ≤ (t363.length : Int) then ((G_SameTok.f (t363.drop ((ji45) : Int).toNat) x8_4 7770012).bind fun t381 => (some t381)) else (none)) else (none)) = some true := by first | (rw [hji45] at H; exact H) | (simp only [hji45] at H ⊢; exact H)
                                        (try rw [hji45] at A39)
                                        (try rw [hji45] at A43)
                                        have hji45w : (IntKind.i64.wrap ((t353.length : Int) - 1)) = ji45 := (i64_w _).trans hji45
                                        by_cases c46 : 0 ≤ (ji45)
                                        · rw [if_pos c46] at H
                                          have c46b0 := eq_true c46
                                          have c46b1 : decide (0 ≤ (ji45)) = true := decide_eq_true c46
                                          clear c46
                                          by_cases c47 : (ji45) ≤ (t363.length : Int)
                                          · rw [if_pos c47] at H
                                            have c47b0 := eq_true c47
                                            have c47b1 : decide ((ji45) ≤ (t363.length : Int)) = true := decide_eq_true c47
                                            clear c47
                                            obtain ⟨y377, hy377⟩ : ∃ y_ : List (S33), y_ = (t363.drop ((ji45) : Int).toNat) := ⟨_, rfl⟩
                                            replace H : ((G_SameTok.f y377 x8_4 7770012).bind fun t381 => (some t381)) = some true := by first | (rw [hy377]; with_reducible exact H) | (have H2_ := (Option.bind_some _ _).symm.trans H; rw [hy377]; with_reducible exact H2_) | (have H2_ := (Option.bind_some _ _).symm.trans H; with_reducible exact H2_) | with_reducible exact H | (rw [hy377]; exact H) | exact H
                                            have Ny377 := Aside0.mk hy377
                                            clear hy377
                                            replace H := Option.bind_eq_some_iff.mp H
                                            obtain ⟨t381, A480, H⟩ := H
                                            replace H : (some t381) = some true := H
                                            have A48 := Aside0.mk A480
                                            clear A480
                                            first
                                              | (simp at H; done)
                                              | skip
                                                have hr_ := Option.some.inj H
                                                clear H
                                                obtain ⟨Ao49, co49, eo49⟩ := Kd.S_slice HO_8.out
                                                subst eo49
                                                go_wp2_with (first | ((with_reducible refine gate_callee (f := 8) rfl ?_); refine goesL_ (some 95) rfl rfl Tryd.func8 (by kernel_rfl) rfl #[] rfl (by (try simp only [List.map_toArray, List.map_cons, List.map_nil]); first | done | rfl | (simp only [List.length_drop, List.length_take]; rfl)) ?_; (with_reducible refine (cardexlaw08_awake.calls  true _ ?side1 A39.out).mono ?_); (case side1 => first | exact HG.out | exact Gd.drewN HG.out _ | exact Gd.drew HG.out | exact Gd.below HG.out (by repeat (first | (with_reducible first | exact HB.out | apply below_alloc | apply pw_below_drewN | apply below_drew1) | exact HB.out))); rintro e w50 ⟨rfl, hb⟩; refine ⟨_, rfl, ?_⟩; have n0_ := Aside0.mk (Kd.S_below (by (with_reducible repeat (first | apply Kd.S_alloc | apply Kd.S_drewN | apply Kd.S_drew)); exact HO_5.out) hb); have n1_ := Aside0.mk (Kd.S_below (by (with_reducible repeat (first | apply Kd.S_alloc | apply Kd.S_drewN | apply Kd.S_drew)); exact HO_8.out) hb); have n2_ := Aside0.mk (Kd.S_below (by (with_reducible repeat (first | apply Kd.S_alloc | apply Kd.S_drewN | apply Kd.S_drew)); exact HO_11.out) hb); have n3_ := Aside0.mk (below_step (by repeat (first | (with_reducible first | exact HB.out | apply below_alloc | apply pw_below_drewN | apply below_drew1) | exact HB.out)) hb); clear HO_5; clear HO_8; clear HO_11; clear HB; have HO_5 := n0_; have HO_8 := n1_; have HO_11 := n2_; have HB := n3_; clear n0_ n1_ n2_ n3_; (try clear hb); (try clear hb2); (try clear hk); (try clear hi); obtain ⟨Ao51, co51, eo51⟩ := Kd.S_slice HO_5.out; subst eo51; obtain ⟨Ao53, co53, eo53⟩ := Kd.S_slice HO_11.out; subst eo53; have q52 : ((t353.length : Int) : Int) ≤ ((t363.length : Int) : Int) := of_decide_eq_true (by first | (with_reducible assumption) | assumption); obtain ⟨i052, hi052, _, hsz52, _⟩ := info_parts info33; have hroom52 : t363.length ≤ co53 := (Kd.S_reads' HO_11.out).2.1; have hC52 : Kd.C k33 _ Ao53 t363.length t363 := (Kd.S_reads' HO_11.out).2.2; have hcut52 := cut_to (P := Tryd.prog) 27 33 .i64 Tryd.underlying27 hi052 Ao53 t363.length co53 (t353.length : Int) (of_decide_eq_true (by first | (with_reducible assumption) | assumption)) q52 hroom52; have hr52 := Kd.C_take (m := ((t353.length : Int) : Int).toNat) hC52 (by omega); have hy52 : y372.length = ((t353.length : Int) : Int).toNat := (by rw [Ny372.out, List.length_take]; omega); rw [← Ny372.out] at hr52; rw [← hy52] at hcut52; have HR375 := Aside0.mk hr52; have HC375 := Aside0.mk (show y372.length ≤ co53 from by omega); clear hr52 hC52 hroom52 hi052 hsz52; have KY52 := Aside0.mk hy52; clear hy52; have KL52 := Aside0.mk (show ((t353.length : Int) : Int).toNat ≤ t363.length from by omega); replace q52 := eq_true q52) | (go_at_call 11; (with_reducible refine (G_SameTok.calls _ _ y372 _ _ t353 7770012 true _ ?side5 ?side1 ?side2 ?side3 ?side4 A43.out).mono ?_); (case side1 => repeat (first | exact (by repeat (first | (with_reducible exact HR375.out) | (with_reducible refine Kd.C_alloc ?_ _) | (with_reducible refine Kd.C_drewN ?_ _) | (with_reducible refine Kd.C_drew ?_) | exact HR375.out)) | (with_reducible refine Kd.C_alloc ?_ _) | (with_reducible refine Kd.C_drewN ?_ _) | (with_reducible refine Kd.C_drew ?_))); (case side2 => exact HC375.out); (case side3 => repeat (first | exact (Kd.S_reads' HO_5.out).2.2 | (with_reducible refine Kd.C_alloc ?_ _) | (with_reducible refine Kd.C_drewN ?_ _) | (with_reducible refine Kd.C_drew ?_))); (case side4 => exact (Kd.S_reads' HO_5.out).2.1); (case side5 => first | exact HG.out | exact Gd.drewN HG.out _ | exact Gd.drew HG.out | exact Gd.below HG.out (by repeat (first | (with_reducible first | exact HB.out | apply below_alloc | apply pw_below_drewN | apply below_drew1) | exact HB.out))); rintro e w54 ⟨rfl, hb⟩; have n0_ := Aside0.mk (Kd.S_below (by (with_reducible repeat (first | apply Kd.S_alloc | apply Kd.S_drewN | apply Kd.S_drew)); exact HO_5.out) hb); have n1_ := Aside0.mk (Kd.S_below (by (with_reducible repeat (first | apply Kd.S_alloc | apply Kd.S_drewN | apply Kd.S_drew)); exact HO_8.out) hb); have n2_ := Aside0.mk (Kd.S_below (by (with_reducible repeat (first | apply Kd.S_alloc | apply Kd.S_drewN | apply Kd.S_drew)); exact HO_11.out) hb); have n3_ := Aside0.mk (Kd.C_below (by repeat (first | (with_reducible exact HR375.out) | (with_reducible refine Kd.C_alloc ?_ _) | (with_reducible refine Kd.C_drewN ?_ _) | (with_reducible refine Kd.C_drew ?_) | exact HR375.out)) hb); have n4_ := Aside0.mk (below_step (by repeat (first | (with_reducible first | exact HB.out | apply below_alloc | apply pw_below_drewN | apply below_drew1) | exact HB.out)) hb); clear HO_5; clear HO_8; clear HO_11; clear HR375; clear HB; have HO_5 := n0_; have HO_8 := n1_; have HO_11 := n2_; have HR375 := n3_; have HB := n4_; clear n0_ n1_ n2_ n3_ n4_; (try clear hb); (try clear hb2); (try clear hk); (try clear hi); have q55 : ((ji45) : Int) ≤ ((t363.length : Int) : Int) := of_decide_eq_true (by first | (with_reducible assumption) | assumption); obtain ⟨i055, hi055, _, hsz55, _⟩ := info_parts info33; have hroom55 : t363.length ≤ co53 := (Kd.S_reads' HO_11.out).2.1; have hC55 : Kd.C k33 _ Ao53 t363.length t363 := (Kd.S_reads' HO_11.out).2.2; have q055 : (0 : Int) ≤ ((ji45) : Int) := of_decide_eq_true (by first | (with_reducible assumption) | assumption); have hcut55 := cut_from (P := Tryd.prog) 27 33 .i64 Tryd.underlying27 hi055 6 hsz55 Ao53 t363.length co53 (ji45) q055 q55; have hr55 := Kd.C_drop (m := ((ji45) : Int).toNat) (c := co53) hC55 (by omega) hroom55; obtain ⟨A55, hA55⟩ : ∃ A1, A1 = (if co53 = ((ji45) : Int).toNat then Ao53 else (Ao53 : Option Addr).map (·.add (((ji45) : Int).toNat * 6))) := ⟨_, rfl⟩; obtain ⟨c55, hc55⟩ : ∃ c1, c1 = co53 - ((ji45) : Int).toNat := ⟨_, rfl⟩; have hy55 : y377.length = t363.length - ((ji45) : Int).toNat := (by rw [Ny377.out, List.length_drop] <;> omega); rw [show (t363).drop ((ji45) : Int).toNat = y377 from Ny377.out.symm] at hr55; replace hr55 : Kd.C k33 _ A55 y377.length y377 := (by rw [hA55]; exact hr55); rw [← hy55, ← hA55, ← hc55] at hcut55; have HR380 := Aside0.mk hr55; have HC380 := Aside0.mk (show y377.length ≤ c55 from by rw [hy55, hc55]; exact Nat.sub_le_sub_right hroom55 _); clear hr55 hC55 hroom55 hi055 hsz55 hc55; have KY55 := Aside0.mk hy55; have KA55 := Aside0.mk hA55; clear hy55 hA55; have KL55 := Aside0.mk (show ((ji45) : Int).toNat ≤ t363.length from by omega); replace q55 := eq_true q55) | (go_at_call 11; (with_reducible refine (G_SameTok.calls _ _ y377 _ _ x8_4 7770012 t381 _ ?side5 ?side1 ?side2 ?side3 ?side4 A48.out).mono ?_); (case side1 => repeat (first | exact (by repeat (first | (with_reducible exact HR380.out) | (with_reducible refine Kd.C_alloc ?_ _) | (with_reducible refine Kd.C_drewN ?_ _) | (with_reducible refine Kd.C_drew ?_) | exact HR380.out)) | (with_reducible refine Kd.C_alloc ?_ _) | (with_reducible refine Kd.C_drewN ?_ _) | (with_reducible refine Kd.C_drew ?_))); (case side2 => exact HC380.out); (case side3 => repeat (first | exact (Kd.S_reads' HO_8.out).2.2 | (with_reducible refine Kd.C_alloc ?_ _) | (with_reducible refine Kd.C_drewN ?_ _) | (with_reducible refine Kd.C_drew ?_))); (case side4 => exact (Kd.S_reads' HO_8.out).2.1); (case side5 => first | exact HG.out | exact Gd.drewN HG.out _ | exact Gd.drew HG.out | exact Gd.below HG.out (by repeat (first | (with_reducible first | exact HB.out | apply below_alloc | apply pw_below_drewN | apply below_drew1) | exact HB.out))); rintro e w56 ⟨rfl, hb⟩; have n0_ := Aside0.mk (Kd.S_below (by (with_reducible repeat (first | apply Kd.S_alloc | apply Kd.S_drewN | apply Kd.S_drew)); exact HO_5.out) hb); have n1_ := Aside0.mk (Kd.S_below (by (with_reducible repeat (first | apply Kd.S_alloc | apply Kd.S_drewN | apply Kd.S_drew)); exact HO_8.out) hb); have n2_ := Aside0.mk (Kd.S_below (by (with_reducible repeat (first | apply Kd.S_alloc | apply Kd.S_drewN | apply Kd.S_drew)); exact HO_11.out) hb); have n3_ := Aside0.mk (Kd.C_below (by repeat (first | (with_reducible exact HR375.out) | (with_reducible refine Kd.C_alloc ?_ _) | (with_reducible refine Kd.C_drewN ?_ _) | (with_reducible refine Kd.C_drew ?_) | exact HR375.out)) hb); have n4_ := Aside0.mk (Kd.C_below (by repeat (first | (with_reducible exact HR380.out) | (with_reducible refine Kd.C_alloc ?_ _) | (with_reducible refine Kd.C_drewN ?_ _) | (with_reducible refine Kd.C_drew ?_) | exact HR380.out)) hb); have n5_ := Aside0.mk (below_step (by repeat (first | (with_reducible first | exact HB.out | apply below_alloc | apply pw_below_drewN | apply below_drew1) | exact HB.out)) hb); clear HO_5; clear HO_8; clear HO_11; clear HR375; clear HR380; clear HB; have HO_5 := n0_; have HO_8 := n1_; have HO_11 := n2_; have HR375 := n3_; have HR380 := n4_; have HB := n5_; clear n0_ n1_ n2_ n3_ n4_ n5_; (try clear hb); (try clear hb2); (try clear hk); (try clear hi)))
                                                go_ret
                                                exact ⟨by first | rfl | (simp [errW_none, errW_some] <;> rfl) | (simp only [← hji45]; first | rfl | (simp [errW_none, errW_some] <;> rfl)) | (simp [*, errW_none, errW_some] <;> rfl), by repeat (first | (with_reducible first | exact HB.out | apply below_alloc | apply pw_below_drewN | apply below_drew1) | exact HB.out)⟩
                                          · rw [if_neg c47] at H
                                            exact absurd H (by simp)
                                        · rw [if_neg c46] at H
                                          exact absurd H (by simp)
                                      · replace c44 := Bool.eq_false_iff.mpr c44
                                        subst c44
                                        have H1 : (some false) = some true := by rw [if_neg (show ¬ (false = true) by decide)] at H; exact H
                                        clear H
                                        have H := H1
                                        clear H1
                                        cases H
                                    · rw [if_neg c42] at H
                                      exact absurd H (by simp)
                                  · rw [if_neg c41] at H
                                    exact absurd H (by simp)
                                · replace c40 := Bool.eq_false_iff.mpr c40
                                  subst c40
                                  have H1 : (some false) = some true := by rw [if_neg (show ¬ (false = true) by decide)] at H; exact H
                                  clear H
                                  have H := H1
                                  clear H1
                                  cases H
            · rw [if_neg c12] at H
              exact absurd H (by simp)
          · rw [if_neg c10] at H
            exact absurd H (by simp)
        · rw [if_neg c8] at H
          exact absurd H (by simp)

/-- THE ONE PURE STATEMENT of cardexlaw08_TokenJoins: yours. -/
def cardexlaw08_TokenJoins.Pure : Prop := ∀ (a0 : ByteArray) (a1 : ByteArray), a0.size ≤ 140737488351232 → a1.size ≤ 140737488351232 → ∃ k, cardexlaw08_TokenJoins.f k a0 a1 = some true
theorem cardexlaw08_TokenJoins.walk (P : cardexlaw08_TokenJoins.Pure) (a0 : ByteArray) (a1 : ByteArray) (w : World) (hG_ : Gd w) (w0 : a0.size ≤ 140737488351232) (w1 : a1.size ≤ 140737488351232) :
    Calls Tryd.prog 6 #[.string a0, .string a1] w fun e w' => e = .returned (.bool true) ∧ Below w.heap.size w w' := by
  obtain ⟨k, h⟩ := P a0 a1 w0 w1
  refine (cardexlaw08_TokenJoins.calls k a0 a1 w hG_ h).mono ?_
  rintro e w' ⟨rfl, hd⟩
  exact ⟨rfl, hd⟩

end Go.Proofs.YtfelfpjfjjgmoaaDoor.P
end
/- Plain answers of the printed functions that read a token: runs of signs, names, values, attributes, on lists of bytes. -/
section
set_option linter.unusedVariables false
namespace Go.Proofs.YtfelfpjfjjgmoaaDoor
open Go.RowKit Go.Proofs.YtfelfpjfjjgmoaaDoorW.PrintWords

theorem take_drop_while {α : Type} (p : α → Bool) (l : List α) : l.take (l.length - (l.dropWhile p).length) = l.takeWhile p := by
  induction l with
  | nil => rfl
  | cons x l ih =>
    by_cases h : p x = true
    · rw [List.dropWhile_cons_of_pos h, List.takeWhile_cons_of_pos h]
      have hle : (l.dropWhile p).length ≤ l.length := (List.dropWhile_sublist p).length_le
      rw [List.length_cons, show l.length + 1 - (l.dropWhile p).length = (l.length - (l.dropWhile p).length) + 1 from by omega, List.take_succ_cons, ih]
    · rw [List.dropWhile_cons_of_neg h, List.takeWhile_cons_of_neg h]
      simp
theorem bs_eq (s : ByteArray) (l : List UInt8) (h : s.data.toList = l) : s = bs l := by rw [← h, bs_of]
theorem run_eq (s0 : ByteArray) (l cs : List UInt8) (hl : l.length ≤ 1000000000) (hc : asciiB cs = true) (hn : cs.length < 4294967281) :
    P.token_run_string.f s0 (bs l) (bs cs) = some (bs (l.takeWhile (cs.contains ·)), s0, bs (l.dropWhile (cs.contains ·))) := by
  have hle : (l.dropWhile (cs.contains ·)).length ≤ l.length := (List.dropWhile_sublist _).length_le
  have hw : wrap64 ((l.length : Int) - ((l.dropWhile (cs.contains ·)).length : Int)) = ((l.length - (l.dropWhile (cs.contains ·)).length : Nat) : Int) := by unfold wrap64; omega
  unfold P.token_run_string.f G_TrimLeft.f
  rw [bs_size, bs_size, if_pos hn, bs_list, bs_list, if_pos hc]
  simp only [Option.bind_some, Lib.trimLeftS]
  rw [show (⟨(l.dropWhile (cs.contains ·)).toArray⟩ : ByteArray) = bs (l.dropWhile (cs.contains ·)) from rfl, bs_size, hw, if_pos (by omega), if_pos (by omega)]
  congr 2
  apply bs_eq
  rw [extract_list, bs_list, List.drop_zero, Int.toNat_natCast, Nat.sub_zero, take_drop_while]

def blanksL : List UInt8 := [9, 10, 13, 32]
def firstL : List UInt8 := [65, 66, 67, 68, 69, 70, 71, 72, 73, 74, 75, 76, 77, 78, 79, 80, 81, 82, 83, 84, 85, 86, 87, 88, 89, 90, 97, 98, 99, 100, 101, 102, 103, 104, 105, 106, 107, 108, 109, 110, 111, 112, 113, 114, 115, 116, 117, 118, 119, 120, 121, 122, 95]
def otherL : List UInt8 := firstL ++ [48, 49, 50, 51, 52, 53, 54, 55, 56, 57, 45, 46]
/-- A name, and what is behind it. -/
def nameF : List UInt8 → List UInt8 × List UInt8
  | [] => ([], [])
  | c :: l => if firstL.contains c = true then ((c :: l).takeWhile (otherL.contains ·), (c :: l).dropWhile (otherL.contains ·)) else ([], c :: l)
theorem index_ne (c x : UInt8) (l : List UInt8) (h : ¬ c = x) : Lib.index (x :: l) [c] = if (Lib.index l [c] == -1) = true then -1 else Lib.index l [c] + 1 := by
  have hp : ([c].isPrefixOf (x :: l)) = false := by
    simp only [List.isPrefixOf, Bool.and_true]
    exact beq_eq_false_iff_ne.2 h
  conv => lhs; unfold Lib.index; rw [hp]; simp only [Bool.false_eq_true, if_false]
theorem contains_one (l : List UInt8) (c : UInt8) : Lib.contains l [c] = l.contains c := by
  unfold Lib.contains
  induction l with
  | nil => simp [Lib.index]
  | cons x l ih =>
    have hg := index_ge c l
    by_cases h : c = x
    · subst h
      simp [Lib.index]
    · rw [List.contains_cons, show (c == x) = false from beq_eq_false_iff_ne.2 h, Bool.false_or, ← ih, index_ne c x l h]
      by_cases h0 : Lib.index l [c] = -1
      · rw [h0]; decide
      · rw [if_neg (by rw [beq_iff_eq]; exact h0)]
        congr 1
        exact propext ⟨fun _ => by omega, fun _ => by omega⟩
theorem nil_iff (l : List UInt8) : ((bs l).toList = ([] : List UInt8)) = (l = []) := by rw [toList_d, bs_list]
theorem name_eq (s0 : ByteArray) (l : List UInt8) (hl : l.length ≤ 1000000000) : P.token_name.f s0 (bs l) = some (bs (nameF l).1, s0, bs (nameF l).2) := by
  unfold P.token_name.f
  cases l with
  | nil =>
    rw [if_pos (by rw [nil_iff])]
    rfl
  | cons c l =>
    rw [if_neg (by rw [nil_iff]; simp), if_pos (by omega), if_pos (by rw [bs_size, List.length_cons]; omega)]
    unfold G_Contains.f
    rw [if_pos (by decide)]
    simp only [Option.bind_some]
    rw [show ((bs (c :: l)).extract 0 1).data.toList = [c] from by rw [extract_list, bs_list]; rfl, contains_one]
    have hr := run_eq s0 (c :: l) otherL hl (by decide) (by decide)
    by_cases h : firstL.contains c = true
    · rw [show nameF (c :: l) = ((c :: l).takeWhile (otherL.contains ·), (c :: l).dropWhile (otherL.contains ·)) from if_pos h]
      refine Eq.trans (if_pos h) ?_
      rw [show (⟨#[65, 66, 67, 68, 69, 70, 71, 72, 73, 74, 75, 76, 77, 78, 79, 80, 81, 82, 83, 84, 85, 86, 87, 88, 89, 90, 97, 98, 99, 100, 101, 102, 103, 104, 105, 106, 107, 108, 109, 110, 111, 112, 113, 114, 115, 116, 117, 118, 119, 120, 121, 122, 95, 48, 49, 50, 51, 52, 53, 54, 55, 56, 57, 45, 46]⟩ : ByteArray) = bs otherL from rfl, hr]
      rfl
    · rw [show nameF (c :: l) = ([], c :: l) from if_neg h]
      exact if_neg h

/-- Does p stand here? What is behind it. -/
def isF (p l : List UInt8) : Bool × List UInt8 := if (l.take p.length == p) = true then (true, l.drop p.length) else (false, l)
theorem is_eq (s0 : ByteArray) (l p : List UInt8) : P.token_walk_string_is.f s0 (bs l) (bs p) = some ((isF p l).1, s0, bs (isF p l).2) := by
  unfold P.token_walk_string_is.f
  rw [cutP_eq]
  unfold cutP isF
  rw [bs_list, bs_list, bs_size]
  simp only [Option.bind_some]
  split
  · congr 3
    apply bs_eq
    rw [extract_list, bs_list, bs_size, List.take_of_length_le (by rw [List.length_drop]; omega)]
  · rfl
theorem cut_index (c : UInt8) (l : List UInt8) (h : 0 ≤ Lib.index l [c]) : cutAt c l = (l.take (Lib.index l [c]).toNat, l.drop ((Lib.index l [c]).toNat + 1), true) := by
  rw [← cut_eq]
  unfold Lib.cut
  rw [if_pos h]
  rfl
theorem cut_noindex (c : UInt8) (l : List UInt8) (h : ¬ 0 ≤ Lib.index l [c]) : cutAt c l = (l, [], false) := by
  rw [← cut_eq]
  unfold Lib.cut
  rw [if_neg h]
theorem cutAt_join (c : UInt8) : ∀ l : List UInt8, (cutAt c l).2.2 = true → l = (cutAt c l).1 ++ c :: (cutAt c l).2.1
  | [], h => by simp [cutAt] at h
  | x :: l, h => by
    unfold cutAt at h ⊢
    split
    · rename_i hx
      simp [hx]
    · rename_i hx
      rw [if_neg hx] at h
      have ih := cutAt_join c l h
      simp only [List.cons_append]
      rw [← ih]
theorem upTo_eq (s0 : ByteArray) (l : List UInt8) (c : UInt8) (hl : l.length < 4294967281) :
    G_upTo.f s0 (bs l) ⟨#[c]⟩ = some (bs (cutAt c l).1, (cutAt c l).2.2, s0, bs (if (cutAt c l).2.2 = true then c :: (cutAt c l).2.1 else [])) := by
  unfold G_upTo.f
  rw [if_pos (by rw [bs_size]; exact hl), bs_list, show (⟨#[c]⟩ : ByteArray).data.toList = [c] from rfl]
  have hL := cutAt_len c l
  by_cases h : 0 ≤ Lib.index l [c]
  · have hc := cut_index c l h
    have hj := cutAt_join c l (by rw [hc])
    rw [hc] at hL hj ⊢
    simp only [if_true, List.length_take, List.length_drop] at hL
    simp only [] at hj
    have hn : (Lib.index l [c]).toNat < l.length := by
      generalize (Lib.index l [c]).toNat = n at hL ⊢
      omega
    have hd : l.drop (Lib.index l [c]).toNat = c :: l.drop ((Lib.index l [c]).toNat + 1) := by
      have h1 : (l.take (Lib.index l [c]).toNat).length = (Lib.index l [c]).toNat := by rw [List.length_take]; omega
      have h2 := congrArg (List.drop (Lib.index l [c]).toNat) hj
      rw [List.drop_left' h1] at h2
      exact h2
    rw [if_neg (by omega), if_pos (by rw [bs_size]; omega)]
    have e1 : (bs l).extract 0 (Lib.index l [c]).toNat = bs (l.take (Lib.index l [c]).toNat) := by
      apply bs_eq
      rw [extract_list, bs_list, List.drop_zero, Nat.sub_zero]
    have e2 : (bs l).extract (Lib.index l [c]).toNat (bs l).size = bs (c :: l.drop ((Lib.index l [c]).toNat + 1)) := by
      apply bs_eq
      rw [extract_list, bs_list, bs_size, List.take_of_length_le (by rw [List.length_drop]; omega), hd]
    rw [e1, e2, bs_empty]
    rfl
  · rw [if_pos (by omega), cut_noindex c l h]
    simp [bs]

/-! ### values and attributes -/
def valueF : List UInt8 → ByteArray × Bool × List UInt8
  | [] => (⟨#[]⟩, false, [])
  | x :: t =>
    if x = 39 then ((backF (bs (cutAt 39 t).1)).1, (cutAt 39 t).2.2 && ((backF (bs (cutAt 39 t).1)).2 == 0), (cutAt 39 t).2.1)
    else if x = 34 then ((backF (bs (cutAt 34 t).1)).1, (cutAt 34 t).2.2 && ((backF (bs (cutAt 34 t).1)).2 == 0), (cutAt 34 t).2.1)
    else (⟨#[]⟩, false, x :: t)
theorem is_one_yes (s0 : ByteArray) (c : UInt8) (l : List UInt8) : P.token_walk_string_is.f s0 (bs (c :: l)) ⟨#[c]⟩ = some (true, s0, bs l) := by
  rw [show (⟨#[c]⟩ : ByteArray) = bs [c] from rfl, is_eq]
  simp [isF]
theorem is_one_no (s0 : ByteArray) (c x : UInt8) (l : List UInt8) (h : ¬ x = c) : P.token_walk_string_is.f s0 (bs (x :: l)) ⟨#[c]⟩ = some (false, s0, bs (x :: l)) := by
  rw [show (⟨#[c]⟩ : ByteArray) = bs [c] from rfl, is_eq]
  simp [isF, h]
theorem is_one_nil (s0 : ByteArray) (c : UInt8) : P.token_walk_string_is.f s0 (bs []) ⟨#[c]⟩ = some (false, s0, bs []) := by
  rw [show (⟨#[c]⟩ : ByteArray) = bs [c] from rfl, is_eq]
  simp [isF]
theorem cutAt_no (c : UInt8) : ∀ l : List UInt8, (cutAt c l).2.2 = false → (cutAt c l).2.1 = []
  | [], _ => rfl
  | x :: l, h => by
    unfold cutAt at h ⊢
    split
    · rename_i hx
      rw [if_pos hx] at h
      cases h
    · rename_i hx
      rw [if_neg hx] at h
      exact cutAt_no c l h
theorem back_some (l : List UInt8) (hl : l.length < 1000000000) : G_Back.f (bs l) = some (backF (bs l)) := by
  unfold G_Back.f
  rw [if_pos (by rw [bs_size]; exact hl)]
theorem value_eq (s0 : ByteArray) (l : List UInt8) (hl : l.length < 1000000000) : P.token_value.f s0 (bs l) = some ((valueF l).1, (valueF l).2.1, s0, bs (valueF l).2.2) := by
  unfold P.token_value.f
  cases l with
  | nil =>
    rw [is_one_nil]
    simp only [Option.bind_some, Bool.false_eq_true, if_false]
    rw [is_one_nil]
    rfl
  | cons x t =>
    rw [List.length_cons] at hl
    have key : ∀ c : UInt8, (cutAt c t).1.length < 1000000000 := fun c => by have := cutAt_len c t; omega
    by_cases h1 : x = 39
    · subst h1
      rw [is_one_yes]
      simp only [Option.bind_some, if_true]
      rw [upTo_eq s0 t 39 (by omega)]
      simp only [Option.bind_some]
      rw [back_some _ (key 39)]
      simp only [Option.bind_some, valueF]
      cases hc : (cutAt 39 t).2.2 with
      | true =>
        simp only [if_true]
        rw [is_one_yes]
        simp
      | false =>
        rw [cutAt_no 39 t hc]
        simp
    · rw [is_one_no s0 39 x t h1]
      simp only [Option.bind_some, Bool.false_eq_true, if_false]
      by_cases h2 : x = 34
      · subst h2
        rw [is_one_yes]
        simp only [Option.bind_some, if_true]
        rw [upTo_eq s0 t 34 (by omega)]
        simp only [Option.bind_some]
        rw [back_some _ (key 34)]
        simp only [Option.bind_some, valueF]
        cases hc : (cutAt 34 t).2.2 with
        | true =>
          simp only [if_true]
          rw [is_one_yes]
          simp
        | false =>
          rw [cutAt_no 34 t hc]
          simp
      · rw [is_one_no s0 34 x t h2]
        simp only [Option.bind_some, Bool.false_eq_true, if_false]
        simp [valueF, h1, h2]

def skipB (l : List UInt8) : List UInt8 := l.dropWhile (blanksL.contains ·)
def gapB (l : List UInt8) : List UInt8 := l.takeWhile (blanksL.contains ·)
theorem gap_eq (s0 : ByteArray) (l : List UInt8) (hl : l.length ≤ 1000000000) : P.token_run_string.f s0 (bs l) ⟨#[9, 10, 13, 32]⟩ = some (bs (gapB l), s0, bs (skipB l)) :=
  run_eq s0 l blanksL hl (by decide) (by decide)
theorem nameF_le (l : List UInt8) : (nameF l).2.length ≤ l.length := by
  unfold nameF
  split
  · exact Nat.le_refl _
  · split
    · exact (List.dropWhile_sublist _).length_le
    · exact Nat.le_refl _
theorem skipB_le (l : List UInt8) : (skipB l).length ≤ l.length := (List.dropWhile_sublist _).length_le
/-- An attribute: its name, its value, whether it is one, and what is behind it. -/
def attrF (l : List UInt8) : List UInt8 × ByteArray × Bool × List UInt8 :=
  if (nameF l).1 = [] then ([], ⟨#[]⟩, false, skipB (nameF l).2)
  else if (isF [61] (skipB (nameF l).2)).1 = true then
    ((nameF l).1, (valueF (skipB (isF [61] (skipB (nameF l).2)).2)).1, (valueF (skipB (isF [61] (skipB (nameF l).2)).2)).2.1, (valueF (skipB (isF [61] (skipB (nameF l).2)).2)).2.2)
  else ((nameF l).1, ⟨#[]⟩, false, skipB (nameF l).2)
theorem isF_le (p l : List UInt8) : (isF p l).2.length ≤ l.length := by
  unfold isF
  split
  · simp
  · exact Nat.le_refl _
theorem isF_no (p l : List UInt8) (h : (isF p l).1 = false) : (isF p l).2 = l := by
  unfold isF at h ⊢
  split at h
  · cases h
  · rename_i hh
    rw [if_neg hh]
theorem attr_eq (k : Nat) (s0 : ByteArray) (l : List UInt8) (hl : l.length < 1000000000) : P.token_attr.f (k + 1) s0 (bs l) = some (bs (attrF l).1, (attrF l).2.1, (attrF l).2.2.1, s0, bs (attrF l).2.2.2) := by
  have h1 := nameF_le l
  have h2 := skipB_le (nameF l).2
  have h3 := isF_le [61] (skipB (nameF l).2)
  have h4 := skipB_le (isF [61] (skipB (nameF l).2)).2
  unfold P.token_attr.f attrF
  rw [name_eq s0 l (by omega)]
  simp only [Option.bind_some]
  rw [gap_eq s0 _ (by omega)]
  simp only [Option.bind_some, nil_iff]
  by_cases hn : (nameF l).1 = []
  · rw [if_pos hn, if_pos hn]
    simp only [P.token_attr.j0, if_true]
    rw [hn]
  · rw [if_neg hn, if_neg hn, show (⟨#[61]⟩ : ByteArray) = bs [61] from rfl, is_eq]
    simp only [Option.bind_some, P.token_attr.j0]
    cases hi : (isF [61] (skipB (nameF l).2)).1 with
    | true =>
      simp only [Bool.not_true, Bool.false_eq_true, if_false, if_true]
      rw [gap_eq s0 _ (by omega)]
      simp only [Option.bind_some]
      rw [value_eq s0 _ (by omega)]
      rfl
    | false =>
      simp only [Bool.not_false, if_true, Bool.false_eq_true, if_false]
      rw [isF_no _ _ hi]
end Go.Proofs.YtfelfpjfjjgmoaaDoor
end
/- Valid texts on lists of bytes: 'vs' reads a text character by character; utf.Valid answers it; a text is valid where its two parts are, if the second one begins with no continuing byte. -/
section
set_option linter.unusedVariables false
namespace Go.Proofs.YtfelfpjfjjgmoaaDoor
open Go.RowKit Go.Lib Go.Proofs.YtfelfpjfjjgmoaaDoorW.PrintWords

/-- No character stands here. -/
def badL (l : List UInt8) : Bool := decide ((decodeL l).1 = 65533 ∧ (decodeL l).2 = 1)
/-- Characters, each of which may be, by p. -/
def vsN (p : Nat → Bool) : Nat → List UInt8 → Bool
  | 0, _ => true
  | n + 1, l => if l = [] then true else if badL l = true then false else p (decodeL l).1 && vsN p n (l.drop (decodeL l).2)
def vsP (p : Nat → Bool) (l : List UInt8) : Bool := vsN p l.length l
theorem decodeL_pos (l : List UInt8) : 1 ≤ (decodeL l).2 := decodeL_width l
theorem drop_lt (l : List UInt8) (h : l ≠ []) : (l.drop (decodeL l).2).length < l.length := by
  have := decodeL_pos l
  have : 0 < l.length := List.length_pos_iff.2 h
  rw [List.length_drop]; omega
theorem vsN_fuel (p : Nat → Bool) : ∀ (n m : Nat) (l : List UInt8), l.length ≤ n → l.length ≤ m → vsN p n l = vsN p m l
  | 0, m, l, h, _ => by
    have : l = [] := List.length_eq_zero_iff.1 (by omega)
    subst this
    cases m <;> simp [vsN]
  | n + 1, 0, l, _, h => by
    have : l = [] := List.length_eq_zero_iff.1 (by omega)
    subst this
    simp [vsN]
  | n + 1, m + 1, l, h1, h2 => by
    unfold vsN
    by_cases hl : l = []
    · rw [if_pos hl, if_pos hl]
    · have := drop_lt l hl
      rw [if_neg hl, if_neg hl, vsN_fuel p n m _ (by omega) (by omega)]
theorem vsP_nil (p : Nat → Bool) : vsP p [] = true := rfl
theorem vsP_step (p : Nat → Bool) (l : List UInt8) (h : l ≠ []) : vsP p l = if badL l = true then false else p (decodeL l).1 && vsP p (l.drop (decodeL l).2) := by
  have hd := drop_lt l h
  unfold vsP
  cases hn : l.length with
  | zero => exact absurd (List.length_eq_zero_iff.1 hn) h
  | succ n =>
    rw [vsN, if_neg h, vsN_fuel p n _ _ (by omega) (Nat.le_refl _)]
theorem validGo_runes (p : Int → Bool) (s : ByteArray) : ∀ (b i : Nat), s.size ≤ b + i → (validGoD b (s.data.toList.drop i) && allB p (runesZ s b i)) = vsN (fun r => p r) b (s.data.toList.drop i)
  | 0, i, h => by simp [validGoD, runesZ, allB, vsN]
  | b + 1, i, h => by
    have hd := decodeL_drop s i
    unfold validGoD runesZ vsN badL
    simp only [decide_eq_true_eq]
    by_cases hi : i < s.size
    · have hne : s.data.toList.drop i ≠ [] := by rw [Ne, List.drop_eq_nil_iff, data_length]; omega
      rw [if_neg hne, if_neg hne, if_pos hi]
      simp only [hd]
      split
      · rfl
      · rw [List.drop_drop, ← validGo_runes p s b (i + (Utf8.decode s i).2) (by have := decodeL_pos (s.data.toList.drop i); rw [hd] at this; omega)]
        simp only [allB, List.all_cons]
        rw [Bool.and_left_comm]
    · have he : s.data.toList.drop i = [] := by rw [List.drop_eq_nil_iff, data_length]; omega
      rw [if_pos he, if_pos he, if_neg hi]
      rfl
theorem textB_vs (p : Int → Bool) (l : List UInt8) : textB p (bs l) = vsP (fun r => p r) l := by
  unfold textB validD runesOf vsP
  have := validGo_runes p (bs l) l.length 0 (by rw [bs_size]; omega)
  rw [bs_list, List.drop_zero] at this
  rw [bs_list, bs_size]
  exact this

/-- May a text be? Of characters that may be, all of them. -/
def vs (l : List UInt8) : Bool := vsP (fun r => mayB r) l
theorem validB_vs (l : List UInt8) : validB (bs l) = vs l := textB_vs mayB l

/-! ### two texts, one behind the other -/
/-- A text that begins with no continuing byte. -/
def startsB : List UInt8 → Bool
  | [] => true
  | c :: _ => c.toNat / 64 != 2
theorem getD_app (a b : List UInt8) (k : Nat) (h : k < a.length) : (a ++ b).getD k 0 = a.getD k 0 := by
  simp [List.getD, List.getElem?_append_left h]
theorem cont_out (a b : List UInt8) (k : Nat) (hb : startsB b = true) (hk : k = a.length) : ¬ (k < (a ++ b).length ∧ ((a ++ b).getD k 0).toNat / 64 = 2) := by
  rintro ⟨h1, h2⟩
  subst hk
  cases b with
  | nil => simp at h1
  | cons c b =>
    rw [List.getD, List.getElem?_append_right (Nat.le_refl _), Nat.sub_self] at h2
    simp [startsB] at hb
    exact hb (by simpa using h2)
/-- What continues within the first part is what continues there: one place on. -/
theorem cont_app (a b : List UInt8) (k : Nat) (hb : startsB b = true) (hk : k ≤ a.length) : (k < (a ++ b).length ∧ ((a ++ b).getD k 0).toNat / 64 = 2) = (k < a.length ∧ (a.getD k 0).toNat / 64 = 2) := by
  by_cases h : k < a.length
  · rw [getD_app a b k h]
    exact propext ⟨fun x => ⟨h, x.2⟩, fun x => ⟨by rw [List.length_append]; omega, x.2⟩⟩
  · have hk' : k = a.length := by omega
    exact propext ⟨fun x => absurd x (cont_out a b k hb hk'), fun x => absurd x.1 h⟩
theorem decodeL_app (a b : List UInt8) (ha : a ≠ []) (hb : startsB b = true) : decodeL (a ++ b) = decodeL a := by
  have h0 : 0 < a.length := List.length_pos_iff.2 ha
  rw [decodeL_N, decodeL_N, getD_app a b 0 h0]
  generalize hx0 : (a.getD 0 0).toNat = x0
  have c1 := cont_app a b 1 hb (by omega)
  unfold decodeN
  by_cases e1 : 1 < a.length ∧ (a.getD 1 0).toNat / 64 = 2
  · have h1 := e1.1
    have c2 := cont_app a b 2 hb (by omega)
    by_cases e2 : 2 < a.length ∧ (a.getD 2 0).toNat / 64 = 2
    · have h2 := e2.1
      have c3 := cont_app a b 3 hb (by omega)
      by_cases e3 : 3 < a.length ∧ (a.getD 3 0).toNat / 64 = 2
      · simp only [c1, c2, c3]
        simp only [getD_app a b 1 h1, getD_app a b 2 h2, getD_app a b 3 e3.1]
      · simp only [c1, c2, c3, e3, and_false, if_false]
        simp only [getD_app a b 1 h1, getD_app a b 2 h2]
    · simp only [c1, c2, e2, and_false, false_and, if_false]
      simp only [getD_app a b 1 h1]
  · simp only [c1, e1, and_false, false_and, if_false]
theorem vsP_app (p : Nat → Bool) (b : List UInt8) (hb : startsB b = true) : ∀ (n : Nat) (a : List UInt8), a.length ≤ n → vsP p (a ++ b) = (vsP p a && vsP p b)
  | 0, a, h => by
    have : a = [] := List.length_eq_zero_iff.1 (by omega)
    subst this
    simp [vsP_nil]
  | n + 1, a, h => by
    by_cases ha : a = []
    · subst ha; simp [vsP_nil]
    · have hd := drop_lt a ha
      have hw := decodeL_le a ha
      rw [vsP_step p (a ++ b) (by simp [ha]), vsP_step p a ha]
      unfold badL
      rw [decodeL_app a b ha hb]
      split
      · rfl
      · rw [List.drop_append_of_le_length hw, vsP_app p b hb n _ (by omega), Bool.and_assoc]
theorem vs_app (a b : List UInt8) (hb : startsB b = true) : vs (a ++ b) = (vs a && vs b) := vsP_app _ b hb a.length a (Nat.le_refl _)
theorem vs_ascii (c : UInt8) (l : List UInt8) (h : c.toNat < 128) : vs (c :: l) = (mayB c.toNat && vs l) := by
  unfold vs
  rw [vsP_step _ _ (by simp)]
  unfold badL
  rw [decodeL_ascii c l h]
  rw [if_neg (by simp; omega)]
  rfl
/-- Behind an ASCII byte a text may be cut. -/
theorem vs_behind (a b : List UInt8) (c : UInt8) (h : c.toNat < 128) : vs (a ++ c :: b) = (vs a && mayB c.toNat && vs b) := by
  rw [vs_app a (c :: b) (by simp only [startsB, bne_iff_ne, ne_eq]; omega), vs_ascii c b h, Bool.and_assoc]
end Go.Proofs.YtfelfpjfjjgmoaaDoor
end
/- token.Tokens on lists of bytes: 'nextF' is one token, what is behind it; 'tokL' all of them; 'tokensF' what token.Tokens answers (tokens_eq). -/
section
set_option linter.unusedVariables false
namespace Go.Proofs.YtfelfpjfjjgmoaaDoor
open Go.RowKit Go.Proofs.YtfelfpjfjjgmoaaDoorW.PrintWords

abbrev AttrT := P.S35
abbrev TokT := P.S33
def dupB (l : List AttrT) (n : List UInt8) : Bool := l.any fun a => decide (a.f0.toList = n)
theorem dup_any (l : List AttrT) (n : List UInt8) : anyAt (fun j => decide ((l.getD j P.z35).f0.toList = (bs n).toList)) l.length = dupB l n := by
  unfold anyAt dupB
  rw [toList_d (bs n), bs_list, Bool.eq_iff_iff, List.any_eq_true, List.any_eq_true]
  constructor
  · rintro ⟨i, hi, h⟩
    have hi' := List.mem_range.1 hi
    refine ⟨l[i], List.getElem_mem hi', ?_⟩
    simpa [List.getD, hi'] using h
  · rintro ⟨x, hx, h⟩
    obtain ⟨i, hi, rfl⟩ := List.getElem_of_mem hx
    exact ⟨i, List.mem_range.2 hi, by simpa [List.getD, hi] using h⟩
/-- What is behind a name of an opening: its attributes, whether it is empty, whether it is one, what is behind it. -/
def openL : Nat → List AttrT → List UInt8 → List AttrT × Bool × Bool × List UInt8
  | 0, l, r => (l, false, false, r)
  | k + 1, l, r =>
    if (isF [47, 62] (skipB r)).1 = true then (l, true, true, (isF [47, 62] (skipB r)).2)
    else if (isF [62] (skipB r)).1 = true then (l, false, true, (isF [62] (skipB r)).2)
    else if gapB r = [] then (l, false, false, (attrF (skipB r)).2.2.2)
    else if (attrF (skipB r)).2.2.1 = false then (l, false, false, (attrF (skipB r)).2.2.2)
    else if dupB l (attrF (skipB r)).1 = true then (l, false, false, (attrF (skipB r)).2.2.2)
    else openL k (l ++ [⟨bs (attrF (skipB r)).1, (attrF (skipB r)).2.1⟩]) (attrF (skipB r)).2.2.2
theorem gap_skip (r : List UInt8) : gapB r ++ skipB r = r := List.takeWhile_append_dropWhile
theorem valueF_le (l : List UInt8) : (valueF l).2.2.length ≤ l.length := by
  unfold valueF
  split
  · exact Nat.le_refl _
  · rename_i x t
    have h1 := cutAt_len 39 t
    have h2 := cutAt_len 34 t
    split
    · simp only [List.length_cons]
      split at h1 <;> omega
    · split
      · simp only [List.length_cons]
        split at h2 <;> omega
      · exact Nat.le_refl _
theorem attrF_le (l : List UInt8) : (attrF l).2.2.2.length ≤ l.length := by
  have h1 := nameF_le l
  have h2 := skipB_le (nameF l).2
  have h3 := isF_le [61] (skipB (nameF l).2)
  have h4 := skipB_le (isF [61] (skipB (nameF l).2)).2
  have h5 := valueF_le (skipB (isF [61] (skipB (nameF l).2)).2)
  unfold attrF
  split
  · simp only []; omega
  · split
    · simp only []; omega
    · simp only []; omega
theorem openJ_eq (nm : ByteArray) (hn : ¬ nm.toList = ([] : List UInt8)) (s0 : ByteArray) : ∀ (k : Nat) (l : List AttrT) (r : List UInt8), r.length < k → l.length + r.length < 1000000000 →
    openJ k nm l s0 (bs r) = some ((openL k l r).1, (openL k l r).2.1, (openL k l r).2.2.1, s0, bs (openL k l r).2.2.2)
  | 0, l, r, h, _ => absurd h (Nat.not_lt_zero _)
  | k + 1, l, r, h, hb => by
    have h0 := gap_skip r
    have h1 := skipB_le r
    have h2 := attrF_le (skipB r)
    unfold openJ openL
    rw [if_neg hn, gap_eq s0 r (by omega)]
    simp only [Option.bind_some]
    rw [show (⟨#[47, 62]⟩ : ByteArray) = bs [47, 62] from rfl, is_eq]
    simp only [Option.bind_some]
    by_cases c1 : (isF [47, 62] (skipB r)).1 = true
    · rw [if_pos c1, if_pos c1]
    rw [if_neg c1, if_neg c1, isF_no _ _ (by simpa using c1), show (⟨#[62]⟩ : ByteArray) = bs [62] from rfl, is_eq]
    simp only [Option.bind_some]
    by_cases c2 : (isF [62] (skipB r)).1 = true
    · rw [if_pos c2, if_pos c2]
    rw [if_neg c2, if_neg c2, isF_no _ _ (by simpa using c2), attr_eq 1 s0 _ (by omega)]
    simp only [Option.bind_some, nil_iff]
    by_cases c3 : gapB r = []
    · rw [if_pos c3, if_pos c3]
    rw [if_neg c3, if_neg c3]
    by_cases c4 : (attrF (skipB r)).2.2.1 = false
    · rw [if_pos c4, if_pos c4]
    have hg : 0 < (gapB r).length := List.length_pos_iff.2 c3
    have hl := congrArg List.length h0
    rw [List.length_append] at hl
    rw [if_neg c4, if_neg c4, if_neg (by omega), dup_any]
    by_cases c5 : dupB l (attrF (skipB r)).1 = true
    · rw [if_pos c5, if_pos c5]
    rw [if_neg c5, if_neg c5]
    exact openJ_eq nm hn s0 k _ _ (by omega) (by simp only [List.length_append, List.length_cons, List.length_nil]; omega)
theorem openL_le : ∀ (k : Nat) (l : List AttrT) (r : List UInt8), (openL k l r).2.2.2.length ≤ r.length
  | 0, l, r => Nat.le_refl _
  | k + 1, l, r => by
    have h1 := skipB_le r
    have h2 := attrF_le (skipB r)
    have h3 := isF_le [47, 62] (skipB r)
    have h4 := isF_le [62] (skipB r)
    have h5 := openL_le k (l ++ [⟨bs (attrF (skipB r)).1, (attrF (skipB r)).2.1⟩]) (attrF (skipB r)).2.2.2
    unfold openL
    repeat' split
    all_goals first | omega | (simp only []; omega)

/-- One token (its place 0), whether it is one, and what is behind it. -/
def shutT (l : List UInt8) : TokT × Bool × List UInt8 :=
  (⟨2, 0, bs (nameF l).1, ⟨#[]⟩, [], false⟩, if (nameF l).1 = [] then false else (isF [62] (skipB (nameF l).2)).1, if (nameF l).1 = [] then skipB (nameF l).2 else (isF [62] (skipB (nameF l).2)).2)
def openT (l : List UInt8) : TokT × Bool × List UInt8 :=
  if (nameF l).1 = [] then (⟨1, 0, bs [], ⟨#[]⟩, [], false⟩, false, (nameF l).2)
  else (⟨1, 0, bs (nameF l).1, ⟨#[]⟩, (openL (l.length + 2) [] (nameF l).2).1, (openL (l.length + 2) [] (nameF l).2).2.1⟩, (openL (l.length + 2) [] (nameF l).2).2.2.1, (openL (l.length + 2) [] (nameF l).2).2.2.2)
def textT (l : List UInt8) : TokT × Bool × List UInt8 :=
  (⟨3, 0, ⟨#[]⟩, (backF (bs (cutAt 60 l).1)).1, [], false⟩, (backF (bs (cutAt 60 l).1)).2 == 0, if (cutAt 60 l).2.2 = true then 60 :: (cutAt 60 l).2.1 else [])
def nextF (l : List UInt8) : TokT × Bool × List UInt8 :=
  if (isF [60, 47] l).1 = true then shutT (isF [60, 47] l).2
  else if (isF [60] l).1 = true then openT (isF [60] l).2
  else textT l
theorem shut_eq (s0 : ByteArray) (l : List UInt8) (hl : l.length ≤ 1000000000) :
    P.token_shut.f s0 (bs l) = some ((shutT l).1.f0, (shutT l).1.f1, (shutT l).1.f2, (shutT l).1.f3, (shutT l).1.f4, (shutT l).1.f5, (shutT l).2.1, s0, bs (shutT l).2.2) := by
  have h1 := nameF_le l
  unfold P.token_shut.f shutT
  rw [name_eq s0 l hl]
  simp only [Option.bind_some]
  rw [gap_eq s0 _ (by omega)]
  simp only [Option.bind_some, nil_iff]
  by_cases c : (nameF l).1 = []
  · rw [if_pos c, if_pos c, if_pos c]
  · rw [if_neg c, if_neg c, if_neg c, show (⟨#[62]⟩ : ByteArray) = bs [62] from rfl, is_eq]
    rfl
theorem open_eq (s0 : ByteArray) (l : List UInt8) (hl : l.length < 1000000000) :
    G_open.f s0 (bs l) = some ((openT l).1.f0, (openT l).1.f1, (openT l).1.f2, (openT l).1.f3, (openT l).1.f4, (openT l).1.f5, (openT l).2.1, s0, bs (openT l).2.2) := by
  have h1 := nameF_le l
  unfold G_open.f openT
  rw [name_eq s0 l (by omega)]
  simp only [Option.bind_some]
  by_cases c : (nameF l).1 = []
  · rw [if_pos c, c, bs_size]
    unfold openJ
    rw [if_pos (by rw [nil_iff])]
    rfl
  · rw [if_neg c, openJ_eq _ (by rw [nil_iff]; exact c) s0 _ _ _ (by rw [bs_size]; omega) (by simp only [List.length_nil]; omega)]
    simp only [Option.bind_some, bs_size]
theorem next_eq (s0 : ByteArray) (l : List UInt8) (hl : l.length < 1000000000) :
    P.token_next.f s0 (bs l) = some ((nextF l).1.f0, (nextF l).1.f1, (nextF l).1.f2, (nextF l).1.f3, (nextF l).1.f4, (nextF l).1.f5, (nextF l).2.1, s0, bs (nextF l).2.2) := by
  have h1 := isF_le [60, 47] l
  have h2 := isF_le [60] l
  unfold P.token_next.f nextF
  rw [show (⟨#[60, 47]⟩ : ByteArray) = bs [60, 47] from rfl, is_eq]
  simp only [Option.bind_some]
  by_cases c1 : (isF [60, 47] l).1 = true
  · rw [if_pos c1, if_pos c1, shut_eq s0 _ (by omega)]
    rfl
  rw [if_neg c1, if_neg c1, isF_no _ _ (by simpa using c1), show (⟨#[60]⟩ : ByteArray) = bs [60] from rfl, is_eq]
  simp only [Option.bind_some]
  by_cases c2 : (isF [60] l).1 = true
  · rw [if_pos c2, if_pos c2, open_eq s0 _ (by omega)]
    rfl
  rw [if_neg c2, if_neg c2, isF_no _ _ (by simpa using c2), show bs [60] = (⟨#[60]⟩ : ByteArray) from rfl, upTo_eq s0 l 60 (by omega)]
  have h3 := cutAt_len 60 l
  simp only [Option.bind_some]
  rw [back_some _ (by split at h3 <;> omega)]
  rfl

/-- All tokens of what is left; n: how long the whole is. -/
def tokL : Nat → Nat → List TokT → List UInt8 → List TokT × Int × Int
  | 0, _, _, _ => ([], 0, 0)
  | k + 1, n, l, r =>
    if r = [] then (l, 0, 0)
    else if (nextF r).2.1 = false then ([], (n : Int) - r.length, 5)
    else if 10 < (nextF r).1.f4.length then ([], (n : Int) - r.length, 4)
    else tokL k n (l ++ [⟨(nextF r).1.f0, (n : Int) - r.length, (nextF r).1.f2, (nextF r).1.f3, (nextF r).1.f4, (nextF r).1.f5⟩]) (nextF r).2.2
theorem isF_yes (p l : List UInt8) (h : (isF p l).1 = true) : l = p ++ (isF p l).2 := by
  unfold isF at h ⊢
  split at h
  · rename_i hh
    rw [if_pos hh]
    have := beq_iff_eq.1 hh
    conv => lhs; rw [← List.take_append_drop p.length l, this]
  · cases h
theorem nextF_lt (r : List UInt8) (h : r ≠ []) : (nextF r).2.2.length < r.length := by
  unfold nextF
  by_cases c1 : (isF [60, 47] r).1 = true
  · rw [if_pos c1]
    have h1 := congrArg List.length (isF_yes _ _ c1)
    generalize (isF [60, 47] r).2 = l at h1 ⊢
    simp only [List.length_append, List.length_cons, List.length_nil] at h1
    have h2 := nameF_le l
    have h3 := skipB_le (nameF l).2
    have h4 := isF_le [62] (skipB (nameF l).2)
    unfold shutT
    split <;> (simp only []; omega)
  rw [if_neg c1]
  by_cases c2 : (isF [60] r).1 = true
  · rw [if_pos c2]
    have h1 := congrArg List.length (isF_yes _ _ c2)
    generalize (isF [60] r).2 = l at h1 ⊢
    simp only [List.length_append, List.length_cons, List.length_nil] at h1
    have h2 := nameF_le l
    have h3 := openL_le (l.length + 2) [] (nameF l).2
    unfold openT
    split <;> (simp only []; omega)
  · rw [if_neg c2]
    have h3 := cutAt_len 60 r
    have h4 := cutAt_no 60 r
    unfold textT
    simp only []
    have h0 : 0 < r.length := List.length_pos_iff.2 h
    split
    · rename_i hc
      have hj := cutAt_join 60 r hc
      have : (cutAt 60 r).1 ≠ [] := by
        intro he
        rw [he] at hj
        apply c2
        rw [hj]
        simp [isF]
      have := List.length_pos_iff.2 this
      have hl := congrArg List.length hj
      rw [List.length_append, List.length_cons] at hl
      rw [List.length_cons]
      omega
    · exact h0
theorem tokJ_eq (s0 : ByteArray) (hs : s0.size < 500000000) : ∀ (k : Nat) (l : List TokT) (r : List UInt8), r.length < k → r.length ≤ s0.size → l.length + r.length < 1000000000 →
    tokJ k l s0 (bs r) = some (tokL k s0.size l r)
  | 0, l, r, h, _, _ => absurd h (Nat.not_lt_zero _)
  | k + 1, l, r, h, hr, hb => by
    have hw : wrap64 ((s0.size : Int) - (r.length : Int)) = (s0.size : Int) - r.length := by unfold wrap64; omega
    unfold tokJ tokL
    simp only [nil_iff]
    by_cases c : r = []
    · rw [if_pos c, if_pos c]
    have hlt := nextF_lt r c
    rw [if_neg c, if_neg c, next_eq s0 r (by omega)]
    simp only [Option.bind_some, bs_size, hw]
    by_cases c1 : (nextF r).2.1 = false
    · rw [if_pos c1, if_pos c1]
    rw [if_neg c1, if_neg c1]
    by_cases c2 : 10 < (nextF r).1.f4.length
    · rw [if_pos c2, if_pos c2]
    rw [if_neg c2, if_neg c2, if_neg (by omega)]
    exact tokJ_eq s0 hs k _ _ (by omega) (by omega) (by simp only [List.length_append, List.length_cons, List.length_nil]; omega)
def prologB : List UInt8 := [60, 63, 120, 109, 108, 32, 118, 101, 114, 115, 105, 111, 110, 61, 39, 49, 46, 48, 39, 32, 101, 110, 99, 111, 100, 105, 110, 103, 61, 39, 85, 84, 70, 45, 56, 39, 63, 62]
/-- What token.Tokens answers: the tokens; where it is wrong; the number of the error. -/
def tokensF (s : List UInt8) : List TokT × Int × Int :=
  if 20000 < s.length then ([], 0, 4) else if vs s = false then ([], 0, 3) else tokL (s.length + 2) s.length [] (isF prologB s).2
theorem tokens_eq (s : List UInt8) : G_Tokens.f (bs s) = some (tokensF s) := by
  unfold G_Tokens.f tokensF
  rw [bs_size, validB_vs]
  by_cases c1 : 20000 < s.length
  · rw [if_pos c1, if_pos c1]
  rw [if_neg c1, if_neg c1]
  by_cases c2 : vs s = false
  · rw [if_pos c2, if_pos c2]
  have h1 := isF_le prologB s
  rw [if_neg c2, if_neg c2, show prologL = bs prologB from rfl, is_eq]
  simp only [Option.bind_some]
  rw [tokJ_eq (bs s) (by rw [bs_size]; omega) _ _ _ (by omega) (by rw [bs_size]; omega) (by simp only [List.length_nil]; omega), bs_size]
end Go.Proofs.YtfelfpjfjjgmoaaDoor
end
/- Tokens that token.Tokens tells, one behind the other ('Runs'): each begins where the one ahead ends; what is left there is valid, and its tokens are the rest. -/
section
set_option linter.unusedVariables false
namespace Go.Proofs.YtfelfpjfjjgmoaaDoor
open Go.RowKit Go.Proofs.YtfelfpjfjjgmoaaDoorW.PrintWords

/-- What is left at each token. -/
inductive Runs : List UInt8 → List (List UInt8) → Prop
  | nil : Runs [] []
  | cons {r : List UInt8} {rs : List (List UInt8)} : r ≠ [] → (nextF r).2.1 = true → (nextF r).1.f4.length ≤ 10 → Runs (nextF r).2.2 rs → Runs r (r :: rs)
/-- The token of what is left, in a text of n bytes. -/
def tokAt (n : Nat) (r : List UInt8) : TokT := ⟨(nextF r).1.f0, (n : Int) - r.length, (nextF r).1.f2, (nextF r).1.f3, (nextF r).1.f4, (nextF r).1.f5⟩
theorem tokL_ok (n : Nat) : ∀ (k : Nat) (l : List TokT) (r : List UInt8) (L : List TokT) (a : Int), r.length < k → tokL k n l r = (L, a, 0) → ∃ rs, Runs r rs ∧ L = l ++ rs.map (tokAt n) ∧ a = 0
  | 0, l, r, L, a, h, _ => absurd h (Nat.not_lt_zero _)
  | k + 1, l, r, L, a, h, e => by
    unfold tokL at e
    by_cases c : r = []
    · rw [if_pos c] at e
      simp only [Prod.mk.injEq] at e
      subst c
      exact ⟨[], .nil, by simp [e.1.symm], e.2.1.symm⟩
    rw [if_neg c] at e
    by_cases c1 : (nextF r).2.1 = false
    · rw [if_pos c1] at e
      simp only [Prod.mk.injEq] at e
      omega
    rw [if_neg c1] at e
    by_cases c2 : 10 < (nextF r).1.f4.length
    · rw [if_pos c2] at e
      simp only [Prod.mk.injEq] at e
      omega
    rw [if_neg c2] at e
    have hlt := nextF_lt r c
    obtain ⟨rs, h1, h2, h3⟩ := tokL_ok n k _ _ L a (by omega) e
    exact ⟨r :: rs, .cons c (by simpa using c1) (by omega) h1, by rw [h2]; simp [tokAt], h3⟩
theorem tokL_runs (n : Nat) : ∀ (k : Nat) (l : List TokT) (r : List UInt8) (rs : List (List UInt8)), r.length < k → Runs r rs → tokL k n l r = (l ++ rs.map (tokAt n), 0, 0)
  | 0, l, r, rs, h, _ => absurd h (Nat.not_lt_zero _)
  | k + 1, l, _, _, h, .nil => by simp [tokL]
  | k + 1, l, r, _, h, .cons (rs := rs) h1 h2 h3 h4 => by
    have hlt := nextF_lt r h1
    unfold tokL
    rw [if_neg h1, if_neg (by simp [h2]), if_neg (by omega), tokL_runs n k _ _ rs (by omega) h4]
    simp [tokAt]
theorem tokensF_ok (s : List UInt8) (L : List TokT) (a : Int) (h : tokensF s = (L, a, 0)) : s.length ≤ 20000 ∧ vs s = true ∧ a = 0 ∧ ∃ rs, Runs (isF prologB s).2 rs ∧ L = rs.map (tokAt s.length) := by
  unfold tokensF at h
  by_cases c1 : 20000 < s.length
  · rw [if_pos c1] at h
    simp only [Prod.mk.injEq] at h
    omega
  rw [if_neg c1] at h
  by_cases c2 : vs s = false
  · rw [if_pos c2] at h
    simp only [Prod.mk.injEq] at h
    omega
  rw [if_neg c2] at h
  have h1 := isF_le prologB s
  obtain ⟨rs, h3, h4, h5⟩ := tokL_ok s.length _ _ _ L a (by omega) h
  exact ⟨by omega, by simpa using c2, h5, rs, h3, by simpa using h4⟩
theorem tokensF_runs (s : List UInt8) (rs : List (List UInt8)) (h1 : s.length ≤ 20000) (h2 : vs s = true) (h3 : Runs (isF prologB s).2 rs) : tokensF s = (rs.map (tokAt s.length), 0, 0) := by
  have h4 := isF_le prologB s
  unfold tokensF
  rw [if_neg (by omega), if_neg (by simp [h2]), tokL_runs s.length _ _ _ rs (by omega) h3]
  simp

/-! ### what is left is a part of what was -/
theorem isF_suf (p l : List UInt8) : (isF p l).2 <:+ l := by
  unfold isF
  split
  · exact List.drop_suffix _ _
  · exact List.suffix_refl _
theorem skipB_suf (l : List UInt8) : skipB l <:+ l := List.dropWhile_suffix _
theorem nameF_suf (l : List UInt8) : (nameF l).2 <:+ l := by
  unfold nameF
  split
  · exact List.suffix_refl _
  · split
    · exact List.dropWhile_suffix _
    · exact List.suffix_refl _
theorem cutAt_suf (c : UInt8) (l : List UInt8) : (cutAt c l).2.1 <:+ l := by
  cases h : (cutAt c l).2.2 with
  | true => exact ⟨(cutAt c l).1 ++ [c], by rw [List.append_assoc]; exact (cutAt_join c l h).symm⟩
  | false => rw [cutAt_no c l h]; exact List.nil_suffix
theorem valueF_suf (l : List UInt8) : (valueF l).2.2 <:+ l := by
  unfold valueF
  split
  · exact List.suffix_refl _
  · split
    · exact (cutAt_suf 39 _).trans (List.suffix_cons _ _)
    · split
      · exact (cutAt_suf 34 _).trans (List.suffix_cons _ _)
      · exact List.suffix_refl _
theorem attrF_suf (l : List UInt8) : (attrF l).2.2.2 <:+ l := by
  have h1 := nameF_suf l
  have h2 := skipB_suf (nameF l).2
  unfold attrF
  split
  · exact h2.trans h1
  · split
    · exact (valueF_suf _).trans ((skipB_suf _).trans ((isF_suf _ _).trans (h2.trans h1)))
    · exact h2.trans h1
theorem openL_end : ∀ (k : Nat) (l : List AttrT) (r : List UInt8), (openL k l r).2.2.1 = true → (62 :: (openL k l r).2.2.2) <:+ r
  | 0, l, r, h => by simp [openL] at h
  | k + 1, l, r, h => by
    have h5 := openL_end k (l ++ [⟨bs (attrF (skipB r)).1, (attrF (skipB r)).2.1⟩]) (attrF (skipB r)).2.2.2
    unfold openL at h ⊢
    split at h
    · rename_i c
      rw [if_pos c]
      have := isF_yes _ _ c
      refine List.IsSuffix.trans ?_ (skipB_suf r)
      exact ⟨[47], this.symm⟩
    rename_i c
    rw [if_neg c]
    split at h
    · rename_i c
      rw [if_pos c]
      have := isF_yes _ _ c
      refine List.IsSuffix.trans ?_ (skipB_suf r)
      exact ⟨[], this.symm⟩
    rename_i c
    rw [if_neg c]
    split at h
    · cases h
    rename_i c
    rw [if_neg c]
    split at h
    · cases h
    rename_i c
    rw [if_neg c]
    split at h
    · cases h
    rename_i c
    rw [if_neg c]
    exact (h5 h).trans ((attrF_suf _).trans (skipB_suf r))
/-- A token ends behind '>', or ahead of '<', or at the end. -/
theorem next_end (r : List UInt8) (h : (nextF r).2.1 = true) : (62 :: (nextF r).2.2) <:+ r ∨ ((nextF r).2.2 <:+ r ∧ startsB (nextF r).2.2 = true) := by
  unfold nextF at h ⊢
  split at h
  · rename_i c
    rw [if_pos c]
    left
    unfold shutT at h ⊢
    simp only [] at h ⊢
    split at h
    · cases h
    · rename_i c1
      rw [if_neg c1]
      have := isF_yes _ _ h
      refine List.IsSuffix.trans ?_ ((skipB_suf _).trans ((nameF_suf _).trans (isF_suf [60, 47] r)))
      exact ⟨[], this.symm⟩
  rename_i c
  rw [if_neg c]
  split at h
  · rename_i c
    rw [if_pos c]
    left
    unfold openT at h ⊢
    split at h
    · cases h
    · rename_i c1
      rw [if_neg c1]
      exact (openL_end _ _ _ h).trans ((nameF_suf _).trans (isF_suf _ _))
  · rename_i c
    rw [if_neg c]
    right
    unfold textT
    simp only []
    split
    · rename_i c1
      refine ⟨?_, rfl⟩
      exact ⟨(cutAt 60 r).1, (cutAt_join 60 r c1).symm⟩
    · exact ⟨List.nil_suffix, rfl⟩
theorem next_suf (r : List UInt8) (h : (nextF r).2.1 = true) : (nextF r).2.2 <:+ r := by
  rcases next_end r h with h1 | h1
  · exact (List.suffix_cons _ _).trans h1
  · exact h1.1
theorem next_vs (r : List UInt8) (h : (nextF r).2.1 = true) (hv : vs r = true) : vs (nextF r).2.2 = true := by
  rcases next_end r h with ⟨c, h1⟩ | ⟨⟨c, h1⟩, h2⟩
  · rw [← h1, vs_behind c _ 62 (by decide)] at hv
    simp only [Bool.and_eq_true] at hv
    exact hv.2
  · rw [← h1, vs_app c _ h2] at hv
    simp only [Bool.and_eq_true] at hv
    exact hv.2
theorem prolog_vs (s : List UInt8) (hv : vs s = true) : vs (isF prologB s).2 = true := by
  cases h : (isF prologB s).1 with
  | true =>
    have h1 := isF_yes _ _ h
    rw [h1, show prologB ++ (isF prologB s).2 = (prologB.take 37) ++ 62 :: (isF prologB s).2 from rfl, vs_behind _ _ 62 (by decide)] at hv
    simp only [Bool.and_eq_true] at hv
    exact hv.2
  | false => rw [isF_no _ _ h]; exact hv
/-- Where a token begins the prolog does not stand. -/
theorem next_prolog (r : List UInt8) (h : (nextF r).2.1 = true) : (isF prologB r).2 = r := by
  cases hp : (isF prologB r).1 with
  | false => exact isF_no _ _ hp
  | true =>
    have h1 := isF_yes _ _ hp
    have h2 : ∃ t, r = 60 :: 63 :: t := ⟨_, h1⟩
    obtain ⟨t, rfl⟩ := h2
    have : (nextF (60 :: 63 :: t)).2.1 = false := by
      unfold nextF
      simp [isF, openT, nameF, firstL]
    rw [this] at h
    cases h
/-- Each token's rest: not empty, a part of the whole, valid; its tokens are the rest of all. -/
theorem runs_at {r : List UInt8} {rs : List (List UInt8)} (h : Runs r rs) (hv : vs r = true) : ∀ (i : Nat) (x : List UInt8), rs[i]? = some x → x ≠ [] ∧ x <:+ r ∧ vs x = true ∧ (nextF x).2.1 = true ∧ Runs x (rs.drop i) := by
  induction h with
  | nil => intro i x hx; simp at hx
  | @cons r rs h1 h2 h3 h4 ih =>
    intro i x hx
    cases i with
    | zero =>
      simp only [List.getElem?_cons_zero, Option.some.injEq] at hx
      subst hx
      exact ⟨h1, List.suffix_refl _, hv, h2, .cons h1 h2 h3 h4⟩
    | succ i =>
      obtain ⟨a, b, c, d, e⟩ := ih (next_vs r h2 hv) i x (by simpa using hx)
      exact ⟨a, b.trans (next_suf r h2), c, d, e⟩
theorem runs_len {r : List UInt8} {rs : List (List UInt8)} (h : Runs r rs) : rs.length ≤ r.length := by
  induction h with
  | nil => exact Nat.zero_le _
  | @cons r rs h1 h2 h3 h4 ih => have := nextF_lt r h1; simp only [List.length_cons]; omega
theorem tokL_err (n : Nat) : ∀ (k : Nat) (l : List TokT) (r : List UInt8) (L : List TokT) (a e : Int), tokL k n l r = (L, a, e) → e ≠ 0 → L = []
  | 0, l, r, L, a, e, h, he => by
    simp only [tokL, Prod.mk.injEq] at h
    exact h.1.symm
  | k + 1, l, r, L, a, e, h, he => by
    unfold tokL at h
    split at h
    · simp only [Prod.mk.injEq] at h
      exact absurd h.2.2.symm he
    split at h
    · simp only [Prod.mk.injEq] at h
      exact h.1.symm
    split at h
    · simp only [Prod.mk.injEq] at h
      exact h.1.symm
    exact tokL_err n k _ _ L a e h he
theorem tokensF_err (s : List UInt8) (L : List TokT) (a e : Int) (h : tokensF s = (L, a, e)) (he : e ≠ 0) : L = [] := by
  unfold tokensF at h
  split at h
  · simp only [Prod.mk.injEq] at h
    exact h.1.symm
  split at h
  · simp only [Prod.mk.injEq] at h
    exact h.1.symm
  exact tokL_err _ _ _ _ L a e h he
theorem runs_head {r : List UInt8} {rs : List (List UInt8)} (h : Runs r rs) {y : List UInt8} (hy : rs[0]? = some y) : y = r := by
  cases h with
  | nil => simp at hy
  | cons => simpa using hy.symm
theorem runs_less {r : List UInt8} {rs : List (List UInt8)} (h : Runs r rs) : ∀ (i : Nat) (x y : List UInt8), rs[i]? = some x → rs[i + 1]? = some y → y.length < x.length := by
  induction h with
  | nil => intro i x y hx; simp at hx
  | @cons r rs h1 h2 h3 h4 ih =>
    intro i x y hx hy
    cases i with
    | zero =>
      simp only [List.getElem?_cons_zero, Option.some.injEq] at hx
      subst hx
      have hy' : rs[0]? = some y := by simpa using hy
      rw [runs_head h4 hy']
      exact nextF_lt r h1
    | succ i => exact ih i x y (by simpa using hx) (by simpa using hy)
/-- A Text is what begins with no '<'. -/
theorem next_kind (r : List UInt8) (h : r ≠ []) : ((nextF r).1.f0 != 3) = (r.getD 0 0 == 60) := by
  cases r with
  | nil => exact absurd rfl h
  | cons c t =>
    unfold nextF
    by_cases hc : c = 60
    · subst hc
      by_cases h1 : (isF [60, 47] (60 :: t)).1 = true
      · rw [if_pos h1]
        rfl
      · rw [if_neg h1, if_pos (by simp [isF])]
        unfold openT
        split <;> rfl
    · rw [if_neg (by unfold isF; rw [if_neg]; simp; simp [hc]), if_neg (by unfold isF; rw [if_neg]; simp; simp [hc])]
      unfold textT
      simp [hc]
end Go.Proofs.YtfelfpjfjjgmoaaDoor
end
/- awake is true. -/
section
set_option linter.unusedVariables false
namespace Go.Proofs.YtfelfpjfjjgmoaaDoor
theorem awake_eq : P.cardexlaw08_awake.f = some true := by kernel_rfl
end Go.Proofs.YtfelfpjfjjgmoaaDoor
end
/- A token is read alike whatever follows behind its end; within a token no '<' stands but at its beginning. -/
section
set_option linter.unusedVariables false
set_option linter.unusedSimpArgs false
namespace Go.Proofs.YtfelfpjfjjgmoaaDoor
open Go.RowKit Go.Proofs.YtfelfpjfjjgmoaaDoorW.PrintWords

/-- What was passed over bears no '<'. -/
def Eats (l rest : List UInt8) : Prop := ∃ c, l = c ++ rest ∧ ∀ x ∈ c, x ≠ 60
theorem Eats.refl (l : List UInt8) : Eats l l := ⟨[], rfl, fun _ h => by cases h⟩
theorem Eats.trans {a b c : List UInt8} (h : Eats a b) (k : Eats b c) : Eats a c := by
  obtain ⟨x, rfl, hx⟩ := h
  obtain ⟨y, rfl, hy⟩ := k
  exact ⟨x ++ y, by simp, fun z hz => (List.mem_append.1 hz).elim (hx z) (hy z)⟩
theorem take_loc (p : UInt8 → Bool) (b : List UInt8) : ∀ l : List UInt8, l.dropWhile p ≠ [] → (l ++ b).takeWhile p = l.takeWhile p ∧ (l ++ b).dropWhile p = l.dropWhile p ++ b
  | [], h => absurd rfl h
  | x :: l, h => by
    by_cases hx : p x = true
    · rw [List.dropWhile_cons_of_pos hx] at h
      obtain ⟨h1, h2⟩ := take_loc p b l h
      simp [List.takeWhile_cons_of_pos, List.dropWhile_cons_of_pos, hx, h1, h2]
    · simp [List.takeWhile_cons_of_neg, List.dropWhile_cons_of_neg, hx]
theorem take_eats (p : UInt8 → Bool) (hp : p 60 = false) (l : List UInt8) : Eats l (l.dropWhile p) :=
  ⟨l.takeWhile p, List.takeWhile_append_dropWhile.symm, fun x hx e => by
    subst e
    have h2 : ∀ l : List UInt8, 60 ∈ l.takeWhile p → p 60 = true := by
      intro l
      induction l with
      | nil => intro h; simp at h
      | cons y l ih =>
        intro h
        by_cases hy : p y = true
        · rw [List.takeWhile_cons_of_pos hy] at h
          rcases List.mem_cons.1 h with h | h
          · rw [h]; exact hy
          · exact ih h
        · rw [List.takeWhile_cons_of_neg hy] at h; cases h
    rw [h2 l hx] at hp
    cases hp⟩
theorem skip_loc (b l : List UInt8) (h : skipB l ≠ []) : skipB (l ++ b) = skipB l ++ b ∧ gapB (l ++ b) = gapB l := ⟨(take_loc _ b l h).2, (take_loc _ b l h).1⟩
theorem skip_eats (l : List UInt8) : Eats l (skipB l) := take_eats _ (by decide) l
theorem name_loc (b l : List UInt8) (hl : l ≠ []) (h : (nameF l).2 ≠ []) : nameF (l ++ b) = ((nameF l).1, (nameF l).2 ++ b) := by
  cases l with
  | nil => exact absurd rfl hl
  | cons c t =>
    by_cases hc : firstL.contains c = true
    · rw [show nameF (c :: t) = ((c :: t).takeWhile (otherL.contains ·), (c :: t).dropWhile (otherL.contains ·)) from if_pos hc] at h ⊢
      rw [show nameF (c :: t ++ b) = ((c :: t ++ b).takeWhile (otherL.contains ·), (c :: t ++ b).dropWhile (otherL.contains ·)) from if_pos hc]
      have := take_loc (otherL.contains ·) b (c :: t) h
      exact Prod.ext this.1 this.2
    · rw [show nameF (c :: t) = ([], c :: t) from if_neg hc, show nameF (c :: t ++ b) = ([], c :: t ++ b) from if_neg hc]
theorem name_eats (l : List UInt8) : Eats l (nameF l).2 := by
  cases l with
  | nil => exact Eats.refl _
  | cons c t =>
    by_cases hc : firstL.contains c = true
    · rw [show nameF (c :: t) = ((c :: t).takeWhile (otherL.contains ·), (c :: t).dropWhile (otherL.contains ·)) from if_pos hc]
      exact take_eats _ (by decide) _
    · rw [show nameF (c :: t) = ([], c :: t) from if_neg hc]
      exact Eats.refl _
theorem isF_loc (p l b : List UInt8) (h : (isF p l).1 = true) : isF p (l ++ b) = (true, (isF p l).2 ++ b) := by
  have h1 := isF_yes p l h
  conv => lhs; rw [h1, List.append_assoc]
  unfold isF
  rw [if_pos (by simp)]
  simp
theorem isF_eats (p l : List UInt8) (hp : ∀ x ∈ p, x ≠ 60) : Eats l (isF p l).2 := by
  cases h : (isF p l).1 with
  | true => exact ⟨p, isF_yes p l h, hp⟩
  | false => rw [isF_no p l h]; exact Eats.refl _
theorem cutAt_loc (c : UInt8) (b : List UInt8) : ∀ l : List UInt8, (cutAt c l).2.2 = true → cutAt c (l ++ b) = ((cutAt c l).1, (cutAt c l).2.1 ++ b, true)
  | [], h => by simp [cutAt] at h
  | x :: l, h => by
    unfold cutAt at h ⊢
    simp only [List.cons_append]
    by_cases hx : x = c
    · simp [hx]
    · rw [if_neg hx] at h
      rw [if_neg hx, if_neg hx, cutAt_loc c b l h]
/-- A text that is told back bears no '<'. -/
theorem back_ok (s : List UInt8) (h : (backF (bs s)).2 = 0) : ∀ x ∈ s, x ≠ 60 := by
  unfold backF at h
  split at h
  · rw [bs_list, contains_one] at h
    split at h
    · simp at h
    · rename_i h2
      intro x hx e
      subst e
      exact h2 (List.contains_iff_mem.2 hx)
  · simp at h
theorem value_cases (l : List UInt8) (h : (valueF l).2.1 = true) : ∃ q t, (q = 39 ∨ q = 34) ∧ l = q :: t ∧ (cutAt q t).2.2 = true ∧ (backF (bs (cutAt q t).1)).2 = 0 ∧ valueF l = ((backF (bs (cutAt q t).1)).1, true, (cutAt q t).2.1) := by
  cases l with
  | nil => simp [valueF] at h
  | cons x t =>
    by_cases h1 : x = 39
    · subst h1
      simp only [valueF, if_true, Bool.and_eq_true, beq_iff_eq] at h
      exact ⟨39, t, .inl rfl, rfl, h.1, h.2, by simp [valueF, h.1, h.2]⟩
    · by_cases h2 : x = 34
      · subst h2
        simp only [valueF, if_true, Bool.and_eq_true, beq_iff_eq, show ¬ (34 : UInt8) = 39 from by decide, if_false] at h
        exact ⟨34, t, .inr rfl, rfl, h.1, h.2, by simp [valueF, h.1, h.2]⟩
      · simp [valueF, h1, h2] at h
theorem value_loc (l b : List UInt8) (h : (valueF l).2.1 = true) : valueF (l ++ b) = ((valueF l).1, true, (valueF l).2.2 ++ b) := by
  obtain ⟨q, t, hq, rfl, h1, h2, h3⟩ := value_cases l h
  rw [h3]
  have hc := cutAt_loc q b t h1
  rcases hq with rfl | rfl
  · simp only [List.cons_append, valueF, if_true]
    rw [hc]
    simp [h2]
  · simp only [List.cons_append, valueF, if_true, show ¬ (34 : UInt8) = 39 from by decide, if_false]
    rw [hc]
    simp [h2]
theorem value_eats (l : List UInt8) (h : (valueF l).2.1 = true) : Eats l (valueF l).2.2 := by
  obtain ⟨q, t, hq, rfl, h1, h2, h3⟩ := value_cases l h
  rw [h3]
  have hj := cutAt_join q t h1
  have hb := back_ok _ h2
  refine ⟨q :: ((cutAt q t).1 ++ [q]), by simp only [List.cons_append, List.append_assoc, List.nil_append]; rw [← hj], fun x hx => ?_⟩
  have hq60 : q ≠ 60 := by rcases hq with rfl | rfl <;> decide
  rcases List.mem_cons.1 hx with e | e
  · rw [e]; exact hq60
  · rcases List.mem_append.1 e with e | e
    · exact hb x e
    · rw [List.mem_singleton] at e; rw [e]; exact hq60
theorem attr_parts (l : List UInt8) (h : (attrF l).2.2.1 = true) : (nameF l).1 ≠ [] ∧ (isF [61] (skipB (nameF l).2)).1 = true ∧ (valueF (skipB (isF [61] (skipB (nameF l).2)).2)).2.1 = true ∧
    attrF l = ((nameF l).1, (valueF (skipB (isF [61] (skipB (nameF l).2)).2)).1, true, (valueF (skipB (isF [61] (skipB (nameF l).2)).2)).2.2) := by
  unfold attrF at h ⊢
  by_cases c1 : (nameF l).1 = []
  · rw [if_pos c1] at h; cases h
  rw [if_neg c1] at h
  rw [if_neg c1]
  by_cases c2 : (isF [61] (skipB (nameF l).2)).1 = true
  · rw [if_pos c2] at h
    rw [if_pos c2]
    exact ⟨c1, c2, h, by rw [h]⟩
  · rw [if_neg c2] at h; cases h
theorem name_ne (l : List UInt8) (h : (nameF l).1 ≠ []) : ∃ c t, l = c :: t ∧ firstL.contains c = true := by
  cases l with
  | nil => exact absurd rfl h
  | cons c t =>
    by_cases hc : firstL.contains c = true
    · exact ⟨c, t, rfl, hc⟩
    · rw [show nameF (c :: t) = ([], c :: t) from if_neg hc] at h; exact absurd rfl h
theorem isF_ne (p l : List UInt8) (hp : p ≠ []) (h : (isF p l).1 = true) : l ≠ [] := by
  have := isF_yes p l h
  intro e
  rw [e] at this
  have h2 := congrArg List.length this
  rw [List.length_append] at h2
  have := List.length_pos_iff.2 hp
  simp only [List.length_nil] at h2
  omega
theorem skip_ne (l : List UInt8) (h : skipB l ≠ []) : l ≠ [] := by intro e; rw [e] at h; exact h rfl
theorem attr_loc (l b : List UInt8) (h : (attrF l).2.2.1 = true) : attrF (l ++ b) = ((attrF l).1, (attrF l).2.1, true, (attrF l).2.2.2 ++ b) := by
  obtain ⟨h1, h2, h3, h4⟩ := attr_parts l h
  have s1 := isF_ne _ _ (by simp) h2
  have s2 := skip_ne _ s1
  obtain ⟨c, t, hl, hc⟩ := name_ne l h1
  have e1 := name_loc b l (by rw [hl]; simp) s2
  have e2 := (skip_loc b (nameF l).2 s1).1
  have e3 := isF_loc [61] (skipB (nameF l).2) b h2
  obtain ⟨q, t', _, hv, _⟩ := value_cases _ h3
  have e4 := (skip_loc b (isF [61] (skipB (nameF l).2)).2 (by rw [hv]; simp)).1
  have e5 := value_loc _ b h3
  rw [h4]
  unfold attrF
  rw [e1]
  simp only []
  rw [e2, e3]
  simp only []
  rw [e4, e5, if_neg h1, if_pos trivial]
theorem attr_eats (l : List UInt8) (h : (attrF l).2.2.1 = true) : Eats l (attrF l).2.2.2 := by
  obtain ⟨h1, h2, h3, h4⟩ := attr_parts l h
  rw [h4]
  exact (name_eats l).trans ((skip_eats _).trans ((isF_eats [61] _ (by decide)).trans ((skip_eats _).trans (value_eats _ h3))))
theorem isF_first (p : UInt8) (q : List UInt8) (c : UInt8) (t : List UInt8) (h : c ≠ p) : isF (p :: q) (c :: t) = (false, c :: t) := by
  unfold isF
  rw [if_neg]
  simp [h]
theorem openL_loc (b : List UInt8) : ∀ (k : Nat) (l : List AttrT) (r : List UInt8), (openL k l r).2.2.1 = true → ∀ m, k ≤ m → openL m l (r ++ b) = ((openL k l r).1, (openL k l r).2.1, true, (openL k l r).2.2.2 ++ b) ∧ Eats r (openL k l r).2.2.2
  | 0, l, r, h, _, _ => by simp [openL] at h
  | k + 1, l, r, h, 0, hm => absurd hm (by omega)
  | k + 1, l, r, h, m + 1, hm => by
    have IH := openL_loc b k (l ++ [⟨bs (attrF (skipB r)).1, (attrF (skipB r)).2.1⟩]) (attrF (skipB r)).2.2.2
    unfold openL at h ⊢
    by_cases c1 : (isF [47, 62] (skipB r)).1 = true
    · rw [if_pos c1] at h
      rw [if_pos c1]
      have s1 := skip_loc b r (isF_ne _ _ (by simp) c1)
      rw [s1.1, isF_loc _ _ b c1, if_pos rfl]
      exact ⟨rfl, (skip_eats r).trans (isF_eats _ _ (by decide))⟩
    rw [if_neg c1] at h
    rw [if_neg c1]
    by_cases c2 : (isF [62] (skipB r)).1 = true
    · rw [if_pos c2] at h
      rw [if_pos c2]
      have s1 := skip_loc b r (isF_ne _ _ (by simp) c2)
      have h62 := isF_yes _ _ c2
      rw [s1.1, isF_loc _ _ b c2, if_neg (by rw [h62]; rw [List.singleton_append, List.cons_append, isF_first 47 [62] 62 _ (by decide)]; exact Bool.false_ne_true), if_pos rfl]
      exact ⟨rfl, (skip_eats r).trans (isF_eats _ _ (by decide))⟩
    rw [if_neg c2] at h
    rw [if_neg c2]
    by_cases c3 : gapB r = []
    · rw [if_pos c3] at h; cases h
    rw [if_neg c3] at h
    rw [if_neg c3]
    by_cases c4 : (attrF (skipB r)).2.2.1 = false
    · rw [if_pos c4] at h; cases h
    rw [if_neg c4] at h
    rw [if_neg c4]
    by_cases c5 : dupB l (attrF (skipB r)).1 = true
    · rw [if_pos c5] at h; cases h
    rw [if_neg c5] at h
    rw [if_neg c5]
    have c4' : (attrF (skipB r)).2.2.1 = true := by simpa using c4
    obtain ⟨h1, h2, h3, h4⟩ := attr_parts _ c4'
    obtain ⟨c, t, hl, hc⟩ := name_ne _ h1
    have s1 := skip_loc b r (by rw [hl]; simp)
    have ha := attr_loc (skipB r) b c4'
    have hc47 : c ≠ 47 := by intro e; subst e; revert hc; decide
    have hc62 : c ≠ 62 := by intro e; subst e; revert hc; decide
    obtain ⟨i1, i2⟩ := IH h m (by omega)
    refine ⟨?_, (skip_eats r).trans ((attr_eats _ c4').trans i2)⟩
    rw [s1.1, s1.2]
    rw [if_neg (by rw [hl, List.cons_append, isF_first 47 [62] c _ hc47]; exact Bool.false_ne_true), if_neg (by rw [hl, List.cons_append, isF_first 62 [] c _ hc62]; exact Bool.false_ne_true), if_neg c3, ha]
    simp only []
    rw [if_neg (by decide), if_neg c5]
    exact i1
/-- A tag is read alike whatever follows; a text, if '<' follows it. -/
theorem next_loc (r b : List UInt8) (h : (nextF r).2.1 = true) (hr : (nextF r).2.2 ≠ [] ∨ (nextF r).1.f0 ≠ 3) : nextF (r ++ b) = ((nextF r).1, true, (nextF r).2.2 ++ b) ∧ ∃ c t, r = c :: t ∧ Eats t (nextF r).2.2 := by
  unfold nextF at h hr ⊢
  by_cases c1 : (isF [60, 47] r).1 = true
  · rw [if_pos c1] at h hr
    rw [if_pos c1, isF_loc _ _ b c1, if_pos rfl]
    have hy := isF_yes _ _ c1
    generalize (isF [60, 47] r).2 = l at h hr hy ⊢
    subst hy
    unfold shutT at h ⊢
    simp only [] at h ⊢
    by_cases c2 : (nameF l).1 = []
    · rw [if_pos c2] at h; cases h
    rw [if_neg c2] at h
    rw [if_neg c2]
    obtain ⟨c, t, hl, hc⟩ := name_ne l c2
    have s1 := isF_ne _ _ (by simp) h
    have e1 := name_loc b l (by rw [hl]; simp) (skip_ne _ s1)
    rw [e1]
    simp only []
    rw [(skip_loc b _ s1).1, isF_loc _ _ b h, if_neg c2, if_neg c2]
    refine ⟨rfl, 60, 47 :: l, rfl, ?_⟩
    exact Eats.trans ⟨[47], rfl, by decide⟩ ((name_eats l).trans ((skip_eats _).trans (isF_eats _ _ (by decide))))
  rw [if_neg c1] at h hr
  rw [if_neg c1]
  by_cases c2 : (isF [60] r).1 = true
  · rw [if_pos c2] at h hr
    rw [if_pos c2]
    have hy := isF_yes _ _ c2
    generalize (isF [60] r).2 = l at h hr hy ⊢
    subst hy
    unfold openT at h
    by_cases c3 : (nameF l).1 = []
    · rw [if_pos c3] at h; cases h
    rw [if_neg c3] at h
    obtain ⟨c, t, hl, hc⟩ := name_ne l c3
    have hc47 : c ≠ 47 := by intro e; subst e; revert hc; decide
    rw [if_neg (by
      rw [hl]
      unfold isF
      rw [if_neg]
      · exact Bool.false_ne_true
      · simp [hc47])]
    rw [show isF [60] ([60] ++ l ++ b) = (true, l ++ b) from by rw [List.append_assoc]; unfold isF; rw [if_pos (by simp)]; simp, if_pos rfl]
    have hne : (nameF l).2 ≠ [] := by
      intro e
      rw [e] at h
      simp only [] at h
      have := openL_end _ _ _ h
      have h2 := this.length_le
      simp at h2
    have e1 := name_loc b l (by rw [hl]; simp) hne
    obtain ⟨o1, o2⟩ := openL_loc b (l.length + 2) [] (nameF l).2 h ((l ++ b).length + 2) (by rw [List.length_append]; omega)
    unfold openT
    rw [if_neg c3, e1]
    simp only []
    rw [if_neg c3, o1]
    refine ⟨rfl, 60, l, rfl, (name_eats l).trans o2⟩
  · rw [if_neg c2] at h hr
    rw [if_neg c2]
    have hf : (cutAt 60 r).2.2 = true := by
      rcases hr with hr | hr
      · unfold textT at hr
        simp only [] at hr
        by_cases hc : (cutAt 60 r).2.2 = true
        · exact hc
        · rw [if_neg hc] at hr; exact absurd rfl hr
      · exact absurd rfl hr
    have hj := cutAt_join 60 r hf
    have hloc := cutAt_loc 60 b r hf
    have hb : (backF (bs (cutAt 60 r).1)).2 = 0 := by
      unfold textT at h
      simpa using h
    have hno := back_ok _ hb
    obtain ⟨c, t, hr'⟩ : ∃ c t, (cutAt 60 r).1 = c :: t := by
      cases hx : (cutAt 60 r).1 with
      | nil =>
        rw [hx] at hj
        exfalso
        apply c2
        rw [hj]
        simp [isF]
      | cons c t => exact ⟨c, t, rfl⟩
    have hcr : ∃ t', r = c :: t' := ⟨_, by rw [hj, hr']; rfl⟩
    obtain ⟨t', hrr⟩ := hcr
    have hc60 : c ≠ 60 := hno c (by rw [hr']; exact List.mem_cons_self ..)
    rw [if_neg (by rw [hrr, List.cons_append, isF_first 60 [47] c _ hc60]; exact Bool.false_ne_true), if_neg (by rw [hrr, List.cons_append, isF_first 60 [] c _ hc60]; exact Bool.false_ne_true)]
    unfold textT
    rw [hloc]
    simp only [if_true, hf]
    refine ⟨by simp [hb], c, t', hrr, t, ?_, fun x hx => hno x (by rw [hr']; exact List.mem_cons_of_mem _ hx)⟩
    have : c :: t' = c :: (t ++ 60 :: (cutAt 60 r).2.1) := by
      rw [← hrr]
      conv => lhs; rw [hj, hr']
      rfl
    injection this
theorem runs_suf {r : List UInt8} {rs : List (List UInt8)} (h : Runs r rs) : ∀ x ∈ rs, x <:+ r ∧ (nextF x).1.f4.length ≤ 10 := by
  induction h with
  | nil => intro x hx; cases hx
  | @cons r rs h1 h2 h3 h4 ih =>
    intro x hx
    rcases List.mem_cons.1 hx with rfl | hx
    · exact ⟨List.suffix_refl _, h3⟩
    · obtain ⟨g1, g2⟩ := ih x hx
      exact ⟨g1.trans (next_suf r h2), g2⟩
end Go.Proofs.YtfelfpjfjjgmoaaDoor
end
