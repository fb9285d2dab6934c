/- Texts of this proof, one behind the other. -/
import Derived.Test.YtfelfpjfjjgmoaaDoorQTokenRefuses2
import Derived.Test.YtfelfpjfjjgmoaaDoorQTokenRefuses1
import Derived.Lib.TrimUEq
import Derived.Lib.TrimAscii
import Derived.Lib.MapLaws
/- The walk of token.Tokens: called with a text it returns what G_Tokens.f tells, where the library's variables are as Gd says. -/
section
set_option linter.unusedVariables false
namespace Go.Proofs.YtfelfpjfjjgmoaaDoor
open Go.RowKit Go.Shelf Go.Proofs.YtfelfpjfjjgmoaaDoorW.PrintWords Go.Proofs.YtfelfpjfjjgmoaaDoorW.PrintLast

theorem tok_attr0 {w W W5 : World} {g : Nat} {s0 s1 : ByteArray} {v : Value} {l : List P.S33} (h : TokInv w W g s0 s1 v l) {u : Value} {xs : List P.S35} (hr : Kd.R P.k35 35 W5 W.heap.size (fun _ => True) u xs) :
    Kd.R P.k35 35 W5 w.heap.size (fun k => (k ≠ g ∧ some k ≠ v.ownBlock) ∧ W.heap.size ≤ k) u xs :=
  Kd.R_lower (Kd.R_mono (Kd.R_bound hr) (fun k hk => by
    have h1 := h.hI.lt
    have h2 := hk.2.1
    refine ⟨⟨by omega, fun e => ?_⟩, h2⟩
    have := Kd.S_lt h.hR k e.symm
    omega)) h.hB.size
theorem tok_old {w W W5 : World} {g : Nat} {s0 s1 : ByteArray} {v : Value} {l : List P.S33} (h : TokInv w W g s0 s1 v l) (hk : KeepBut W W5 g none) :
    Kd.S P.k33 33 W5 w.heap.size (fun k => k ≠ g ∧ ¬ ((k ≠ g ∧ some k ≠ v.ownBlock) ∧ W.heap.size ≤ k)) v l :=
  Kd.S_mono (Kd.S_bound (Kd.S_oldK (ok := fun k => k ≠ g) (Kd.S_mono h.hR (fun k hk => ⟨hk, hk⟩)) hk)) (fun k hk => ⟨hk.1.1, fun h2 => by have := hk.1.2; have := h2.2; omega⟩)
theorem tok_app {w W W1 : World} {g : Nat} {s0 s1 : ByteArray} {v v1 : Value} {l l' : List P.S33} {o : Obj} (h : TokInv w W g s0 s1 v l) (ho : Kd.S P.k33 33 W1 w.heap.size (fun k => k ≠ g) v1 l')
    (hb : Below w.heap.size (W.alloc o) W1) (hg : (W.alloc o).grownBy W1 v.ownBlock) : TokInv w W1 g s0 s1 v1 l' :=
  ⟨(h.hI.alloc o).grown hg (Kd.S_away h.hR (fun k hk => hk)), (below_alloc h.hB o).trans hb, ho⟩

set_option maxHeartbeats 8000000 in
set_option maxRecDepth 100000 in
theorem G_Tokens.calls (s : ByteArray) (r1 : List P.S33) (r2 r3 : Int) (w : World) (hG_ : Gd w) (h : G_Tokens.f s = some (r1, r2, r3)) :
    Calls Tryd.prog 10 #[.string s] w fun e w' => ∃ v_ : Value, e = .returned (.tuple #[v_, .int .i64 r2, .int .i64 r3]) ∧ Kd.S P.k33 33 w' w.heap.size (fun _ => True) v_ r1 ∧ Below w.heap.size w w' := by
  have hu33 := Tryd.underlying33
  have hu46 := Tryd.underlying46
  unfold G_Tokens.f at h
  by_cases hs : 20000 < s.size
  · rw [if_pos hs] at h
    simp only [Option.some.injEq, Prod.mk.injEq] at h
    obtain ⟨rfl, rfl, rfl⟩ := h
    have hz : (s.size : Int) > 20000 := by omega
    go_enter Tryd.func10, Tryd.ntmps10
    go_wp2
    go_ret3
    exact ⟨_, rfl, Kd.S_nil _ _ _ _ _, Below.refl _ _⟩
  · rw [if_neg hs] at h
    have hz : ¬ (s.size : Int) > 20000 := by omega
    have CV := G_Valid.calls s (validB s) w hG_ (by unfold G_Valid.f; rw [if_pos (by omega)])
    generalize validB s = q at CV h
    cases q with
    | false =>
      simp only [if_true, Option.some.injEq, Prod.mk.injEq] at h
      obtain ⟨rfl, rfl, rfl⟩ := h
      go_enter Tryd.func10, Tryd.ntmps10
      go_wp2_with (go_at_call 14; refine CV.mono ?_; rintro e w1 ⟨rfl, hb1⟩)
      go_ret3
      exact ⟨_, rfl, Kd.S_nil _ _ _ _ _, hb1⟩
    | true =>
      simp only [Bool.true_eq_false, if_false] at h
      replace h := Option.bind_eq_some_iff.1 h
      obtain ⟨⟨b0, t0, t1⟩, HA, HJ⟩ := h
      have HJ' := Aside0.mk (show tokJ (s.size + 2) [] t0 t1 = some (r1, r2, r3) from HJ)
      have CA := fun (g : Nat) (W : World) (h1 : P.IsS46 w W g s s) (h2 : Below w.heap.size w W) => P.token_walk_string_is.calls g s s prologL b0 t0 t1 w W hG_ h1 h2 HA
      clear HJ HA
      go_enter Tryd.func10, Tryd.ntmps10
      go_wp2_with (first | (go_at_call 14; refine CV.mono ?_; rintro e w1 ⟨rfl, hb1⟩) | ((with_reducible refine gate_dst (N := 21) rfl ?_); refine box_event ?hg (N := 21) ?hd (cs := #[.string s, .string s]) (t := 46) ?hr ?_; (case hd => rfl); (case hg => rfl); (case hr => first | (go_simp; done) | (go_simp; rfl)); intro g hg w2 hbox hb; have ng : w.heap.size ≤ g := (by rw [hg]; exact hb1.size); clear hg; have INV := Aside0.mk (show TokInv w w2 g s s (.slice none 0 0) [] from ⟨⟨hbox, ng⟩, below_step hb1 hb, Kd.S_nil _ _ _ _ _⟩); clear hbox hb hb1) | (go_at_call 15; with_reducible refine (CA g _ INV.out.hI INV.out.hB).mono ?_; rintro e w3 ⟨rfl, hi, hb, hk⟩; have INV1 := Aside0.mk (INV.out.call hi hb hk); clear INV hi hb hk))
      go_loopg [6] (s.size + 2) (fun gg s6 wr => ∃ s0 s1 v l k, k ≤ gg ∧ s6 = v ∧ Aside (tokJ k l s0 s1 = some (r1, r2, r3)) ∧ Aside (TokInv w wr g s0 s1 v l))
      case atStart => exact ⟨t0, t1, _, _, _, Nat.le_refl _, rfl, HJ'.out, INV1.out⟩
      case round =>
        obtain ⟨s0, s1, v, l, k, hkk, rfl, HJ, INV⟩ := hrel
        have INV := Aside0.mk INV.out
        have HJ := HJ.out
        cases k with
        | zero => simp [tokJ] at HJ
        | succ k =>
        unfold tokJ at HJ
        have c0 := P.cellS46_0 INV.out.hI.1
        have c1 := P.cellS46_1 INV.out.hI.1
        by_cases hnm : s1.toList = ([] : List UInt8)
        · rw [if_pos hnm] at HJ
          simp only [Option.some.injEq, Prod.mk.injEq] at HJ
          obtain ⟨rfl, rfl, rfl⟩ := HJ
          have hne : s1.toList.isEmpty = true := by rw [hnm]; rfl
          go_wp2
          go_ret3
          exact ⟨_, rfl, Kd.S_mono INV.out.hR (fun _ _ => trivial), INV.out.hB⟩
        · rw [if_neg hnm] at HJ
          have hne : s1.toList.isEmpty = false := by cases hx : s1.toList with | nil => exact absurd hx hnm | cons _ _ => rfl
          replace HJ := Option.bind_eq_some_iff.1 HJ
          obtain ⟨⟨n1, n2, n3, n4, n5, n6, n7, n8, n9⟩, HN, HJ⟩ := HJ
          have CAt := fun (W : World) (hi : P.IsS46 w W g s0 s1) => at_calls g s0 s1 w W hi
          have CN := fun (W : World) (h1 : P.IsS46 w W g s0 s1) (h2 : Below w.heap.size w W) => P.token_next.calls g s0 s1 n1 n2 n3 n4 n5 n6 n7 n8 n9 w W hG_ h1 h2 HN
          clear HN
          simp only [] at HJ
          cases n7 with
          | false =>
            simp only [if_true, Option.some.injEq, Prod.mk.injEq] at HJ
            obtain ⟨rfl, rfl, rfl⟩ := HJ
            go_wp2_with (first | (go_at_call 16; with_reducible refine (CAt _ INV.out.hI).mono ?_; rintro e w4 ⟨rfl, ⟨nd, rfl⟩⟩) | (go_at_call 17; with_reducible refine (CN _ (INV.out.below (pw_below_drewN (Below.refl _ _) nd)).hI (INV.out.below (pw_below_drewN (Below.refl _ _) nd)).hB).mono ?_; rintro e w5 ⟨v4, rfl, hr4, hi, hb, hk⟩; obtain ⟨A4, c4, rfl⟩ := Kd.R_slice hr4; have HR4 := Aside0.mk hr4; have INV1 := Aside0.mk ((INV.out.below (pw_below_drewN (Below.refl _ _) nd)).call hi hb hk); clear hr4 hi hb hk) | ((with_reducible refine gate_dst (N := 8) rfl ?_); refine box_event ?hg (N := 8) ?hd (cs := #[.int .i64 0, .int .i64 0, .string ⟨#[]⟩, .string ⟨#[]⟩, .slice none 0 0, .bool false]) (t := 33) ?hr ?_; (case hd => rfl); (case hg => rfl); (case hr => first | (go_simp; done) | (go_simp; rfl)); intro b8 hg8 w8 hbox8 hb8; have nb8 : w.heap.size ≤ b8 := (by rw [hg8]; exact INV1.out.hB.size); have HB8 := Aside0.mk (below_step INV1.out.hB hb8); clear hg8; have z0 := blk_cell hbox8 0; have z1 := blk_cell hbox8 1; have z2 := blk_cell hbox8 2; have z3 := blk_cell hbox8 3; have z4 := blk_cell hbox8 4; have z5 := blk_cell hbox8 5; have y0 := blk_frozen hbox8 0; have y1 := blk_frozen hbox8 1; have y2 := blk_frozen hbox8 2; have y3 := blk_frozen hbox8 3; have y4 := blk_frozen hbox8 4; have y5 := blk_frozen hbox8 5; clear hbox8))
            go_ret3
            refine ⟨_, rfl, Kd.S_nil _ _ _ _ _, ?_⟩
            iterate 7 refine below_set ?_ nb8
            exact HB8.out
          | true =>
            simp only [Bool.true_eq_false, if_false] at HJ
            by_cases h10 : 10 < n5.length
            · rw [if_pos h10] at HJ
              have hz10 : (n5.length : Int) > 10 := by omega
              simp only [Option.some.injEq, Prod.mk.injEq] at HJ
              obtain ⟨rfl, rfl, rfl⟩ := HJ
              go_wp2_with (first | (go_at_call 16; with_reducible refine (CAt _ INV.out.hI).mono ?_; rintro e w4 ⟨rfl, ⟨nd, rfl⟩⟩) | (go_at_call 17; with_reducible refine (CN _ (INV.out.below (pw_below_drewN (Below.refl _ _) nd)).hI (INV.out.below (pw_below_drewN (Below.refl _ _) nd)).hB).mono ?_; rintro e w5 ⟨v4, rfl, hr4, hi, hb, hk⟩; obtain ⟨A4, c4, rfl⟩ := Kd.R_slice hr4; have HR4 := Aside0.mk hr4; have INV1 := Aside0.mk ((INV.out.below (pw_below_drewN (Below.refl _ _) nd)).call hi hb hk); clear hr4 hi hb hk) | ((with_reducible refine gate_dst (N := 8) rfl ?_); refine box_event ?hg (N := 8) ?hd (cs := #[.int .i64 0, .int .i64 0, .string ⟨#[]⟩, .string ⟨#[]⟩, .slice none 0 0, .bool false]) (t := 33) ?hr ?_; (case hd => rfl); (case hg => rfl); (case hr => first | (go_simp; done) | (go_simp; rfl)); intro b8 hg8 w8 hbox8 hb8; have nb8 : w.heap.size ≤ b8 := (by rw [hg8]; exact INV1.out.hB.size); have HB8 := Aside0.mk (below_step INV1.out.hB hb8); clear hg8; have z0 := blk_cell hbox8 0; have z1 := blk_cell hbox8 1; have z2 := blk_cell hbox8 2; have z3 := blk_cell hbox8 3; have z4 := blk_cell hbox8 4; have z5 := blk_cell hbox8 5; have y0 := blk_frozen hbox8 0; have y1 := blk_frozen hbox8 1; have y2 := blk_frozen hbox8 2; have y3 := blk_frozen hbox8 3; have y4 := blk_frozen hbox8 4; have y5 := blk_frozen hbox8 5; clear hbox8))
              go_ret3
              refine ⟨_, rfl, Kd.S_nil _ _ _ _ _, ?_⟩
              iterate 7 refine below_set ?_ nb8
              exact HB8.out
            · rw [if_neg h10] at HJ
              have hz10 : ¬ (n5.length : Int) > 10 := by omega
              by_cases hlen : 1000000000 < l.length
              · rw [if_pos hlen] at HJ
                cases HJ
              rw [if_neg hlen] at HJ
              have HJ := Aside0.mk HJ
              have info33_ : (Tryd.prog.info? 33).map (fun i => (i.zero, i.size, i.bytes)) = some (some (.agg #[.int .i64 0, .int .i64 0, .string ⟨#[]⟩, .string ⟨#[]⟩, .slice none 0 0, .bool false]), 6, 80) := by kernel_rfl
              go_wp2_with (first | (go_at_call 16; with_reducible refine (CAt _ INV.out.hI).mono ?_; rintro e w4 ⟨rfl, ⟨nd, rfl⟩⟩) | (go_at_call 17; with_reducible refine (CN _ (INV.out.below (pw_below_drewN (Below.refl _ _) nd)).hI (INV.out.below (pw_below_drewN (Below.refl _ _) nd)).hB).mono ?_; rintro e w5 ⟨v4, rfl, hr4, hi, hb, hk⟩; obtain ⟨A4, c4, rfl⟩ := Kd.R_slice hr4; have HR4 := Aside0.mk (tok_attr0 (INV.out.below (pw_below_drewN (Below.refl _ _) nd)) hr4); have HOLD := Aside0.mk (tok_old (INV.out.below (pw_below_drewN (Below.refl _ _) nd)) hk); have INV1 := Aside0.mk ((INV.out.below (pw_below_drewN (Below.refl _ _) nd)).call hi hb hk); clear hr4 hi hb hk INV c0 c1) | ((with_reducible refine gate_builtin (b := .append) (xs := #[.tmp 48, .tmp 50]) rfl ?_); at_builtin; refine Kd.S_append P.k33 w.heap.size rfl (.tmp 48) (.tmp 50) 27 33 (.agg #[.int .i64 0, .int .i64 0, .string ⟨#[]⟩, .string ⟨#[]⟩, .slice none 0 0, .bool false]) 80 rfl Tryd.underlying27 info33_ rfl (by decide) (by decide) u6 l ⟨n1, wrap64 ((s0.size : Int) - (s1.size : Int)), n3, n4, n5, n6⟩ [.int .i64 n1, .int .i64 (wrap64 ((s0.size : Int) - (s1.size : Int))), .string n3, .string n4, .slice A4 n5.length c4, .bool n6] (fun k => k ≠ g) (fun k => (k ≠ g ∧ some k ≠ u6.ownBlock) ∧ (wr.drewN nd).heap.size ≤ k) rfl ?aX ?aP (fun _ hk => hk.1) ?aF ?aO (Below.refl _ _) ?aS ?aL ?_; (case aX => first | rfl | (go_simp; done) | (simp [Act.eval]; done)); (case aP => exact P.k33_mkM _ _ _ ⟨n1, wrap64 ((s0.size : Int) - (s1.size : Int)), n3, n4, n5, n6⟩ (Kd.R_alloc HR4.out _)); (case aF => exact fun k hk => (by have h1 := INV1.out.hI.lt; simp at hk; omega)); (case aO => exact Kd.S_alloc HOLD.out _); (case aS => exact Nat.le_trans INV1.out.hB.size (by simp)); (case aL => omega); intro v1 w1 ho hb hg hat; have INVn := Aside0.mk (tok_app INV1.out ho hb hg); clear ho hb hg hat))
              go_roundg k
              case measure => omega
              case rel => exact ⟨n8, n9, _, _, k, Nat.le_refl _, rfl, HJ.out, INVn.out⟩

end Go.Proofs.YtfelfpjfjjgmoaaDoor
end
/- Lean functions for functions of the program, and that the Go code comes to their answers, where the library's variables are as Gd says. Written by a turned copy of the kit's print; Lean checks it. -/
section
namespace Go.Proofs.YtfelfpjfjjgmoaaDoor.P
open Go.RowKit Go.Proofs.YtfelfpjfjjgmoaaDoorW.PrintWords Go.Proofs.YtfelfpjfjjgmoaaDoorW.PrintLast Go.Proofs.YtfelfpjfjjgmoaaDoorW.PrintMore
attribute [local go_sem] max2_int min2_int max_two min_two max_three min_three max_four min_four   -- for this text's walks alone
set_option linter.unusedVariables false
set_option linter.unusedSimpArgs false

/-! ### cardexlaw08_awake: function 8 -/
def cardexlaw08_awake.f  : Option (Bool) := (G_Tokens.f (⟨#[60, 97, 62, 120, 60, 47, 97, 62]⟩ : ByteArray)).bind fun bt266 => ((G_Tokens.f (⟨#[60, 97, 62, 60]⟩ : ByteArray)).bind fun bt271 => (if bt266.2.2 = 0 then (if bt266.2.1 = 0 then (if (bt266.1.length : Int) = 3 then (if 1 < (bt266.1.length : Int) then (if ((rd_T33 bt266.1 1).f3).toList = ([120] : List UInt8) then (if ((rd_T33 bt266.1 1).f1) = 3 then (if bt271.2.2 = 5 then (some (bt271.2.1 == 3)) else (some false)) else (some false)) else (some false)) else (none)) else (some false)) else (some false)) else (some false)))
set_option maxHeartbeats 8000000 in
set_option maxRecDepth 100000 in
theorem cardexlaw08_awake.calls  (r : Bool) (w : World) (hG_ : Gd w) (h : cardexlaw08_awake.f  = some r) :
    Calls Tryd.prog 8 #[] w fun e w' => e = .returned (.bool r) ∧ Below w.heap.size w w' := by
  have HB := Aside0.mk (Below.refl w.heap.size w)
  have HG := Aside0.mk hG_
  clear hG_
  have H : ((G_Tokens.f (⟨#[60, 97, 62, 120, 60, 47, 97, 62]⟩ : ByteArray)).bind fun bt266 => ((G_Tokens.f (⟨#[60, 97, 62, 60]⟩ : ByteArray)).bind fun bt271 => (if bt266.2.2 = 0 then (if bt266.2.1 = 0 then (if (bt266.1.length : Int) = 3 then (if 1 < (bt266.1.length : Int) then (if ((rd_T33 bt266.1 1).f3).toList = ([120] : List UInt8) then (if ((rd_T33 bt266.1 1).f1) = 3 then (if bt271.2.2 = 5 then (some (bt271.2.1 == 3)) else (some false)) else (some false)) else (some false)) else (none)) else (some false)) else (some false)) else (some false)))) = some r := h
  clear h
  replace H := Option.bind_eq_some_iff.mp H
  obtain ⟨⟨t266, t267, t268⟩, A10, H⟩ := H
  replace H : ((G_Tokens.f (⟨#[60, 97, 62, 60]⟩ : ByteArray)).bind fun bt271 => (if t268 = 0 then (if t267 = 0 then (if (t266.length : Int) = 3 then (if 1 < (t266.length : Int) then (if ((rd_T33 t266 1).f3).toList = ([120] : List UInt8) then (if ((rd_T33 t266 1).f1) = 3 then (if bt271.2.2 = 5 then (some (bt271.2.1 == 3)) else (some false)) else (some false)) else (some false)) else (none)) else (some false)) else (some false)) else (some false))) = some r := H
  have A1 := Aside0.mk A10
  clear A10
  replace H := Option.bind_eq_some_iff.mp H
  obtain ⟨⟨t271, t272, t273⟩, A20, H⟩ := H
  replace H : (if t268 = 0 then (if t267 = 0 then (if (t266.length : Int) = 3 then (if 1 < (t266.length : Int) then (if ((rd_T33 t266 1).f3).toList = ([120] : List UInt8) then (if ((rd_T33 t266 1).f1) = 3 then (if t273 = 5 then (some (t272 == 3)) else (some false)) else (some false)) else (some false)) else (none)) else (some false)) else (some false)) else (some false)) = some r := H
  have A2 := Aside0.mk A20
  clear A20
  by_cases c3 : t268 = 0
  · rw [if_pos c3] at H
    have c3b0 : (t268 == 0) = true := beq_iff_eq.mpr c3
    have c3b1 : (t268 != 0) = false := bne_eq_false_iff_eq.mpr c3
    clear c3
    by_cases c4 : t267 = 0
    · rw [if_pos c4] at H
      have c4b0 : (t267 == 0) = true := beq_iff_eq.mpr c4
      have c4b1 : (t267 != 0) = false := bne_eq_false_iff_eq.mpr c4
      clear c4
      by_cases c5 : (t266.length : Int) = 3
      · rw [if_pos c5] at H
        have c5b0 : ((t266.length : Int) == 3) = true := beq_iff_eq.mpr c5
        have c5b1 : ((t266.length : Int) != 3) = false := bne_eq_false_iff_eq.mpr c5
        clear c5
        by_cases c6 : 1 < (t266.length : Int)
        · rw [if_pos c6] at H
          have c6b0 : decide (1 < (t266.length : Int)) = true := decide_eq_true c6
          have c6b1 : decide (1 < t266.length) = true := decide_eq_true (by omega)
          clear c6
          by_cases c7 : ((rd_T33 t266 1).f3).toList = ([120] : List UInt8)
          · rw [if_pos c7] at H
            have c7b0 : (((rd_T33 t266 1).f3).toList == ([120] : List UInt8)) = true := beq_iff_eq.mpr c7
            have c7b1 : (((rd_T33 t266 1).f3).toList != ([120] : List UInt8)) = false := bne_eq_false_iff_eq.mpr c7
            clear c7
            by_cases c8 : ((rd_T33 t266 1).f1) = 3
            · rw [if_pos c8] at H
              have c8b0 : (((rd_T33 t266 1).f1) == 3) = true := beq_iff_eq.mpr c8
              have c8b1 : (((rd_T33 t266 1).f1) != 3) = false := bne_eq_false_iff_eq.mpr c8
              clear c8
              by_cases c9 : t273 = 5
              · rw [if_pos c9] at H
                have c9b0 : (t273 == 5) = true := beq_iff_eq.mpr c9
                have c9b1 : (t273 != 5) = false := bne_eq_false_iff_eq.mpr c9
                clear c9
                obtain rfl := Option.some.inj H
                go_enter Tryd.func8, Tryd.ntmps8
                go_wp2_with (first | ((with_reducible refine gate_callee (f := 10) rfl ?_); refine goesL_ (some 8) rfl rfl Tryd.func10 (by kernel_rfl) rfl #[.string (⟨#[60, 97, 62, 120, 60, 47, 97, 62]⟩ : ByteArray)] rfl (by (try simp only [List.map_toArray, List.map_cons, List.map_nil]); first | done | rfl | (simp only [List.length_drop, List.length_take]; rfl)) ?_; (with_reducible refine (G_Tokens.calls (⟨#[60, 97, 62, 120, 60, 47, 97, 62]⟩ : ByteArray) t266 t267 t268 _ ?side1 A1.out).mono ?_); (case side1 => first | exact HG.out | exact Gd.drewN HG.out _ | exact Gd.drew HG.out | exact Gd.below HG.out (by repeat (first | (with_reducible first | exact HB.out | apply below_alloc | apply pw_below_drewN | apply below_drew1) | exact HB.out))); rintro e w10 ⟨v269, rfl, ho0, hb⟩; refine ⟨_, rfl, ?_⟩; have n0_ := Aside0.mk (Kd.S_lower ho0 (below_size (by repeat (first | (with_reducible first | exact HB.out | apply below_alloc | apply pw_below_drewN | apply below_drew1) | exact HB.out)))); have n1_ := Aside0.mk (below_step (by repeat (first | (with_reducible first | exact HB.out | apply below_alloc | apply pw_below_drewN | apply below_drew1) | exact HB.out)) hb); clear HB; have HO270 := n0_; have HB := n1_; clear n0_ n1_; (try clear hb); (try clear hb2); (try clear hk); (try clear hi); (try clear ho0)) | ((with_reducible refine gate_callee (f := 10) rfl ?_); refine goesL_ (some 13) rfl rfl Tryd.func10 (by kernel_rfl) rfl #[.string (⟨#[60, 97, 62, 60]⟩ : ByteArray)] rfl (by (try simp only [List.map_toArray, List.map_cons, List.map_nil]); first | done | rfl | (simp only [List.length_drop, List.length_take]; rfl)) ?_; (with_reducible refine (G_Tokens.calls (⟨#[60, 97, 62, 60]⟩ : ByteArray) t271 t272 t273 _ ?side1 A2.out).mono ?_); (case side1 => first | exact HG.out | exact Gd.drewN HG.out _ | exact Gd.drew HG.out | exact Gd.below HG.out (by repeat (first | (with_reducible first | exact HB.out | apply below_alloc | apply pw_below_drewN | apply below_drew1) | exact HB.out))); rintro e w11 ⟨v274, rfl, ho0, hb⟩; refine ⟨_, rfl, ?_⟩; have n0_ := Aside0.mk (Kd.S_elder' (by (with_reducible repeat (first | apply Kd.S_alloc | apply Kd.S_drewN | apply Kd.S_drew)); exact HO270.out) (Kd.S_base ho0) hb); have n1_ := Aside0.mk (Kd.S_lower (Kd.S_new' ho0 (Kd.S_lt (by (with_reducible repeat (first | apply Kd.S_alloc | apply Kd.S_drewN | apply Kd.S_drew)); exact HO270.out))) (below_size (by repeat (first | (with_reducible first | exact HB.out | apply below_alloc | apply pw_below_drewN | apply below_drew1) | exact HB.out)))); have n2_ := Aside0.mk (below_step (by repeat (first | (with_reducible first | exact HB.out | apply below_alloc | apply pw_below_drewN | apply below_drew1) | exact HB.out)) hb); clear HO270; clear HB; have HO270 := n0_; have HO275 := n1_; have HB := n2_; clear n0_ n1_ n2_; (try clear hb); (try clear hb2); (try clear hk); (try clear hi); (try clear ho0); obtain ⟨Ao12, co12, eo12⟩ := Kd.S_slice HO270.out; subst eo12; have p276 : 0 ≤ (1 : Int) := (by omega); have q276 : 1 < (t266.length : Int) := of_decide_eq_true (by first | (with_reducible assumption) | assumption); obtain ⟨ad276, A276_4, c276_4, e276, hx276_0, hx276_1, hx276_2, hx276_3, hx276_4, hx276_5, hl276_4, hi276_4⟩ := at_T33 (Kd.S_reads' HO270.out).2.2 1 p276 q276; cases e276; obtain ⟨ce276, hce276, hMe276, hcc276⟩ := Kd.S_get HO270.out z33 1 p276 (by first | exact q276 | exact of_decide_eq_true (by first | (with_reducible assumption) | assumption) | (have e_ := (Kd.S_reads' HO270.out).1; omega)); obtain ⟨ve276_4, rfl, ge276_4⟩ := k33_openM hMe276; have hv276_4 := hcc276 4 _ rfl; rw [add_field _ _ 4 (by omega)] at hv276_4; replace hv276_4 := Option.some.inj (hv276_4.symm.trans hx276_4); rw [hv276_4] at ge276_4; have HL276_4 := Aside0.mk (show Kd.R k35 35 _ _ _ _ ((rd_T33 t266 1).f4) from ge276_4); clear hv276_4 ge276_4; clear hcc276 hce276; (try simp only [show (1 : Int).toNat = 1 from rfl, Nat.reduceMul, Nat.reduceEqDiff, Go.Addr.add, ↓reduceIte] at hx276_0); (try simp only [show (1 : Int).toNat = 1 from rfl, Nat.reduceMul, Nat.reduceEqDiff, Go.Addr.add, ↓reduceIte] at hx276_1); (try simp only [show (1 : Int).toNat = 1 from rfl, Nat.reduceMul, Nat.reduceEqDiff, Go.Addr.add, ↓reduceIte] at hx276_2); (try simp only [show (1 : Int).toNat = 1 from rfl, Nat.reduceMul, Nat.reduceEqDiff, Go.Addr.add, ↓reduceIte] at hx276_3); (try simp only [show (1 : Int).toNat = 1 from rfl, Nat.reduceMul, Nat.reduceEqDiff, Go.Addr.add, ↓reduceIte] at hx276_4); (try simp only [show (1 : Int).toNat = 1 from rfl, Nat.reduceMul, Nat.reduceEqDiff, Go.Addr.add, ↓reduceIte] at hx276_5); have qi276 : (1 < t266.length) = True := eq_true (by omega); (try rw [show ((1 : Int)).toNat = 1 from rfl] at hx276_0); (try rw [show 1 * 6 = 6 from rfl] at hx276_0); (try rw [show ((1 : Int)).toNat = 1 from rfl] at hx276_1); (try rw [show 1 * 6 = 6 from rfl] at hx276_1); (try rw [show ((1 : Int)).toNat = 1 from rfl] at hx276_2); (try rw [show 1 * 6 = 6 from rfl] at hx276_2); (try rw [show ((1 : Int)).toNat = 1 from rfl] at hx276_3); (try rw [show 1 * 6 = 6 from rfl] at hx276_3); (try rw [show ((1 : Int)).toNat = 1 from rfl] at hx276_4); (try rw [show 1 * 6 = 6 from rfl] at hx276_4); (try rw [show ((1 : Int)).toNat = 1 from rfl] at hx276_5); (try rw [show 1 * 6 = 6 from rfl] at hx276_5); have HR276_4 := Aside0.mk hi276_4; have HC276_4 := Aside0.mk hl276_4; clear hi276_4 hl276_4; replace p276 := eq_true p276; replace q276 := eq_true q276; have p277 : 0 ≤ (1 : Int) := (by omega); have q277 : 1 < (t266.length : Int) := of_decide_eq_true (by first | (with_reducible assumption) | assumption); obtain ⟨ad277, A277_4, c277_4, e277, hx277_0, hx277_1, hx277_2, hx277_3, hx277_4, hx277_5, hl277_4, hi277_4⟩ := at_T33 (Kd.S_reads' HO270.out).2.2 1 p277 q277; obtain rfl : ad276 = ad277 := (by injection e277); obtain ⟨ce277, hce277, hMe277, hcc277⟩ := Kd.S_get HO270.out z33 1 p277 (by first | exact q277 | exact of_decide_eq_true (by first | (with_reducible assumption) | assumption) | (have e_ := (Kd.S_reads' HO270.out).1; omega)); obtain ⟨ve277_4, rfl, ge277_4⟩ := k33_openM hMe277; have hv277_4 := hcc277 4 _ rfl; rw [add_field _ _ 4 (by omega)] at hv277_4; replace hv277_4 := Option.some.inj (hv277_4.symm.trans hx277_4); rw [hv277_4] at ge277_4; have HL277_4 := Aside0.mk (show Kd.R k35 35 _ _ _ _ ((rd_T33 t266 1).f4) from ge277_4); clear hv277_4 ge277_4; clear hcc277 hce277; (try simp only [show (1 : Int).toNat = 1 from rfl, Nat.reduceMul, Nat.reduceEqDiff, Go.Addr.add, ↓reduceIte] at hx277_0); (try simp only [show (1 : Int).toNat = 1 from rfl, Nat.reduceMul, Nat.reduceEqDiff, Go.Addr.add, ↓reduceIte] at hx277_1); (try simp only [show (1 : Int).toNat = 1 from rfl, Nat.reduceMul, Nat.reduceEqDiff, Go.Addr.add, ↓reduceIte] at hx277_2); (try simp only [show (1 : Int).toNat = 1 from rfl, Nat.reduceMul, Nat.reduceEqDiff, Go.Addr.add, ↓reduceIte] at hx277_3); (try simp only [show (1 : Int).toNat = 1 from rfl, Nat.reduceMul, Nat.reduceEqDiff, Go.Addr.add, ↓reduceIte] at hx277_4); (try simp only [show (1 : Int).toNat = 1 from rfl, Nat.reduceMul, Nat.reduceEqDiff, Go.Addr.add, ↓reduceIte] at hx277_5); have qi277 : (1 < t266.length) = True := eq_true (by omega); (try rw [show ((1 : Int)).toNat = 1 from rfl] at hx277_0); (try rw [show 1 * 6 = 6 from rfl] at hx277_0); (try rw [show ((1 : Int)).toNat = 1 from rfl] at hx277_1); (try rw [show 1 * 6 = 6 from rfl] at hx277_1); (try rw [show ((1 : Int)).toNat = 1 from rfl] at hx277_2); (try rw [show 1 * 6 = 6 from rfl] at hx277_2); (try rw [show ((1 : Int)).toNat = 1 from rfl] at hx277_3); (try rw [show 1 * 6 = 6 from rfl] at hx277_3); (try rw [show ((1 : Int)).toNat = 1 from rfl] at hx277_4); (try rw [show 1 * 6 = 6 from rfl] at hx277_4); (try rw [show ((1 : Int)).toNat = 1 from rfl] at hx277_5); (try rw [show 1 * 6 = 6 from rfl] at hx277_5); have HR277_4 := Aside0.mk hi277_4; have HC277_4 := Aside0.mk hl277_4; clear hi277_4 hl277_4; replace p277 := eq_true p277; replace q277 := eq_true q277; have ea_ := Option.some.inj (hx276_4.symm.trans hx277_4); injection ea_ with ea_ en_ ec_; subst ea_; subst ec_; clear en_))
                go_ret
                exact ⟨by first | rfl | (simp [errW_none, errW_some] <;> rfl) | (simp [*, errW_none, errW_some] <;> rfl), by repeat (first | (with_reducible first | exact HB.out | apply below_alloc | apply pw_below_drewN | apply below_drew1) | exact HB.out)⟩
              · rw [if_neg c9] at H
                have c9b0 : (t273 == 5) = false := beq_eq_false_iff_ne.mpr c9
                have c9b1 : (t273 != 5) = true := bne_iff_ne.mpr c9
                obtain rfl := Option.some.inj H
                go_enter Tryd.func8, Tryd.ntmps8
                go_wp2_with (first | ((with_reducible refine gate_callee (f := 10) rfl ?_); refine goesL_ (some 8) rfl rfl Tryd.func10 (by kernel_rfl) rfl #[.string (⟨#[60, 97, 62, 120, 60, 47, 97, 62]⟩ : ByteArray)] rfl (by (try simp only [List.map_toArray, List.map_cons, List.map_nil]); first | done | rfl | (simp only [List.length_drop, List.length_take]; rfl)) ?_; (with_reducible refine (G_Tokens.calls (⟨#[60, 97, 62, 120, 60, 47, 97, 62]⟩ : ByteArray) t266 t267 t268 _ ?side1 A1.out).mono ?_); (case side1 => first | exact HG.out | exact Gd.drewN HG.out _ | exact Gd.drew HG.out | exact Gd.below HG.out (by repeat (first | (with_reducible first | exact HB.out | apply below_alloc | apply pw_below_drewN | apply below_drew1) | exact HB.out))); rintro e w13 ⟨v269, rfl, ho0, hb⟩; refine ⟨_, rfl, ?_⟩; have n0_ := Aside0.mk (Kd.S_lower ho0 (below_size (by repeat (first | (with_reducible first | exact HB.out | apply below_alloc | apply pw_below_drewN | apply below_drew1) | exact HB.out)))); have n1_ := Aside0.mk (below_step (by repeat (first | (with_reducible first | exact HB.out | apply below_alloc | apply pw_below_drewN | apply below_drew1) | exact HB.out)) hb); clear HB; have HO270 := n0_; have HB := n1_; clear n0_ n1_; (try clear hb); (try clear hb2); (try clear hk); (try clear hi); (try clear ho0)) | ((with_reducible refine gate_callee (f := 10) rfl ?_); refine goesL_ (some 13) rfl rfl Tryd.func10 (by kernel_rfl) rfl #[.string (⟨#[60, 97, 62, 60]⟩ : ByteArray)] rfl (by (try simp only [List.map_toArray, List.map_cons, List.map_nil]); first | done | rfl | (simp only [List.length_drop, List.length_take]; rfl)) ?_; (with_reducible refine (G_Tokens.calls (⟨#[60, 97, 62, 60]⟩ : ByteArray) t271 t272 t273 _ ?side1 A2.out).mono ?_); (case side1 => first | exact HG.out | exact Gd.drewN HG.out _ | exact Gd.drew HG.out | exact Gd.below HG.out (by repeat (first | (with_reducible first | exact HB.out | apply below_alloc | apply pw_below_drewN | apply below_drew1) | exact HB.out))); rintro e w14 ⟨v274, rfl, ho0, hb⟩; refine ⟨_, rfl, ?_⟩; have n0_ := Aside0.mk (Kd.S_elder' (by (with_reducible repeat (first | apply Kd.S_alloc | apply Kd.S_drewN | apply Kd.S_drew)); exact HO270.out) (Kd.S_base ho0) hb); have n1_ := Aside0.mk (Kd.S_lower (Kd.S_new' ho0 (Kd.S_lt (by (with_reducible repeat (first | apply Kd.S_alloc | apply Kd.S_drewN | apply Kd.S_drew)); exact HO270.out))) (below_size (by repeat (first | (with_reducible first | exact HB.out | apply below_alloc | apply pw_below_drewN | apply below_drew1) | exact HB.out)))); have n2_ := Aside0.mk (below_step (by repeat (first | (with_reducible first | exact HB.out | apply below_alloc | apply pw_below_drewN | apply below_drew1) | exact HB.out)) hb); clear HO270; clear HB; have HO270 := n0_; have HO275 := n1_; have HB := n2_; clear n0_ n1_ n2_; (try clear hb); (try clear hb2); (try clear hk); (try clear hi); (try clear ho0); obtain ⟨Ao15, co15, eo15⟩ := Kd.S_slice HO270.out; subst eo15; have p276 : 0 ≤ (1 : Int) := (by omega); have q276 : 1 < (t266.length : Int) := of_decide_eq_true (by first | (with_reducible assumption) | assumption); obtain ⟨ad276, A276_4, c276_4, e276, hx276_0, hx276_1, hx276_2, hx276_3, hx276_4, hx276_5, hl276_4, hi276_4⟩ := at_T33 (Kd.S_reads' HO270.out).2.2 1 p276 q276; cases e276; obtain ⟨ce276, hce276, hMe276, hcc276⟩ := Kd.S_get HO270.out z33 1 p276 (by first | exact q276 | exact of_decide_eq_true (by first | (with_reducible assumption) | assumption) | (have e_ := (Kd.S_reads' HO270.out).1; omega)); obtain ⟨ve276_4, rfl, ge276_4⟩ := k33_openM hMe276; have hv276_4 := hcc276 4 _ rfl; rw [add_field _ _ 4 (by omega)] at hv276_4; replace hv276_4 := Option.some.inj (hv276_4.symm.trans hx276_4); rw [hv276_4] at ge276_4; have HL276_4 := Aside0.mk (show Kd.R k35 35 _ _ _ _ ((rd_T33 t266 1).f4) from ge276_4); clear hv276_4 ge276_4; clear hcc276 hce276; (try simp only [show (1 : Int).toNat = 1 from rfl, Nat.reduceMul, Nat.reduceEqDiff, Go.Addr.add, ↓reduceIte] at hx276_0); (try simp only [show (1 : Int).toNat = 1 from rfl, Nat.reduceMul, Nat.reduceEqDiff, Go.Addr.add, ↓reduceIte] at hx276_1); (try simp only [show (1 : Int).toNat = 1 from rfl, Nat.reduceMul, Nat.reduceEqDiff, Go.Addr.add, ↓reduceIte] at hx276_2); (try simp only [show (1 : Int).toNat = 1 from rfl, Nat.reduceMul, Nat.reduceEqDiff, Go.Addr.add, ↓reduceIte] at hx276_3); (try simp only [show (1 : Int).toNat = 1 from rfl, Nat.reduceMul, Nat.reduceEqDiff, Go.Addr.add, ↓reduceIte] at hx276_4); (try simp only [show (1 : Int).toNat = 1 from rfl, Nat.reduceMul, Nat.reduceEqDiff, Go.Addr.add, ↓reduceIte] at hx276_5); have qi276 : (1 < t266.length) = True := eq_true (by omega); (try rw [show ((1 : Int)).toNat = 1 from rfl] at hx276_0); (try rw [show 1 * 6 = 6 from rfl] at hx276_0); (try rw [show ((1 : Int)).toNat = 1 from rfl] at hx276_1); (try rw [show 1 * 6 = 6 from rfl] at hx276_1); (try rw [show ((1 : Int)).toNat = 1 from rfl] at hx276_2); (try rw [show 1 * 6 = 6 from rfl] at hx276_2); (try rw [show ((1 : Int)).toNat = 1 from rfl] at hx276_3); (try rw [show 1 * 6 = 6 from rfl] at hx276_3); (try rw [show ((1 : Int)).toNat = 1 from rfl] at hx276_4); (try rw [show 1 * 6 = 6 from rfl] at hx276_4); (try rw [show ((1 : Int)).toNat = 1 from rfl] at hx276_5); (try rw [show 1 * 6 = 6 from rfl] at hx276_5); have HR276_4 := Aside0.mk hi276_4; have HC276_4 := Aside0.mk hl276_4; clear hi276_4 hl276_4; replace p276 := eq_true p276; replace q276 := eq_true q276; have p277 : 0 ≤ (1 : Int) := (by omega); have q277 : 1 < (t266.length : Int) := of_decide_eq_true (by first | (with_reducible assumption) | assumption); obtain ⟨ad277, A277_4, c277_4, e277, hx277_0, hx277_1, hx277_2, hx277_3, hx277_4, hx277_5, hl277_4, hi277_4⟩ := at_T33 (Kd.S_reads' HO270.out).2.2 1 p277 q277; obtain rfl : ad276 = ad277 := (by injection e277); obtain ⟨ce277, hce277, hMe277, hcc277⟩ := Kd.S_get HO270.out z33 1 p277 (by first | exact q277 | exact of_decide_eq_true (by first | (with_reducible assumption) | assumption) | (have e_ := (Kd.S_reads' HO270.out).1; omega)); obtain ⟨ve277_4, rfl, ge277_4⟩ := k33_openM hMe277; have hv277_4 := hcc277 4 _ rfl; rw [add_field _ _ 4 (by omega)] at hv277_4; replace hv277_4 := Option.some.inj (hv277_4.symm.trans hx277_4); rw [hv277_4] at ge277_4; have HL277_4 := Aside0.mk (show Kd.R k35 35 _ _ _ _ ((rd_T33 t266 1).f4) from ge277_4); clear hv277_4 ge277_4; clear hcc277 hce277; (try simp only [show (1 : Int).toNat = 1 from rfl, Nat.reduceMul, Nat.reduceEqDiff, Go.Addr.add, ↓reduceIte] at hx277_0); (try simp only [show (1 : Int).toNat = 1 from rfl, Nat.reduceMul, Nat.reduceEqDiff, Go.Addr.add, ↓reduceIte] at hx277_1); (try simp only [show (1 : Int).toNat = 1 from rfl, Nat.reduceMul, Nat.reduceEqDiff, Go.Addr.add, ↓reduceIte] at hx277_2); (try simp only [show (1 : Int).toNat = 1 from rfl, Nat.reduceMul, Nat.reduceEqDiff, Go.Addr.add, ↓reduceIte] at hx277_3); (try simp only [show (1 : Int).toNat = 1 from rfl, Nat.reduceMul, Nat.reduceEqDiff, Go.Addr.add, ↓reduceIte] at hx277_4); (try simp only [show (1 : Int).toNat = 1 from rfl, Nat.reduceMul, Nat.reduceEqDiff, Go.Addr.add, ↓reduceIte] at hx277_5); have qi277 : (1 < t266.length) = True := eq_true (by omega); (try rw [show ((1 : Int)).toNat = 1 from rfl] at hx277_0); (try rw [show 1 * 6 = 6 from rfl] at hx277_0); (try rw [show ((1 : Int)).toNat = 1 from rfl] at hx277_1); (try rw [show 1 * 6 = 6 from rfl] at hx277_1); (try rw [show ((1 : Int)).toNat = 1 from rfl] at hx277_2); (try rw [show 1 * 6 = 6 from rfl] at hx277_2); (try rw [show ((1 : Int)).toNat = 1 from rfl] at hx277_3); (try rw [show 1 * 6 = 6 from rfl] at hx277_3); (try rw [show ((1 : Int)).toNat = 1 from rfl] at hx277_4); (try rw [show 1 * 6 = 6 from rfl] at hx277_4); (try rw [show ((1 : Int)).toNat = 1 from rfl] at hx277_5); (try rw [show 1 * 6 = 6 from rfl] at hx277_5); have HR277_4 := Aside0.mk hi277_4; have HC277_4 := Aside0.mk hl277_4; clear hi277_4 hl277_4; replace p277 := eq_true p277; replace q277 := eq_true q277; have ea_ := Option.some.inj (hx276_4.symm.trans hx277_4); injection ea_ with ea_ en_ ec_; subst ea_; subst ec_; clear en_))
                go_ret
                exact ⟨by first | rfl | (simp [errW_none, errW_some] <;> rfl) | (simp [*, errW_none, errW_some] <;> rfl), by repeat (first | (with_reducible first | exact HB.out | apply below_alloc | apply pw_below_drewN | apply below_drew1) | exact HB.out)⟩
            · rw [if_neg c8] at H
              have c8b0 : (((rd_T33 t266 1).f1) == 3) = false := beq_eq_false_iff_ne.mpr c8
              have c8b1 : (((rd_T33 t266 1).f1) != 3) = true := bne_iff_ne.mpr c8
              obtain rfl := Option.some.inj H
              go_enter Tryd.func8, Tryd.ntmps8
              go_wp2_with (first | ((with_reducible refine gate_callee (f := 10) rfl ?_); refine goesL_ (some 8) rfl rfl Tryd.func10 (by kernel_rfl) rfl #[.string (⟨#[60, 97, 62, 120, 60, 47, 97, 62]⟩ : ByteArray)] rfl (by (try simp only [List.map_toArray, List.map_cons, List.map_nil]); first | done | rfl | (simp only [List.length_drop, List.length_take]; rfl)) ?_; (with_reducible refine (G_Tokens.calls (⟨#[60, 97, 62, 120, 60, 47, 97, 62]⟩ : ByteArray) t266 t267 t268 _ ?side1 A1.out).mono ?_); (case side1 => first | exact HG.out | exact Gd.drewN HG.out _ | exact Gd.drew HG.out | exact Gd.below HG.out (by repeat (first | (with_reducible first | exact HB.out | apply below_alloc | apply pw_below_drewN | apply below_drew1) | exact HB.out))); rintro e w16 ⟨v269, rfl, ho0, hb⟩; refine ⟨_, rfl, ?_⟩; have n0_ := Aside0.mk (Kd.S_lower ho0 (below_size (by repeat (first | (with_reducible first | exact HB.out | apply below_alloc | apply pw_below_drewN | apply below_drew1) | exact HB.out)))); have n1_ := Aside0.mk (below_step (by repeat (first | (with_reducible first | exact HB.out | apply below_alloc | apply pw_below_drewN | apply below_drew1) | exact HB.out)) hb); clear HB; have HO270 := n0_; have HB := n1_; clear n0_ n1_; (try clear hb); (try clear hb2); (try clear hk); (try clear hi); (try clear ho0)) | ((with_reducible refine gate_callee (f := 10) rfl ?_); refine goesL_ (some 13) rfl rfl Tryd.func10 (by kernel_rfl) rfl #[.string (⟨#[60, 97, 62, 60]⟩ : ByteArray)] rfl (by (try simp only [List.map_toArray, List.map_cons, List.map_nil]); first | done | rfl | (simp only [List.length_drop, List.length_take]; rfl)) ?_; (with_reducible refine (G_Tokens.calls (⟨#[60, 97, 62, 60]⟩ : ByteArray) t271 t272 t273 _ ?side1 A2.out).mono ?_); (case side1 => first | exact HG.out | exact Gd.drewN HG.out _ | exact Gd.drew HG.out | exact Gd.below HG.out (by repeat (first | (with_reducible first | exact HB.out | apply below_alloc | apply pw_below_drewN | apply below_drew1) | exact HB.out))); rintro e w17 ⟨v274, rfl, ho0, hb⟩; refine ⟨_, rfl, ?_⟩; have n0_ := Aside0.mk (Kd.S_elder' (by (with_reducible repeat (first | apply Kd.S_alloc | apply Kd.S_drewN | apply Kd.S_drew)); exact HO270.out) (Kd.S_base ho0) hb); have n1_ := Aside0.mk (Kd.S_lower (Kd.S_new' ho0 (Kd.S_lt (by (with_reducible repeat (first | apply Kd.S_alloc | apply Kd.S_drewN | apply Kd.S_drew)); exact HO270.out))) (below_size (by repeat (first | (with_reducible first | exact HB.out | apply below_alloc | apply pw_below_drewN | apply below_drew1) | exact HB.out)))); have n2_ := Aside0.mk (below_step (by repeat (first | (with_reducible first | exact HB.out | apply below_alloc | apply pw_below_drewN | apply below_drew1) | exact HB.out)) hb); clear HO270; clear HB; have HO270 := n0_; have HO275 := n1_; have HB := n2_; clear n0_ n1_ n2_; (try clear hb); (try clear hb2); (try clear hk); (try clear hi); (try clear ho0); obtain ⟨Ao18, co18, eo18⟩ := Kd.S_slice HO270.out; subst eo18; have p276 : 0 ≤ (1 : Int) := (by omega); have q276 : 1 < (t266.length : Int) := of_decide_eq_true (by first | (with_reducible assumption) | assumption); obtain ⟨ad276, A276_4, c276_4, e276, hx276_0, hx276_1, hx276_2, hx276_3, hx276_4, hx276_5, hl276_4, hi276_4⟩ := at_T33 (Kd.S_reads' HO270.out).2.2 1 p276 q276; cases e276; obtain ⟨ce276, hce276, hMe276, hcc276⟩ := Kd.S_get HO270.out z33 1 p276 (by first | exact q276 | exact of_decide_eq_true (by first | (with_reducible assumption) | assumption) | (have e_ := (Kd.S_reads' HO270.out).1; omega)); obtain ⟨ve276_4, rfl, ge276_4⟩ := k33_openM hMe276; have hv276_4 := hcc276 4 _ rfl; rw [add_field _ _ 4 (by omega)] at hv276_4; replace hv276_4 := Option.some.inj (hv276_4.symm.trans hx276_4); rw [hv276_4] at ge276_4; have HL276_4 := Aside0.mk (show Kd.R k35 35 _ _ _ _ ((rd_T33 t266 1).f4) from ge276_4); clear hv276_4 ge276_4; clear hcc276 hce276; (try simp only [show (1 : Int).toNat = 1 from rfl, Nat.reduceMul, Nat.reduceEqDiff, Go.Addr.add, ↓reduceIte] at hx276_0); (try simp only [show (1 : Int).toNat = 1 from rfl, Nat.reduceMul, Nat.reduceEqDiff, Go.Addr.add, ↓reduceIte] at hx276_1); (try simp only [show (1 : Int).toNat = 1 from rfl, Nat.reduceMul, Nat.reduceEqDiff, Go.Addr.add, ↓reduceIte] at hx276_2); (try simp only [show (1 : Int).toNat = 1 from rfl, Nat.reduceMul, Nat.reduceEqDiff, Go.Addr.add, ↓reduceIte] at hx276_3); (try simp only [show (1 : Int).toNat = 1 from rfl, Nat.reduceMul, Nat.reduceEqDiff, Go.Addr.add, ↓reduceIte] at hx276_4); (try simp only [show (1 : Int).toNat = 1 from rfl, Nat.reduceMul, Nat.reduceEqDiff, Go.Addr.add, ↓reduceIte] at hx276_5); have qi276 : (1 < t266.length) = True := eq_true (by omega); (try rw [show ((1 : Int)).toNat = 1 from rfl] at hx276_0); (try rw [show 1 * 6 = 6 from rfl] at hx276_0); (try rw [show ((1 : Int)).toNat = 1 from rfl] at hx276_1); (try rw [show 1 * 6 = 6 from rfl] at hx276_1); (try rw [show ((1 : Int)).toNat = 1 from rfl] at hx276_2); (try rw [show 1 * 6 = 6 from rfl] at hx276_2); (try rw [show ((1 : Int)).toNat = 1 from rfl] at hx276_3); (try rw [show 1 * 6 = 6 from rfl] at hx276_3); (try rw [show ((1 : Int)).toNat = 1 from rfl] at hx276_4); (try rw [show 1 * 6 = 6 from rfl] at hx276_4); (try rw [show ((1 : Int)).toNat = 1 from rfl] at hx276_5); (try rw [show 1 * 6 = 6 from rfl] at hx276_5); have HR276_4 := Aside0.mk hi276_4; have HC276_4 := Aside0.mk hl276_4; clear hi276_4 hl276_4; replace p276 := eq_true p276; replace q276 := eq_true q276; have p277 : 0 ≤ (1 : Int) := (by omega); have q277 : 1 < (t266.length : Int) := of_decide_eq_true (by first | (with_reducible assumption) | assumption); obtain ⟨ad277, A277_4, c277_4, e277, hx277_0, hx277_1, hx277_2, hx277_3, hx277_4, hx277_5, hl277_4, hi277_4⟩ := at_T33 (Kd.S_reads' HO270.out).2.2 1 p277 q277; obtain rfl : ad276 = ad277 := (by injection e277); obtain ⟨ce277, hce277, hMe277, hcc277⟩ := Kd.S_get HO270.out z33 1 p277 (by first | exact q277 | exact of_decide_eq_true (by first | (with_reducible assumption) | assumption) | (have e_ := (Kd.S_reads' HO270.out).1; omega)); obtain ⟨ve277_4, rfl, ge277_4⟩ := k33_openM hMe277; have hv277_4 := hcc277 4 _ rfl; rw [add_field _ _ 4 (by omega)] at hv277_4; replace hv277_4 := Option.some.inj (hv277_4.symm.trans hx277_4); rw [hv277_4] at ge277_4; have HL277_4 := Aside0.mk (show Kd.R k35 35 _ _ _ _ ((rd_T33 t266 1).f4) from ge277_4); clear hv277_4 ge277_4; clear hcc277 hce277; (try simp only [show (1 : Int).toNat = 1 from rfl, Nat.reduceMul, Nat.reduceEqDiff, Go.Addr.add, ↓reduceIte] at hx277_0); (try simp only [show (1 : Int).toNat = 1 from rfl, Nat.reduceMul, Nat.reduceEqDiff, Go.Addr.add, ↓reduceIte] at hx277_1); (try simp only [show (1 : Int).toNat = 1 from rfl, Nat.reduceMul, Nat.reduceEqDiff, Go.Addr.add, ↓reduceIte] at hx277_2); (try simp only [show (1 : Int).toNat = 1 from rfl, Nat.reduceMul, Nat.reduceEqDiff, Go.Addr.add, ↓reduceIte] at hx277_3); (try simp only [show (1 : Int).toNat = 1 from rfl, Nat.reduceMul, Nat.reduceEqDiff, Go.Addr.add, ↓reduceIte] at hx277_4); (try simp only [show (1 : Int).toNat = 1 from rfl, Nat.reduceMul, Nat.reduceEqDiff, Go.Addr.add, ↓reduceIte] at hx277_5); have qi277 : (1 < t266.length) = True := eq_true (by omega); (try rw [show ((1 : Int)).toNat = 1 from rfl] at hx277_0); (try rw [show 1 * 6 = 6 from rfl] at hx277_0); (try rw [show ((1 : Int)).toNat = 1 from rfl] at hx277_1); (try rw [show 1 * 6 = 6 from rfl] at hx277_1); (try rw [show ((1 : Int)).toNat = 1 from rfl] at hx277_2); (try rw [show 1 * 6 = 6 from rfl] at hx277_2); (try rw [show ((1 : Int)).toNat = 1 from rfl] at hx277_3); (try rw [show 1 * 6 = 6 from rfl] at hx277_3); (try rw [show ((1 : Int)).toNat = 1 from rfl] at hx277_4); (try rw [show 1 * 6 = 6 from rfl] at hx277_4); (try rw [show ((1 : Int)).toNat = 1 from rfl] at hx277_5); (try rw [show 1 * 6 = 6 from rfl] at hx277_5); have HR277_4 := Aside0.mk hi277_4; have HC277_4 := Aside0.mk hl277_4; clear hi277_4 hl277_4; replace p277 := eq_true p277; replace q277 := eq_true q277; have ea_ := Option.some.inj (hx276_4.symm.trans hx277_4); injection ea_ with ea_ en_ ec_; subst ea_; subst ec_; clear en_))
              go_ret
              exact ⟨by first | rfl | (simp [errW_none, errW_some] <;> rfl) | (simp [*, errW_none, errW_some] <;> rfl), by repeat (first | (with_reducible first | exact HB.out | apply below_alloc | apply pw_below_drewN | apply below_drew1) | exact HB.out)⟩
          · rw [if_neg c7] at H
            have c7b0 : (((rd_T33 t266 1).f3).toList == ([120] : List UInt8)) = false := beq_eq_false_iff_ne.mpr c7
            have c7b1 : (((rd_T33 t266 1).f3).toList != ([120] : List UInt8)) = true := bne_iff_ne.mpr c7
            obtain rfl := Option.some.inj H
            go_enter Tryd.func8, Tryd.ntmps8
            go_wp2_with (first | ((with_reducible refine gate_callee (f := 10) rfl ?_); refine goesL_ (some 8) rfl rfl Tryd.func10 (by kernel_rfl) rfl #[.string (⟨#[60, 97, 62, 120, 60, 47, 97, 62]⟩ : ByteArray)] rfl (by (try simp only [List.map_toArray, List.map_cons, List.map_nil]); first | done | rfl | (simp only [List.length_drop, List.length_take]; rfl)) ?_; (with_reducible refine (G_Tokens.calls (⟨#[60, 97, 62, 120, 60, 47, 97, 62]⟩ : ByteArray) t266 t267 t268 _ ?side1 A1.out).mono ?_); (case side1 => first | exact HG.out | exact Gd.drewN HG.out _ | exact Gd.drew HG.out | exact Gd.below HG.out (by repeat (first | (with_reducible first | exact HB.out | apply below_alloc | apply pw_below_drewN | apply below_drew1) | exact HB.out))); rintro e w19 ⟨v269, rfl, ho0, hb⟩; refine ⟨_, rfl, ?_⟩; have n0_ := Aside0.mk (Kd.S_lower ho0 (below_size (by repeat (first | (with_reducible first | exact HB.out | apply below_alloc | apply pw_below_drewN | apply below_drew1) | exact HB.out)))); have n1_ := Aside0.mk (below_step (by repeat (first | (with_reducible first | exact HB.out | apply below_alloc | apply pw_below_drewN | apply below_drew1) | exact HB.out)) hb); clear HB; have HO270 := n0_; have HB := n1_; clear n0_ n1_; (try clear hb); (try clear hb2); (try clear hk); (try clear hi); (try clear ho0)) | ((with_reducible refine gate_callee (f := 10) rfl ?_); refine goesL_ (some 13) rfl rfl Tryd.func10 (by kernel_rfl) rfl #[.string (⟨#[60, 97, 62, 60]⟩ : ByteArray)] rfl (by (try simp only [List.map_toArray, List.map_cons, List.map_nil]); first | done | rfl | (simp only [List.length_drop, List.length_take]; rfl)) ?_; (with_reducible refine (G_Tokens.calls (⟨#[60, 97, 62, 60]⟩ : ByteArray) t271 t272 t273 _ ?side1 A2.out).mono ?_); (case side1 => first | exact HG.out | exact Gd.drewN HG.out _ | exact Gd.drew HG.out | exact Gd.below HG.out (by repeat (first | (with_reducible first | exact HB.out | apply below_alloc | apply pw_below_drewN | apply below_drew1) | exact HB.out))); rintro e w20 ⟨v274, rfl, ho0, hb⟩; refine ⟨_, rfl, ?_⟩; have n0_ := Aside0.mk (Kd.S_elder' (by (with_reducible repeat (first | apply Kd.S_alloc | apply Kd.S_drewN | apply Kd.S_drew)); exact HO270.out) (Kd.S_base ho0) hb); have n1_ := Aside0.mk (Kd.S_lower (Kd.S_new' ho0 (Kd.S_lt (by (with_reducible repeat (first | apply Kd.S_alloc | apply Kd.S_drewN | apply Kd.S_drew)); exact HO270.out))) (below_size (by repeat (first | (with_reducible first | exact HB.out | apply below_alloc | apply pw_below_drewN | apply below_drew1) | exact HB.out)))); have n2_ := Aside0.mk (below_step (by repeat (first | (with_reducible first | exact HB.out | apply below_alloc | apply pw_below_drewN | apply below_drew1) | exact HB.out)) hb); clear HO270; clear HB; have HO270 := n0_; have HO275 := n1_; have HB := n2_; clear n0_ n1_ n2_; (try clear hb); (try clear hb2); (try clear hk); (try clear hi); (try clear ho0); obtain ⟨Ao21, co21, eo21⟩ := Kd.S_slice HO270.out; subst eo21; have p276 : 0 ≤ (1 : Int) := (by omega); have q276 : 1 < (t266.length : Int) := of_decide_eq_true (by first | (with_reducible assumption) | assumption); obtain ⟨ad276, A276_4, c276_4, e276, hx276_0, hx276_1, hx276_2, hx276_3, hx276_4, hx276_5, hl276_4, hi276_4⟩ := at_T33 (Kd.S_reads' HO270.out).2.2 1 p276 q276; cases e276; obtain ⟨ce276, hce276, hMe276, hcc276⟩ := Kd.S_get HO270.out z33 1 p276 (by first | exact q276 | exact of_decide_eq_true (by first | (with_reducible assumption) | assumption) | (have e_ := (Kd.S_reads' HO270.out).1; omega)); obtain ⟨ve276_4, rfl, ge276_4⟩ := k33_openM hMe276; have hv276_4 := hcc276 4 _ rfl; rw [add_field _ _ 4 (by omega)] at hv276_4; replace hv276_4 := Option.some.inj (hv276_4.symm.trans hx276_4); rw [hv276_4] at ge276_4; have HL276_4 := Aside0.mk (show Kd.R k35 35 _ _ _ _ ((rd_T33 t266 1).f4) from ge276_4); clear hv276_4 ge276_4; clear hcc276 hce276; (try simp only [show (1 : Int).toNat = 1 from rfl, Nat.reduceMul, Nat.reduceEqDiff, Go.Addr.add, ↓reduceIte] at hx276_0); (try simp only [show (1 : Int).toNat = 1 from rfl, Nat.reduceMul, Nat.reduceEqDiff, Go.Addr.add, ↓reduceIte] at hx276_1); (try simp only [show (1 : Int).toNat = 1 from rfl, Nat.reduceMul, Nat.reduceEqDiff, Go.Addr.add, ↓reduceIte] at hx276_2); (try simp only [show (1 : Int).toNat = 1 from rfl, Nat.reduceMul, Nat.reduceEqDiff, Go.Addr.add, ↓reduceIte] at hx276_3); (try simp only [show (1 : Int).toNat = 1 from rfl, Nat.reduceMul, Nat.reduceEqDiff, Go.Addr.add, ↓reduceIte] at hx276_4); (try simp only [show (1 : Int).toNat = 1 from rfl, Nat.reduceMul, Nat.reduceEqDiff, Go.Addr.add, ↓reduceIte] at hx276_5); have qi276 : (1 < t266.length) = True := eq_true (by omega); (try rw [show ((1 : Int)).toNat = 1 from rfl] at hx276_0); (try rw [show 1 * 6 = 6 from rfl] at hx276_0); (try rw [show ((1 : Int)).toNat = 1 from rfl] at hx276_1); (try rw [show 1 * 6 = 6 from rfl] at hx276_1); (try rw [show ((1 : Int)).toNat = 1 from rfl] at hx276_2); (try rw [show 1 * 6 = 6 from rfl] at hx276_2); (try rw [show ((1 : Int)).toNat = 1 from rfl] at hx276_3); (try rw [show 1 * 6 = 6 from rfl] at hx276_3); (try rw [show ((1 : Int)).toNat = 1 from rfl] at hx276_4); (try rw [show 1 * 6 = 6 from rfl] at hx276_4); (try rw [show ((1 : Int)).toNat = 1 from rfl] at hx276_5); (try rw [show 1 * 6 = 6 from rfl] at hx276_5); have HR276_4 := Aside0.mk hi276_4; have HC276_4 := Aside0.mk hl276_4; clear hi276_4 hl276_4; replace p276 := eq_true p276; replace q276 := eq_true q276))
            go_ret
            exact ⟨by first | rfl | (simp [errW_none, errW_some] <;> rfl) | (simp [*, errW_none, errW_some] <;> rfl), by repeat (first | (with_reducible first | exact HB.out | apply below_alloc | apply pw_below_drewN | apply below_drew1) | exact HB.out)⟩
        · rw [if_neg c6] at H
          exact absurd H (by simp)
      · rw [if_neg c5] at H
        have c5b0 : ((t266.length : Int) == 3) = false := beq_eq_false_iff_ne.mpr c5
        have c5b1 : ((t266.length : Int) != 3) = true := bne_iff_ne.mpr c5
        obtain rfl := Option.some.inj H
        go_enter Tryd.func8, Tryd.ntmps8
        go_wp2_with (first | ((with_reducible refine gate_callee (f := 10) rfl ?_); refine goesL_ (some 8) rfl rfl Tryd.func10 (by kernel_rfl) rfl #[.string (⟨#[60, 97, 62, 120, 60, 47, 97, 62]⟩ : ByteArray)] rfl (by (try simp only [List.map_toArray, List.map_cons, List.map_nil]); first | done | rfl | (simp only [List.length_drop, List.length_take]; rfl)) ?_; (with_reducible refine (G_Tokens.calls (⟨#[60, 97, 62, 120, 60, 47, 97, 62]⟩ : ByteArray) t266 t267 t268 _ ?side1 A1.out).mono ?_); (case side1 => first | exact HG.out | exact Gd.drewN HG.out _ | exact Gd.drew HG.out | exact Gd.below HG.out (by repeat (first | (with_reducible first | exact HB.out | apply below_alloc | apply pw_below_drewN | apply below_drew1) | exact HB.out))); rintro e w22 ⟨v269, rfl, ho0, hb⟩; refine ⟨_, rfl, ?_⟩; have n0_ := Aside0.mk (Kd.S_lower ho0 (below_size (by repeat (first | (with_reducible first | exact HB.out | apply below_alloc | apply pw_below_drewN | apply below_drew1) | exact HB.out)))); have n1_ := Aside0.mk (below_step (by repeat (first | (with_reducible first | exact HB.out | apply below_alloc | apply pw_below_drewN | apply below_drew1) | exact HB.out)) hb); clear HB; have HO270 := n0_; have HB := n1_; clear n0_ n1_; (try clear hb); (try clear hb2); (try clear hk); (try clear hi); (try clear ho0)) | ((with_reducible refine gate_callee (f := 10) rfl ?_); refine goesL_ (some 13) rfl rfl Tryd.func10 (by kernel_rfl) rfl #[.string (⟨#[60, 97, 62, 60]⟩ : ByteArray)] rfl (by (try simp only [List.map_toArray, List.map_cons, List.map_nil]); first | done | rfl | (simp only [List.length_drop, List.length_take]; rfl)) ?_; (with_reducible refine (G_Tokens.calls (⟨#[60, 97, 62, 60]⟩ : ByteArray) t271 t272 t273 _ ?side1 A2.out).mono ?_); (case side1 => first | exact HG.out | exact Gd.drewN HG.out _ | exact Gd.drew HG.out | exact Gd.below HG.out (by repeat (first | (with_reducible first | exact HB.out | apply below_alloc | apply pw_below_drewN | apply below_drew1) | exact HB.out))); rintro e w23 ⟨v274, rfl, ho0, hb⟩; refine ⟨_, rfl, ?_⟩; have n0_ := Aside0.mk (Kd.S_elder' (by (with_reducible repeat (first | apply Kd.S_alloc | apply Kd.S_drewN | apply Kd.S_drew)); exact HO270.out) (Kd.S_base ho0) hb); have n1_ := Aside0.mk (Kd.S_lower (Kd.S_new' ho0 (Kd.S_lt (by (with_reducible repeat (first | apply Kd.S_alloc | apply Kd.S_drewN | apply Kd.S_drew)); exact HO270.out))) (below_size (by repeat (first | (with_reducible first | exact HB.out | apply below_alloc | apply pw_below_drewN | apply below_drew1) | exact HB.out)))); have n2_ := Aside0.mk (below_step (by repeat (first | (with_reducible first | exact HB.out | apply below_alloc | apply pw_below_drewN | apply below_drew1) | exact HB.out)) hb); clear HO270; clear HB; have HO270 := n0_; have HO275 := n1_; have HB := n2_; clear n0_ n1_ n2_; (try clear hb); (try clear hb2); (try clear hk); (try clear hi); (try clear ho0); obtain ⟨Ao24, co24, eo24⟩ := Kd.S_slice HO270.out; subst eo24))
        go_ret
        exact ⟨by first | rfl | (simp [errW_none, errW_some] <;> rfl) | (simp [*, errW_none, errW_some] <;> rfl), by repeat (first | (with_reducible first | exact HB.out | apply below_alloc | apply pw_below_drewN | apply below_drew1) | exact HB.out)⟩
    · rw [if_neg c4] at H
      have c4b0 : (t267 == 0) = false := beq_eq_false_iff_ne.mpr c4
      have c4b1 : (t267 != 0) = true := bne_iff_ne.mpr c4
      obtain rfl := Option.some.inj H
      go_enter Tryd.func8, Tryd.ntmps8
      go_wp2_with (first | ((with_reducible refine gate_callee (f := 10) rfl ?_); refine goesL_ (some 8) rfl rfl Tryd.func10 (by kernel_rfl) rfl #[.string (⟨#[60, 97, 62, 120, 60, 47, 97, 62]⟩ : ByteArray)] rfl (by (try simp only [List.map_toArray, List.map_cons, List.map_nil]); first | done | rfl | (simp only [List.length_drop, List.length_take]; rfl)) ?_; (with_reducible refine (G_Tokens.calls (⟨#[60, 97, 62, 120, 60, 47, 97, 62]⟩ : ByteArray) t266 t267 t268 _ ?side1 A1.out).mono ?_); (case side1 => first | exact HG.out | exact Gd.drewN HG.out _ | exact Gd.drew HG.out | exact Gd.below HG.out (by repeat (first | (with_reducible first | exact HB.out | apply below_alloc | apply pw_below_drewN | apply below_drew1) | exact HB.out))); rintro e w25 ⟨v269, rfl, ho0, hb⟩; refine ⟨_, rfl, ?_⟩; have n0_ := Aside0.mk (Kd.S_lower ho0 (below_size (by repeat (first | (with_reducible first | exact HB.out | apply below_alloc | apply pw_below_drewN | apply below_drew1) | exact HB.out)))); have n1_ := Aside0.mk (below_step (by repeat (first | (with_reducible first | exact HB.out | apply below_alloc | apply pw_below_drewN | apply below_drew1) | exact HB.out)) hb); clear HB; have HO270 := n0_; have HB := n1_; clear n0_ n1_; (try clear hb); (try clear hb2); (try clear hk); (try clear hi); (try clear ho0)) | ((with_reducible refine gate_callee (f := 10) rfl ?_); refine goesL_ (some 13) rfl rfl Tryd.func10 (by kernel_rfl) rfl #[.string (⟨#[60, 97, 62, 60]⟩ : ByteArray)] rfl (by (try simp only [List.map_toArray, List.map_cons, List.map_nil]); first | done | rfl | (simp only [List.length_drop, List.length_take]; rfl)) ?_; (with_reducible refine (G_Tokens.calls (⟨#[60, 97, 62, 60]⟩ : ByteArray) t271 t272 t273 _ ?side1 A2.out).mono ?_); (case side1 => first | exact HG.out | exact Gd.drewN HG.out _ | exact Gd.drew HG.out | exact Gd.below HG.out (by repeat (first | (with_reducible first | exact HB.out | apply below_alloc | apply pw_below_drewN | apply below_drew1) | exact HB.out))); rintro e w26 ⟨v274, rfl, ho0, hb⟩; refine ⟨_, rfl, ?_⟩; have n0_ := Aside0.mk (Kd.S_elder' (by (with_reducible repeat (first | apply Kd.S_alloc | apply Kd.S_drewN | apply Kd.S_drew)); exact HO270.out) (Kd.S_base ho0) hb); have n1_ := Aside0.mk (Kd.S_lower (Kd.S_new' ho0 (Kd.S_lt (by (with_reducible repeat (first | apply Kd.S_alloc | apply Kd.S_drewN | apply Kd.S_drew)); exact HO270.out))) (below_size (by repeat (first | (with_reducible first | exact HB.out | apply below_alloc | apply pw_below_drewN | apply below_drew1) | exact HB.out)))); have n2_ := Aside0.mk (below_step (by repeat (first | (with_reducible first | exact HB.out | apply below_alloc | apply pw_below_drewN | apply below_drew1) | exact HB.out)) hb); clear HO270; clear HB; have HO270 := n0_; have HO275 := n1_; have HB := n2_; clear n0_ n1_ n2_; (try clear hb); (try clear hb2); (try clear hk); (try clear hi); (try clear ho0)))
      go_ret
      exact ⟨by first | rfl | (simp [errW_none, errW_some] <;> rfl) | (simp [*, errW_none, errW_some] <;> rfl), by repeat (first | (with_reducible first | exact HB.out | apply below_alloc | apply pw_below_drewN | apply below_drew1) | exact HB.out)⟩
  · rw [if_neg c3] at H
    have c3b0 : (t268 == 0) = false := beq_eq_false_iff_ne.mpr c3
    have c3b1 : (t268 != 0) = true := bne_iff_ne.mpr c3
    obtain rfl := Option.some.inj H
    go_enter Tryd.func8, Tryd.ntmps8
    go_wp2_with (first | ((with_reducible refine gate_callee (f := 10) rfl ?_); refine goesL_ (some 8) rfl rfl Tryd.func10 (by kernel_rfl) rfl #[.string (⟨#[60, 97, 62, 120, 60, 47, 97, 62]⟩ : ByteArray)] rfl (by (try simp only [List.map_toArray, List.map_cons, List.map_nil]); first | done | rfl | (simp only [List.length_drop, List.length_take]; rfl)) ?_; (with_reducible refine (G_Tokens.calls (⟨#[60, 97, 62, 120, 60, 47, 97, 62]⟩ : ByteArray) t266 t267 t268 _ ?side1 A1.out).mono ?_); (case side1 => first | exact HG.out | exact Gd.drewN HG.out _ | exact Gd.drew HG.out | exact Gd.below HG.out (by repeat (first | (with_reducible first | exact HB.out | apply below_alloc | apply pw_below_drewN | apply below_drew1) | exact HB.out))); rintro e w27 ⟨v269, rfl, ho0, hb⟩; refine ⟨_, rfl, ?_⟩; have n0_ := Aside0.mk (Kd.S_lower ho0 (below_size (by repeat (first | (with_reducible first | exact HB.out | apply below_alloc | apply pw_below_drewN | apply below_drew1) | exact HB.out)))); have n1_ := Aside0.mk (below_step (by repeat (first | (with_reducible first | exact HB.out | apply below_alloc | apply pw_below_drewN | apply below_drew1) | exact HB.out)) hb); clear HB; have HO270 := n0_; have HB := n1_; clear n0_ n1_; (try clear hb); (try clear hb2); (try clear hk); (try clear hi); (try clear ho0)) | ((with_reducible refine gate_callee (f := 10) rfl ?_); refine goesL_ (some 13) rfl rfl Tryd.func10 (by kernel_rfl) rfl #[.string (⟨#[60, 97, 62, 60]⟩ : ByteArray)] rfl (by (try simp only [List.map_toArray, List.map_cons, List.map_nil]); first | done | rfl | (simp only [List.length_drop, List.length_take]; rfl)) ?_; (with_reducible refine (G_Tokens.calls (⟨#[60, 97, 62, 60]⟩ : ByteArray) t271 t272 t273 _ ?side1 A2.out).mono ?_); (case side1 => first | exact HG.out | exact Gd.drewN HG.out _ | exact Gd.drew HG.out | exact Gd.below HG.out (by repeat (first | (with_reducible first | exact HB.out | apply below_alloc | apply pw_below_drewN | apply below_drew1) | exact HB.out))); rintro e w28 ⟨v274, rfl, ho0, hb⟩; refine ⟨_, rfl, ?_⟩; have n0_ := Aside0.mk (Kd.S_elder' (by (with_reducible repeat (first | apply Kd.S_alloc | apply Kd.S_drewN | apply Kd.S_drew)); exact HO270.out) (Kd.S_base ho0) hb); have n1_ := Aside0.mk (Kd.S_lower (Kd.S_new' ho0 (Kd.S_lt (by (with_reducible repeat (first | apply Kd.S_alloc | apply Kd.S_drewN | apply Kd.S_drew)); exact HO270.out))) (below_size (by repeat (first | (with_reducible first | exact HB.out | apply below_alloc | apply pw_below_drewN | apply below_drew1) | exact HB.out)))); have n2_ := Aside0.mk (below_step (by repeat (first | (with_reducible first | exact HB.out | apply below_alloc | apply pw_below_drewN | apply below_drew1) | exact HB.out)) hb); clear HO270; clear HB; have HO270 := n0_; have HO275 := n1_; have HB := n2_; clear n0_ n1_ n2_; (try clear hb); (try clear hb2); (try clear hk); (try clear hi); (try clear ho0)))
    go_ret
    exact ⟨by first | rfl | (simp [errW_none, errW_some] <;> rfl) | (simp [*, errW_none, errW_some] <;> rfl), by repeat (first | (with_reducible first | exact HB.out | apply below_alloc | apply pw_below_drewN | apply below_drew1) | exact HB.out)⟩

end Go.Proofs.YtfelfpjfjjgmoaaDoor.P
end
/- Lean functions for functions of the program, and that the Go code comes to their answers, where the library's variables are as Gd says. Written by a turned copy of the kit's print; Lean checks it. -/
section
namespace Go.Proofs.YtfelfpjfjjgmoaaDoor.P
open Go.RowKit Go.Proofs.YtfelfpjfjjgmoaaDoorW.PrintWords Go.Proofs.YtfelfpjfjjgmoaaDoorW.PrintLast Go.Proofs.YtfelfpjfjjgmoaaDoorW.PrintMore
attribute [local go_sem] max2_int min2_int max_two min_two max_three min_three max_four min_four   -- for this text's walks alone
set_option linter.unusedVariables false
set_option linter.unusedSimpArgs false

/-! ### cardexlaw08_TokenRefuses: function 5 -/
def cardexlaw08_TokenRefuses.l0 : Nat → Int → Int → Int → Int → ByteArray → Int → Option (Bool)
  | 0, _, _, _, _, _, _ => none
  | k + 1, x1, x7, x8, x9, x10, x11 => if x11 < x1 then (if x10.size + 1 ≤ 9223372036854775807 then ((some (([(97 + ((x11) % 256)) % 256] : List Int) : List Int)).bind fun y311 => (if (x10 ++ (⟨#[32]⟩ : ByteArray)).size + (strOfNums y311).size ≤ 9223372036854775807 then (if ((x10 ++ (⟨#[32]⟩ : ByteArray)) ++ (strOfNums y311)).size + 3 ≤ 9223372036854775807 then (cardexlaw08_TokenRefuses.l0 k x1 x7 x8 x9 (((x10 ++ (⟨#[32]⟩ : ByteArray)) ++ (strOfNums y311)) ++ (⟨#[61, 39, 39]⟩ : ByteArray)) (wrap64 (x11 + 1))) else (none)) else (none))) else (none)) else (if x10.size + 2 ≤ 9223372036854775807 then ((G_Tokens.f (x10 ++ (⟨#[47, 62]⟩ : ByteArray))).bind fun bt314 => ((G_Tokens.f (⟨#[60, 63, 120, 109, 108, 32, 118, 101, 114, 115, 105, 111, 110, 61, 39, 49, 46, 48, 39, 32, 101, 110, 99, 111, 100, 105, 110, 103, 61, 39, 85, 84, 70, 45, 56, 39, 63, 62]⟩ : ByteArray)).bind fun bt319 => ((cardexlaw08_awake.f).bind fun t324 => (if t324 = true then (if x8 = 5 then (if x7 = x9 then (if bt314.2.1 = 0 then (if ((bt314.2.2 == 0) == (decide (x1 ≤ 10))) = true then (if bt314.2.2 = 0 then (some (bt319.2.2 == 0)) else (if bt314.2.2 = 4 then (some (bt319.2.2 == 0)) else (some false))) else (some false)) else (some false)) else (some false)) else (some false)) else (some false))))) else (none))
def cardexlaw08_TokenRefuses.f (k : Nat) (a0 : Int) (a1 : Int) : Option (Bool) := (some (([(⟨#[60]⟩ : ByteArray), (⟨#[60, 97]⟩ : ByteArray), (⟨#[60, 97, 32, 98, 62]⟩ : ByteArray), (⟨#[60, 97, 32, 98, 61, 99, 62]⟩ : ByteArray), (⟨#[60, 97, 32, 98, 61, 39, 49, 39, 99, 61, 39, 50, 39, 62]⟩ : ByteArray), (⟨#[60, 97, 32, 98, 61, 39, 49, 39, 32, 98, 61, 39, 50, 39, 62]⟩ : ByteArray), (⟨#[60, 97, 32, 98, 61, 39, 60, 39, 62]⟩ : ByteArray), (⟨#[60, 33, 45, 45, 32, 97, 32, 45, 45, 62]⟩ : ByteArray), (⟨#[60, 33, 91, 67, 68, 65, 84, 65, 91, 97, 93, 93, 62]⟩ : ByteArray), (⟨#[60, 63, 120, 63, 62]⟩ : ByteArray), (⟨#[38, 120, 59]⟩ : ByteArray), (⟨#[60, 47, 32, 97, 62]⟩ : ByteArray), (⟨#[60, 49, 62]⟩ : ByteArray), (⟨#[60, 97, 58, 98, 47, 62]⟩ : ByteArray), (⟨#[60, 33, 68, 79, 67, 84, 89, 80, 69, 32, 97, 62]⟩ : ByteArray), (⟨#[60, 97, 32, 98, 61, 39, 34, 38, 39, 47, 62]⟩ : ByteArray)] : List ByteArray) : List ByteArray)).bind fun y302 => (if 0 ≤ (wrap64 (Int.tmod (IntKind.u64.wrap (a0)) 16)) then (if (wrap64 (Int.tmod (IntKind.u64.wrap (a0)) 16)) < (y302.length : Int) then (if 5 + (rdOf ByteArray.empty y302 (wrap64 (Int.tmod (IntKind.u64.wrap (a0)) 16))).size ≤ 9223372036854775807 then ((G_Tokens.f ((⟨#[120, 60, 98, 47, 62]⟩ : ByteArray) ++ (rdOf ByteArray.empty y302 (wrap64 (Int.tmod (IntKind.u64.wrap (a0)) 16))))).bind fun bt306 => (cardexlaw08_TokenRefuses.l0 k (wrap64 (8 + (wrap64 (Int.tmod (IntKind.u64.wrap (a1)) 5)))) bt306.2.1 bt306.2.2 5 (⟨#[60, 97]⟩ : ByteArray) 0)) else (none)) else (none)) else (none))
theorem cardexlaw08_TokenRefuses.mono_l : ∀ k, (∀ y0 y1 y2 y3 y4 y5, LeO (cardexlaw08_TokenRefuses.l0 k y0 y1 y2 y3 y4 y5) (cardexlaw08_TokenRefuses.l0 (k + 1) y0 y1 y2 y3 y4 y5))
  | 0 => fun _ _ _ _ _ _ r h => by simp [cardexlaw08_TokenRefuses.l0] at h
  | k + 1 => by
    have ih0 := cardexlaw08_TokenRefuses.mono_l k
    · intro y0 y1 y2 y3 y4 y5
      unfold cardexlaw08_TokenRefuses.l0
      repeat' first
      | (with_reducible exact ih0 _ _ _ _ _ _)
      | (with_reducible exact LeO.refl _)
      | (with_reducible exact LeO.none _)
      | (with_reducible refine LeO.ite ?_ ?_)
      | (with_reducible refine LeO.bind ?_ (fun _ => ?_))
      | exact ih0 _ _ _ _ _ _
      | exact LeO.none _
      | refine LeO.ite ?_ ?_
      | refine LeO.bind ?_ (fun _ => ?_)
theorem cardexlaw08_TokenRefuses.mono : ∀ a0 a1 k, LeO (cardexlaw08_TokenRefuses.f k a0 a1) (cardexlaw08_TokenRefuses.f (k + 1) a0 a1) := by
  intro a0 a1 k
  have ih0 := cardexlaw08_TokenRefuses.mono_l k
  unfold cardexlaw08_TokenRefuses.f
  repeat' first
      | (with_reducible exact ih0 _ _ _ _ _ _)
      | (with_reducible exact LeO.refl _)
      | (with_reducible exact LeO.none _)
      | (with_reducible refine LeO.ite ?_ ?_)
      | (with_reducible refine LeO.bind ?_ (fun _ => ?_))
      | exact ih0 _ _ _ _ _ _
      | exact LeO.none _
      | refine LeO.ite ?_ ?_
      | refine LeO.bind ?_ (fun _ => ?_)
set_option maxHeartbeats 8000000 in
set_option maxRecDepth 100000 in
theorem cardexlaw08_TokenRefuses.calls (k : Nat) (a0 : Int) (a1 : Int) (w : World) (hG_ : Gd w) (h : cardexlaw08_TokenRefuses.f k a0 a1 = some true) :
    Calls Tryd.prog 5 #[.int .i64 a0, .int .i64 a1] w fun e w' => e = .returned (.bool true) ∧ Below w.heap.size w w' := by
  have HB := Aside0.mk (Below.refl w.heap.size w)
  have HG := Aside0.mk hG_
  clear hG_
  have H : ((some (([(⟨#[60]⟩ : ByteArray), (⟨#[60, 97]⟩ : ByteArray), (⟨#[60, 97, 32, 98, 62]⟩ : ByteArray), (⟨#[60, 97, 32, 98, 61, 99, 62]⟩ : ByteArray), (⟨#[60, 97, 32, 98, 61, 39, 49, 39, 99, 61, 39, 50, 39, 62]⟩ : ByteArray), (⟨#[60, 97, 32, 98, 61, 39, 49, 39, 32, 98, 61, 39, 50, 39, 62]⟩ : ByteArray), (⟨#[60, 97, 32, 98, 61, 39, 60, 39, 62]⟩ : ByteArray), (⟨#[60, 33, 45, 45, 32, 97, 32, 45, 45, 62]⟩ : ByteArray), (⟨#[60, 33, 91, 67, 68, 65, 84, 65, 91, 97, 93, 93, 62]⟩ : ByteArray), (⟨#[60, 63, 120, 63, 62]⟩ : ByteArray), (⟨#[38, 120, 59]⟩ : ByteArray), (⟨#[60, 47, 32, 97, 62]⟩ : ByteArray), (⟨#[60, 49, 62]⟩ : ByteArray), (⟨#[60, 97, 58, 98, 47, 62]⟩ : ByteArray), (⟨#[60, 33, 68, 79, 67, 84, 89, 80, 69, 32, 97, 62]⟩ : ByteArray), (⟨#[60, 97, 32, 98, 61, 39, 34, 38, 39, 47, 62]⟩ : ByteArray)] : List ByteArray) : List ByteArray)).bind fun y302 => (if 0 ≤ (wrap64 (Int.tmod (IntKind.u64.wrap (a0)) 16)) then (if (wrap64 (Int.tmod (IntKind.u64.wrap (a0)) 16)) < (y302.length : Int) then (if 5 + (rdOf ByteArray.empty y302 (wrap64 (Int.tmod (IntKind.u64.wrap (a0)) 16))).size ≤ 9223372036854775807 then ((G_Tokens.f ((⟨#[120, 60, 98, 47, 62]⟩ : ByteArray) ++ (rdOf ByteArray.empty y302 (wrap64 (Int.tmod (IntKind.u64.wrap (a0)) 16))))).bind fun bt306 => (cardexlaw08_TokenRefuses.l0 k (wrap64 (8 + (wrap64 (Int.tmod (IntKind.u64.wrap (a1)) 5)))) bt306.2.1 bt306.2.2 5 (⟨#[60, 97]⟩ : ByteArray) 0)) else (none)) else (none)) else (none))) = some true := h
  clear h
  obtain ⟨y302, hy302⟩ : ∃ y_ : List ByteArray, y_ = (([(⟨#[60]⟩ : ByteArray), (⟨#[60, 97]⟩ : ByteArray), (⟨#[60, 97, 32, 98, 62]⟩ : ByteArray), (⟨#[60, 97, 32, 98, 61, 99, 62]⟩ : ByteArray), (⟨#[60, 97, 32, 98, 61, 39, 49, 39, 99, 61, 39, 50, 39, 62]⟩ : ByteArray), (⟨#[60, 97, 32, 98, 61, 39, 49, 39, 32, 98, 61, 39, 50, 39, 62]⟩ : ByteArray), (⟨#[60, 97, 32, 98, 61, 39, 60, 39, 62]⟩ : ByteArray), (⟨#[60, 33, 45, 45, 32, 97, 32, 45, 45, 62]⟩ : ByteArray), (⟨#[60, 33, 91, 67, 68, 65, 84, 65, 91, 97, 93, 93, 62]⟩ : ByteArray), (⟨#[60, 63, 120, 63, 62]⟩ : ByteArray), (⟨#[38, 120, 59]⟩ : ByteArray), (⟨#[60, 47, 32, 97, 62]⟩ : ByteArray), (⟨#[60, 49, 62]⟩ : ByteArray), (⟨#[60, 97, 58, 98, 47, 62]⟩ : ByteArray), (⟨#[60, 33, 68, 79, 67, 84, 89, 80, 69, 32, 97, 62]⟩ : ByteArray), (⟨#[60, 97, 32, 98, 61, 39, 34, 38, 39, 47, 62]⟩ : ByteArray)] : List ByteArray)) := ⟨_, rfl⟩
  replace H : (if 0 ≤ (wrap64 (Int.tmod (IntKind.u64.wrap (a0)) 16)) then (if (wrap64 (Int.tmod (IntKind.u64.wrap (a0)) 16)) < (y302.length : Int) then (if 5 + (rdOf ByteArray.empty y302 (wrap64 (Int.tmod (IntKind.u64.wrap (a0)) 16))).size ≤ 9223372036854775807 then ((G_Tokens.f ((⟨#[120, 60, 98, 47, 62]⟩ : ByteArray) ++ (rdOf ByteArray.empty y302 (wrap64 (Int.tmod (IntKind.u64.wrap (a0)) 16))))).bind fun bt306 => (cardexlaw08_TokenRefuses.l0 k (wrap64 (8 + (wrap64 (Int.tmod (IntKind.u64.wrap (a1)) 5)))) bt306.2.1 bt306.2.2 5 (⟨#[60, 97]⟩ : ByteArray) 0)) else (none)) else (none)) else (none)) = some true := by first | (rw [hy302]; with_reducible exact H) | (have H2_ := (Option.bind_some _ _).symm.trans H; rw [hy302]; with_reducible exact H2_) | (have H2_ := (Option.bind_some _ _).symm.trans H; with_reducible exact H2_) | with_reducible exact H | (rw [hy302]; exact H) | exact H
  have Ny302 := Aside0.mk hy302
  clear hy302
  obtain ⟨ji3, hji3⟩ : ∃ j_ : Int, (wrap64 (Int.tmod (IntKind.u64.wrap (a0)) 16)) = j_ := ⟨_, rfl⟩
  replace H : (if 0 ≤ (ji3) then (if (ji3) < (y302.length : Int) then (if 5 + (rdOf ByteArray.empty y302 (ji3)).size ≤ 9223372036854775807 then ((G_Tokens.f ((⟨#[120, 60, 98, 47, 62]⟩ : ByteArray) ++ (rdOf ByteArray.empty y302 (ji3)))).bind fun bt306 => (cardexlaw08_TokenRefuses.l0 k (wrap64 (8 + (wrap64 (Int.tmod (IntKind.u64.wrap (a1)) 5)))) bt306.2.1 bt306.2.2 5 (⟨#[60, 97]⟩ : ByteArray) 0)) else (none)) else (none)) else (none)) = some true := by first | (rw [hji3] at H; exact H) | (simp only [hji3] at H ⊢; exact H)
  have hji3w : (IntKind.i64.wrap (Int.tmod (IntKind.u64.wrap (a0)) 16)) = ji3 := (i64_w _).trans hji3
  by_cases c4 : 0 ≤ (ji3)
  · rw [if_pos c4] at H
    have c4b0 : decide (0 ≤ (ji3)) = true := decide_eq_true c4
    clear c4
    by_cases c5 : (ji3) < (y302.length : Int)
    · rw [if_pos c5] at H
      have c5b0 : decide ((ji3) < (y302.length : Int)) = true := decide_eq_true c5
      clear c5
      by_cases c6 : 5 + (rdOf ByteArray.empty y302 (ji3)).size ≤ 9223372036854775807
      · rw [if_pos c6] at H
        have c6b0 := eq_true c6
        have c6b1 : decide (5 + (rdOf ByteArray.empty y302 (ji3)).size ≤ 9223372036854775807) = true := decide_eq_true c6
        try have c6b2 : (9223372036854775807 < 5 + (rdOf ByteArray.empty y302 (ji3)).size) = False := eq_false (Nat.not_lt.2 c6)
        replace H := Option.bind_eq_some_iff.mp H
        obtain ⟨⟨t306, t307, t308⟩, A70, H⟩ := H
        replace H : (cardexlaw08_TokenRefuses.l0 k (wrap64 (8 + (wrap64 (Int.tmod (IntKind.u64.wrap (a1)) 5)))) t307 t308 5 (⟨#[60, 97]⟩ : ByteArray) 0) = some true := H
        have A7 := Aside0.mk A70
        clear A70
        have H' := Aside0.mk H
        clear H
        go_enter Tryd.func5, Tryd.ntmps5
        go_wp2_with (first | ((with_reducible refine gate_dst (N := 18) rfl ?_); refine Kd.R_lit Kd.string _ 9 ?hg (N := 18) ?hd (xs := ([(⟨#[60]⟩ : ByteArray), (⟨#[60, 97]⟩ : ByteArray), (⟨#[60, 97, 32, 98, 62]⟩ : ByteArray), (⟨#[60, 97, 32, 98, 61, 99, 62]⟩ : ByteArray), (⟨#[60, 97, 32, 98, 61, 39, 49, 39, 99, 61, 39, 50, 39, 62]⟩ : ByteArray), (⟨#[60, 97, 32, 98, 61, 39, 49, 39, 32, 98, 61, 39, 50, 39, 62]⟩ : ByteArray), (⟨#[60, 97, 32, 98, 61, 39, 60, 39, 62]⟩ : ByteArray), (⟨#[60, 33, 45, 45, 32, 97, 32, 45, 45, 62]⟩ : ByteArray), (⟨#[60, 33, 91, 67, 68, 65, 84, 65, 91, 97, 93, 93, 62]⟩ : ByteArray), (⟨#[60, 63, 120, 63, 62]⟩ : ByteArray), (⟨#[38, 120, 59]⟩ : ByteArray), (⟨#[60, 47, 32, 97, 62]⟩ : ByteArray), (⟨#[60, 49, 62]⟩ : ByteArray), (⟨#[60, 97, 58, 98, 47, 62]⟩ : ByteArray), (⟨#[60, 33, 68, 79, 67, 84, 89, 80, 69, 32, 97, 62]⟩ : ByteArray), (⟨#[60, 97, 32, 98, 61, 39, 34, 38, 39, 47, 62]⟩ : ByteArray)] : List ByteArray)) (inner := [.string (⟨#[60]⟩ : ByteArray), .string (⟨#[60, 97]⟩ : ByteArray), .string (⟨#[60, 97, 32, 98, 62]⟩ : ByteArray), .string (⟨#[60, 97, 32, 98, 61, 99, 62]⟩ : ByteArray), .string (⟨#[60, 97, 32, 98, 61, 39, 49, 39, 99, 61, 39, 50, 39, 62]⟩ : ByteArray), .string (⟨#[60, 97, 32, 98, 61, 39, 49, 39, 32, 98, 61, 39, 50, 39, 62]⟩ : ByteArray), .string (⟨#[60, 97, 32, 98, 61, 39, 60, 39, 62]⟩ : ByteArray), .string (⟨#[60, 33, 45, 45, 32, 97, 32, 45, 45, 62]⟩ : ByteArray), .string (⟨#[60, 33, 91, 67, 68, 65, 84, 65, 91, 97, 93, 93, 62]⟩ : ByteArray), .string (⟨#[60, 63, 120, 63, 62]⟩ : ByteArray), .string (⟨#[38, 120, 59]⟩ : ByteArray), .string (⟨#[60, 47, 32, 97, 62]⟩ : ByteArray), .string (⟨#[60, 49, 62]⟩ : ByteArray), .string (⟨#[60, 97, 58, 98, 47, 62]⟩ : ByteArray), .string (⟨#[60, 33, 68, 79, 67, 84, 89, 80, 69, 32, 97, 62]⟩ : ByteArray), .string (⟨#[60, 97, 32, 98, 61, 39, 34, 38, 39, 47, 62]⟩ : ByteArray)]) (ok := fun _ => True) (okp := fun _ => True) ?hr ?hp (fun _ hk => hk) trivial (Below.refl _ _) (Nat.le_refl _) (by simp) ?_; (case hd => rfl); (case hg => rfl); (case hr => first | (go_simp; done) | (go_simp; rfl)); (case hp => exact (Reps.one (show Kd.M Kd.string _ _ _ (⟨#[60]⟩ : ByteArray) [.string (⟨#[60]⟩ : ByteArray)] from rfl) (Reps.one (show Kd.M Kd.string _ _ _ (⟨#[60, 97]⟩ : ByteArray) [.string (⟨#[60, 97]⟩ : ByteArray)] from rfl) (Reps.one (show Kd.M Kd.string _ _ _ (⟨#[60, 97, 32, 98, 62]⟩ : ByteArray) [.string (⟨#[60, 97, 32, 98, 62]⟩ : ByteArray)] from rfl) (Reps.one (show Kd.M Kd.string _ _ _ (⟨#[60, 97, 32, 98, 61, 99, 62]⟩ : ByteArray) [.string (⟨#[60, 97, 32, 98, 61, 99, 62]⟩ : ByteArray)] from rfl) (Reps.one (show Kd.M Kd.string _ _ _ (⟨#[60, 97, 32, 98, 61, 39, 49, 39, 99, 61, 39, 50, 39, 62]⟩ : ByteArray) [.string (⟨#[60, 97, 32, 98, 61, 39, 49, 39, 99, 61, 39, 50, 39, 62]⟩ : ByteArray)] from rfl) (Reps.one (show Kd.M Kd.string _ _ _ (⟨#[60, 97, 32, 98, 61, 39, 49, 39, 32, 98, 61, 39, 50, 39, 62]⟩ : ByteArray) [.string (⟨#[60, 97, 32, 98, 61, 39, 49, 39, 32, 98, 61, 39, 50, 39, 62]⟩ : ByteArray)] from rfl) (Reps.one (show Kd.M Kd.string _ _ _ (⟨#[60, 97, 32, 98, 61, 39, 60, 39, 62]⟩ : ByteArray) [.string (⟨#[60, 97, 32, 98, 61, 39, 60, 39, 62]⟩ : ByteArray)] from rfl) (Reps.one (show Kd.M Kd.string _ _ _ (⟨#[60, 33, 45, 45, 32, 97, 32, 45, 45, 62]⟩ : ByteArray) [.string (⟨#[60, 33, 45, 45, 32, 97, 32, 45, 45, 62]⟩ : ByteArray)] from rfl) (Reps.one (show Kd.M Kd.string _ _ _ (⟨#[60, 33, 91, 67, 68, 65, 84, 65, 91, 97, 93, 93, 62]⟩ : ByteArray) [.string (⟨#[60, 33, 91, 67, 68, 65, 84, 65, 91, 97, 93, 93, 62]⟩ : ByteArray)] from rfl) (Reps.one (show Kd.M Kd.string _ _ _ (⟨#[60, 63, 120, 63, 62]⟩ : ByteArray) [.string (⟨#[60, 63, 120, 63, 62]⟩ : ByteArray)] from rfl) (Reps.one (show Kd.M Kd.string _ _ _ (⟨#[38, 120, 59]⟩ : ByteArray) [.string (⟨#[38, 120, 59]⟩ : ByteArray)] from rfl) (Reps.one (show Kd.M Kd.string _ _ _ (⟨#[60, 47, 32, 97, 62]⟩ : ByteArray) [.string (⟨#[60, 47, 32, 97, 62]⟩ : ByteArray)] from rfl) (Reps.one (show Kd.M Kd.string _ _ _ (⟨#[60, 49, 62]⟩ : ByteArray) [.string (⟨#[60, 49, 62]⟩ : ByteArray)] from rfl) (Reps.one (show Kd.M Kd.string _ _ _ (⟨#[60, 97, 58, 98, 47, 62]⟩ : ByteArray) [.string (⟨#[60, 97, 58, 98, 47, 62]⟩ : ByteArray)] from rfl) (Reps.one (show Kd.M Kd.string _ _ _ (⟨#[60, 33, 68, 79, 67, 84, 89, 80, 69, 32, 97, 62]⟩ : ByteArray) [.string (⟨#[60, 33, 68, 79, 67, 84, 89, 80, 69, 32, 97, 62]⟩ : ByteArray)] from rfl) (Reps.one (show Kd.M Kd.string _ _ _ (⟨#[60, 97, 32, 98, 61, 39, 34, 38, 39, 47, 62]⟩ : ByteArray) [.string (⟨#[60, 97, 32, 98, 61, 39, 34, 38, 39, 47, 62]⟩ : ByteArray)] from rfl) (Reps.none _ _)))))))))))))))))); intro v303 w8 ho9 hb hg_ hnew_; clear hg_ hnew_; (first | rw [← Ny302.out] at ho9 | (simp only [Int.reduceToNat] at ho9; rw [← Ny302.out] at ho9)); have n0_ := Aside0.mk (Kd.R_lower ho9 (below_size (by repeat (first | (with_reducible first | exact HB.out | apply below_alloc | apply pw_below_drewN | apply below_drew1) | exact HB.out)))); have n1_ := Aside0.mk (below_step (by repeat (first | (with_reducible first | exact HB.out | apply below_alloc | apply pw_below_drewN | apply below_drew1) | exact HB.out)) hb); clear HB; have HO304 := n0_; have HB := n1_; clear n0_ n1_; clear hb ho9; obtain ⟨Ao10, co10, eo10⟩ := Kd.R_slice HO304.out; subst eo10; have p305 : 0 ≤ ((ji3) : Int) := of_decide_eq_true (by first | (with_reducible assumption) | assumption); have q305 : (ji3) < (y302.length : Int) := of_decide_eq_true (by first | (with_reducible assumption) | assumption); obtain ⟨ad305, e305, hx305_0⟩ := Kd.at_string (Kd.R_reads' HO304.out).2.2 (ji3) p305 q305; cases e305; replace p305 := eq_true p305; replace q305 := eq_true q305) | ((with_reducible refine gate_callee (f := 10) rfl ?_); refine goesL_ (some 28) rfl rfl Tryd.func10 (by kernel_rfl) rfl #[.string ((⟨#[120, 60, 98, 47, 62]⟩ : ByteArray) ++ (rdOf ByteArray.empty y302 (ji3)))] rfl (by (try simp only [List.map_toArray, List.map_cons, List.map_nil]); first | done | (simp only [hji3]; rfl) | rfl | (simp only [List.length_drop, List.length_take]; rfl)) ?_; (with_reducible refine (G_Tokens.calls ((⟨#[120, 60, 98, 47, 62]⟩ : ByteArray) ++ (rdOf ByteArray.empty y302 (ji3))) t306 t307 t308 _ ?side1 A7.out).mono ?_); (case side1 => first | exact HG.out | exact Gd.drewN HG.out _ | exact Gd.drew HG.out | exact Gd.below HG.out (by repeat (first | (with_reducible first | exact HB.out | apply below_alloc | apply pw_below_drewN | apply below_drew1) | exact HB.out))); rintro e w11 ⟨v309, rfl, ho0, hb⟩; refine ⟨_, rfl, ?_⟩; have n0_ := Aside0.mk (Kd.R_below (by (with_reducible repeat (first | apply Kd.R_alloc | apply Kd.R_drewN | apply Kd.R_drew)); exact HO304.out) hb); have n1_ := Aside0.mk (Kd.S_lower ho0 (below_size (by repeat (first | (with_reducible first | exact HB.out | apply below_alloc | apply pw_below_drewN | apply below_drew1) | exact HB.out)))); have n2_ := Aside0.mk (below_step (by repeat (first | (with_reducible first | exact HB.out | apply below_alloc | apply pw_below_drewN | apply below_drew1) | exact HB.out)) hb); clear HO304; clear HB; have HO304 := n0_; have HO310 := n1_; have HB := n2_; clear n0_ n1_ n2_; (try clear hb); (try clear hb2); (try clear hk); (try clear hi); (try clear ho0)))
        go_loopg [10, 11] k (fun kq v10 v11 w' => ∃ (x10_1 : ByteArray) (x11_1 : Int), v10 = .string x10_1 ∧ v11 = .int .i64 x11_1 ∧ Aside0 (cardexlaw08_TokenRefuses.l0 kq (wrap64 (8 + (wrap64 (Int.tmod (IntKind.u64.wrap (a1)) 5)))) t307 t308 5 x10_1 x11_1 = some true) ∧ Aside0 (kq ≤ k) ∧ Aside0 (Below w.heap.size w w'))
        case atStart => exact ⟨((⟨#[60, 97]⟩ : ByteArray)), (0), (by first | rfl | (simp; done) | (simp [*]; done)), (by first | rfl | (simp; done) | (simp [*]; done)), H', ⟨Nat.le_refl _⟩, ⟨by repeat (first | (with_reducible first | exact HB.out | apply below_alloc | apply pw_below_drewN | apply below_drew1) | exact HB.out)⟩⟩
        case round =>
          clear H'
          try clear c1
          try clear p2
          try clear p3
          try clear q3
          try clear hx3
          try clear c4
          try clear c4b0
          try clear c5
          try clear c5b0
          try clear c6
          try clear c6b0
          try clear c6b1
          try clear c6b2
          try clear p6
          try clear c10
          try clear hx305_0
          try clear p305
          try clear q305
          obtain ⟨x10_1, x11_1, rfl, rfl, HA, HK1, HB⟩ := hrel
          cases gk with
          | zero => exact absurd HA.out (by simp [cardexlaw08_TokenRefuses.l0])
          | succ k1 =>
            have H := HA.out
            clear HA
            simp only [cardexlaw08_TokenRefuses.l0] at H
            by_cases c12 : x11_1 < (wrap64 (8 + (wrap64 (Int.tmod (IntKind.u64.wrap (a1)) 5))))
            · rw [if_pos c12] at H
              have c12b0 : decide (x11_1 < (wrap64 (8 + (wrap64 (Int.tmod (IntKind.u64.wrap (a1)) 5))))) = true := decide_eq_true c12
              clear c12
              by_cases c13 : x10_1.size + 1 ≤ 9223372036854775807
              · rw [if_pos c13] at H
                have c13b0 := eq_true c13
                have c13b1 : decide (x10_1.size + 1 ≤ 9223372036854775807) = true := decide_eq_true c13
                try have c13b2 : (9223372036854775807 < x10_1.size + 1) = False := eq_false (Nat.not_lt.2 c13)
                obtain ⟨y311, hy311⟩ : ∃ y_ : List Int, y_ = (([(97 + ((x11_1) % 256)) % 256] : List Int)) := ⟨_, rfl⟩
                replace H : (if (x10_1 ++ (⟨#[32]⟩ : ByteArray)).size + (strOfNums y311).size ≤ 9223372036854775807 then (if ((x10_1 ++ (⟨#[32]⟩ : ByteArray)) ++ (strOfNums y311)).size + 3 ≤ 9223372036854775807 then (cardexlaw08_TokenRefuses.l0 k1 (wrap64 (8 + (wrap64 (Int.tmod (IntKind.u64.wrap (a1)) 5)))) t307 t308 5 (((x10_1 ++ (⟨#[32]⟩ : ByteArray)) ++ (strOfNums y311)) ++ (⟨#[61, 39, 39]⟩ : ByteArray)) (wrap64 (x11_1 + 1))) else (none)) else (none)) = some true := by first | (rw [hy311]; with_reducible exact H) | (have H2_ := (Option.bind_some _ _).symm.trans H; rw [hy311]; with_reducible exact H2_) | (have H2_ := (Option.bind_some _ _).symm.trans H; with_reducible exact H2_) | with_reducible exact H | (rw [hy311]; exact H) | exact H
                have Ny311 := Aside0.mk hy311
                clear hy311
                by_cases c14 : (x10_1 ++ (⟨#[32]⟩ : ByteArray)).size + (strOfNums y311).size ≤ 9223372036854775807
                · rw [if_pos c14] at H
                  have c14b0 := eq_true c14
                  have c14b1 : decide ((x10_1 ++ (⟨#[32]⟩ : ByteArray)).size + (strOfNums y311).size ≤ 9223372036854775807) = true := decide_eq_true c14
                  try have c14b2 : (9223372036854775807 < (x10_1 ++ (⟨#[32]⟩ : ByteArray)).size + (strOfNums y311).size) = False := eq_false (Nat.not_lt.2 c14)
                  by_cases c15 : ((x10_1 ++ (⟨#[32]⟩ : ByteArray)) ++ (strOfNums y311)).size + 3 ≤ 9223372036854775807
                  · rw [if_pos c15] at H
                    have c15b0 := eq_true c15
                    have c15b1 : decide (((x10_1 ++ (⟨#[32]⟩ : ByteArray)) ++ (strOfNums y311)).size + 3 ≤ 9223372036854775807) = true := decide_eq_true c15
                    try have c15b2 : (9223372036854775807 < ((x10_1 ++ (⟨#[32]⟩ : ByteArray)) ++ (strOfNums y311)).size + 3) = False := eq_false (Nat.not_lt.2 c15)
                    have c14x : x10_1.size + 1 + (strOfNums y311).size ≤ 9223372036854775807 := by have h := c14; rw [ByteArray.size_append] at h; exact h
                    have c15x : x10_1.size + 1 + (strOfNums y311).size + 3 ≤ 9223372036854775807 := by have h := c15; rw [ByteArray.size_append, ByteArray.size_append] at h; exact h
                    have c15y := eq_true c15x
                    have c15z : decide (x10_1.size + 1 + (strOfNums y311).size + 3 ≤ 9223372036854775807) = true := decide_eq_true c15x
                    have H' := Aside0.mk H
                    clear H
                    go_wp2_with (first | ((with_reducible refine gate_dst (N := 47) rfl ?_); refine Kd.R_lit (Kd.int .u8) _ 5 ?hg (N := 47) ?hd (xs := ([(97 + ((x11_1) % 256)) % 256] : List Int)) (inner := [.int .u8 ((97 + ((x11_1) % 256)) % 256)]) (ok := fun _ => True) (okp := fun _ => True) ?hr ?hp (fun _ hk => hk) trivial (Below.refl _ _) (Nat.le_refl _) (by simp) ?_; (case hd => rfl); (case hg => rfl); (case hr => first | (go_simp; done) | (go_simp; rfl)); (case hp => exact (Reps.one (show Kd.M (Kd.int .u8) _ _ _ ((97 + ((x11_1) % 256)) % 256) [.int .u8 ((97 + ((x11_1) % 256)) % 256)] from rfl) (Reps.none _ _))); intro v312 w16 ho17 hb hg_ hnew_; clear hg_ hnew_; (first | rw [← Ny311.out] at ho17 | (simp only [Int.reduceToNat] at ho17; rw [← Ny311.out] at ho17)); have n0_ := Aside0.mk (Kd.R_lower ho17 (below_size (by repeat (first | (with_reducible first | exact HB.out | apply below_alloc | apply pw_below_drewN | apply below_drew1) | exact HB.out)))); have n1_ := Aside0.mk (below_step (by repeat (first | (with_reducible first | exact HB.out | apply below_alloc | apply pw_below_drewN | apply below_drew1) | exact HB.out)) hb); clear HB; have HO313 := n0_; have HB := n1_; clear n0_ n1_; clear hb ho17; have hcv18 := own_string (P := Tryd.prog) Tryd.underlying37 Tryd.underlying5 Tryd.underlying9 (Kd.own_of_R HO313.out)))
                    go_roundg k1
                    case measure => have := HK1.out; omega
                    case rel => exact ⟨(((x10_1 ++ (⟨#[32]⟩ : ByteArray)) ++ (strOfNums y311)) ++ (⟨#[61, 39, 39]⟩ : ByteArray)), (wrap64 (x11_1 + 1)), (by first | rfl | (simp; done) | (simp [*]; done)), (by first | rfl | (simp; done) | (simp [*]; done)), H', ⟨by have := HK1.out; omega⟩, ⟨by repeat (first | (with_reducible first | exact HB.out | apply below_alloc | apply pw_below_drewN | apply below_drew1) | exact HB.out)⟩⟩
                  · rw [if_neg c15] at H
                    exact absurd H (by simp)
                · rw [if_neg c14] at H
                  exact absurd H (by simp)
              · rw [if_neg c13] at H
                exact absurd H (by simp)
            · rw [if_neg c12] at H
              have c12b0 : decide (x11_1 < (wrap64 (8 + (wrap64 (Int.tmod (IntKind.u64.wrap (a1)) 5))))) = false := decide_eq_false c12
              clear c12
              by_cases c19 : x10_1.size + 2 ≤ 9223372036854775807
              · rw [if_pos c19] at H
                have c19b0 := eq_true c19
                have c19b1 : decide (x10_1.size + 2 ≤ 9223372036854775807) = true := decide_eq_true c19
                try have c19b2 : (9223372036854775807 < x10_1.size + 2) = False := eq_false (Nat.not_lt.2 c19)
                replace H := Option.bind_eq_some_iff.mp H
                obtain ⟨⟨t314, t315, t316⟩, A200, H⟩ := H
                replace H : ((G_Tokens.f (⟨#[60, 63, 120, 109, 108, 32, 118, 101, 114, 115, 105, 111, 110, 61, 39, 49, 46, 48, 39, 32, 101, 110, 99, 111, 100, 105, 110, 103, 61, 39, 85, 84, 70, 45, 56, 39, 63, 62]⟩ : ByteArray)).bind fun bt319 => ((cardexlaw08_awake.f).bind fun t324 => (if t324 = true then (if t308 = 5 then (if t307 = 5 then (if t315 = 0 then (if ((t316 == 0) == (decide ((wrap64 (8 + (wrap64 (Int.tmod (IntKind.u64.wrap (a1)) 5)))) ≤ 10))) = true then (if t316 = 0 then (some (bt319.2.2 == 0)) else (if t316 = 4 then (some (bt319.2.2 == 0)) else (some false))) else (some false)) else (some false)) else (some false)) else (some false)) else (some false)))) = some true := H
                have A20 := Aside0.mk A200
                clear A200
                replace H := Option.bind_eq_some_iff.mp H
                obtain ⟨⟨t319, t320, t321⟩, A210, H⟩ := H
                replace H : ((cardexlaw08_awake.f).bind fun t324 => (if t324 = true then (if t308 = 5 then (if t307 = 5 then (if t315 = 0 then (if ((t316 == 0) == (decide ((wrap64 (8 + (wrap64 (Int.tmod (IntKind.u64.wrap (a1)) 5)))) ≤ 10))) = true then (if t316 = 0 then (some (t321 == 0)) else (if t316 = 4 then (some (t321 == 0)) else (some false))) else (some false)) else (some false)) else (some false)) else (some false)) else (some false))) = some true := H
                have A21 := Aside0.mk A210
                clear A210
                replace H := Option.bind_eq_some_iff.mp H
                obtain ⟨t324, A220, H⟩ := H
                replace H : (if t324 = true then (if t308 = 5 then (if t307 = 5 then (if t315 = 0 then (if ((t316 == 0) == (decide ((wrap64 (8 + (wrap64 (Int.tmod (IntKind.u64.wrap (a1)) 5)))) ≤ 10))) = true then (if t316 = 0 then (some (t321 == 0)) else (if t316 = 4 then (some (t321 == 0)) else (some false))) else (some false)) else (some false)) else (some false)) else (some false)) else (some false)) = some true := H
                have A22 := Aside0.mk A220
                clear A220
                by_cases c23 : t324 = true
                · subst c23
                  have H1 : (if t308 = 5 then (if t307 = 5 then (if t315 = 0 then (if ((t316 == 0) == (decide ((wrap64 (8 + (wrap64 (Int.tmod (IntKind.u64.wrap (a1)) 5)))) ≤ 10))) = true then (if t316 = 0 then (some (t321 == 0)) else (if t316 = 4 then (some (t321 == 0)) else (some false))) else (some false)) else (some false)) else (some false)) else (some false)) = some true := by rw [if_pos rfl] at H; exact H
                  clear H
                  have H := H1
                  clear H1
                  by_cases c24 : t308 = 5
                  · rw [if_pos c24] at H
                    have c24b0 : (t308 == 5) = true := beq_iff_eq.mpr c24
                    have c24b1 : (t308 != 5) = false := bne_eq_false_iff_eq.mpr c24
                    clear c24
                    by_cases c25 : t307 = 5
                    · rw [if_pos c25] at H
                      have c25b0 : (t307 == 5) = true := beq_iff_eq.mpr c25
                      have c25b1 : (t307 != 5) = false := bne_eq_false_iff_eq.mpr c25
                      clear c25
                      by_cases c26 : t315 = 0
                      · rw [if_pos c26] at H
                        have c26b0 : (t315 == 0) = true := beq_iff_eq.mpr c26
                        have c26b1 : (t315 != 0) = false := bne_eq_false_iff_eq.mpr c26
                        clear c26
                        by_cases c27 : ((t316 == 0) == (decide ((wrap64 (8 + (wrap64 (Int.tmod (IntKind.u64.wrap (a1)) 5)))) ≤ 10))) = true
                        · rw [if_pos c27] at H
                          have c27b0 : ((t316 == 0) == (decide ((wrap64 (8 + (wrap64 (Int.tmod (IntKind.u64.wrap (a1)) 5)))) ≤ 10))) = true := c27
                          (try (have c27b1 : decide ((t316 == 0) = (decide ((wrap64 (8 + (wrap64 (Int.tmod (IntKind.u64.wrap (a1)) 5)))) ≤ 10))) = true := by simpa using c27))
                          (try (have c27b2 : ((t316 == 0) == (decide ((wrap64 (8 + (wrap64 (Int.tmod (IntKind.u64.wrap (a1)) 5)))) ≤ 10))) = true := by simpa using c27))
                          clear c27
                          by_cases c28 : t316 = 0
                          · rw [if_pos c28] at H
                            have c28b0 : (t316 == 0) = true := beq_iff_eq.mpr c28
                            have c27x : decide ((wrap64 (8 + (wrap64 (Int.tmod (IntKind.u64.wrap (a1)) 5)))) ≤ 10) = true := by simpa [c28b0] using c27b0
                            have c28b1 : (t316 != 0) = false := bne_eq_false_iff_eq.mpr c28
                            clear c28
                            first
                              | (simp at H; done)
                              | skip
                                have hr_ := Option.some.inj H
                                clear H
                                go_wp2_with (first | ((with_reducible refine gate_callee (f := 10) rfl ?_); refine goesL_ (some 54) rfl rfl Tryd.func10 (by kernel_rfl) rfl #[.string (x10_1 ++ (⟨#[47, 62]⟩ : ByteArray))] rfl (by (try simp only [List.map_toArray, List.map_cons, List.map_nil]); first | done | rfl | (simp only [List.length_drop, List.length_take]; rfl)) ?_; (with_reducible refine (G_Tokens.calls (x10_1 ++ (⟨#[47, 62]⟩ : ByteArray)) t314 t315 t316 _ ?side1 A20.out).mono ?_); (case side1 => first | exact HG.out | exact Gd.drewN HG.out _ | exact Gd.drew HG.out | exact Gd.below HG.out (by repeat (first | (with_reducible first | exact HB.out | apply below_alloc | apply pw_below_drewN | apply below_drew1) | exact HB.out))); rintro e w29 ⟨v317, rfl, ho0, hb⟩; refine ⟨_, rfl, ?_⟩; have n0_ := Aside0.mk (Kd.S_lower ho0 (below_size (by repeat (first | (with_reducible first | exact HB.out | apply below_alloc | apply pw_below_drewN | apply below_drew1) | exact HB.out)))); have n1_ := Aside0.mk (below_step (by repeat (first | (with_reducible first | exact HB.out | apply below_alloc | apply pw_below_drewN | apply below_drew1) | exact HB.out)) hb); clear HB; have HO318 := n0_; have HB := n1_; clear n0_ n1_; (try clear hb); (try clear hb2); (try clear hk); (try clear hi); (try clear ho0)) | ((with_reducible refine gate_callee (f := 10) rfl ?_); refine goesL_ (some 59) rfl rfl Tryd.func10 (by kernel_rfl) rfl #[.string (⟨#[60, 63, 120, 109, 108, 32, 118, 101, 114, 115, 105, 111, 110, 61, 39, 49, 46, 48, 39, 32, 101, 110, 99, 111, 100, 105, 110, 103, 61, 39, 85, 84, 70, 45, 56, 39, 63, 62]⟩ : ByteArray)] rfl (by (try simp only [List.map_toArray, List.map_cons, List.map_nil]); first | done | rfl | (simp only [List.length_drop, List.length_take]; rfl)) ?_; (with_reducible refine (G_Tokens.calls (⟨#[60, 63, 120, 109, 108, 32, 118, 101, 114, 115, 105, 111, 110, 61, 39, 49, 46, 48, 39, 32, 101, 110, 99, 111, 100, 105, 110, 103, 61, 39, 85, 84, 70, 45, 56, 39, 63, 62]⟩ : ByteArray) t319 t320 t321 _ ?side1 A21.out).mono ?_); (case side1 => first | exact HG.out | exact Gd.drewN HG.out _ | exact Gd.drew HG.out | exact Gd.below HG.out (by repeat (first | (with_reducible first | exact HB.out | apply below_alloc | apply pw_below_drewN | apply below_drew1) | exact HB.out))); rintro e w30 ⟨v322, rfl, ho0, hb⟩; refine ⟨_, rfl, ?_⟩; have n0_ := Aside0.mk (Kd.S_elder' (by (with_reducible repeat (first | apply Kd.S_alloc | apply Kd.S_drewN | apply Kd.S_drew)); exact HO318.out) (Kd.S_base ho0) hb); have n1_ := Aside0.mk (Kd.S_lower (Kd.S_new' ho0 (Kd.S_lt (by (with_reducible repeat (first | apply Kd.S_alloc | apply Kd.S_drewN | apply Kd.S_drew)); exact HO318.out))) (below_size (by repeat (first | (with_reducible first | exact HB.out | apply below_alloc | apply pw_below_drewN | apply below_drew1) | exact HB.out)))); have n2_ := Aside0.mk (below_step (by repeat (first | (with_reducible first | exact HB.out | apply below_alloc | apply pw_below_drewN | apply below_drew1) | exact HB.out)) hb); clear HO318; clear HB; have HO318 := n0_; have HO323 := n1_; have HB := n2_; clear n0_ n1_ n2_; (try clear hb); (try clear hb2); (try clear hk); (try clear hi); (try clear ho0)) | ((with_reducible refine gate_callee (f := 8) rfl ?_); refine goesL_ (some 63) rfl rfl Tryd.func8 (by kernel_rfl) rfl #[] rfl (by (try simp only [List.map_toArray, List.map_cons, List.map_nil]); first | done | rfl | (simp only [List.length_drop, List.length_take]; rfl)) ?_; (with_reducible refine (cardexlaw08_awake.calls  true _ ?side1 A22.out).mono ?_); (case side1 => first | exact HG.out | exact Gd.drewN HG.out _ | exact Gd.drew HG.out | exact Gd.below HG.out (by repeat (first | (with_reducible first | exact HB.out | apply below_alloc | apply pw_below_drewN | apply below_drew1) | exact HB.out))); rintro e w31 ⟨rfl, hb⟩; refine ⟨_, rfl, ?_⟩; have n0_ := Aside0.mk (Kd.S_below (by (with_reducible repeat (first | apply Kd.S_alloc | apply Kd.S_drewN | apply Kd.S_drew)); exact HO318.out) hb); have n1_ := Aside0.mk (Kd.S_below (by (with_reducible repeat (first | apply Kd.S_alloc | apply Kd.S_drewN | apply Kd.S_drew)); exact HO323.out) hb); have n2_ := Aside0.mk (below_step (by repeat (first | (with_reducible first | exact HB.out | apply below_alloc | apply pw_below_drewN | apply below_drew1) | exact HB.out)) hb); clear HO318; clear HO323; clear HB; have HO318 := n0_; have HO323 := n1_; have HB := n2_; clear n0_ n1_ n2_; (try clear hb); (try clear hb2); (try clear hk); (try clear hi)))
                                go_ret
                                exact ⟨by first | rfl | (simp [errW_none, errW_some] <;> rfl) | (simp only [← hji3]; first | rfl | (simp [errW_none, errW_some] <;> rfl)) | (simp [*, errW_none, errW_some] <;> rfl), by repeat (first | (with_reducible first | exact HB.out | apply below_alloc | apply pw_below_drewN | apply below_drew1) | exact HB.out)⟩
                          · rw [if_neg c28] at H
                            have c28b0 : (t316 == 0) = false := beq_eq_false_iff_ne.mpr c28
                            have c27x : decide ((wrap64 (8 + (wrap64 (Int.tmod (IntKind.u64.wrap (a1)) 5)))) ≤ 10) = false := by simpa [c28b0] using c27b0
                            have c28b1 : (t316 != 0) = true := bne_iff_ne.mpr c28
                            by_cases c32 : t316 = 4
                            · rw [if_pos c32] at H
                              have c32b0 : (t316 == 4) = true := beq_iff_eq.mpr c32
                              have c32b1 : (t316 != 4) = false := bne_eq_false_iff_eq.mpr c32
                              clear c32
                              first
                                | (simp at H; done)
                                | skip
                                  have hr_ := Option.some.inj H
                                  clear H
                                  go_wp2_with (first | ((with_reducible refine gate_callee (f := 10) rfl ?_); refine goesL_ (some 54) rfl rfl Tryd.func10 (by kernel_rfl) rfl #[.string (x10_1 ++ (⟨#[47, 62]⟩ : ByteArray))] rfl (by (try simp only [List.map_toArray, List.map_cons, List.map_nil]); first | done | rfl | (simp only [List.length_drop, List.length_take]; rfl)) ?_; (with_reducible refine (G_Tokens.calls (x10_1 ++ (⟨#[47, 62]⟩ : ByteArray)) t314 t315 t316 _ ?side1 A20.out).mono ?_); (case side1 => first | exact HG.out | exact Gd.drewN HG.out _ | exact Gd.drew HG.out | exact Gd.below HG.out (by repeat (first | (with_reducible first | exact HB.out | apply below_alloc | apply pw_below_drewN | apply below_drew1) | exact HB.out))); rintro e w33 ⟨v317, rfl, ho0, hb⟩; refine ⟨_, rfl, ?_⟩; have n0_ := Aside0.mk (Kd.S_lower ho0 (below_size (by repeat (first | (with_reducible first | exact HB.out | apply below_alloc | apply pw_below_drewN | apply below_drew1) | exact HB.out)))); have n1_ := Aside0.mk (below_step (by repeat (first | (with_reducible first | exact HB.out | apply below_alloc | apply pw_below_drewN | apply below_drew1) | exact HB.out)) hb); clear HB; have HO318 := n0_; have HB := n1_; clear n0_ n1_; (try clear hb); (try clear hb2); (try clear hk); (try clear hi); (try clear ho0)) | ((with_reducible refine gate_callee (f := 10) rfl ?_); refine goesL_ (some 59) rfl rfl Tryd.func10 (by kernel_rfl) rfl #[.string (⟨#[60, 63, 120, 109, 108, 32, 118, 101, 114, 115, 105, 111, 110, 61, 39, 49, 46, 48, 39, 32, 101, 110, 99, 111, 100, 105, 110, 103, 61, 39, 85, 84, 70, 45, 56, 39, 63, 62]⟩ : ByteArray)] rfl (by (try simp only [List.map_toArray, List.map_cons, List.map_nil]); first | done | rfl | (simp only [List.length_drop, List.length_take]; rfl)) ?_; (with_reducible refine (G_Tokens.calls (⟨#[60, 63, 120, 109, 108, 32, 118, 101, 114, 115, 105, 111, 110, 61, 39, 49, 46, 48, 39, 32, 101, 110, 99, 111, 100, 105, 110, 103, 61, 39, 85, 84, 70, 45, 56, 39, 63, 62]⟩ : ByteArray) t319 t320 t321 _ ?side1 A21.out).mono ?_); (case side1 => first | exact HG.out | exact Gd.drewN HG.out _ | exact Gd.drew HG.out | exact Gd.below HG.out (by repeat (first | (with_reducible first | exact HB.out | apply below_alloc | apply pw_below_drewN | apply below_drew1) | exact HB.out))); rintro e w34 ⟨v322, rfl, ho0, hb⟩; refine ⟨_, rfl, ?_⟩; have n0_ := Aside0.mk (Kd.S_elder' (by (with_reducible repeat (first | apply Kd.S_alloc | apply Kd.S_drewN | apply Kd.S_drew)); exact HO318.out) (Kd.S_base ho0) hb); have n1_ := Aside0.mk (Kd.S_lower (Kd.S_new' ho0 (Kd.S_lt (by (with_reducible repeat (first | apply Kd.S_alloc | apply Kd.S_drewN | apply Kd.S_drew)); exact HO318.out))) (below_size (by repeat (first | (with_reducible first | exact HB.out | apply below_alloc | apply pw_below_drewN | apply below_drew1) | exact HB.out)))); have n2_ := Aside0.mk (below_step (by repeat (first | (with_reducible first | exact HB.out | apply below_alloc | apply pw_below_drewN | apply below_drew1) | exact HB.out)) hb); clear HO318; clear HB; have HO318 := n0_; have HO323 := n1_; have HB := n2_; clear n0_ n1_ n2_; (try clear hb); (try clear hb2); (try clear hk); (try clear hi); (try clear ho0)) | ((with_reducible refine gate_callee (f := 8) rfl ?_); refine goesL_ (some 63) rfl rfl Tryd.func8 (by kernel_rfl) rfl #[] rfl (by (try simp only [List.map_toArray, List.map_cons, List.map_nil]); first | done | rfl | (simp only [List.length_drop, List.length_take]; rfl)) ?_; (with_reducible refine (cardexlaw08_awake.calls  true _ ?side1 A22.out).mono ?_); (case side1 => first | exact HG.out | exact Gd.drewN HG.out _ | exact Gd.drew HG.out | exact Gd.below HG.out (by repeat (first | (with_reducible first | exact HB.out | apply below_alloc | apply pw_below_drewN | apply below_drew1) | exact HB.out))); rintro e w35 ⟨rfl, hb⟩; refine ⟨_, rfl, ?_⟩; have n0_ := Aside0.mk (Kd.S_below (by (with_reducible repeat (first | apply Kd.S_alloc | apply Kd.S_drewN | apply Kd.S_drew)); exact HO318.out) hb); have n1_ := Aside0.mk (Kd.S_below (by (with_reducible repeat (first | apply Kd.S_alloc | apply Kd.S_drewN | apply Kd.S_drew)); exact HO323.out) hb); have n2_ := Aside0.mk (below_step (by repeat (first | (with_reducible first | exact HB.out | apply below_alloc | apply pw_below_drewN | apply below_drew1) | exact HB.out)) hb); clear HO318; clear HO323; clear HB; have HO318 := n0_; have HO323 := n1_; have HB := n2_; clear n0_ n1_ n2_; (try clear hb); (try clear hb2); (try clear hk); (try clear hi)))
                                  go_ret
                                  exact ⟨by first | rfl | (simp [errW_none, errW_some] <;> rfl) | (simp only [← hji3]; first | rfl | (simp [errW_none, errW_some] <;> rfl)) | (simp [*, errW_none, errW_some] <;> rfl), by repeat (first | (with_reducible first | exact HB.out | apply below_alloc | apply pw_below_drewN | apply below_drew1) | exact HB.out)⟩
                            · rw [if_neg c32] at H
                              have c32b0 : (t316 == 4) = false := beq_eq_false_iff_ne.mpr c32
                              have c32b1 : (t316 != 4) = true := bne_iff_ne.mpr c32
                              cases H
                        · rw [if_neg c27] at H
                          have c27b0 : ((t316 == 0) == (decide ((wrap64 (8 + (wrap64 (Int.tmod (IntKind.u64.wrap (a1)) 5)))) ≤ 10))) = false := by simpa using c27
                          (try (have c27b1 : decide ((t316 == 0) = (decide ((wrap64 (8 + (wrap64 (Int.tmod (IntKind.u64.wrap (a1)) 5)))) ≤ 10))) = false := by simpa using c27))
                          (try (have c27b2 : ((t316 == 0) == (decide ((wrap64 (8 + (wrap64 (Int.tmod (IntKind.u64.wrap (a1)) 5)))) ≤ 10))) = false := by simpa using c27))
                          (try (have c27b3 : ¬ ((t316 == 0) = (decide ((wrap64 (8 + (wrap64 (Int.tmod (IntKind.u64.wrap (a1)) 5)))) ≤ 10))) := by simpa using c27))
                          clear c27
                          cases H
                      · rw [if_neg c26] at H
                        have c26b0 : (t315 == 0) = false := beq_eq_false_iff_ne.mpr c26
                        have c26b1 : (t315 != 0) = true := bne_iff_ne.mpr c26
                        cases H
                    · rw [if_neg c25] at H
                      have c25b0 : (t307 == 5) = false := beq_eq_false_iff_ne.mpr c25
                      have c25b1 : (t307 != 5) = true := bne_iff_ne.mpr c25
                      cases H
                  · rw [if_neg c24] at H
                    have c24b0 : (t308 == 5) = false := beq_eq_false_iff_ne.mpr c24
                    have c24b1 : (t308 != 5) = true := bne_iff_ne.mpr c24
                    cases H
                · replace c23 := Bool.eq_false_iff.mpr c23
                  subst c23
                  have H1 : (some false) = some true := by rw [if_neg (show ¬ (false = true) by decide)] at H; exact H
                  clear H
                  have H := H1
                  clear H1
                  cases H
              · rw [if_neg c19] at H
                exact absurd H (by simp)
      · rw [if_neg c6] at H
        exact absurd H (by simp)
    · rw [if_neg c5] at H
      exact absurd H (by simp)
  · rw [if_neg c4] at H
    exact absurd H (by simp)

/-- THE ONE PURE STATEMENT of cardexlaw08_TokenRefuses: yours. -/
def cardexlaw08_TokenRefuses.Pure : Prop := ∀ (a0 : Int) (a1 : Int), (Lit.int .i64 a0).wf = true → (Lit.int .i64 a1).wf = true → ∃ k, cardexlaw08_TokenRefuses.f k a0 a1 = some true
theorem cardexlaw08_TokenRefuses.walk (P : cardexlaw08_TokenRefuses.Pure) (a0 : Int) (a1 : Int) (w : World) (hG_ : Gd w) (w0 : (Lit.int .i64 a0).wf = true) (w1 : (Lit.int .i64 a1).wf = true) :
    Calls Tryd.prog 5 #[.int .i64 a0, .int .i64 a1] w fun e w' => e = .returned (.bool true) ∧ Below w.heap.size w w' := by
  obtain ⟨k, h⟩ := P a0 a1 w0 w1
  refine (cardexlaw08_TokenRefuses.calls k a0 a1 w hG_ h).mono ?_
  rintro e w' ⟨rfl, hd⟩
  exact ⟨rfl, hd⟩

end Go.Proofs.YtfelfpjfjjgmoaaDoor.P
end
/- Plain answers of the printed functions that read a token: runs of signs, names, values, attributes, on lists of bytes. -/
section
set_option linter.unusedVariables false
namespace Go.Proofs.YtfelfpjfjjgmoaaDoor
open Go.RowKit Go.Proofs.YtfelfpjfjjgmoaaDoorW.PrintWords

theorem take_drop_while {α : Type} (p : α → Bool) (l : List α) : l.take (l.length - (l.dropWhile p).length) = l.takeWhile p := by
  induction l with
  | nil => rfl
  | cons x l ih =>
    by_cases h : p x = true
    · rw [List.dropWhile_cons_of_pos h, List.takeWhile_cons_of_pos h]
      have hle : (l.dropWhile p).length ≤ l.length := (List.dropWhile_sublist p).length_le
      rw [List.length_cons, show l.length + 1 - (l.dropWhile p).length = (l.length - (l.dropWhile p).length) + 1 from by omega, List.take_succ_cons, ih]
    · rw [List.dropWhile_cons_of_neg h, List.takeWhile_cons_of_neg h]
      simp
theorem bs_eq (s : ByteArray) (l : List UInt8) (h : s.data.toList = l) : s = bs l := by rw [← h, bs_of]
theorem run_eq (s0 : ByteArray) (l cs : List UInt8) (hl : l.length ≤ 1000000000) (hc : asciiB cs = true) (hn : cs.length < 4294967281) :
    P.token_run_string.f s0 (bs l) (bs cs) = some (bs (l.takeWhile (cs.contains ·)), s0, bs (l.dropWhile (cs.contains ·))) := by
  have hle : (l.dropWhile (cs.contains ·)).length ≤ l.length := (List.dropWhile_sublist _).length_le
  have hw : wrap64 ((l.length : Int) - ((l.dropWhile (cs.contains ·)).length : Int)) = ((l.length - (l.dropWhile (cs.contains ·)).length : Nat) : Int) := by unfold wrap64; omega
  unfold P.token_run_string.f G_TrimLeft.f
  rw [bs_size, bs_size, if_pos hn, bs_list, bs_list, if_pos hc]
  simp only [Option.bind_some, Lib.trimLeftS]
  rw [show (⟨(l.dropWhile (cs.contains ·)).toArray⟩ : ByteArray) = bs (l.dropWhile (cs.contains ·)) from rfl, bs_size, hw, if_pos (by omega), if_pos (by omega)]
  congr 2
  apply bs_eq
  rw [extract_list, bs_list, List.drop_zero, Int.toNat_natCast, Nat.sub_zero, take_drop_while]

def blanksL : List UInt8 := [9, 10, 13, 32]
def firstL : List UInt8 := [65, 66, 67, 68, 69, 70, 71, 72, 73, 74, 75, 76, 77, 78, 79, 80, 81, 82, 83, 84, 85, 86, 87, 88, 89, 90, 97, 98, 99, 100, 101, 102, 103, 104, 105, 106, 107, 108, 109, 110, 111, 112, 113, 114, 115, 116, 117, 118, 119, 120, 121, 122, 95]
def otherL : List UInt8 := firstL ++ [48, 49, 50, 51, 52, 53, 54, 55, 56, 57, 45, 46]
/-- A name, and what is behind it. -/
def nameF : List UInt8 → List UInt8 × List UInt8
  | [] => ([], [])
  | c :: l => if firstL.contains c = true then ((c :: l).takeWhile (otherL.contains ·), (c :: l).dropWhile (otherL.contains ·)) else ([], c :: l)
theorem index_ne (c x : UInt8) (l : List UInt8) (h : ¬ c = x) : Lib.index (x :: l) [c] = if (Lib.index l [c] == -1) = true then -1 else Lib.index l [c] + 1 := by
  have hp : ([c].isPrefixOf (x :: l)) = false := by
    simp only [List.isPrefixOf, Bool.and_true]
    exact beq_eq_false_iff_ne.2 h
  conv => lhs; unfold Lib.index; rw [hp]; simp only [Bool.false_eq_true, if_false]
theorem contains_one (l : List UInt8) (c : UInt8) : Lib.contains l [c] = l.contains c := by
  unfold Lib.contains
  induction l with
  | nil => simp [Lib.index]
  | cons x l ih =>
    have hg := index_ge c l
    by_cases h : c = x
    · subst h
      simp [Lib.index]
    · rw [List.contains_cons, show (c == x) = false from beq_eq_false_iff_ne.2 h, Bool.false_or, ← ih, index_ne c x l h]
      by_cases h0 : Lib.index l [c] = -1
      · rw [h0]; decide
      · rw [if_neg (by rw [beq_iff_eq]; exact h0)]
        congr 1
        exact propext ⟨fun _ => by omega, fun _ => by omega⟩
theorem nil_iff (l : List UInt8) : ((bs l).toList = ([] : List UInt8)) = (l = []) := by rw [toList_d, bs_list]
theorem name_eq (s0 : ByteArray) (l : List UInt8) (hl : l.length ≤ 1000000000) : P.token_name.f s0 (bs l) = some (bs (nameF l).1, s0, bs (nameF l).2) := by
  unfold P.token_name.f
  cases l with
  | nil =>
    rw [if_pos (by rw [nil_iff])]
    rfl
  | cons c l =>
    rw [if_neg (by rw [nil_iff]; simp), if_pos (by omega), if_pos (by rw [bs_size, List.length_cons]; omega)]
    unfold G_Contains.f
    rw [if_pos (by decide)]
    simp only [Option.bind_some]
    rw [show ((bs (c :: l)).extract 0 1).data.toList = [c] from by rw [extract_list, bs_list]; rfl, contains_one]
    have hr := run_eq s0 (c :: l) otherL hl (by decide) (by decide)
    by_cases h : firstL.contains c = true
    · rw [show nameF (c :: l) = ((c :: l).takeWhile (otherL.contains ·), (c :: l).dropWhile (otherL.contains ·)) from if_pos h]
      refine Eq.trans (if_pos h) ?_
      rw [show (⟨#[65, 66, 67, 68, 69, 70, 71, 72, 73, 74, 75, 76, 77, 78, 79, 80, 81, 82, 83, 84, 85, 86, 87, 88, 89, 90, 97, 98, 99, 100, 101, 102, 103, 104, 105, 106, 107, 108, 109, 110, 111, 112, 113, 114, 115, 116, 117, 118, 119, 120, 121, 122, 95, 48, 49, 50, 51, 52, 53, 54, 55, 56, 57, 45, 46]⟩ : ByteArray) = bs otherL from rfl, hr]
      rfl
    · rw [show nameF (c :: l) = ([], c :: l) from if_neg h]
      exact if_neg h

/-- Does p stand here? What is behind it. -/
def isF (p l : List UInt8) : Bool × List UInt8 := if (l.take p.length == p) = true then (true, l.drop p.length) else (false, l)
theorem is_eq (s0 : ByteArray) (l p : List UInt8) : P.token_walk_string_is.f s0 (bs l) (bs p) = some ((isF p l).1, s0, bs (isF p l).2) := by
  unfold P.token_walk_string_is.f
  rw [cutP_eq]
  unfold cutP isF
  rw [bs_list, bs_list, bs_size]
  simp only [Option.bind_some]
  split
  · congr 3
    apply bs_eq
    rw [extract_list, bs_list, bs_size, List.take_of_length_le (by rw [List.length_drop]; omega)]
  · rfl
theorem cut_index (c : UInt8) (l : List UInt8) (h : 0 ≤ Lib.index l [c]) : cutAt c l = (l.take (Lib.index l [c]).toNat, l.drop ((Lib.index l [c]).toNat + 1), true) := by
  rw [← cut_eq]
  unfold Lib.cut
  rw [if_pos h]
  rfl
theorem cut_noindex (c : UInt8) (l : List UInt8) (h : ¬ 0 ≤ Lib.index l [c]) : cutAt c l = (l, [], false) := by
  rw [← cut_eq]
  unfold Lib.cut
  rw [if_neg h]
theorem cutAt_join (c : UInt8) : ∀ l : List UInt8, (cutAt c l).2.2 = true → l = (cutAt c l).1 ++ c :: (cutAt c l).2.1
  | [], h => by simp [cutAt] at h
  | x :: l, h => by
    unfold cutAt at h ⊢
    split
    · rename_i hx
      simp [hx]
    · rename_i hx
      rw [if_neg hx] at h
      have ih := cutAt_join c l h
      simp only [List.cons_append]
      rw [← ih]
theorem upTo_eq (s0 : ByteArray) (l : List UInt8) (c : UInt8) (hl : l.length < 4294967281) :
    G_upTo.f s0 (bs l) ⟨#[c]⟩ = some (bs (cutAt c l).1, (cutAt c l).2.2, s0, bs (if (cutAt c l).2.2 = true then c :: (cutAt c l).2.1 else [])) := by
  unfold G_upTo.f
  rw [if_pos (by rw [bs_size]; exact hl), bs_list, show (⟨#[c]⟩ : ByteArray).data.toList = [c] from rfl]
  have hL := cutAt_len c l
  by_cases h : 0 ≤ Lib.index l [c]
  · have hc := cut_index c l h
    have hj := cutAt_join c l (by rw [hc])
    rw [hc] at hL hj ⊢
    simp only [if_true, List.length_take, List.length_drop] at hL
    simp only [] at hj
    have hn : (Lib.index l [c]).toNat < l.length := by
      generalize (Lib.index l [c]).toNat = n at hL ⊢
      omega
    have hd : l.drop (Lib.index l [c]).toNat = c :: l.drop ((Lib.index l [c]).toNat + 1) := by
      have h1 : (l.take (Lib.index l [c]).toNat).length = (Lib.index l [c]).toNat := by rw [List.length_take]; omega
      have h2 := congrArg (List.drop (Lib.index l [c]).toNat) hj
      rw [List.drop_left' h1] at h2
      exact h2
    rw [if_neg (by omega), if_pos (by rw [bs_size]; omega)]
    have e1 : (bs l).extract 0 (Lib.index l [c]).toNat = bs (l.take (Lib.index l [c]).toNat) := by
      apply bs_eq
      rw [extract_list, bs_list, List.drop_zero, Nat.sub_zero]
    have e2 : (bs l).extract (Lib.index l [c]).toNat (bs l).size = bs (c :: l.drop ((Lib.index l [c]).toNat + 1)) := by
      apply bs_eq
      rw [extract_list, bs_list, bs_size, List.take_of_length_le (by rw [List.length_drop]; omega), hd]
    rw [e1, e2, bs_empty]
    rfl
  · rw [if_pos (by omega), cut_noindex c l h]
    simp [bs]

/-! ### values and attributes -/
def valueF : List UInt8 → ByteArray × Bool × List UInt8
  | [] => (⟨#[]⟩, false, [])
  | x :: t =>
    if x = 39 then ((backF (bs (cutAt 39 t).1)).1, (cutAt 39 t).2.2 && ((backF (bs (cutAt 39 t).1)).2 == 0), (cutAt 39 t).2.1)
    else if x = 34 then ((backF (bs (cutAt 34 t).1)).1, (cutAt 34 t).2.2 && ((backF (bs (cutAt 34 t).1)).2 == 0), (cutAt 34 t).2.1)
    else (⟨#[]⟩, false, x :: t)
theorem is_one_yes (s0 : ByteArray) (c : UInt8) (l : List UInt8) : P.token_walk_string_is.f s0 (bs (c :: l)) ⟨#[c]⟩ = some (true, s0, bs l) := by
  rw [show (⟨#[c]⟩ : ByteArray) = bs [c] from rfl, is_eq]
  simp [isF]
theorem is_one_no (s0 : ByteArray) (c x : UInt8) (l : List UInt8) (h : ¬ x = c) : P.token_walk_string_is.f s0 (bs (x :: l)) ⟨#[c]⟩ = some (false, s0, bs (x :: l)) := by
  rw [show (⟨#[c]⟩ : ByteArray) = bs [c] from rfl, is_eq]
  simp [isF, h]
theorem is_one_nil (s0 : ByteArray) (c : UInt8) : P.token_walk_string_is.f s0 (bs []) ⟨#[c]⟩ = some (false, s0, bs []) := by
  rw [show (⟨#[c]⟩ : ByteArray) = bs [c] from rfl, is_eq]
  simp [isF]
theorem cutAt_no (c : UInt8) : ∀ l : List UInt8, (cutAt c l).2.2 = false → (cutAt c l).2.1 = []
  | [], _ => rfl
  | x :: l, h => by
    unfold cutAt at h ⊢
    split
    · rename_i hx
      rw [if_pos hx] at h
      cases h
    · rename_i hx
      rw [if_neg hx] at h
      exact cutAt_no c l h
theorem back_some (l : List UInt8) (hl : l.length < 1000000000) : G_Back.f (bs l) = some (backF (bs l)) := by
  unfold G_Back.f
  rw [if_pos (by rw [bs_size]; exact hl)]
theorem value_eq (s0 : ByteArray) (l : List UInt8) (hl : l.length < 1000000000) : P.token_value.f s0 (bs l) = some ((valueF l).1, (valueF l).2.1, s0, bs (valueF l).2.2) := by
  unfold P.token_value.f
  cases l with
  | nil =>
    rw [is_one_nil]
    simp only [Option.bind_some, Bool.false_eq_true, if_false]
    rw [is_one_nil]
    rfl
  | cons x t =>
    rw [List.length_cons] at hl
    have key : ∀ c : UInt8, (cutAt c t).1.length < 1000000000 := fun c => by have := cutAt_len c t; omega
    by_cases h1 : x = 39
    · subst h1
      rw [is_one_yes]
      simp only [Option.bind_some, if_true]
      rw [upTo_eq s0 t 39 (by omega)]
      simp only [Option.bind_some]
      rw [back_some _ (key 39)]
      simp only [Option.bind_some, valueF]
      cases hc : (cutAt 39 t).2.2 with
      | true =>
        simp only [if_true]
        rw [is_one_yes]
        simp
      | false =>
        rw [cutAt_no 39 t hc]
        simp
    · rw [is_one_no s0 39 x t h1]
      simp only [Option.bind_some, Bool.false_eq_true, if_false]
      by_cases h2 : x = 34
      · subst h2
        rw [is_one_yes]
        simp only [Option.bind_some, if_true]
        rw [upTo_eq s0 t 34 (by omega)]
        simp only [Option.bind_some]
        rw [back_some _ (key 34)]
        simp only [Option.bind_some, valueF]
        cases hc : (cutAt 34 t).2.2 with
        | true =>
          simp only [if_true]
          rw [is_one_yes]
          simp
        | false =>
          rw [cutAt_no 34 t hc]
          simp
      · rw [is_one_no s0 34 x t h2]
        simp only [Option.bind_some, Bool.false_eq_true, if_false]
        simp [valueF, h1, h2]

def skipB (l : List UInt8) : List UInt8 := l.dropWhile (blanksL.contains ·)
def gapB (l : List UInt8) : List UInt8 := l.takeWhile (blanksL.contains ·)
theorem gap_eq (s0 : ByteArray) (l : List UInt8) (hl : l.length ≤ 1000000000) : P.token_run_string.f s0 (bs l) ⟨#[9, 10, 13, 32]⟩ = some (bs (gapB l), s0, bs (skipB l)) :=
  run_eq s0 l blanksL hl (by decide) (by decide)
theorem nameF_le (l : List UInt8) : (nameF l).2.length ≤ l.length := by
  unfold nameF
  split
  · exact Nat.le_refl _
  · split
    · exact (List.dropWhile_sublist _).length_le
    · exact Nat.le_refl _
theorem skipB_le (l : List UInt8) : (skipB l).length ≤ l.length := (List.dropWhile_sublist _).length_le
/-- An attribute: its name, its value, whether it is one, and what is behind it. -/
def attrF (l : List UInt8) : List UInt8 × ByteArray × Bool × List UInt8 :=
  if (nameF l).1 = [] then ([], ⟨#[]⟩, false, skipB (nameF l).2)
  else if (isF [61] (skipB (nameF l).2)).1 = true then
    ((nameF l).1, (valueF (skipB (isF [61] (skipB (nameF l).2)).2)).1, (valueF (skipB (isF [61] (skipB (nameF l).2)).2)).2.1, (valueF (skipB (isF [61] (skipB (nameF l).2)).2)).2.2)
  else ((nameF l).1, ⟨#[]⟩, false, skipB (nameF l).2)
theorem isF_le (p l : List UInt8) : (isF p l).2.length ≤ l.length := by
  unfold isF
  split
  · simp
  · exact Nat.le_refl _
theorem isF_no (p l : List UInt8) (h : (isF p l).1 = false) : (isF p l).2 = l := by
  unfold isF at h ⊢
  split at h
  · cases h
  · rename_i hh
    rw [if_neg hh]
theorem attr_eq (k : Nat) (s0 : ByteArray) (l : List UInt8) (hl : l.length < 1000000000) : P.token_attr.f (k + 1) s0 (bs l) = some (bs (attrF l).1, (attrF l).2.1, (attrF l).2.2.1, s0, bs (attrF l).2.2.2) := by
  have h1 := nameF_le l
  have h2 := skipB_le (nameF l).2
  have h3 := isF_le [61] (skipB (nameF l).2)
  have h4 := skipB_le (isF [61] (skipB (nameF l).2)).2
  unfold P.token_attr.f attrF
  rw [name_eq s0 l (by omega)]
  simp only [Option.bind_some]
  rw [gap_eq s0 _ (by omega)]
  simp only [Option.bind_some, nil_iff]
  by_cases hn : (nameF l).1 = []
  · rw [if_pos hn, if_pos hn]
    simp only [P.token_attr.j0, if_true]
    rw [hn]
  · rw [if_neg hn, if_neg hn, show (⟨#[61]⟩ : ByteArray) = bs [61] from rfl, is_eq]
    simp only [Option.bind_some, P.token_attr.j0]
    cases hi : (isF [61] (skipB (nameF l).2)).1 with
    | true =>
      simp only [Bool.not_true, Bool.false_eq_true, if_false, if_true]
      rw [gap_eq s0 _ (by omega)]
      simp only [Option.bind_some]
      rw [value_eq s0 _ (by omega)]
      rfl
    | false =>
      simp only [Bool.not_false, if_true, Bool.false_eq_true, if_false]
      rw [isF_no _ _ hi]
end Go.Proofs.YtfelfpjfjjgmoaaDoor
end
/- Valid texts on lists of bytes: 'vs' reads a text character by character; utf.Valid answers it; a text is valid where its two parts are, if the second one begins with no continuing byte. -/
section
set_option linter.unusedVariables false
namespace Go.Proofs.YtfelfpjfjjgmoaaDoor
open Go.RowKit Go.Lib Go.Proofs.YtfelfpjfjjgmoaaDoorW.PrintWords

/-- No character stands here. -/
def badL (l : List UInt8) : Bool := decide ((decodeL l).1 = 65533 ∧ (decodeL l).2 = 1)
/-- Characters, each of which may be, by p. -/
def vsN (p : Nat → Bool) : Nat → List UInt8 → Bool
  | 0, _ => true
  | n + 1, l => if l = [] then true else if badL l = true then false else p (decodeL l).1 && vsN p n (l.drop (decodeL l).2)
def vsP (p : Nat → Bool) (l : List UInt8) : Bool := vsN p l.length l
theorem decodeL_pos (l : List UInt8) : 1 ≤ (decodeL l).2 := decodeL_width l
theorem drop_lt (l : List UInt8) (h : l ≠ []) : (l.drop (decodeL l).2).length < l.length := by
  have := decodeL_pos l
  have : 0 < l.length := List.length_pos_iff.2 h
  rw [List.length_drop]; omega
theorem vsN_fuel (p : Nat → Bool) : ∀ (n m : Nat) (l : List UInt8), l.length ≤ n → l.length ≤ m → vsN p n l = vsN p m l
  | 0, m, l, h, _ => by
    have : l = [] := List.length_eq_zero_iff.1 (by omega)
    subst this
    cases m <;> simp [vsN]
  | n + 1, 0, l, _, h => by
    have : l = [] := List.length_eq_zero_iff.1 (by omega)
    subst this
    simp [vsN]
  | n + 1, m + 1, l, h1, h2 => by
    unfold vsN
    by_cases hl : l = []
    · rw [if_pos hl, if_pos hl]
    · have := drop_lt l hl
      rw [if_neg hl, if_neg hl, vsN_fuel p n m _ (by omega) (by omega)]
theorem vsP_nil (p : Nat → Bool) : vsP p [] = true := rfl
theorem vsP_step (p : Nat → Bool) (l : List UInt8) (h : l ≠ []) : vsP p l = if badL l = true then false else p (decodeL l).1 && vsP p (l.drop (decodeL l).2) := by
  have hd := drop_lt l h
  unfold vsP
  cases hn : l.length with
  | zero => exact absurd (List.length_eq_zero_iff.1 hn) h
  | succ n =>
    rw [vsN, if_neg h, vsN_fuel p n _ _ (by omega) (Nat.le_refl _)]
theorem validGo_runes (p : Int → Bool) (s : ByteArray) : ∀ (b i : Nat), s.size ≤ b + i → (validGoD b (s.data.toList.drop i) && allB p (runesZ s b i)) = vsN (fun r => p r) b (s.data.toList.drop i)
  | 0, i, h => by simp [validGoD, runesZ, allB, vsN]
  | b + 1, i, h => by
    have hd := decodeL_drop s i
    unfold validGoD runesZ vsN badL
    simp only [decide_eq_true_eq]
    by_cases hi : i < s.size
    · have hne : s.data.toList.drop i ≠ [] := by rw [Ne, List.drop_eq_nil_iff, data_length]; omega
      rw [if_neg hne, if_neg hne, if_pos hi]
      simp only [hd]
      split
      · rfl
      · rw [List.drop_drop, ← validGo_runes p s b (i + (Utf8.decode s i).2) (by have := decodeL_pos (s.data.toList.drop i); rw [hd] at this; omega)]
        simp only [allB, List.all_cons]
        rw [Bool.and_left_comm]
    · have he : s.data.toList.drop i = [] := by rw [List.drop_eq_nil_iff, data_length]; omega
      rw [if_pos he, if_pos he, if_neg hi]
      rfl
theorem textB_vs (p : Int → Bool) (l : List UInt8) : textB p (bs l) = vsP (fun r => p r) l := by
  unfold textB validD runesOf vsP
  have := validGo_runes p (bs l) l.length 0 (by rw [bs_size]; omega)
  rw [bs_list, List.drop_zero] at this
  rw [bs_list, bs_size]
  exact this

/-- May a text be? Of characters that may be, all of them. -/
def vs (l : List UInt8) : Bool := vsP (fun r => mayB r) l
theorem validB_vs (l : List UInt8) : validB (bs l) = vs l := textB_vs mayB l

/-! ### two texts, one behind the other -/
/-- A text that begins with no continuing byte. -/
def startsB : List UInt8 → Bool
  | [] => true
  | c :: _ => c.toNat / 64 != 2
theorem getD_app (a b : List UInt8) (k : Nat) (h : k < a.length) : (a ++ b).getD k 0 = a.getD k 0 := by
  simp [List.getD, List.getElem?_append_left h]
theorem cont_out (a b : List UInt8) (k : Nat) (hb : startsB b = true) (hk : k = a.length) : ¬ (k < (a ++ b).length ∧ ((a ++ b).getD k 0).toNat / 64 = 2) := by
  rintro ⟨h1, h2⟩
  subst hk
  cases b with
  | nil => simp at h1
  | cons c b =>
    rw [List.getD, List.getElem?_append_right (Nat.le_refl _), Nat.sub_self] at h2
    simp [startsB] at hb
    exact hb (by simpa using h2)
/-- What continues within the first part is what continues there: one place on. -/
theorem cont_app (a b : List UInt8) (k : Nat) (hb : startsB b = true) (hk : k ≤ a.length) : (k < (a ++ b).length ∧ ((a ++ b).getD k 0).toNat / 64 = 2) = (k < a.length ∧ (a.getD k 0).toNat / 64 = 2) := by
  by_cases h : k < a.length
  · rw [getD_app a b k h]
    exact propext ⟨fun x => ⟨h, x.2⟩, fun x => ⟨by rw [List.length_append]; omega, x.2⟩⟩
  · have hk' : k = a.length := by omega
    exact propext ⟨fun x => absurd x (cont_out a b k hb hk'), fun x => absurd x.1 h⟩
theorem decodeL_app (a b : List UInt8) (ha : a ≠ []) (hb : startsB b = true) : decodeL (a ++ b) = decodeL a := by
  have h0 : 0 < a.length := List.length_pos_iff.2 ha
  rw [decodeL_N, decodeL_N, getD_app a b 0 h0]
  generalize hx0 : (a.getD 0 0).toNat = x0
  have c1 := cont_app a b 1 hb (by omega)
  unfold decodeN
  by_cases e1 : 1 < a.length ∧ (a.getD 1 0).toNat / 64 = 2
  · have h1 := e1.1
    have c2 := cont_app a b 2 hb (by omega)
    by_cases e2 : 2 < a.length ∧ (a.getD 2 0).toNat / 64 = 2
    · have h2 := e2.1
      have c3 := cont_app a b 3 hb (by omega)
      by_cases e3 : 3 < a.length ∧ (a.getD 3 0).toNat / 64 = 2
      · simp only [c1, c2, c3]
        simp only [getD_app a b 1 h1, getD_app a b 2 h2, getD_app a b 3 e3.1]
      · simp only [c1, c2, c3, e3, and_false, if_false]
        simp only [getD_app a b 1 h1, getD_app a b 2 h2]
    · simp only [c1, c2, e2, and_false, false_and, if_false]
      simp only [getD_app a b 1 h1]
  · simp only [c1, e1, and_false, false_and, if_false]
theorem vsP_app (p : Nat → Bool) (b : List UInt8) (hb : startsB b = true) : ∀ (n : Nat) (a : List UInt8), a.length ≤ n → vsP p (a ++ b) = (vsP p a && vsP p b)
  | 0, a, h => by
    have : a = [] := List.length_eq_zero_iff.1 (by omega)
    subst this
    simp [vsP_nil]
  | n + 1, a, h => by
    by_cases ha : a = []
    · subst ha; simp [vsP_nil]
    · have hd := drop_lt a ha
      have hw := decodeL_le a ha
      rw [vsP_step p (a ++ b) (by simp [ha]), vsP_step p a ha]
      unfold badL
      rw [decodeL_app a b ha hb]
      split
      · rfl
      · rw [List.drop_append_of_le_length hw, vsP_app p b hb n _ (by omega), Bool.and_assoc]
theorem vs_app (a b : List UInt8) (hb : startsB b = true) : vs (a ++ b) = (vs a && vs b) := vsP_app _ b hb a.length a (Nat.le_refl _)
theorem vs_ascii (c : UInt8) (l : List UInt8) (h : c.toNat < 128) : vs (c :: l) = (mayB c.toNat && vs l) := by
  unfold vs
  rw [vsP_step _ _ (by simp)]
  unfold badL
  rw [decodeL_ascii c l h]
  rw [if_neg (by simp; omega)]
  rfl
/-- Behind an ASCII byte a text may be cut. -/
theorem vs_behind (a b : List UInt8) (c : UInt8) (h : c.toNat < 128) : vs (a ++ c :: b) = (vs a && mayB c.toNat && vs b) := by
  rw [vs_app a (c :: b) (by simp only [startsB, bne_iff_ne, ne_eq]; omega), vs_ascii c b h, Bool.and_assoc]
end Go.Proofs.YtfelfpjfjjgmoaaDoor
end
/- token.Tokens on lists of bytes: 'nextF' is one token, what is behind it; 'tokL' all of them; 'tokensF' what token.Tokens answers (tokens_eq). -/
section
set_option linter.unusedVariables false
namespace Go.Proofs.YtfelfpjfjjgmoaaDoor
open Go.RowKit Go.Proofs.YtfelfpjfjjgmoaaDoorW.PrintWords

abbrev AttrT := P.S35
abbrev TokT := P.S33
def dupB (l : List AttrT) (n : List UInt8) : Bool := l.any fun a => decide (a.f0.toList = n)
theorem dup_any (l : List AttrT) (n : List UInt8) : anyAt (fun j => decide ((l.getD j P.z35).f0.toList = (bs n).toList)) l.length = dupB l n := by
  unfold anyAt dupB
  rw [toList_d (bs n), bs_list, Bool.eq_iff_iff, List.any_eq_true, List.any_eq_true]
  constructor
  · rintro ⟨i, hi, h⟩
    have hi' := List.mem_range.1 hi
    refine ⟨l[i], List.getElem_mem hi', ?_⟩
    simpa [List.getD, hi'] using h
  · rintro ⟨x, hx, h⟩
    obtain ⟨i, hi, rfl⟩ := List.getElem_of_mem hx
    exact ⟨i, List.mem_range.2 hi, by simpa [List.getD, hi] using h⟩
/-- What is behind a name of an opening: its attributes, whether it is empty, whether it is one, what is behind it. -/
def openL : Nat → List AttrT → List UInt8 → List AttrT × Bool × Bool × List UInt8
  | 0, l, r => (l, false, false, r)
  | k + 1, l, r =>
    if (isF [47, 62] (skipB r)).1 = true then (l, true, true, (isF [47, 62] (skipB r)).2)
    else if (isF [62] (skipB r)).1 = true then (l, false, true, (isF [62] (skipB r)).2)
    else if gapB r = [] then (l, false, false, (attrF (skipB r)).2.2.2)
    else if (attrF (skipB r)).2.2.1 = false then (l, false, false, (attrF (skipB r)).2.2.2)
    else if dupB l (attrF (skipB r)).1 = true then (l, false, false, (attrF (skipB r)).2.2.2)
    else openL k (l ++ [⟨bs (attrF (skipB r)).1, (attrF (skipB r)).2.1⟩]) (attrF (skipB r)).2.2.2
theorem gap_skip (r : List UInt8) : gapB r ++ skipB r = r := List.takeWhile_append_dropWhile
theorem valueF_le (l : List UInt8) : (valueF l).2.2.length ≤ l.length := by
  unfold valueF
  split
  · exact Nat.le_refl _
  · rename_i x t
    have h1 := cutAt_len 39 t
    have h2 := cutAt_len 34 t
    split
    · simp only [List.length_cons]
      split at h1 <;> omega
    · split
      · simp only [List.length_cons]
        split at h2 <;> omega
      · exact Nat.le_refl _
theorem attrF_le (l : List UInt8) : (attrF l).2.2.2.length ≤ l.length := by
  have h1 := nameF_le l
  have h2 := skipB_le (nameF l).2
  have h3 := isF_le [61] (skipB (nameF l).2)
  have h4 := skipB_le (isF [61] (skipB (nameF l).2)).2
  have h5 := valueF_le (skipB (isF [61] (skipB (nameF l).2)).2)
  unfold attrF
  split
  · simp only []; omega
  · split
    · simp only []; omega
    · simp only []; omega
theorem openJ_eq (nm : ByteArray) (hn : ¬ nm.toList = ([] : List UInt8)) (s0 : ByteArray) : ∀ (k : Nat) (l : List AttrT) (r : List UInt8), r.length < k → l.length + r.length < 1000000000 →
    openJ k nm l s0 (bs r) = some ((openL k l r).1, (openL k l r).2.1, (openL k l r).2.2.1, s0, bs (openL k l r).2.2.2)
  | 0, l, r, h, _ => absurd h (Nat.not_lt_zero _)
  | k + 1, l, r, h, hb => by
    have h0 := gap_skip r
    have h1 := skipB_le r
    have h2 := attrF_le (skipB r)
    unfold openJ openL
    rw [if_neg hn, gap_eq s0 r (by omega)]
    simp only [Option.bind_some]
    rw [show (⟨#[47, 62]⟩ : ByteArray) = bs [47, 62] from rfl, is_eq]
    simp only [Option.bind_some]
    by_cases c1 : (isF [47, 62] (skipB r)).1 = true
    · rw [if_pos c1, if_pos c1]
    rw [if_neg c1, if_neg c1, isF_no _ _ (by simpa using c1), show (⟨#[62]⟩ : ByteArray) = bs [62] from rfl, is_eq]
    simp only [Option.bind_some]
    by_cases c2 : (isF [62] (skipB r)).1 = true
    · rw [if_pos c2, if_pos c2]
    rw [if_neg c2, if_neg c2, isF_no _ _ (by simpa using c2), attr_eq 1 s0 _ (by omega)]
    simp only [Option.bind_some, nil_iff]
    by_cases c3 : gapB r = []
    · rw [if_pos c3, if_pos c3]
    rw [if_neg c3, if_neg c3]
    by_cases c4 : (attrF (skipB r)).2.2.1 = false
    · rw [if_pos c4, if_pos c4]
    have hg : 0 < (gapB r).length := List.length_pos_iff.2 c3
    have hl := congrArg List.length h0
    rw [List.length_append] at hl
    rw [if_neg c4, if_neg c4, if_neg (by omega), dup_any]
    by_cases c5 : dupB l (attrF (skipB r)).1 = true
    · rw [if_pos c5, if_pos c5]
    rw [if_neg c5, if_neg c5]
    exact openJ_eq nm hn s0 k _ _ (by omega) (by simp only [List.length_append, List.length_cons, List.length_nil]; omega)
theorem openL_le : ∀ (k : Nat) (l : List AttrT) (r : List UInt8), (openL k l r).2.2.2.length ≤ r.length
  | 0, l, r => Nat.le_refl _
  | k + 1, l, r => by
    have h1 := skipB_le r
    have h2 := attrF_le (skipB r)
    have h3 := isF_le [47, 62] (skipB r)
    have h4 := isF_le [62] (skipB r)
    have h5 := openL_le k (l ++ [⟨bs (attrF (skipB r)).1, (attrF (skipB r)).2.1⟩]) (attrF (skipB r)).2.2.2
    unfold openL
    repeat' split
    all_goals first | omega | (simp only []; omega)

/-- One token (its place 0), whether it is one, and what is behind it. -/
def shutT (l : List UInt8) : TokT × Bool × List UInt8 :=
  (⟨2, 0, bs (nameF l).1, ⟨#[]⟩, [], false⟩, if (nameF l).1 = [] then false else (isF [62] (skipB (nameF l).2)).1, if (nameF l).1 = [] then skipB (nameF l).2 else (isF [62] (skipB (nameF l).2)).2)
def openT (l : List UInt8) : TokT × Bool × List UInt8 :=
  if (nameF l).1 = [] then (⟨1, 0, bs [], ⟨#[]⟩, [], false⟩, false, (nameF l).2)
  else (⟨1, 0, bs (nameF l).1, ⟨#[]⟩, (openL (l.length + 2) [] (nameF l).2).1, (openL (l.length + 2) [] (nameF l).2).2.1⟩, (openL (l.length + 2) [] (nameF l).2).2.2.1, (openL (l.length + 2) [] (nameF l).2).2.2.2)
def textT (l : List UInt8) : TokT × Bool × List UInt8 :=
  (⟨3, 0, ⟨#[]⟩, (backF (bs (cutAt 60 l).1)).1, [], false⟩, (backF (bs (cutAt 60 l).1)).2 == 0, if (cutAt 60 l).2.2 = true then 60 :: (cutAt 60 l).2.1 else [])
def nextF (l : List UInt8) : TokT × Bool × List UInt8 :=
  if (isF [60, 47] l).1 = true then shutT (isF [60, 47] l).2
  else if (isF [60] l).1 = true then openT (isF [60] l).2
  else textT l
theorem shut_eq (s0 : ByteArray) (l : List UInt8) (hl : l.length ≤ 1000000000) :
    P.token_shut.f s0 (bs l) = some ((shutT l).1.f0, (shutT l).1.f1, (shutT l).1.f2, (shutT l).1.f3, (shutT l).1.f4, (shutT l).1.f5, (shutT l).2.1, s0, bs (shutT l).2.2) := by
  have h1 := nameF_le l
  unfold P.token_shut.f shutT
  rw [name_eq s0 l hl]
  simp only [Option.bind_some]
  rw [gap_eq s0 _ (by omega)]
  simp only [Option.bind_some, nil_iff]
  by_cases c : (nameF l).1 = []
  · rw [if_pos c, if_pos c, if_pos c]
  · rw [if_neg c, if_neg c, if_neg c, show (⟨#[62]⟩ : ByteArray) = bs [62] from rfl, is_eq]
    rfl
theorem open_eq (s0 : ByteArray) (l : List UInt8) (hl : l.length < 1000000000) :
    G_open.f s0 (bs l) = some ((openT l).1.f0, (openT l).1.f1, (openT l).1.f2, (openT l).1.f3, (openT l).1.f4, (openT l).1.f5, (openT l).2.1, s0, bs (openT l).2.2) := by
  have h1 := nameF_le l
  unfold G_open.f openT
  rw [name_eq s0 l (by omega)]
  simp only [Option.bind_some]
  by_cases c : (nameF l).1 = []
  · rw [if_pos c, c, bs_size]
    unfold openJ
    rw [if_pos (by rw [nil_iff])]
    rfl
  · rw [if_neg c, openJ_eq _ (by rw [nil_iff]; exact c) s0 _ _ _ (by rw [bs_size]; omega) (by simp only [List.length_nil]; omega)]
    simp only [Option.bind_some, bs_size]
theorem next_eq (s0 : ByteArray) (l : List UInt8) (hl : l.length < 1000000000) :
    P.token_next.f s0 (bs l) = some ((nextF l).1.f0, (nextF l).1.f1, (nextF l).1.f2, (nextF l).1.f3, (nextF l).1.f4, (nextF l).1.f5, (nextF l).2.1, s0, bs (nextF l).2.2) := by
  have h1 := isF_le [60, 47] l
  have h2 := isF_le [60] l
  unfold P.token_next.f nextF
  rw [show (⟨#[60, 47]⟩ : ByteArray) = bs [60, 47] from rfl, is_eq]
  simp only [Option.bind_some]
  by_cases c1 : (isF [60, 47] l).1 = true
  · rw [if_pos c1, if_pos c1, shut_eq s0 _ (by omega)]
    rfl
  rw [if_neg c1, if_neg c1, isF_no _ _ (by simpa using c1), show (⟨#[60]⟩ : ByteArray) = bs [60] from rfl, is_eq]
  simp only [Option.bind_some]
  by_cases c2 : (isF [60] l).1 = true
  · rw [if_pos c2, if_pos c2, open_eq s0 _ (by omega)]
    rfl
  rw [if_neg c2, if_neg c2, isF_no _ _ (by simpa using c2), show bs [60] = (⟨#[60]⟩ : ByteArray) from rfl, upTo_eq s0 l 60 (by omega)]
  have h3 := cutAt_len 60 l
  simp only [Option.bind_some]
  rw [back_some _ (by split at h3 <;> omega)]
  rfl

/-- All tokens of what is left; n: how long the whole is. -/
def tokL : Nat → Nat → List TokT → List UInt8 → List TokT × Int × Int
  | 0, _, _, _ => ([], 0, 0)
  | k + 1, n, l, r =>
    if r = [] then (l, 0, 0)
    else if (nextF r).2.1 = false then ([], (n : Int) - r.length, 5)
    else if 10 < (nextF r).1.f4.length then ([], (n : Int) - r.length, 4)
    else tokL k n (l ++ [⟨(nextF r).1.f0, (n : Int) - r.length, (nextF r).1.f2, (nextF r).1.f3, (nextF r).1.f4, (nextF r).1.f5⟩]) (nextF r).2.2
theorem isF_yes (p l : List UInt8) (h : (isF p l).1 = true) : l = p ++ (isF p l).2 := by
  unfold isF at h ⊢
  split at h
  · rename_i hh
    rw [if_pos hh]
    have := beq_iff_eq.1 hh
    conv => lhs; rw [← List.take_append_drop p.length l, this]
  · cases h
theorem nextF_lt (r : List UInt8) (h : r ≠ []) : (nextF r).2.2.length < r.length := by
  unfold nextF
  by_cases c1 : (isF [60, 47] r).1 = true
  · rw [if_pos c1]
    have h1 := congrArg List.length (isF_yes _ _ c1)
    generalize (isF [60, 47] r).2 = l at h1 ⊢
    simp only [List.length_append, List.length_cons, List.length_nil] at h1
    have h2 := nameF_le l
    have h3 := skipB_le (nameF l).2
    have h4 := isF_le [62] (skipB (nameF l).2)
    unfold shutT
    split <;> (simp only []; omega)
  rw [if_neg c1]
  by_cases c2 : (isF [60] r).1 = true
  · rw [if_pos c2]
    have h1 := congrArg List.length (isF_yes _ _ c2)
    generalize (isF [60] r).2 = l at h1 ⊢
    simp only [List.length_append, List.length_cons, List.length_nil] at h1
    have h2 := nameF_le l
    have h3 := openL_le (l.length + 2) [] (nameF l).2
    unfold openT
    split <;> (simp only []; omega)
  · rw [if_neg c2]
    have h3 := cutAt_len 60 r
    have h4 := cutAt_no 60 r
    unfold textT
    simp only []
    have h0 : 0 < r.length := List.length_pos_iff.2 h
    split
    · rename_i hc
      have hj := cutAt_join 60 r hc
      have : (cutAt 60 r).1 ≠ [] := by
        intro he
        rw [he] at hj
        apply c2
        rw [hj]
        simp [isF]
      have := List.length_pos_iff.2 this
      have hl := congrArg List.length hj
      rw [List.length_append, List.length_cons] at hl
      rw [List.length_cons]
      omega
    · exact h0
theorem tokJ_eq (s0 : ByteArray) (hs : s0.size < 500000000) : ∀ (k : Nat) (l : List TokT) (r : List UInt8), r.length < k → r.length ≤ s0.size → l.length + r.length < 1000000000 →
    tokJ k l s0 (bs r) = some (tokL k s0.size l r)
  | 0, l, r, h, _, _ => absurd h (Nat.not_lt_zero _)
  | k + 1, l, r, h, hr, hb => by
    have hw : wrap64 ((s0.size : Int) - (r.length : Int)) = (s0.size : Int) - r.length := by unfold wrap64; omega
    unfold tokJ tokL
    simp only [nil_iff]
    by_cases c : r = []
    · rw [if_pos c, if_pos c]
    have hlt := nextF_lt r c
    rw [if_neg c, if_neg c, next_eq s0 r (by omega)]
    simp only [Option.bind_some, bs_size, hw]
    by_cases c1 : (nextF r).2.1 = false
    · rw [if_pos c1, if_pos c1]
    rw [if_neg c1, if_neg c1]
    by_cases c2 : 10 < (nextF r).1.f4.length
    · rw [if_pos c2, if_pos c2]
    rw [if_neg c2, if_neg c2, if_neg (by omega)]
    exact tokJ_eq s0 hs k _ _ (by omega) (by omega) (by simp only [List.length_append, List.length_cons, List.length_nil]; omega)
def prologB : List UInt8 := [60, 63, 120, 109, 108, 32, 118, 101, 114, 115, 105, 111, 110, 61, 39, 49, 46, 48, 39, 32, 101, 110, 99, 111, 100, 105, 110, 103, 61, 39, 85, 84, 70, 45, 56, 39, 63, 62]
/-- What token.Tokens answers: the tokens; where it is wrong; the number of the error. -/
def tokensF (s : List UInt8) : List TokT × Int × Int :=
  if 20000 < s.length then ([], 0, 4) else if vs s = false then ([], 0, 3) else tokL (s.length + 2) s.length [] (isF prologB s).2
theorem tokens_eq (s : List UInt8) : G_Tokens.f (bs s) = some (tokensF s) := by
  unfold G_Tokens.f tokensF
  rw [bs_size, validB_vs]
  by_cases c1 : 20000 < s.length
  · rw [if_pos c1, if_pos c1]
  rw [if_neg c1, if_neg c1]
  by_cases c2 : vs s = false
  · rw [if_pos c2, if_pos c2]
  have h1 := isF_le prologB s
  rw [if_neg c2, if_neg c2, show prologL = bs prologB from rfl, is_eq]
  simp only [Option.bind_some]
  rw [tokJ_eq (bs s) (by rw [bs_size]; omega) _ _ _ (by omega) (by rw [bs_size]; omega) (by simp only [List.length_nil]; omega), bs_size]
end Go.Proofs.YtfelfpjfjjgmoaaDoor
end
/- Tokens that token.Tokens tells, one behind the other ('Runs'): each begins where the one ahead ends; what is left there is valid, and its tokens are the rest. -/
section
set_option linter.unusedVariables false
namespace Go.Proofs.YtfelfpjfjjgmoaaDoor
open Go.RowKit Go.Proofs.YtfelfpjfjjgmoaaDoorW.PrintWords

/-- What is left at each token. -/
inductive Runs : List UInt8 → List (List UInt8) → Prop
  | nil : Runs [] []
  | cons {r : List UInt8} {rs : List (List UInt8)} : r ≠ [] → (nextF r).2.1 = true → (nextF r).1.f4.length ≤ 10 → Runs (nextF r).2.2 rs → Runs r (r :: rs)
/-- The token of what is left, in a text of n bytes. -/
def tokAt (n : Nat) (r : List UInt8) : TokT := ⟨(nextF r).1.f0, (n : Int) - r.length, (nextF r).1.f2, (nextF r).1.f3, (nextF r).1.f4, (nextF r).1.f5⟩
theorem tokL_ok (n : Nat) : ∀ (k : Nat) (l : List TokT) (r : List UInt8) (L : List TokT) (a : Int), r.length < k → tokL k n l r = (L, a, 0) → ∃ rs, Runs r rs ∧ L = l ++ rs.map (tokAt n) ∧ a = 0
  | 0, l, r, L, a, h, _ => absurd h (Nat.not_lt_zero _)
  | k + 1, l, r, L, a, h, e => by
    unfold tokL at e
    by_cases c : r = []
    · rw [if_pos c] at e
      simp only [Prod.mk.injEq] at e
      subst c
      exact ⟨[], .nil, by simp [e.1.symm], e.2.1.symm⟩
    rw [if_neg c] at e
    by_cases c1 : (nextF r).2.1 = false
    · rw [if_pos c1] at e
      simp only [Prod.mk.injEq] at e
      omega
    rw [if_neg c1] at e
    by_cases c2 : 10 < (nextF r).1.f4.length
    · rw [if_pos c2] at e
      simp only [Prod.mk.injEq] at e
      omega
    rw [if_neg c2] at e
    have hlt := nextF_lt r c
    obtain ⟨rs, h1, h2, h3⟩ := tokL_ok n k _ _ L a (by omega) e
    exact ⟨r :: rs, .cons c (by simpa using c1) (by omega) h1, by rw [h2]; simp [tokAt], h3⟩
theorem tokL_runs (n : Nat) : ∀ (k : Nat) (l : List TokT) (r : List UInt8) (rs : List (List UInt8)), r.length < k → Runs r rs → tokL k n l r = (l ++ rs.map (tokAt n), 0, 0)
  | 0, l, r, rs, h, _ => absurd h (Nat.not_lt_zero _)
  | k + 1, l, _, _, h, .nil => by simp [tokL]
  | k + 1, l, r, _, h, .cons (rs := rs) h1 h2 h3 h4 => by
    have hlt := nextF_lt r h1
    unfold tokL
    rw [if_neg h1, if_neg (by simp [h2]), if_neg (by omega), tokL_runs n k _ _ rs (by omega) h4]
    simp [tokAt]
theorem tokensF_ok (s : List UInt8) (L : List TokT) (a : Int) (h : tokensF s = (L, a, 0)) : s.length ≤ 20000 ∧ vs s = true ∧ a = 0 ∧ ∃ rs, Runs (isF prologB s).2 rs ∧ L = rs.map (tokAt s.length) := by
  unfold tokensF at h
  by_cases c1 : 20000 < s.length
  · rw [if_pos c1] at h
    simp only [Prod.mk.injEq] at h
    omega
  rw [if_neg c1] at h
  by_cases c2 : vs s = false
  · rw [if_pos c2] at h
    simp only [Prod.mk.injEq] at h
    omega
  rw [if_neg c2] at h
  have h1 := isF_le prologB s
  obtain ⟨rs, h3, h4, h5⟩ := tokL_ok s.length _ _ _ L a (by omega) h
  exact ⟨by omega, by simpa using c2, h5, rs, h3, by simpa using h4⟩
theorem tokensF_runs (s : List UInt8) (rs : List (List UInt8)) (h1 : s.length ≤ 20000) (h2 : vs s = true) (h3 : Runs (isF prologB s).2 rs) : tokensF s = (rs.map (tokAt s.length), 0, 0) := by
  have h4 := isF_le prologB s
  unfold tokensF
  rw [if_neg (by omega), if_neg (by simp [h2]), tokL_runs s.length _ _ _ rs (by omega) h3]
  simp

/-! ### what is left is a part of what was -/
theorem isF_suf (p l : List UInt8) : (isF p l).2 <:+ l := by
  unfold isF
  split
  · exact List.drop_suffix _ _
  · exact List.suffix_refl _
theorem skipB_suf (l : List UInt8) : skipB l <:+ l := List.dropWhile_suffix _
theorem nameF_suf (l : List UInt8) : (nameF l).2 <:+ l := by
  unfold nameF
  split
  · exact List.suffix_refl _
  · split
    · exact List.dropWhile_suffix _
    · exact List.suffix_refl _
theorem cutAt_suf (c : UInt8) (l : List UInt8) : (cutAt c l).2.1 <:+ l := by
  cases h : (cutAt c l).2.2 with
  | true => exact ⟨(cutAt c l).1 ++ [c], by rw [List.append_assoc]; exact (cutAt_join c l h).symm⟩
  | false => rw [cutAt_no c l h]; exact List.nil_suffix
theorem valueF_suf (l : List UInt8) : (valueF l).2.2 <:+ l := by
  unfold valueF
  split
  · exact List.suffix_refl _
  · split
    · exact (cutAt_suf 39 _).trans (List.suffix_cons _ _)
    · split
      · exact (cutAt_suf 34 _).trans (List.suffix_cons _ _)
      · exact List.suffix_refl _
theorem attrF_suf (l : List UInt8) : (attrF l).2.2.2 <:+ l := by
  have h1 := nameF_suf l
  have h2 := skipB_suf (nameF l).2
  unfold attrF
  split
  · exact h2.trans h1
  · split
    · exact (valueF_suf _).trans ((skipB_suf _).trans ((isF_suf _ _).trans (h2.trans h1)))
    · exact h2.trans h1
theorem openL_end : ∀ (k : Nat) (l : List AttrT) (r : List UInt8), (openL k l r).2.2.1 = true → (62 :: (openL k l r).2.2.2) <:+ r
  | 0, l, r, h => by simp [openL] at h
  | k + 1, l, r, h => by
    have h5 := openL_end k (l ++ [⟨bs (attrF (skipB r)).1, (attrF (skipB r)).2.1⟩]) (attrF (skipB r)).2.2.2
    unfold openL at h ⊢
    split at h
    · rename_i c
      rw [if_pos c]
      have := isF_yes _ _ c
      refine List.IsSuffix.trans ?_ (skipB_suf r)
      exact ⟨[47], this.symm⟩
    rename_i c
    rw [if_neg c]
    split at h
    · rename_i c
      rw [if_pos c]
      have := isF_yes _ _ c
      refine List.IsSuffix.trans ?_ (skipB_suf r)
      exact ⟨[], this.symm⟩
    rename_i c
    rw [if_neg c]
    split at h
    · cases h
    rename_i c
    rw [if_neg c]
    split at h
    · cases h
    rename_i c
    rw [if_neg c]
    split at h
    · cases h
    rename_i c
    rw [if_neg c]
    exact (h5 h).trans ((attrF_suf _).trans (skipB_suf r))
/-- A token ends behind '>', or ahead of '<', or at the end. -/
theorem next_end (r : List UInt8) (h : (nextF r).2.1 = true) : (62 :: (nextF r).2.2) <:+ r ∨ ((nextF r).2.2 <:+ r ∧ startsB (nextF r).2.2 = true) := by
  unfold nextF at h ⊢
  split at h
  · rename_i c
    rw [if_pos c]
    left
    unfold shutT at h ⊢
    simp only [] at h ⊢
    split at h
    · cases h
    · rename_i c1
      rw [if_neg c1]
      have := isF_yes _ _ h
      refine List.IsSuffix.trans ?_ ((skipB_suf _).trans ((nameF_suf _).trans (isF_suf [60, 47] r)))
      exact ⟨[], this.symm⟩
  rename_i c
  rw [if_neg c]
  split at h
  · rename_i c
    rw [if_pos c]
    left
    unfold openT at h ⊢
    split at h
    · cases h
    · rename_i c1
      rw [if_neg c1]
      exact (openL_end _ _ _ h).trans ((nameF_suf _).trans (isF_suf _ _))
  · rename_i c
    rw [if_neg c]
    right
    unfold textT
    simp only []
    split
    · rename_i c1
      refine ⟨?_, rfl⟩
      exact ⟨(cutAt 60 r).1, (cutAt_join 60 r c1).symm⟩
    · exact ⟨List.nil_suffix, rfl⟩
theorem next_suf (r : List UInt8) (h : (nextF r).2.1 = true) : (nextF r).2.2 <:+ r := by
  rcases next_end r h with h1 | h1
  · exact (List.suffix_cons _ _).trans h1
  · exact h1.1
theorem next_vs (r : List UInt8) (h : (nextF r).2.1 = true) (hv : vs r = true) : vs (nextF r).2.2 = true := by
  rcases next_end r h with ⟨c, h1⟩ | ⟨⟨c, h1⟩, h2⟩
  · rw [← h1, vs_behind c _ 62 (by decide)] at hv
    simp only [Bool.and_eq_true] at hv
    exact hv.2
  · rw [← h1, vs_app c _ h2] at hv
    simp only [Bool.and_eq_true] at hv
    exact hv.2
theorem prolog_vs (s : List UInt8) (hv : vs s = true) : vs (isF prologB s).2 = true := by
  cases h : (isF prologB s).1 with
  | true =>
    have h1 := isF_yes _ _ h
    rw [h1, show prologB ++ (isF prologB s).2 = (prologB.take 37) ++ 62 :: (isF prologB s).2 from rfl, vs_behind _ _ 62 (by decide)] at hv
    simp only [Bool.and_eq_true] at hv
    exact hv.2
  | false => rw [isF_no _ _ h]; exact hv
/-- Where a token begins the prolog does not stand. -/
theorem next_prolog (r : List UInt8) (h : (nextF r).2.1 = true) : (isF prologB r).2 = r := by
  cases hp : (isF prologB r).1 with
  | false => exact isF_no _ _ hp
  | true =>
    have h1 := isF_yes _ _ hp
    have h2 : ∃ t, r = 60 :: 63 :: t := ⟨_, h1⟩
    obtain ⟨t, rfl⟩ := h2
    have : (nextF (60 :: 63 :: t)).2.1 = false := by
      unfold nextF
      simp [isF, openT, nameF, firstL]
    rw [this] at h
    cases h
/-- Each token's rest: not empty, a part of the whole, valid; its tokens are the rest of all. -/
theorem runs_at {r : List UInt8} {rs : List (List UInt8)} (h : Runs r rs) (hv : vs r = true) : ∀ (i : Nat) (x : List UInt8), rs[i]? = some x → x ≠ [] ∧ x <:+ r ∧ vs x = true ∧ (nextF x).2.1 = true ∧ Runs x (rs.drop i) := by
  induction h with
  | nil => intro i x hx; simp at hx
  | @cons r rs h1 h2 h3 h4 ih =>
    intro i x hx
    cases i with
    | zero =>
      simp only [List.getElem?_cons_zero, Option.some.injEq] at hx
      subst hx
      exact ⟨h1, List.suffix_refl _, hv, h2, .cons h1 h2 h3 h4⟩
    | succ i =>
      obtain ⟨a, b, c, d, e⟩ := ih (next_vs r h2 hv) i x (by simpa using hx)
      exact ⟨a, b.trans (next_suf r h2), c, d, e⟩
theorem runs_len {r : List UInt8} {rs : List (List UInt8)} (h : Runs r rs) : rs.length ≤ r.length := by
  induction h with
  | nil => exact Nat.zero_le _
  | @cons r rs h1 h2 h3 h4 ih => have := nextF_lt r h1; simp only [List.length_cons]; omega
theorem tokL_err (n : Nat) : ∀ (k : Nat) (l : List TokT) (r : List UInt8) (L : List TokT) (a e : Int), tokL k n l r = (L, a, e) → e ≠ 0 → L = []
  | 0, l, r, L, a, e, h, he => by
    simp only [tokL, Prod.mk.injEq] at h
    exact h.1.symm
  | k + 1, l, r, L, a, e, h, he => by
    unfold tokL at h
    split at h
    · simp only [Prod.mk.injEq] at h
      exact absurd h.2.2.symm he
    split at h
    · simp only [Prod.mk.injEq] at h
      exact h.1.symm
    split at h
    · simp only [Prod.mk.injEq] at h
      exact h.1.symm
    exact tokL_err n k _ _ L a e h he
theorem tokensF_err (s : List UInt8) (L : List TokT) (a e : Int) (h : tokensF s = (L, a, e)) (he : e ≠ 0) : L = [] := by
  unfold tokensF at h
  split at h
  · simp only [Prod.mk.injEq] at h
    exact h.1.symm
  split at h
  · simp only [Prod.mk.injEq] at h
    exact h.1.symm
  exact tokL_err _ _ _ _ L a e h he
theorem runs_head {r : List UInt8} {rs : List (List UInt8)} (h : Runs r rs) {y : List UInt8} (hy : rs[0]? = some y) : y = r := by
  cases h with
  | nil => simp at hy
  | cons => simpa using hy.symm
theorem runs_less {r : List UInt8} {rs : List (List UInt8)} (h : Runs r rs) : ∀ (i : Nat) (x y : List UInt8), rs[i]? = some x → rs[i + 1]? = some y → y.length < x.length := by
  induction h with
  | nil => intro i x y hx; simp at hx
  | @cons r rs h1 h2 h3 h4 ih =>
    intro i x y hx hy
    cases i with
    | zero =>
      simp only [List.getElem?_cons_zero, Option.some.injEq] at hx
      subst hx
      have hy' : rs[0]? = some y := by simpa using hy
      rw [runs_head h4 hy']
      exact nextF_lt r h1
    | succ i => exact ih i x y (by simpa using hx) (by simpa using hy)
/-- A Text is what begins with no '<'. -/
theorem next_kind (r : List UInt8) (h : r ≠ []) : ((nextF r).1.f0 != 3) = (r.getD 0 0 == 60) := by
  cases r with
  | nil => exact absurd rfl h
  | cons c t =>
    unfold nextF
    by_cases hc : c = 60
    · subst hc
      by_cases h1 : (isF [60, 47] (60 :: t)).1 = true
      · rw [if_pos h1]
        rfl
      · rw [if_neg h1, if_pos (by simp [isF])]
        unfold openT
        split <;> rfl
    · rw [if_neg (by unfold isF; rw [if_neg]; simp; simp [hc]), if_neg (by unfold isF; rw [if_neg]; simp; simp [hc])]
      unfold textT
      simp [hc]
end Go.Proofs.YtfelfpjfjjgmoaaDoor
end
/- awake is true. -/
section
set_option linter.unusedVariables false
namespace Go.Proofs.YtfelfpjfjjgmoaaDoor
theorem awake_eq : P.cardexlaw08_awake.f = some true := by kernel_rfl
end Go.Proofs.YtfelfpjfjjgmoaaDoor
end
/- TokenRefuses, plain: sixteen texts and five numbers of attributes, each reckoned. -/
section
set_option linter.unusedVariables false
set_option maxRecDepth 100000
namespace Go.Proofs.YtfelfpjfjjgmoaaDoor
open Go.RowKit Go.Proofs.YtfelfpjfjjgmoaaDoorW.PrintWords

theorem mod_at (a : Int) (m : Nat) (h0 : 0 < m) (h1 : m ≤ 1000) : ∃ i : Nat, i < m ∧ wrap64 (Int.tmod (IntKind.u64.wrap a) m) = (i : Int) := by
  have hw : ∃ n : Nat, IntKind.u64.wrap a = (n : Int) := by
    refine ⟨(IntKind.u64.wrap a).toNat, ?_⟩
    have : 0 ≤ IntKind.u64.wrap a := by
      show 0 ≤ (a % 18446744073709551616 : Int) 
      exact Int.emod_nonneg _ (by omega)
    omega
  obtain ⟨n, hn⟩ := hw
  refine ⟨n % m, Nat.mod_lt _ h0, ?_⟩
  rw [hn, ← Int.ofNat_tmod]
  have := Nat.mod_lt n h0
  unfold wrap64
  omega
def refL : List ByteArray := [(⟨#[60]⟩ : ByteArray), (⟨#[60, 97]⟩ : ByteArray), (⟨#[60, 97, 32, 98, 62]⟩ : ByteArray), (⟨#[60, 97, 32, 98, 61, 99, 62]⟩ : ByteArray), (⟨#[60, 97, 32, 98, 61, 39, 49, 39, 99, 61, 39, 50, 39, 62]⟩ : ByteArray), (⟨#[60, 97, 32, 98, 61, 39, 49, 39, 32, 98, 61, 39, 50, 39, 62]⟩ : ByteArray), (⟨#[60, 97, 32, 98, 61, 39, 60, 39, 62]⟩ : ByteArray), (⟨#[60, 33, 45, 45, 32, 97, 32, 45, 45, 62]⟩ : ByteArray), (⟨#[60, 33, 91, 67, 68, 65, 84, 65, 91, 97, 93, 93, 62]⟩ : ByteArray), (⟨#[60, 63, 120, 63, 62]⟩ : ByteArray), (⟨#[38, 120, 59]⟩ : ByteArray), (⟨#[60, 47, 32, 97, 62]⟩ : ByteArray), (⟨#[60, 49, 62]⟩ : ByteArray), (⟨#[60, 97, 58, 98, 47, 62]⟩ : ByteArray), (⟨#[60, 33, 68, 79, 67, 84, 89, 80, 69, 32, 97, 62]⟩ : ByteArray), (⟨#[60, 97, 32, 98, 61, 39, 34, 38, 39, 47, 62]⟩ : ByteArray)]
theorem ref_first (i : Nat) (h : i < 16) : 5 + (rdOf ByteArray.empty refL (i : Int)).size ≤ 9223372036854775807 ∧ G_Tokens.f ((⟨#[120, 60, 98, 47, 62]⟩ : ByteArray) ++ rdOf ByteArray.empty refL (i : Int)) = some ([], 5, 5) := by
  match i, h with
  | 0, _ => exact ⟨of_decide_eq_true (by kernel_rfl), by kernel_rfl⟩
  | 1, _ => exact ⟨of_decide_eq_true (by kernel_rfl), by kernel_rfl⟩
  | 2, _ => exact ⟨of_decide_eq_true (by kernel_rfl), by kernel_rfl⟩
  | 3, _ => exact ⟨of_decide_eq_true (by kernel_rfl), by kernel_rfl⟩
  | 4, _ => exact ⟨of_decide_eq_true (by kernel_rfl), by kernel_rfl⟩
  | 5, _ => exact ⟨of_decide_eq_true (by kernel_rfl), by kernel_rfl⟩
  | 6, _ => exact ⟨of_decide_eq_true (by kernel_rfl), by kernel_rfl⟩
  | 7, _ => exact ⟨of_decide_eq_true (by kernel_rfl), by kernel_rfl⟩
  | 8, _ => exact ⟨of_decide_eq_true (by kernel_rfl), by kernel_rfl⟩
  | 9, _ => exact ⟨of_decide_eq_true (by kernel_rfl), by kernel_rfl⟩
  | 10, _ => exact ⟨of_decide_eq_true (by kernel_rfl), by kernel_rfl⟩
  | 11, _ => exact ⟨of_decide_eq_true (by kernel_rfl), by kernel_rfl⟩
  | 12, _ => exact ⟨of_decide_eq_true (by kernel_rfl), by kernel_rfl⟩
  | 13, _ => exact ⟨of_decide_eq_true (by kernel_rfl), by kernel_rfl⟩
  | 14, _ => exact ⟨of_decide_eq_true (by kernel_rfl), by kernel_rfl⟩
  | 15, _ => exact ⟨of_decide_eq_true (by kernel_rfl), by kernel_rfl⟩
  | n + 16, h => exact absurd h (by omega)
theorem ref_loop0 : P.cardexlaw08_TokenRefuses.l0 20 (wrap64 (8 + ((0 : Nat) : Int))) 5 5 5 (⟨#[60, 97]⟩ : ByteArray) 0 = some true := by kernel_rfl
theorem ref_loop1 : P.cardexlaw08_TokenRefuses.l0 20 (wrap64 (8 + ((1 : Nat) : Int))) 5 5 5 (⟨#[60, 97]⟩ : ByteArray) 0 = some true := by kernel_rfl
theorem ref_loop2 : P.cardexlaw08_TokenRefuses.l0 20 (wrap64 (8 + ((2 : Nat) : Int))) 5 5 5 (⟨#[60, 97]⟩ : ByteArray) 0 = some true := by kernel_rfl
theorem ref_loop3 : P.cardexlaw08_TokenRefuses.l0 20 (wrap64 (8 + ((3 : Nat) : Int))) 5 5 5 (⟨#[60, 97]⟩ : ByteArray) 0 = some true := by kernel_rfl
theorem ref_loop4 : P.cardexlaw08_TokenRefuses.l0 20 (wrap64 (8 + ((4 : Nat) : Int))) 5 5 5 (⟨#[60, 97]⟩ : ByteArray) 0 = some true := by kernel_rfl
theorem ref_loop (j : Nat) (h : j < 5) : P.cardexlaw08_TokenRefuses.l0 20 (wrap64 (8 + (j : Int))) 5 5 5 (⟨#[60, 97]⟩ : ByteArray) 0 = some true := by
  obtain rfl | rfl | rfl | rfl | rfl : j = 0 ∨ j = 1 ∨ j = 2 ∨ j = 3 ∨ j = 4 := by omega
  · exact ref_loop0
  · exact ref_loop1
  · exact ref_loop2
  · exact ref_loop3
  · exact ref_loop4
theorem TokenRefuses_pure : P.cardexlaw08_TokenRefuses.Pure := by
  intro a0 a1 _ _
  obtain ⟨i, hi, ei⟩ := mod_at a0 16 (by omega) (by omega)
  obtain ⟨j, hj, ej⟩ := mod_at a1 5 (by omega) (by omega)
  refine ⟨20, ?_⟩
  have ei' : wrap64 (Int.tmod (IntKind.u64.wrap a0) 16) = (i : Int) := ei
  have ej' : wrap64 (Int.tmod (IntKind.u64.wrap a1) 5) = (j : Int) := ej
  unfold P.cardexlaw08_TokenRefuses.f
  show ((some refL : Option (List ByteArray)).bind _) = some true
  simp only [Option.bind_some, ei', ej']
  obtain ⟨h1, h2⟩ := ref_first i hi
  rw [if_pos (by omega), if_pos (show (i : Int) < (refL.length : Int) from by show (i : Int) < 16; omega), if_pos h1, h2]
  rw [Option.bind_some]
  exact ref_loop j hj
end Go.Proofs.YtfelfpjfjjgmoaaDoor
end
