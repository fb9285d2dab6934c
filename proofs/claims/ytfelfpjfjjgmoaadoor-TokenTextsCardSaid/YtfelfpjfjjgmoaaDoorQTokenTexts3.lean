/- Texts of this proof, one behind the other. -/
import Derived.Test.YtfelfpjfjjgmoaaDoorQTokenTexts2
import Derived.Test.YtfelfpjfjjgmoaaDoorQTokenTexts1
/- The walk of token.Tokens: called with a text it returns what G_Tokens.f tells, where the library's variables are as Gd says. -/
section
set_option linter.unusedVariables false
namespace Go.Proofs.YtfelfpjfjjgmoaaDoor
open Go.RowKit Go.Shelf Go.Proofs.YtfelfpjfjjgmoaaDoorW.PrintWords Go.Proofs.YtfelfpjfjjgmoaaDoorW.PrintLast

theorem tok_attr0 {w W W5 : World} {g : Nat} {s0 s1 : ByteArray} {v : Value} {l : List P.S33} (h : TokInv w W g s0 s1 v l) {u : Value} {xs : List P.S35} (hr : Kd.R P.k35 35 W5 W.heap.size (fun _ => True) u xs) :
    Kd.R P.k35 35 W5 w.heap.size (fun k => (k ≠ g ∧ some k ≠ v.ownBlock) ∧ W.heap.size ≤ k) u xs :=
  Kd.R_lower (Kd.R_mono (Kd.R_bound hr) (fun k hk => by
    have h1 := h.hI.lt
    have h2 := hk.2.1
    refine ⟨⟨by omega, fun e => ?_⟩, h2⟩
    have := Kd.S_lt h.hR k e.symm
    omega)) h.hB.size
theorem tok_old {w W W5 : World} {g : Nat} {s0 s1 : ByteArray} {v : Value} {l : List P.S33} (h : TokInv w W g s0 s1 v l) (hk : KeepBut W W5 g none) :
    Kd.S P.k33 33 W5 w.heap.size (fun k => k ≠ g ∧ ¬ ((k ≠ g ∧ some k ≠ v.ownBlock) ∧ W.heap.size ≤ k)) v l :=
  Kd.S_mono (Kd.S_bound (Kd.S_oldK (ok := fun k => k ≠ g) (Kd.S_mono h.hR (fun k hk => ⟨hk, hk⟩)) hk)) (fun k hk => ⟨hk.1.1, fun h2 => by have := hk.1.2; have := h2.2; omega⟩)
theorem tok_app {w W W1 : World} {g : Nat} {s0 s1 : ByteArray} {v v1 : Value} {l l' : List P.S33} {o : Obj} (h : TokInv w W g s0 s1 v l) (ho : Kd.S P.k33 33 W1 w.heap.size (fun k => k ≠ g) v1 l')
    (hb : Below w.heap.size (W.alloc o) W1) (hg : (W.alloc o).grownBy W1 v.ownBlock) : TokInv w W1 g s0 s1 v1 l' :=
  ⟨(h.hI.alloc o).grown hg (Kd.S_away h.hR (fun k hk => hk)), (below_alloc h.hB o).trans hb, ho⟩

set_option maxHeartbeats 8000000 in
set_option maxRecDepth 100000 in
theorem G_Tokens.calls (s : ByteArray) (r1 : List P.S33) (r2 r3 : Int) (w : World) (hG_ : Gd w) (h : G_Tokens.f s = some (r1, r2, r3)) :
    Calls Tryd.prog 10 #[.string s] w fun e w' => ∃ v_ : Value, e = .returned (.tuple #[v_, .int .i64 r2, .int .i64 r3]) ∧ Kd.S P.k33 33 w' w.heap.size (fun _ => True) v_ r1 ∧ Below w.heap.size w w' := by
  have hu33 := Tryd.underlying33
  have hu46 := Tryd.underlying46
  unfold G_Tokens.f at h
  by_cases hs : 20000 < s.size
  · rw [if_pos hs] at h
    simp only [Option.some.injEq, Prod.mk.injEq] at h
    obtain ⟨rfl, rfl, rfl⟩ := h
    have hz : (s.size : Int) > 20000 := by omega
    go_enter Tryd.func10, Tryd.ntmps10
    go_wp2
    go_ret3
    exact ⟨_, rfl, Kd.S_nil _ _ _ _ _, Below.refl _ _⟩
  · rw [if_neg hs] at h
    have hz : ¬ (s.size : Int) > 20000 := by omega
    have CV := G_Valid.calls s (validB s) w hG_ (by unfold G_Valid.f; rw [if_pos (by omega)])
    generalize validB s = q at CV h
    cases q with
    | false =>
      simp only [if_true, Option.some.injEq, Prod.mk.injEq] at h
      obtain ⟨rfl, rfl, rfl⟩ := h
      go_enter Tryd.func10, Tryd.ntmps10
      go_wp2_with (go_at_call 14; refine CV.mono ?_; rintro e w1 ⟨rfl, hb1⟩)
      go_ret3
      exact ⟨_, rfl, Kd.S_nil _ _ _ _ _, hb1⟩
    | true =>
      simp only [Bool.true_eq_false, if_false] at h
      replace h := Option.bind_eq_some_iff.1 h
      obtain ⟨⟨b0, t0, t1⟩, HA, HJ⟩ := h
      have HJ' := Aside0.mk (show tokJ (s.size + 2) [] t0 t1 = some (r1, r2, r3) from HJ)
      have CA := fun (g : Nat) (W : World) (h1 : P.IsS46 w W g s s) (h2 : Below w.heap.size w W) => P.token_walk_string_is.calls g s s prologL b0 t0 t1 w W hG_ h1 h2 HA
      clear HJ HA
      go_enter Tryd.func10, Tryd.ntmps10
      go_wp2_with (first | (go_at_call 14; refine CV.mono ?_; rintro e w1 ⟨rfl, hb1⟩) | ((with_reducible refine gate_dst (N := 21) rfl ?_); refine box_event ?hg (N := 21) ?hd (cs := #[.string s, .string s]) (t := 46) ?hr ?_; (case hd => rfl); (case hg => rfl); (case hr => first | (go_simp; done) | (go_simp; rfl)); intro g hg w2 hbox hb; have ng : w.heap.size ≤ g := (by rw [hg]; exact hb1.size); clear hg; have INV := Aside0.mk (show TokInv w w2 g s s (.slice none 0 0) [] from ⟨⟨hbox, ng⟩, below_step hb1 hb, Kd.S_nil _ _ _ _ _⟩); clear hbox hb hb1) | (go_at_call 15; with_reducible refine (CA g _ INV.out.hI INV.out.hB).mono ?_; rintro e w3 ⟨rfl, hi, hb, hk⟩; have INV1 := Aside0.mk (INV.out.call hi hb hk); clear INV hi hb hk))
      go_loopg [6] (s.size + 2) (fun gg s6 wr => ∃ s0 s1 v l k, k ≤ gg ∧ s6 = v ∧ Aside (tokJ k l s0 s1 = some (r1, r2, r3)) ∧ Aside (TokInv w wr g s0 s1 v l))
      case atStart => exact ⟨t0, t1, _, _, _, Nat.le_refl _, rfl, HJ'.out, INV1.out⟩
      case round =>
        obtain ⟨s0, s1, v, l, k, hkk, rfl, HJ, INV⟩ := hrel
        have INV := Aside0.mk INV.out
        have HJ := HJ.out
        cases k with
        | zero => simp [tokJ] at HJ
        | succ k =>
        unfold tokJ at HJ
        have c0 := P.cellS46_0 INV.out.hI.1
        have c1 := P.cellS46_1 INV.out.hI.1
        by_cases hnm : s1.toList = ([] : List UInt8)
        · rw [if_pos hnm] at HJ
          simp only [Option.some.injEq, Prod.mk.injEq] at HJ
          obtain ⟨rfl, rfl, rfl⟩ := HJ
          have hne : s1.toList.isEmpty = true := by rw [hnm]; rfl
          go_wp2
          go_ret3
          exact ⟨_, rfl, Kd.S_mono INV.out.hR (fun _ _ => trivial), INV.out.hB⟩
        · rw [if_neg hnm] at HJ
          have hne : s1.toList.isEmpty = false := by cases hx : s1.toList with | nil => exact absurd hx hnm | cons _ _ => rfl
          replace HJ := Option.bind_eq_some_iff.1 HJ
          obtain ⟨⟨n1, n2, n3, n4, n5, n6, n7, n8, n9⟩, HN, HJ⟩ := HJ
          have CAt := fun (W : World) (hi : P.IsS46 w W g s0 s1) => at_calls g s0 s1 w W hi
          have CN := fun (W : World) (h1 : P.IsS46 w W g s0 s1) (h2 : Below w.heap.size w W) => P.token_next.calls g s0 s1 n1 n2 n3 n4 n5 n6 n7 n8 n9 w W hG_ h1 h2 HN
          clear HN
          simp only [] at HJ
          cases n7 with
          | false =>
            simp only [if_true, Option.some.injEq, Prod.mk.injEq] at HJ
            obtain ⟨rfl, rfl, rfl⟩ := HJ
            go_wp2_with (first | (go_at_call 16; with_reducible refine (CAt _ INV.out.hI).mono ?_; rintro e w4 ⟨rfl, ⟨nd, rfl⟩⟩) | (go_at_call 17; with_reducible refine (CN _ (INV.out.below (pw_below_drewN (Below.refl _ _) nd)).hI (INV.out.below (pw_below_drewN (Below.refl _ _) nd)).hB).mono ?_; rintro e w5 ⟨v4, rfl, hr4, hi, hb, hk⟩; obtain ⟨A4, c4, rfl⟩ := Kd.R_slice hr4; have HR4 := Aside0.mk hr4; have INV1 := Aside0.mk ((INV.out.below (pw_below_drewN (Below.refl _ _) nd)).call hi hb hk); clear hr4 hi hb hk) | ((with_reducible refine gate_dst (N := 8) rfl ?_); refine box_event ?hg (N := 8) ?hd (cs := #[.int .i64 0, .int .i64 0, .string ⟨#[]⟩, .string ⟨#[]⟩, .slice none 0 0, .bool false]) (t := 33) ?hr ?_; (case hd => rfl); (case hg => rfl); (case hr => first | (go_simp; done) | (go_simp; rfl)); intro b8 hg8 w8 hbox8 hb8; have nb8 : w.heap.size ≤ b8 := (by rw [hg8]; exact INV1.out.hB.size); have HB8 := Aside0.mk (below_step INV1.out.hB hb8); clear hg8; have z0 := blk_cell hbox8 0; have z1 := blk_cell hbox8 1; have z2 := blk_cell hbox8 2; have z3 := blk_cell hbox8 3; have z4 := blk_cell hbox8 4; have z5 := blk_cell hbox8 5; have y0 := blk_frozen hbox8 0; have y1 := blk_frozen hbox8 1; have y2 := blk_frozen hbox8 2; have y3 := blk_frozen hbox8 3; have y4 := blk_frozen hbox8 4; have y5 := blk_frozen hbox8 5; clear hbox8))
            go_ret3
            refine ⟨_, rfl, Kd.S_nil _ _ _ _ _, ?_⟩
            iterate 7 refine below_set ?_ nb8
            exact HB8.out
          | true =>
            simp only [Bool.true_eq_false, if_false] at HJ
            by_cases h10 : 10 < n5.length
            · rw [if_pos h10] at HJ
              have hz10 : (n5.length : Int) > 10 := by omega
              simp only [Option.some.injEq, Prod.mk.injEq] at HJ
              obtain ⟨rfl, rfl, rfl⟩ := HJ
              go_wp2_with (first | (go_at_call 16; with_reducible refine (CAt _ INV.out.hI).mono ?_; rintro e w4 ⟨rfl, ⟨nd, rfl⟩⟩) | (go_at_call 17; with_reducible refine (CN _ (INV.out.below (pw_below_drewN (Below.refl _ _) nd)).hI (INV.out.below (pw_below_drewN (Below.refl _ _) nd)).hB).mono ?_; rintro e w5 ⟨v4, rfl, hr4, hi, hb, hk⟩; obtain ⟨A4, c4, rfl⟩ := Kd.R_slice hr4; have HR4 := Aside0.mk hr4; have INV1 := Aside0.mk ((INV.out.below (pw_below_drewN (Below.refl _ _) nd)).call hi hb hk); clear hr4 hi hb hk) | ((with_reducible refine gate_dst (N := 8) rfl ?_); refine box_event ?hg (N := 8) ?hd (cs := #[.int .i64 0, .int .i64 0, .string ⟨#[]⟩, .string ⟨#[]⟩, .slice none 0 0, .bool false]) (t := 33) ?hr ?_; (case hd => rfl); (case hg => rfl); (case hr => first | (go_simp; done) | (go_simp; rfl)); intro b8 hg8 w8 hbox8 hb8; have nb8 : w.heap.size ≤ b8 := (by rw [hg8]; exact INV1.out.hB.size); have HB8 := Aside0.mk (below_step INV1.out.hB hb8); clear hg8; have z0 := blk_cell hbox8 0; have z1 := blk_cell hbox8 1; have z2 := blk_cell hbox8 2; have z3 := blk_cell hbox8 3; have z4 := blk_cell hbox8 4; have z5 := blk_cell hbox8 5; have y0 := blk_frozen hbox8 0; have y1 := blk_frozen hbox8 1; have y2 := blk_frozen hbox8 2; have y3 := blk_frozen hbox8 3; have y4 := blk_frozen hbox8 4; have y5 := blk_frozen hbox8 5; clear hbox8))
              go_ret3
              refine ⟨_, rfl, Kd.S_nil _ _ _ _ _, ?_⟩
              iterate 7 refine below_set ?_ nb8
              exact HB8.out
            · rw [if_neg h10] at HJ
              have hz10 : ¬ (n5.length : Int) > 10 := by omega
              by_cases hlen : 1000000000 < l.length
              · rw [if_pos hlen] at HJ
                cases HJ
              rw [if_neg hlen] at HJ
              have HJ := Aside0.mk HJ
              have info33_ : (Tryd.prog.info? 33).map (fun i => (i.zero, i.size, i.bytes)) = some (some (.agg #[.int .i64 0, .int .i64 0, .string ⟨#[]⟩, .string ⟨#[]⟩, .slice none 0 0, .bool false]), 6, 80) := by kernel_rfl
              go_wp2_with (first | (go_at_call 16; with_reducible refine (CAt _ INV.out.hI).mono ?_; rintro e w4 ⟨rfl, ⟨nd, rfl⟩⟩) | (go_at_call 17; with_reducible refine (CN _ (INV.out.below (pw_below_drewN (Below.refl _ _) nd)).hI (INV.out.below (pw_below_drewN (Below.refl _ _) nd)).hB).mono ?_; rintro e w5 ⟨v4, rfl, hr4, hi, hb, hk⟩; obtain ⟨A4, c4, rfl⟩ := Kd.R_slice hr4; have HR4 := Aside0.mk (tok_attr0 (INV.out.below (pw_below_drewN (Below.refl _ _) nd)) hr4); have HOLD := Aside0.mk (tok_old (INV.out.below (pw_below_drewN (Below.refl _ _) nd)) hk); have INV1 := Aside0.mk ((INV.out.below (pw_below_drewN (Below.refl _ _) nd)).call hi hb hk); clear hr4 hi hb hk INV c0 c1) | ((with_reducible refine gate_builtin (b := .append) (xs := #[.tmp 48, .tmp 50]) rfl ?_); at_builtin; refine Kd.S_append P.k33 w.heap.size rfl (.tmp 48) (.tmp 50) 27 33 (.agg #[.int .i64 0, .int .i64 0, .string ⟨#[]⟩, .string ⟨#[]⟩, .slice none 0 0, .bool false]) 80 rfl Tryd.underlying27 info33_ rfl (by decide) (by decide) u6 l ⟨n1, wrap64 ((s0.size : Int) - (s1.size : Int)), n3, n4, n5, n6⟩ [.int .i64 n1, .int .i64 (wrap64 ((s0.size : Int) - (s1.size : Int))), .string n3, .string n4, .slice A4 n5.length c4, .bool n6] (fun k => k ≠ g) (fun k => (k ≠ g ∧ some k ≠ u6.ownBlock) ∧ (wr.drewN nd).heap.size ≤ k) rfl ?aX ?aP (fun _ hk => hk.1) ?aF ?aO (Below.refl _ _) ?aS ?aL ?_; (case aX => first | rfl | (go_simp; done) | (simp [Act.eval]; done)); (case aP => exact P.k33_mkM _ _ _ ⟨n1, wrap64 ((s0.size : Int) - (s1.size : Int)), n3, n4, n5, n6⟩ (Kd.R_alloc HR4.out _)); (case aF => exact fun k hk => (by have h1 := INV1.out.hI.lt; simp at hk; omega)); (case aO => exact Kd.S_alloc HOLD.out _); (case aS => exact Nat.le_trans INV1.out.hB.size (by simp)); (case aL => omega); intro v1 w1 ho hb hg hat; have INVn := Aside0.mk (tok_app INV1.out ho hb hg); clear ho hb hg hat))
              go_roundg k
              case measure => omega
              case rel => exact ⟨n8, n9, _, _, k, Nat.le_refl _, rfl, HJ.out, INVn.out⟩

end Go.Proofs.YtfelfpjfjjgmoaaDoor
end
/- Lean functions for functions of the program, and that the Go code comes to their answers, where the library's variables are as Gd says. Written by a turned copy of the kit's print; Lean checks it. -/
section
namespace Go.Proofs.YtfelfpjfjjgmoaaDoor.P
open Go.RowKit Go.Proofs.YtfelfpjfjjgmoaaDoorW.PrintWords Go.Proofs.YtfelfpjfjjgmoaaDoorW.PrintLast Go.Proofs.YtfelfpjfjjgmoaaDoorW.PrintMore
attribute [local go_sem] max2_int min2_int max_two min_two max_three min_three max_four min_four   -- for this text's walks alone
set_option linter.unusedVariables false
set_option linter.unusedSimpArgs false

/-! ### cardexref01_decode: function 19 -/
mutual
def cardexref01_decode.j2 : Nat → ByteArray → Int → Int → Int → Int → Option (Int × Int)
  | 0, _, _, _, _, _ => none
  | k + 1, x0, x1, x6, x7, x8 => if (wrap64 (x1 + x7)) > (x0.size : Int) then (some (0, 0)) else (cardexref01_decode.l0 k x0 x1 x6 x7 x8 1)
def cardexref01_decode.l0 : Nat → ByteArray → Int → Int → Int → Int → Int → Option (Int × Int)
  | 0, _, _, _, _, _, _ => none
  | k + 1, x0, x1, x6, x7, x8, x9 => if x9 < x7 then (if 0 ≤ (wrap64 (x1 + x9)) then (if (wrap64 (x1 + x9)) < (x0.size : Int) then (if (Go.bits .and .u8 (bt x0 (wrap64 (x1 + x9))) 192) = 128 then (cardexref01_decode.l0 k x0 x1 (Go.bits .or .i64 (wrap64 (x6 * 64)) (wrap64 (Go.bits .and .u8 (bt x0 (wrap64 (x1 + x9))) 63))) x7 x8 (wrap64 (x9 + 1))) else (some (0, 0))) else (none)) else (none)) else (if x6 < x8 then (some (0, 0)) else (if x6 > 1114111 then (some (0, 0)) else (if x6 ≥ 55296 then (if x6 ≤ 57343 then (some (0, 0)) else (some (x6, x7))) else (some (x6, x7)))))
def cardexref01_decode.j0 : Nat → ByteArray → Int → Int → Bool → Option (Int × Int)
  | 0, _, _, _, _ => none
  | k + 1, x0, x1, x6, x17 => if x17 = true then (cardexref01_decode.j2 k x0 x1 (Go.bits .and .i64 x6 31) 2 128) else (if x6 ≥ 224 then (cardexref01_decode.j1 k x0 x1 x6 (decide (x6 < 240))) else (cardexref01_decode.j1 k x0 x1 x6 false))
def cardexref01_decode.j1 : Nat → ByteArray → Int → Int → Bool → Option (Int × Int)
  | 0, _, _, _, _ => none
  | k + 1, x0, x1, x6, x26 => if x26 = true then (cardexref01_decode.j2 k x0 x1 (Go.bits .and .i64 x6 15) 3 2048) else (if x6 ≥ 240 then (if x6 < 248 then (cardexref01_decode.j2 k x0 x1 (Go.bits .and .i64 x6 7) 4 65536) else (some (0, 0))) else (some (0, 0)))
end
def cardexref01_decode.f (k : Nat) (a0 : ByteArray) (a1 : Int) : Option (Int × Int) := if 0 ≤ a1 then (if a1 < (a0.size : Int) then (if (wrap64 (bt a0 a1)) < 128 then (cardexref01_decode.j2 k a0 a1 (wrap64 (bt a0 a1)) 1 0) else (if (wrap64 (bt a0 a1)) ≥ 192 then (cardexref01_decode.j0 k a0 a1 (wrap64 (bt a0 a1)) (decide ((wrap64 (bt a0 a1)) < 224))) else (cardexref01_decode.j0 k a0 a1 (wrap64 (bt a0 a1)) false))) else (none)) else (none)
theorem cardexref01_decode.mono_l : ∀ k, (∀ y0 y1 y2 y3 y4, LeO (cardexref01_decode.j2 k y0 y1 y2 y3 y4) (cardexref01_decode.j2 (k + 1) y0 y1 y2 y3 y4)) ∧ (∀ y0 y1 y2 y3 y4 y5, LeO (cardexref01_decode.l0 k y0 y1 y2 y3 y4 y5) (cardexref01_decode.l0 (k + 1) y0 y1 y2 y3 y4 y5)) ∧ (∀ y0 y1 y2 y3, LeO (cardexref01_decode.j0 k y0 y1 y2 y3) (cardexref01_decode.j0 (k + 1) y0 y1 y2 y3)) ∧ (∀ y0 y1 y2 y3, LeO (cardexref01_decode.j1 k y0 y1 y2 y3) (cardexref01_decode.j1 (k + 1) y0 y1 y2 y3))
  | 0 => ⟨fun _ _ _ _ _ r h => by simp [cardexref01_decode.j2] at h, fun _ _ _ _ _ _ r h => by simp [cardexref01_decode.l0] at h, fun _ _ _ _ r h => by simp [cardexref01_decode.j0] at h, fun _ _ _ _ r h => by simp [cardexref01_decode.j1] at h⟩
  | k + 1 => by
    obtain ⟨ih0, ih1, ih2, ih3⟩ := cardexref01_decode.mono_l k
    refine ⟨?_, ?_, ?_, ?_⟩
    · intro y0 y1 y2 y3 y4
      unfold cardexref01_decode.j2
      repeat' first
      | (with_reducible exact ih0 _ _ _ _ _)
      | (with_reducible exact ih1 _ _ _ _ _ _)
      | (with_reducible exact ih2 _ _ _ _)
      | (with_reducible exact ih3 _ _ _ _)
      | (with_reducible exact LeO.refl _)
      | (with_reducible exact LeO.none _)
      | (with_reducible refine LeO.ite ?_ ?_)
      | (with_reducible refine LeO.bind ?_ (fun _ => ?_))
      | exact ih0 _ _ _ _ _
      | exact ih1 _ _ _ _ _ _
      | exact ih2 _ _ _ _
      | exact ih3 _ _ _ _
      | exact LeO.none _
      | refine LeO.ite ?_ ?_
      | refine LeO.bind ?_ (fun _ => ?_)
    · intro y0 y1 y2 y3 y4 y5
      unfold cardexref01_decode.l0
      repeat' first
      | (with_reducible exact ih0 _ _ _ _ _)
      | (with_reducible exact ih1 _ _ _ _ _ _)
      | (with_reducible exact ih2 _ _ _ _)
      | (with_reducible exact ih3 _ _ _ _)
      | (with_reducible exact LeO.refl _)
      | (with_reducible exact LeO.none _)
      | (with_reducible refine LeO.ite ?_ ?_)
      | (with_reducible refine LeO.bind ?_ (fun _ => ?_))
      | exact ih0 _ _ _ _ _
      | exact ih1 _ _ _ _ _ _
      | exact ih2 _ _ _ _
      | exact ih3 _ _ _ _
      | exact LeO.none _
      | refine LeO.ite ?_ ?_
      | refine LeO.bind ?_ (fun _ => ?_)
    · intro y0 y1 y2 y3
      unfold cardexref01_decode.j0
      repeat' first
      | (with_reducible exact ih0 _ _ _ _ _)
      | (with_reducible exact ih1 _ _ _ _ _ _)
      | (with_reducible exact ih2 _ _ _ _)
      | (with_reducible exact ih3 _ _ _ _)
      | (with_reducible exact LeO.refl _)
      | (with_reducible exact LeO.none _)
      | (with_reducible refine LeO.ite ?_ ?_)
      | (with_reducible refine LeO.bind ?_ (fun _ => ?_))
      | exact ih0 _ _ _ _ _
      | exact ih1 _ _ _ _ _ _
      | exact ih2 _ _ _ _
      | exact ih3 _ _ _ _
      | exact LeO.none _
      | refine LeO.ite ?_ ?_
      | refine LeO.bind ?_ (fun _ => ?_)
    · intro y0 y1 y2 y3
      unfold cardexref01_decode.j1
      repeat' first
      | (with_reducible exact ih0 _ _ _ _ _)
      | (with_reducible exact ih1 _ _ _ _ _ _)
      | (with_reducible exact ih2 _ _ _ _)
      | (with_reducible exact ih3 _ _ _ _)
      | (with_reducible exact LeO.refl _)
      | (with_reducible exact LeO.none _)
      | (with_reducible refine LeO.ite ?_ ?_)
      | (with_reducible refine LeO.bind ?_ (fun _ => ?_))
      | exact ih0 _ _ _ _ _
      | exact ih1 _ _ _ _ _ _
      | exact ih2 _ _ _ _
      | exact ih3 _ _ _ _
      | exact LeO.none _
      | refine LeO.ite ?_ ?_
      | refine LeO.bind ?_ (fun _ => ?_)
theorem cardexref01_decode.mono : ∀ a0 a1 k, LeO (cardexref01_decode.f k a0 a1) (cardexref01_decode.f (k + 1) a0 a1) := by
  intro a0 a1 k
  obtain ⟨ih0, ih1, ih2, ih3⟩ := cardexref01_decode.mono_l k
  unfold cardexref01_decode.f
  repeat' first
      | (with_reducible exact ih0 _ _ _ _ _)
      | (with_reducible exact ih1 _ _ _ _ _ _)
      | (with_reducible exact ih2 _ _ _ _)
      | (with_reducible exact ih3 _ _ _ _)
      | (with_reducible exact LeO.refl _)
      | (with_reducible exact LeO.none _)
      | (with_reducible refine LeO.ite ?_ ?_)
      | (with_reducible refine LeO.bind ?_ (fun _ => ?_))
      | exact ih0 _ _ _ _ _
      | exact ih1 _ _ _ _ _ _
      | exact ih2 _ _ _ _
      | exact ih3 _ _ _ _
      | exact LeO.none _
      | refine LeO.ite ?_ ?_
      | refine LeO.bind ?_ (fun _ => ?_)
set_option maxHeartbeats 8000000 in
set_option maxRecDepth 100000 in
theorem cardexref01_decode.calls (k : Nat) (a0 : ByteArray) (a1 : Int) (r1 : Int) (r2 : Int) (w : World) (hG_ : Gd w) (h : cardexref01_decode.f k a0 a1 = some (r1, r2)) :
    Calls Tryd.prog 19 #[.string a0, .int .i64 a1] w fun e w' => e = .returned (.tuple #[.int .i64 r1, .int .i64 r2]) ∧ Drawn0 w w' := by
  have HG := Aside0.mk hG_
  clear hG_
  have H : (if 0 ≤ a1 then (if a1 < (a0.size : Int) then (if (wrap64 (bt a0 a1)) < 128 then (cardexref01_decode.j2 k a0 a1 (wrap64 (bt a0 a1)) 1 0) else (if (wrap64 (bt a0 a1)) ≥ 192 then (cardexref01_decode.j0 k a0 a1 (wrap64 (bt a0 a1)) (decide ((wrap64 (bt a0 a1)) < 224))) else (cardexref01_decode.j0 k a0 a1 (wrap64 (bt a0 a1)) false))) else (none)) else (none)) = some (r1, r2) := h
  clear h
  by_cases c3 : 0 ≤ a1
  · rw [if_pos c3] at H
    have c3b0 : decide (0 ≤ a1) = true := decide_eq_true c3
    clear c3
    by_cases c4 : a1 < (a0.size : Int)
    · rw [if_pos c4] at H
      have c4b0 : decide (a1 < (a0.size : Int)) = true := decide_eq_true c4
      clear c4
      have HC6 := Aside0.mk H
      clear H
      have p5 : 0 ≤ (a1 : Int) := of_decide_eq_true (by first | (with_reducible assumption) | assumption)
      have q5 : a1 < (a0.size : Int) := of_decide_eq_true (by first | (with_reducible assumption) | assumption)
      have hx5 := bt_at a0 a1
      replace p5 := eq_true p5
      replace q5 := eq_true q5
      go_enter Tryd.func19, Tryd.ntmps19
      go_upto_block 0 with (fail)
      go_cut [6, 7, 8] (fun v6 v7 v8 wc => ∃ (kq : Nat) (x6_5 : Int) (x7_5 : Int) (x8_5 : Int), v6 = .int .i64 x6_5 ∧ v7 = .int .i64 x7_5 ∧ v8 = .int .i64 x8_5 ∧ Aside0 (cardexref01_decode.j2 kq a0 a1 x6_5 x7_5 x8_5 = some (r1, r2)) ∧ Aside0 (kq ≤ k) ∧ Drawn0 w wc)
      case first =>
        have H := HC6.out
        clear HC6
        by_cases c7 : (wrap64 (bt a0 a1)) < 128
        · rw [if_pos c7] at H
          have c7b0 : decide ((wrap64 (bt a0 a1)) < 128) = true := decide_eq_true c7
          clear c7
          (first | rw [c7b0] | (simp only [i64_w, i32_w]; rw [c7b0]) | skip)
          have H' := Aside0.mk H
          clear H
          go_wp2
          go_meet
          case rel => exact ⟨_, (wrap64 (bt a0 a1)), (1), (0), (by first | rfl | (simp; done) | (simp [*]; done)), (by first | rfl | (simp; done) | (simp [*]; done)), (by first | rfl | (simp; done) | (simp [*]; done)), H', ⟨by first | omega | exact Nat.le_refl _⟩, by repeat (first | exact Drawn0.refl _ | apply Drawn0.step)⟩
        · rw [if_neg c7] at H
          have c7b0 : decide ((wrap64 (bt a0 a1)) < 128) = false := decide_eq_false c7
          clear c7
          (first | rw [c7b0] | (simp only [i64_w, i32_w]; rw [c7b0]) | skip)
          have HC8 := Aside0.mk H
          clear H
          go_upto_region 5 with (fail)
          go_cut [17] (fun v17 wc => ∃ (kq : Nat) (x17_7 : Bool), v17 = .bool x17_7 ∧ Aside0 (cardexref01_decode.j0 kq a0 a1 (wrap64 (bt a0 a1)) x17_7 = some (r1, r2)) ∧ Aside0 (kq ≤ k) ∧ Drawn0 w wc)
          case first =>
            have H := HC8.out
            clear HC8
            by_cases c9 : (wrap64 (bt a0 a1)) ≥ 192
            · rw [if_pos c9] at H
              have c9b0 : decide (192 ≤ (wrap64 (bt a0 a1))) = true := decide_eq_true c9
              clear c9
              (first | rw [c9b0] | (simp only [i64_w, i32_w]; rw [c9b0]) | skip)
              have H' := Aside0.mk H
              clear H
              go_wp2
              go_meet
              case rel => exact ⟨_, (decide ((wrap64 (bt a0 a1)) < 224)), (by first | rfl | (simp; done) | (simp [*]; done)), H', ⟨by first | omega | exact Nat.le_refl _⟩, by repeat (first | exact Drawn0.refl _ | apply Drawn0.step)⟩
            · rw [if_neg c9] at H
              have c9b0 : decide (192 ≤ (wrap64 (bt a0 a1))) = false := decide_eq_false c9
              clear c9
              (first | rw [c9b0] | (simp only [i64_w, i32_w]; rw [c9b0]) | skip)
              have H' := Aside0.mk H
              clear H
              go_wp2
              go_meet
              case rel => exact ⟨_, (false), (by first | rfl | (simp; done) | (simp [*]; done)), H', ⟨by first | omega | exact Nat.le_refl _⟩, by repeat (first | exact Drawn0.refl _ | apply Drawn0.step)⟩
          case rest =>
            clear HC8
            try clear c1
            try clear p2
            try clear c3
            try clear c3b0
            try clear c4
            try clear c4b0
            try clear p5
            try clear q5
            try clear hx5
            try clear p6
            try clear c7
            try clear c7b0
            try clear c9
            try clear c9b0
            try clear p5
            try clear q5
            obtain ⟨kq, x17_7, rfl, HA, HJ7, ⟨mc7, rfl⟩⟩ := hcut
            cases kq with
            | zero => exact absurd HA.out (by simp [cardexref01_decode.j0])
            | succ kj7 =>
              have H := HA.out
              clear HA
              simp only [cardexref01_decode.j0] at H
              by_cases c10 : x17_7 = true
              · subst c10
                have H1 : (cardexref01_decode.j2 kj7 a0 a1 (Go.bits .and .i64 (wrap64 (bt a0 a1)) 31) 2 128) = some (r1, r2) := by rw [if_pos rfl] at H; exact H
                clear H
                have H := H1
                clear H1
                have H' := Aside0.mk H
                clear H
                go_wp2
                go_meet
                case rel => exact ⟨_, (Go.bits .and .i64 (wrap64 (bt a0 a1)) 31), (2), (128), (by first | rfl | (simp; done) | (simp [*]; done)), (by first | rfl | (simp; done) | (simp [*]; done)), (by first | rfl | (simp; done) | (simp [*]; done)), H', ⟨by have := HJ7.out; first | omega | exact Nat.le_refl _⟩, by repeat (first | exact Drawn0.refl _ | apply Drawn0.step)⟩
              · replace c10 := Bool.eq_false_iff.mpr c10
                subst c10
                have H1 : (if (wrap64 (bt a0 a1)) ≥ 224 then (cardexref01_decode.j1 kj7 a0 a1 (wrap64 (bt a0 a1)) (decide ((wrap64 (bt a0 a1)) < 240))) else (cardexref01_decode.j1 kj7 a0 a1 (wrap64 (bt a0 a1)) false)) = some (r1, r2) := by rw [if_neg (show ¬ (false = true) by decide)] at H; exact H
                clear H
                have H := H1
                clear H1
                have HC11 := Aside0.mk H
                clear H
                go_upto_region 7 with (fail)
                go_cut [26] (fun v26 wc => ∃ (kq : Nat) (x26_10 : Bool), v26 = .bool x26_10 ∧ Aside0 (cardexref01_decode.j1 kq a0 a1 (wrap64 (bt a0 a1)) x26_10 = some (r1, r2)) ∧ Aside0 (kq ≤ kj7) ∧ Drawn0 w wc)
                case first =>
                  have H := HC11.out
                  clear HC11
                  by_cases c12 : (wrap64 (bt a0 a1)) ≥ 224
                  · rw [if_pos c12] at H
                    have c12b0 : decide (224 ≤ (wrap64 (bt a0 a1))) = true := decide_eq_true c12
                    clear c12
                    (first | rw [c12b0] | (simp only [i64_w, i32_w]; rw [c12b0]) | skip)
                    have H' := Aside0.mk H
                    clear H
                    go_wp2
                    go_meet
                    case rel => exact ⟨_, (decide ((wrap64 (bt a0 a1)) < 240)), (by first | rfl | (simp; done) | (simp [*]; done)), H', ⟨by have := HJ7.out; first | omega | exact Nat.le_refl _⟩, by repeat (first | exact Drawn0.refl _ | apply Drawn0.step)⟩
                  · rw [if_neg c12] at H
                    have c12b0 : decide (224 ≤ (wrap64 (bt a0 a1))) = false := decide_eq_false c12
                    clear c12
                    (first | rw [c12b0] | (simp only [i64_w, i32_w]; rw [c12b0]) | skip)
                    have H' := Aside0.mk H
                    clear H
                    go_wp2
                    go_meet
                    case rel => exact ⟨_, (false), (by first | rfl | (simp; done) | (simp [*]; done)), H', ⟨by have := HJ7.out; first | omega | exact Nat.le_refl _⟩, by repeat (first | exact Drawn0.refl _ | apply Drawn0.step)⟩
                case rest =>
                  clear HC11
                  try clear c1
                  try clear p2
                  try clear c3
                  try clear c3b0
                  try clear c4
                  try clear c4b0
                  try clear p5
                  try clear q5
                  try clear hx5
                  try clear p6
                  try clear c7
                  try clear c7b0
                  try clear c9
                  try clear c9b0
                  try clear c10
                  try clear c12
                  try clear c12b0
                  try clear p2
                  try clear p5
                  try clear p6
                  try clear q5
                  obtain ⟨kq, x26_10, rfl, HA, HJ10, ⟨mc10, rfl⟩⟩ := hcut
                  cases kq with
                  | zero => exact absurd HA.out (by simp [cardexref01_decode.j1])
                  | succ kj10 =>
                    have H := HA.out
                    clear HA
                    simp only [cardexref01_decode.j1] at H
                    by_cases c13 : x26_10 = true
                    · subst c13
                      have H1 : (cardexref01_decode.j2 kj10 a0 a1 (Go.bits .and .i64 (wrap64 (bt a0 a1)) 15) 3 2048) = some (r1, r2) := by rw [if_pos rfl] at H; exact H
                      clear H
                      have H := H1
                      clear H1
                      have H' := Aside0.mk H
                      clear H
                      go_wp2
                      go_meet
                      case rel => exact ⟨_, (Go.bits .and .i64 (wrap64 (bt a0 a1)) 15), (3), (2048), (by first | rfl | (simp; done) | (simp [*]; done)), (by first | rfl | (simp; done) | (simp [*]; done)), (by first | rfl | (simp; done) | (simp [*]; done)), H', ⟨by have := HJ7.out; have := HJ10.out; first | omega | exact Nat.le_refl _⟩, by repeat (first | exact Drawn0.refl _ | apply Drawn0.step)⟩
                    · replace c13 := Bool.eq_false_iff.mpr c13
                      subst c13
                      have H1 : (if (wrap64 (bt a0 a1)) ≥ 240 then (if (wrap64 (bt a0 a1)) < 248 then (cardexref01_decode.j2 kj10 a0 a1 (Go.bits .and .i64 (wrap64 (bt a0 a1)) 7) 4 65536) else (some (0, 0))) else (some (0, 0))) = some (r1, r2) := by rw [if_neg (show ¬ (false = true) by decide)] at H; exact H
                      clear H
                      have H := H1
                      clear H1
                      by_cases c14 : (wrap64 (bt a0 a1)) ≥ 240
                      · rw [if_pos c14] at H
                        have c14b0 : decide (240 ≤ (wrap64 (bt a0 a1))) = true := decide_eq_true c14
                        clear c14
                        by_cases c15 : (wrap64 (bt a0 a1)) < 248
                        · rw [if_pos c15] at H
                          have c15b0 : decide ((wrap64 (bt a0 a1)) < 248) = true := decide_eq_true c15
                          clear c15
                          have H' := Aside0.mk H
                          clear H
                          go_wp2
                          go_meet
                          case rel => exact ⟨_, (Go.bits .and .i64 (wrap64 (bt a0 a1)) 7), (4), (65536), (by first | rfl | (simp; done) | (simp [*]; done)), (by first | rfl | (simp; done) | (simp [*]; done)), (by first | rfl | (simp; done) | (simp [*]; done)), H', ⟨by have := HJ7.out; have := HJ10.out; first | omega | exact Nat.le_refl _⟩, by repeat (first | exact Drawn0.refl _ | apply Drawn0.step)⟩
                        · rw [if_neg c15] at H
                          have c15b0 : decide ((wrap64 (bt a0 a1)) < 248) = false := decide_eq_false c15
                          clear c15
                          simp only [Option.some.injEq, Prod.mk.injEq] at H
                          obtain ⟨rfl, rfl⟩ := H
                          go_wp2
                          go_ret2
                          exact ⟨by first | rfl | (simp; done) | (simp [*]; done), by repeat (first | exact Drawn0.refl _ | apply Drawn0.step)⟩
                      · rw [if_neg c14] at H
                        have c14b0 : decide (240 ≤ (wrap64 (bt a0 a1))) = false := decide_eq_false c14
                        clear c14
                        simp only [Option.some.injEq, Prod.mk.injEq] at H
                        obtain ⟨rfl, rfl⟩ := H
                        go_wp2
                        go_ret2
                        exact ⟨by first | rfl | (simp; done) | (simp [*]; done), by repeat (first | exact Drawn0.refl _ | apply Drawn0.step)⟩
      case rest =>
        clear HC6
        try clear c1
        try clear p2
        try clear c3
        try clear c3b0
        try clear c4
        try clear c4b0
        try clear p5
        try clear q5
        try clear hx5
        try clear p6
        try clear c7
        try clear c7b0
        try clear c9
        try clear c9b0
        try clear c10
        try clear c12
        try clear c12b0
        try clear c13
        try clear c14
        try clear c14b0
        try clear c15
        try clear c15b0
        try clear p2
        try clear p5
        try clear p6
        try clear q5
        obtain ⟨kq, x6_5, x7_5, x8_5, rfl, rfl, rfl, HA, HJ5, ⟨mc5, rfl⟩⟩ := hcut
        cases kq with
        | zero => exact absurd HA.out (by simp [cardexref01_decode.j2])
        | succ kj5 =>
          have H := HA.out
          clear HA
          simp only [cardexref01_decode.j2] at H
          by_cases c16 : (wrap64 (a1 + x7_5)) > (a0.size : Int)
          · rw [if_pos c16] at H
            have c16b0 : decide ((a0.size : Int) < (wrap64 (a1 + x7_5))) = true := decide_eq_true c16
            clear c16
            simp only [Option.some.injEq, Prod.mk.injEq] at H
            obtain ⟨rfl, rfl⟩ := H
            go_wp2
            go_ret2
            exact ⟨by first | rfl | (simp; done) | (simp [*]; done), by repeat (first | exact Drawn0.refl _ | apply Drawn0.step)⟩
          · rw [if_neg c16] at H
            have c16b0 : decide ((a0.size : Int) < (wrap64 (a1 + x7_5))) = false := decide_eq_false c16
            clear c16
            have H' := Aside0.mk H
            clear H
            go_wp2
            go_loopg [6, 9] kj5 (fun kq v6 v9 w' => ∃ (x6_2 : Int) (x9_2 : Int), v6 = .int .i64 x6_2 ∧ v9 = .int .i64 x9_2 ∧ Aside0 (cardexref01_decode.l0 kq a0 a1 x6_2 x7_5 x8_5 x9_2 = some (r1, r2)) ∧ Aside0 (kq ≤ kj5) ∧ Drawn0 w w')
            case atStart => exact ⟨(x6_5), (1), (by first | rfl | (simp; done) | (simp [*]; done)), (by first | rfl | (simp; done) | (simp [*]; done)), H', ⟨Nat.le_refl _⟩, by repeat (first | exact Drawn0.refl _ | apply Drawn0.step)⟩
            case round =>
              clear H'
              try clear c1
              try clear p2
              try clear c3
              try clear c3b0
              try clear c4
              try clear c4b0
              try clear c5
              try clear p5
              try clear q5
              try clear hx5
              try clear p6
              try clear c7
              try clear c7b0
              try clear c9
              try clear c9b0
              try clear c10
              try clear c12
              try clear c12b0
              try clear c13
              try clear c14
              try clear c14b0
              try clear c15
              try clear c15b0
              try clear c16
              try clear c16b0
              try clear p2
              try clear p5
              try clear p6
              try clear q5
              obtain ⟨x6_2, x9_2, rfl, rfl, HA, HK2, ⟨m2, rfl⟩⟩ := hrel
              cases gk with
              | zero => exact absurd HA.out (by simp [cardexref01_decode.l0])
              | succ k2 =>
                have H := HA.out
                clear HA
                simp only [cardexref01_decode.l0] at H
                by_cases c17 : x9_2 < x7_5
                · rw [if_pos c17] at H
                  have c17b0 : decide (x9_2 < x7_5) = true := decide_eq_true c17
                  clear c17
                  obtain ⟨ji18, hji18⟩ : ∃ j_ : Int, (wrap64 (a1 + x9_2)) = j_ := ⟨_, rfl⟩
                  replace H : (if 0 ≤ (ji18) then (if (ji18) < (a0.size : Int) then (if (Go.bits .and .u8 (bt a0 (ji18)) 192) = 128 then (cardexref01_decode.l0 k2 a0 a1 (Go.bits .or .i64 (wrap64 (x6_2 * 64)) (wrap64 (Go.bits .and .u8 (bt a0 (ji18)) 63))) x7_5 x8_5 (wrap64 (x9_2 + 1))) else (some (0, 0))) else (none)) else (none)) = some (r1, r2) := by first | (rw [hji18] at H; exact H) | (simp only [hji18] at H ⊢; exact H)
                  have hji18w : (IntKind.i64.wrap (a1 + x9_2)) = ji18 := (i64_w _).trans hji18
                  by_cases c19 : 0 ≤ (ji18)
                  · rw [if_pos c19] at H
                    have c19b0 : decide (0 ≤ (ji18)) = true := decide_eq_true c19
                    clear c19
                    by_cases c20 : (ji18) < (a0.size : Int)
                    · rw [if_pos c20] at H
                      have c20b0 : decide ((ji18) < (a0.size : Int)) = true := decide_eq_true c20
                      clear c20
                      by_cases c22 : (Go.bits .and .u8 (bt a0 (ji18)) 192) = 128
                      · rw [if_pos c22] at H
                        have c22b0 : ((Go.bits .and .u8 (bt a0 (ji18)) 192) == 128) = true := beq_iff_eq.mpr c22
                        have c22b1 : ((Go.bits .and .u8 (bt a0 (ji18)) 192) != 128) = false := bne_eq_false_iff_eq.mpr c22
                        clear c22
                        have H' := Aside0.mk H
                        clear H
                        have p21 : 0 ≤ ((ji18) : Int) := of_decide_eq_true (by first | (with_reducible assumption) | assumption)
                        have q21 : (ji18) < (a0.size : Int) := of_decide_eq_true (by first | (with_reducible assumption) | assumption)
                        have hx21 := bt_at a0 (ji18)
                        replace p21 := eq_true p21
                        replace q21 := eq_true q21
                        have p23 : 0 ≤ ((ji18) : Int) := of_decide_eq_true (by first | (with_reducible assumption) | assumption)
                        have q23 : (ji18) < (a0.size : Int) := of_decide_eq_true (by first | (with_reducible assumption) | assumption)
                        have hx23 := bt_at a0 (ji18)
                        replace p23 := eq_true p23
                        replace q23 := eq_true q23
                        go_wp2
                        go_roundg k2
                        case measure => have := HJ5.out; have := HK2.out; omega
                        case rel => exact ⟨(Go.bits .or .i64 (wrap64 (x6_2 * 64)) (wrap64 (Go.bits .and .u8 (bt a0 (ji18)) 63))), (wrap64 (x9_2 + 1)), (by first | rfl | (simp; done) | (simp only [← hji18] <;> (first | rfl | simp)) | (simp [*]; done)), (by first | rfl | (simp; done) | (simp [*]; done)), H', ⟨by have := HJ5.out; have := HK2.out; omega⟩, by repeat (first | exact Drawn0.refl _ | apply Drawn0.step)⟩
                      · rw [if_neg c22] at H
                        have c22b0 : ((Go.bits .and .u8 (bt a0 (ji18)) 192) == 128) = false := beq_eq_false_iff_ne.mpr c22
                        have c22b1 : ((Go.bits .and .u8 (bt a0 (ji18)) 192) != 128) = true := bne_iff_ne.mpr c22
                        simp only [Option.some.injEq, Prod.mk.injEq] at H
                        obtain ⟨rfl, rfl⟩ := H
                        have p21 : 0 ≤ ((ji18) : Int) := of_decide_eq_true (by first | (with_reducible assumption) | assumption)
                        have q21 : (ji18) < (a0.size : Int) := of_decide_eq_true (by first | (with_reducible assumption) | assumption)
                        have hx21 := bt_at a0 (ji18)
                        replace p21 := eq_true p21
                        replace q21 := eq_true q21
                        go_wp2
                        go_ret2
                        exact ⟨by first | rfl | (simp; done) | (simp only [← hji18] <;> (first | rfl | simp)) | (simp [*]; done), by repeat (first | exact Drawn0.refl _ | apply Drawn0.step)⟩
                    · rw [if_neg c20] at H
                      exact absurd H (by simp)
                  · rw [if_neg c19] at H
                    exact absurd H (by simp)
                · rw [if_neg c17] at H
                  have c17b0 : decide (x9_2 < x7_5) = false := decide_eq_false c17
                  clear c17
                  by_cases c24 : x6_2 < x8_5
                  · rw [if_pos c24] at H
                    have c24b0 : decide (x6_2 < x8_5) = true := decide_eq_true c24
                    clear c24
                    simp only [Option.some.injEq, Prod.mk.injEq] at H
                    obtain ⟨rfl, rfl⟩ := H
                    go_wp2
                    go_ret2
                    exact ⟨by first | rfl | (simp; done) | (simp [*]; done), by repeat (first | exact Drawn0.refl _ | apply Drawn0.step)⟩
                  · rw [if_neg c24] at H
                    have c24b0 : decide (x6_2 < x8_5) = false := decide_eq_false c24
                    clear c24
                    by_cases c25 : x6_2 > 1114111
                    · rw [if_pos c25] at H
                      have c25b0 : decide (1114111 < x6_2) = true := decide_eq_true c25
                      clear c25
                      simp only [Option.some.injEq, Prod.mk.injEq] at H
                      obtain ⟨rfl, rfl⟩ := H
                      go_wp2
                      go_ret2
                      exact ⟨by first | rfl | (simp; done) | (simp [*]; done), by repeat (first | exact Drawn0.refl _ | apply Drawn0.step)⟩
                    · rw [if_neg c25] at H
                      have c25b0 : decide (1114111 < x6_2) = false := decide_eq_false c25
                      clear c25
                      by_cases c26 : x6_2 ≥ 55296
                      · rw [if_pos c26] at H
                        have c26b0 : decide (55296 ≤ x6_2) = true := decide_eq_true c26
                        clear c26
                        by_cases c27 : x6_2 ≤ 57343
                        · rw [if_pos c27] at H
                          have c27b0 : decide (x6_2 ≤ 57343) = true := decide_eq_true c27
                          clear c27
                          simp only [Option.some.injEq, Prod.mk.injEq] at H
                          obtain ⟨rfl, rfl⟩ := H
                          go_wp2
                          go_ret2
                          exact ⟨by first | rfl | (simp; done) | (simp [*]; done), by repeat (first | exact Drawn0.refl _ | apply Drawn0.step)⟩
                        · rw [if_neg c27] at H
                          have c27b0 : decide (x6_2 ≤ 57343) = false := decide_eq_false c27
                          clear c27
                          simp only [Option.some.injEq, Prod.mk.injEq] at H
                          obtain ⟨rfl, rfl⟩ := H
                          go_wp2
                          go_ret2
                          exact ⟨by first | rfl | (simp; done) | (simp [*]; done), by repeat (first | exact Drawn0.refl _ | apply Drawn0.step)⟩
                      · rw [if_neg c26] at H
                        have c26b0 : decide (55296 ≤ x6_2) = false := decide_eq_false c26
                        clear c26
                        simp only [Option.some.injEq, Prod.mk.injEq] at H
                        obtain ⟨rfl, rfl⟩ := H
                        go_wp2
                        go_ret2
                        exact ⟨by first | rfl | (simp; done) | (simp [*]; done), by repeat (first | exact Drawn0.refl _ | apply Drawn0.step)⟩
    · rw [if_neg c4] at H
      exact absurd H (by simp)
  · rw [if_neg c3] at H
    exact absurd H (by simp)

end Go.Proofs.YtfelfpjfjjgmoaaDoor.P
end
/- Lean functions for functions of the program, and that the Go code comes to their answers, where the library's variables are as Gd says. Written by a turned copy of the kit's print; Lean checks it. -/
section
namespace Go.Proofs.YtfelfpjfjjgmoaaDoor.P
open Go.RowKit Go.Proofs.YtfelfpjfjjgmoaaDoorW.PrintWords Go.Proofs.YtfelfpjfjjgmoaaDoorW.PrintLast Go.Proofs.YtfelfpjfjjgmoaaDoorW.PrintMore
attribute [local go_sem] max2_int min2_int max_two min_two max_three min_three max_four min_four   -- for this text's walks alone
set_option linter.unusedVariables false
set_option linter.unusedSimpArgs false

/-! ### cardexref01_Char: function 20 -/
def cardexref01_Char.f (a0 : Int) : Option (Bool) := if a0 = 9 then (some true) else (if a0 = 10 then (some true) else (if a0 = 13 then (some true) else (if a0 ≥ 32 then (if a0 < 55296 then (some true) else (if a0 > 57343 then (if a0 < 65534 then (some true) else (if a0 > 65535 then (some (decide (a0 ≤ 1114111))) else (some false))) else (if a0 > 65535 then (some (decide (a0 ≤ 1114111))) else (some false)))) else (if a0 > 57343 then (if a0 < 65534 then (some true) else (if a0 > 65535 then (some (decide (a0 ≤ 1114111))) else (some false))) else (if a0 > 65535 then (some (decide (a0 ≤ 1114111))) else (some false))))))
set_option maxHeartbeats 8000000 in
set_option maxRecDepth 100000 in
theorem cardexref01_Char.calls (a0 : Int) (r : Bool) (w : World) (hG_ : Gd w) (h : cardexref01_Char.f a0 = some r) :
    Calls Tryd.prog 20 #[.int .i64 a0] w fun e w' => e = .returned (.bool r) ∧ Drawn0 w w' := by
  have HG := Aside0.mk hG_
  clear hG_
  have H : (if a0 = 9 then (some true) else (if a0 = 10 then (some true) else (if a0 = 13 then (some true) else (if a0 ≥ 32 then (if a0 < 55296 then (some true) else (if a0 > 57343 then (if a0 < 65534 then (some true) else (if a0 > 65535 then (some (decide (a0 ≤ 1114111))) else (some false))) else (if a0 > 65535 then (some (decide (a0 ≤ 1114111))) else (some false)))) else (if a0 > 57343 then (if a0 < 65534 then (some true) else (if a0 > 65535 then (some (decide (a0 ≤ 1114111))) else (some false))) else (if a0 > 65535 then (some (decide (a0 ≤ 1114111))) else (some false))))))) = some r := h
  clear h
  by_cases c2 : a0 = 9
  · rw [if_pos c2] at H
    have c2b0 : (a0 == 9) = true := beq_iff_eq.mpr c2
    have c2b1 : (a0 != 9) = false := bne_eq_false_iff_eq.mpr c2
    clear c2
    obtain rfl := Option.some.inj H
    go_enter Tryd.func20, Tryd.ntmps20
    go_wp2
    go_ret
    exact ⟨by first | rfl | (simp; done) | (simp [*]; done), by repeat (first | exact Drawn0.refl _ | apply Drawn0.step)⟩
  · rw [if_neg c2] at H
    have c2b0 : (a0 == 9) = false := beq_eq_false_iff_ne.mpr c2
    have c2b1 : (a0 != 9) = true := bne_iff_ne.mpr c2
    by_cases c3 : a0 = 10
    · rw [if_pos c3] at H
      have c3b0 : (a0 == 10) = true := beq_iff_eq.mpr c3
      have c3b1 : (a0 != 10) = false := bne_eq_false_iff_eq.mpr c3
      clear c3
      obtain rfl := Option.some.inj H
      go_enter Tryd.func20, Tryd.ntmps20
      go_wp2
      go_ret
      exact ⟨by first | rfl | (simp; done) | (simp [*]; done), by repeat (first | exact Drawn0.refl _ | apply Drawn0.step)⟩
    · rw [if_neg c3] at H
      have c3b0 : (a0 == 10) = false := beq_eq_false_iff_ne.mpr c3
      have c3b1 : (a0 != 10) = true := bne_iff_ne.mpr c3
      by_cases c4 : a0 = 13
      · rw [if_pos c4] at H
        have c4b0 : (a0 == 13) = true := beq_iff_eq.mpr c4
        have c4b1 : (a0 != 13) = false := bne_eq_false_iff_eq.mpr c4
        clear c4
        obtain rfl := Option.some.inj H
        go_enter Tryd.func20, Tryd.ntmps20
        go_wp2
        go_ret
        exact ⟨by first | rfl | (simp; done) | (simp [*]; done), by repeat (first | exact Drawn0.refl _ | apply Drawn0.step)⟩
      · rw [if_neg c4] at H
        have c4b0 : (a0 == 13) = false := beq_eq_false_iff_ne.mpr c4
        have c4b1 : (a0 != 13) = true := bne_iff_ne.mpr c4
        by_cases c5 : a0 ≥ 32
        · rw [if_pos c5] at H
          have c5b0 : decide (32 ≤ a0) = true := decide_eq_true c5
          clear c5
          by_cases c6 : a0 < 55296
          · rw [if_pos c6] at H
            have c6b0 : decide (a0 < 55296) = true := decide_eq_true c6
            clear c6
            obtain rfl := Option.some.inj H
            go_enter Tryd.func20, Tryd.ntmps20
            go_wp2
            go_ret
            exact ⟨by first | rfl | (simp; done) | (simp [*]; done), by repeat (first | exact Drawn0.refl _ | apply Drawn0.step)⟩
          · rw [if_neg c6] at H
            have c6b0 : decide (a0 < 55296) = false := decide_eq_false c6
            clear c6
            by_cases c7 : a0 > 57343
            · rw [if_pos c7] at H
              have c7b0 : decide (57343 < a0) = true := decide_eq_true c7
              clear c7
              by_cases c8 : a0 < 65534
              · rw [if_pos c8] at H
                have c8b0 : decide (a0 < 65534) = true := decide_eq_true c8
                clear c8
                obtain rfl := Option.some.inj H
                go_enter Tryd.func20, Tryd.ntmps20
                go_wp2
                go_ret
                exact ⟨by first | rfl | (simp; done) | (simp [*]; done), by repeat (first | exact Drawn0.refl _ | apply Drawn0.step)⟩
              · rw [if_neg c8] at H
                have c8b0 : decide (a0 < 65534) = false := decide_eq_false c8
                clear c8
                by_cases c9 : a0 > 65535
                · rw [if_pos c9] at H
                  have c9b0 : decide (65535 < a0) = true := decide_eq_true c9
                  clear c9
                  obtain rfl := Option.some.inj H
                  go_enter Tryd.func20, Tryd.ntmps20
                  go_wp2
                  go_ret
                  exact ⟨by first | rfl | (simp; done) | (simp [*]; done), by repeat (first | exact Drawn0.refl _ | apply Drawn0.step)⟩
                · rw [if_neg c9] at H
                  have c9b0 : decide (65535 < a0) = false := decide_eq_false c9
                  clear c9
                  obtain rfl := Option.some.inj H
                  go_enter Tryd.func20, Tryd.ntmps20
                  go_wp2
                  go_ret
                  exact ⟨by first | rfl | (simp; done) | (simp [*]; done), by repeat (first | exact Drawn0.refl _ | apply Drawn0.step)⟩
            · rw [if_neg c7] at H
              have c7b0 : decide (57343 < a0) = false := decide_eq_false c7
              clear c7
              by_cases c10 : a0 > 65535
              · rw [if_pos c10] at H
                have c10b0 : decide (65535 < a0) = true := decide_eq_true c10
                clear c10
                obtain rfl := Option.some.inj H
                go_enter Tryd.func20, Tryd.ntmps20
                go_wp2
                go_ret
                exact ⟨by first | rfl | (simp; done) | (simp [*]; done), by repeat (first | exact Drawn0.refl _ | apply Drawn0.step)⟩
              · rw [if_neg c10] at H
                have c10b0 : decide (65535 < a0) = false := decide_eq_false c10
                clear c10
                obtain rfl := Option.some.inj H
                go_enter Tryd.func20, Tryd.ntmps20
                go_wp2
                go_ret
                exact ⟨by first | rfl | (simp; done) | (simp [*]; done), by repeat (first | exact Drawn0.refl _ | apply Drawn0.step)⟩
        · rw [if_neg c5] at H
          have c5b0 : decide (32 ≤ a0) = false := decide_eq_false c5
          clear c5
          by_cases c11 : a0 > 57343
          · rw [if_pos c11] at H
            have c11b0 : decide (57343 < a0) = true := decide_eq_true c11
            clear c11
            by_cases c12 : a0 < 65534
            · rw [if_pos c12] at H
              have c12b0 : decide (a0 < 65534) = true := decide_eq_true c12
              clear c12
              obtain rfl := Option.some.inj H
              go_enter Tryd.func20, Tryd.ntmps20
              go_wp2
              go_ret
              exact ⟨by first | rfl | (simp; done) | (simp [*]; done), by repeat (first | exact Drawn0.refl _ | apply Drawn0.step)⟩
            · rw [if_neg c12] at H
              have c12b0 : decide (a0 < 65534) = false := decide_eq_false c12
              clear c12
              by_cases c13 : a0 > 65535
              · rw [if_pos c13] at H
                have c13b0 : decide (65535 < a0) = true := decide_eq_true c13
                clear c13
                obtain rfl := Option.some.inj H
                go_enter Tryd.func20, Tryd.ntmps20
                go_wp2
                go_ret
                exact ⟨by first | rfl | (simp; done) | (simp [*]; done), by repeat (first | exact Drawn0.refl _ | apply Drawn0.step)⟩
              · rw [if_neg c13] at H
                have c13b0 : decide (65535 < a0) = false := decide_eq_false c13
                clear c13
                obtain rfl := Option.some.inj H
                go_enter Tryd.func20, Tryd.ntmps20
                go_wp2
                go_ret
                exact ⟨by first | rfl | (simp; done) | (simp [*]; done), by repeat (first | exact Drawn0.refl _ | apply Drawn0.step)⟩
          · rw [if_neg c11] at H
            have c11b0 : decide (57343 < a0) = false := decide_eq_false c11
            clear c11
            by_cases c14 : a0 > 65535
            · rw [if_pos c14] at H
              have c14b0 : decide (65535 < a0) = true := decide_eq_true c14
              clear c14
              obtain rfl := Option.some.inj H
              go_enter Tryd.func20, Tryd.ntmps20
              go_wp2
              go_ret
              exact ⟨by first | rfl | (simp; done) | (simp [*]; done), by repeat (first | exact Drawn0.refl _ | apply Drawn0.step)⟩
            · rw [if_neg c14] at H
              have c14b0 : decide (65535 < a0) = false := decide_eq_false c14
              clear c14
              obtain rfl := Option.some.inj H
              go_enter Tryd.func20, Tryd.ntmps20
              go_wp2
              go_ret
              exact ⟨by first | rfl | (simp; done) | (simp [*]; done), by repeat (first | exact Drawn0.refl _ | apply Drawn0.step)⟩

end Go.Proofs.YtfelfpjfjjgmoaaDoor.P
end
/- Lean functions for functions of the program, and that the Go code comes to their answers, where the library's variables are as Gd says. Written by a turned copy of the kit's print; Lean checks it. -/
section
namespace Go.Proofs.YtfelfpjfjjgmoaaDoor.P
open Go.RowKit Go.Proofs.YtfelfpjfjjgmoaaDoorW.PrintWords Go.Proofs.YtfelfpjfjjgmoaaDoorW.PrintLast Go.Proofs.YtfelfpjfjjgmoaaDoorW.PrintMore
attribute [local go_sem] max2_int min2_int max_two min_two max_three min_three max_four min_four   -- for this text's walks alone
set_option linter.unusedVariables false
set_option linter.unusedSimpArgs false

/-! ### cardexref01_Next: function 13 -/
def cardexref01_Next.f (k : Nat) (a0 : ByteArray) (a1 : Int) : Option (Int × Int) := (cardexref01_decode.f k a0 a1).bind fun bt325 => (if bt325.2 = 0 then (some (0, 0)) else ((cardexref01_Char.f bt325.1).bind fun t327 => (if t327 = true then (some (bt325.1, bt325.2)) else (some (0, 0)))))
theorem cardexref01_Next.mono : ∀ a0 a1 k, LeO (cardexref01_Next.f k a0 a1) (cardexref01_Next.f (k + 1) a0 a1) := by
  intro a0 a1 k
  unfold cardexref01_Next.f
  repeat' first
      | (with_reducible exact cardexref01_decode.mono _ _ _)
      | (with_reducible exact LeO.refl _)
      | (with_reducible exact LeO.none _)
      | (with_reducible refine LeO.ite ?_ ?_)
      | (with_reducible refine LeO.bind ?_ (fun _ => ?_))
      | exact cardexref01_decode.mono _ _ _
      | exact LeO.none _
      | refine LeO.ite ?_ ?_
      | refine LeO.bind ?_ (fun _ => ?_)
set_option maxHeartbeats 8000000 in
set_option maxRecDepth 100000 in
theorem cardexref01_Next.calls (k : Nat) (a0 : ByteArray) (a1 : Int) (r1 : Int) (r2 : Int) (w : World) (hG_ : Gd w) (h : cardexref01_Next.f k a0 a1 = some (r1, r2)) :
    Calls Tryd.prog 13 #[.string a0, .int .i64 a1] w fun e w' => e = .returned (.tuple #[.int .i64 r1, .int .i64 r2]) ∧ Drawn0 w w' := by
  have HG := Aside0.mk hG_
  clear hG_
  have H : ((cardexref01_decode.f k a0 a1).bind fun bt325 => (if bt325.2 = 0 then (some (0, 0)) else ((cardexref01_Char.f bt325.1).bind fun t327 => (if t327 = true then (some (bt325.1, bt325.2)) else (some (0, 0)))))) = some (r1, r2) := h
  clear h
  replace H := Option.bind_eq_some_iff.mp H
  obtain ⟨⟨t325, t326⟩, A30, H⟩ := H
  replace H : (if t326 = 0 then (some (0, 0)) else ((cardexref01_Char.f t325).bind fun t327 => (if t327 = true then (some (t325, t326)) else (some (0, 0))))) = some (r1, r2) := H
  have A3 := Aside0.mk A30
  clear A30
  by_cases c4 : t326 = 0
  · rw [if_pos c4] at H
    have c4b0 : (t326 == 0) = true := beq_iff_eq.mpr c4
    have c4b1 : (t326 != 0) = false := bne_eq_false_iff_eq.mpr c4
    clear c4
    simp only [Option.some.injEq, Prod.mk.injEq] at H
    obtain ⟨rfl, rfl⟩ := H
    go_enter Tryd.func13, Tryd.ntmps13
    go_wp2_with (first | ((with_reducible refine gate_callee (f := 19) rfl ?_); refine goesL_ (some 11) rfl rfl Tryd.func19 (by kernel_rfl) rfl #[.string a0, .int .i64 a1] rfl (by (try simp only [List.map_toArray, List.map_cons, List.map_nil]); first | done | rfl | (simp only [List.length_drop, List.length_take]; rfl)) ?_; (with_reducible refine (cardexref01_decode.calls k a0 a1 t325 t326 _ ?side1 A3.out).mono ?_); (case side1 => first | exact HG.out | exact Gd.drewN HG.out _ | exact Gd.drew HG.out); rintro e w' ⟨rfl, ⟨nd, rfl⟩⟩; refine ⟨_, rfl, ?_⟩))
    go_ret2
    exact ⟨by first | rfl | (simp; done) | (simp [*]; done), by repeat (first | exact Drawn0.refl _ | apply Drawn0.step)⟩
  · rw [if_neg c4] at H
    have c4b0 : (t326 == 0) = false := beq_eq_false_iff_ne.mpr c4
    have c4b1 : (t326 != 0) = true := bne_iff_ne.mpr c4
    replace H := Option.bind_eq_some_iff.mp H
    obtain ⟨t327, A50, H⟩ := H
    replace H : (if t327 = true then (some (t325, t326)) else (some (0, 0))) = some (r1, r2) := H
    have A5 := Aside0.mk A50
    clear A50
    by_cases c6 : t327 = true
    · subst c6
      have H1 : (some (t325, t326)) = some (r1, r2) := by rw [if_pos rfl] at H; exact H
      clear H
      have H := H1
      clear H1
      simp only [Option.some.injEq, Prod.mk.injEq] at H
      obtain ⟨rfl, rfl⟩ := H
      go_enter Tryd.func13, Tryd.ntmps13
      go_wp2_with (first | ((with_reducible refine gate_callee (f := 19) rfl ?_); refine goesL_ (some 11) rfl rfl Tryd.func19 (by kernel_rfl) rfl #[.string a0, .int .i64 a1] rfl (by (try simp only [List.map_toArray, List.map_cons, List.map_nil]); first | done | rfl | (simp only [List.length_drop, List.length_take]; rfl)) ?_; (with_reducible refine (cardexref01_decode.calls k a0 a1 t325 t326 _ ?side1 A3.out).mono ?_); (case side1 => first | exact HG.out | exact Gd.drewN HG.out _ | exact Gd.drew HG.out); rintro e w' ⟨rfl, ⟨nd, rfl⟩⟩; refine ⟨_, rfl, ?_⟩) | (go_at_call 20; (with_reducible refine (cardexref01_Char.calls t325 true _ ?side1 A5.out).mono ?_); (case side1 => first | exact HG.out | exact Gd.drewN HG.out _ | exact Gd.drew HG.out); rintro e w' ⟨rfl, ⟨nd, rfl⟩⟩))
      go_ret2
      exact ⟨by first | rfl | (simp; done) | (simp [*]; done), by repeat (first | exact Drawn0.refl _ | apply Drawn0.step)⟩
    · replace c6 := Bool.eq_false_iff.mpr c6
      subst c6
      have H1 : (some (0, 0)) = some (r1, r2) := by rw [if_neg (show ¬ (false = true) by decide)] at H; exact H
      clear H
      have H := H1
      clear H1
      simp only [Option.some.injEq, Prod.mk.injEq] at H
      obtain ⟨rfl, rfl⟩ := H
      go_enter Tryd.func13, Tryd.ntmps13
      go_wp2_with (first | ((with_reducible refine gate_callee (f := 19) rfl ?_); refine goesL_ (some 11) rfl rfl Tryd.func19 (by kernel_rfl) rfl #[.string a0, .int .i64 a1] rfl (by (try simp only [List.map_toArray, List.map_cons, List.map_nil]); first | done | rfl | (simp only [List.length_drop, List.length_take]; rfl)) ?_; (with_reducible refine (cardexref01_decode.calls k a0 a1 t325 t326 _ ?side1 A3.out).mono ?_); (case side1 => first | exact HG.out | exact Gd.drewN HG.out _ | exact Gd.drew HG.out); rintro e w' ⟨rfl, ⟨nd, rfl⟩⟩; refine ⟨_, rfl, ?_⟩) | (go_at_call 20; (with_reducible refine (cardexref01_Char.calls t325 false _ ?side1 A5.out).mono ?_); (case side1 => first | exact HG.out | exact Gd.drewN HG.out _ | exact Gd.drew HG.out); rintro e w' ⟨rfl, ⟨nd, rfl⟩⟩))
      go_ret2
      exact ⟨by first | rfl | (simp; done) | (simp [*]; done), by repeat (first | exact Drawn0.refl _ | apply Drawn0.step)⟩

end Go.Proofs.YtfelfpjfjjgmoaaDoor.P
end
/- Lean functions for functions of the program, and that the Go code comes to their answers, where the library's variables are as Gd says. Written by a turned copy of the kit's print; Lean checks it. -/
section
namespace Go.Proofs.YtfelfpjfjjgmoaaDoor.P
open Go.RowKit Go.Proofs.YtfelfpjfjjgmoaaDoorW.PrintWords Go.Proofs.YtfelfpjfjjgmoaaDoorW.PrintLast Go.Proofs.YtfelfpjfjjgmoaaDoorW.PrintMore
attribute [local go_sem] max2_int min2_int max_two min_two max_three min_three max_four min_four   -- for this text's walks alone
set_option linter.unusedVariables false
set_option linter.unusedSimpArgs false

/-! ### cardexref01_Valid: function 7 -/
def cardexref01_Valid.l0 : Nat → ByteArray → Int → Option (Bool)
  | 0, _, _ => none
  | k + 1, x0, x3 => if x3 < (x0.size : Int) then ((cardexref01_Next.f k x0 x3).bind fun bt328 => (if bt328.2 = 0 then (some false) else (cardexref01_Valid.l0 k x0 (wrap64 (x3 + bt328.2))))) else (some true)
def cardexref01_Valid.f (k : Nat) (a0 : ByteArray) : Option (Bool) := cardexref01_Valid.l0 k a0 0
theorem cardexref01_Valid.mono_l : ∀ k, (∀ y0 y1, LeO (cardexref01_Valid.l0 k y0 y1) (cardexref01_Valid.l0 (k + 1) y0 y1))
  | 0 => fun _ _ r h => by simp [cardexref01_Valid.l0] at h
  | k + 1 => by
    have ih0 := cardexref01_Valid.mono_l k
    · intro y0 y1
      unfold cardexref01_Valid.l0
      repeat' first
      | (with_reducible exact ih0 _ _)
      | (with_reducible exact cardexref01_Next.mono _ _ _)
      | (with_reducible exact LeO.refl _)
      | (with_reducible exact LeO.none _)
      | (with_reducible refine LeO.ite ?_ ?_)
      | (with_reducible refine LeO.bind ?_ (fun _ => ?_))
      | exact ih0 _ _
      | exact cardexref01_Next.mono _ _ _
      | exact LeO.none _
      | refine LeO.ite ?_ ?_
      | refine LeO.bind ?_ (fun _ => ?_)
theorem cardexref01_Valid.mono : ∀ a0 k, LeO (cardexref01_Valid.f k a0) (cardexref01_Valid.f (k + 1) a0) := by
  intro a0 k
  have ih0 := cardexref01_Valid.mono_l k
  unfold cardexref01_Valid.f
  repeat' first
      | (with_reducible exact ih0 _ _)
      | (with_reducible exact cardexref01_Next.mono _ _ _)
      | (with_reducible exact LeO.refl _)
      | (with_reducible exact LeO.none _)
      | (with_reducible refine LeO.ite ?_ ?_)
      | (with_reducible refine LeO.bind ?_ (fun _ => ?_))
      | exact ih0 _ _
      | exact cardexref01_Next.mono _ _ _
      | exact LeO.none _
      | refine LeO.ite ?_ ?_
      | refine LeO.bind ?_ (fun _ => ?_)
set_option maxHeartbeats 8000000 in
set_option maxRecDepth 100000 in
theorem cardexref01_Valid.calls (k : Nat) (a0 : ByteArray) (r : Bool) (w : World) (hG_ : Gd w) (h : cardexref01_Valid.f k a0 = some r) :
    Calls Tryd.prog 7 #[.string a0] w fun e w' => e = .returned (.bool r) ∧ Drawn0 w w' := by
  have HG := Aside0.mk hG_
  clear hG_
  have H : (cardexref01_Valid.l0 k a0 0) = some r := h
  clear h
  have H' := Aside0.mk H
  clear H
  go_enter Tryd.func7, Tryd.ntmps7
  go_wp2
  go_loopg [3] k (fun kq v3 w' => ∃ (x3_1 : Int), v3 = .int .i64 x3_1 ∧ Aside0 (cardexref01_Valid.l0 kq a0 x3_1 = some r) ∧ Aside0 (kq ≤ k) ∧ Drawn0 w w')
  case atStart => exact ⟨(0), (by first | rfl | (simp; done) | (simp [*]; done)), H', ⟨Nat.le_refl _⟩, by repeat (first | exact Drawn0.refl _ | apply Drawn0.step)⟩
  case round =>
    clear H'
    obtain ⟨x3_1, rfl, HA, HK1, ⟨m1, rfl⟩⟩ := hrel
    cases gk with
    | zero => exact absurd HA.out (by simp [cardexref01_Valid.l0])
    | succ k1 =>
      have H := HA.out
      clear HA
      simp only [cardexref01_Valid.l0] at H
      by_cases c2 : x3_1 < (a0.size : Int)
      · rw [if_pos c2] at H
        have c2b0 : decide (x3_1 < (a0.size : Int)) = true := decide_eq_true c2
        clear c2
        replace H := Option.bind_eq_some_iff.mp H
        obtain ⟨⟨t328, t329⟩, A30, H⟩ := H
        replace H : (if t329 = 0 then (some false) else (cardexref01_Valid.l0 k1 a0 (wrap64 (x3_1 + t329)))) = some r := H
        have A3 := Aside0.mk A30
        clear A30
        by_cases c4 : t329 = 0
        · rw [if_pos c4] at H
          have c4b0 : (t329 == 0) = true := beq_iff_eq.mpr c4
          have c4b1 : (t329 != 0) = false := bne_eq_false_iff_eq.mpr c4
          clear c4
          obtain rfl := Option.some.inj H
          go_wp2_with (first | ((with_reducible refine gate_callee (f := 13) rfl ?_); refine goesL_ (some 13) rfl rfl Tryd.func13 (by kernel_rfl) rfl #[.string a0, .int .i64 x3_1] rfl (by (try simp only [List.map_toArray, List.map_cons, List.map_nil]); first | done | rfl | (simp only [List.length_drop, List.length_take]; rfl)) ?_; (with_reducible refine (cardexref01_Next.calls k1 a0 x3_1 t328 t329 _ ?side1 A3.out).mono ?_); (case side1 => first | exact HG.out | exact Gd.drewN HG.out _ | exact Gd.drew HG.out); rintro e w' ⟨rfl, ⟨nd, rfl⟩⟩; refine ⟨_, rfl, ?_⟩))
          go_ret
          exact ⟨by first | rfl | (simp; done) | (simp [*]; done), by repeat (first | exact Drawn0.refl _ | apply Drawn0.step)⟩
        · rw [if_neg c4] at H
          have c4b0 : (t329 == 0) = false := beq_eq_false_iff_ne.mpr c4
          have c4b1 : (t329 != 0) = true := bne_iff_ne.mpr c4
          have H' := Aside0.mk H
          clear H
          go_wp2_with (first | ((with_reducible refine gate_callee (f := 13) rfl ?_); refine goesL_ (some 13) rfl rfl Tryd.func13 (by kernel_rfl) rfl #[.string a0, .int .i64 x3_1] rfl (by (try simp only [List.map_toArray, List.map_cons, List.map_nil]); first | done | rfl | (simp only [List.length_drop, List.length_take]; rfl)) ?_; (with_reducible refine (cardexref01_Next.calls k1 a0 x3_1 t328 t329 _ ?side1 A3.out).mono ?_); (case side1 => first | exact HG.out | exact Gd.drewN HG.out _ | exact Gd.drew HG.out); rintro e w' ⟨rfl, ⟨nd, rfl⟩⟩; refine ⟨_, rfl, ?_⟩))
          go_roundg k1
          case measure => have := HK1.out; omega
          case rel => exact ⟨(wrap64 (x3_1 + t329)), (by first | rfl | (simp; done) | (simp [*]; done)), H', ⟨by have := HK1.out; omega⟩, by repeat (first | exact Drawn0.refl _ | apply Drawn0.step)⟩
      · rw [if_neg c2] at H
        have c2b0 : decide (x3_1 < (a0.size : Int)) = false := decide_eq_false c2
        clear c2
        obtain rfl := Option.some.inj H
        go_wp2
        go_ret
        exact ⟨by first | rfl | (simp; done) | (simp [*]; done), by repeat (first | exact Drawn0.refl _ | apply Drawn0.step)⟩

end Go.Proofs.YtfelfpjfjjgmoaaDoor.P
end
/- Lean functions for functions of the program, and that the Go code comes to their answers, where the library's variables are as Gd says. Written by a turned copy of the kit's print; Lean checks it. -/
section
namespace Go.Proofs.YtfelfpjfjjgmoaaDoor.P
open Go.RowKit Go.Proofs.YtfelfpjfjjgmoaaDoorW.PrintWords Go.Proofs.YtfelfpjfjjgmoaaDoorW.PrintLast Go.Proofs.YtfelfpjfjjgmoaaDoorW.PrintMore
attribute [local go_sem] max2_int min2_int max_two min_two max_three min_three max_four min_four   -- for this text's walks alone
set_option linter.unusedVariables false
set_option linter.unusedSimpArgs false

/-! ### cardexlaw08_awake: function 8 -/
def cardexlaw08_awake.f  : Option (Bool) := (G_Tokens.f (⟨#[60, 97, 62, 120, 60, 47, 97, 62]⟩ : ByteArray)).bind fun bt266 => ((G_Tokens.f (⟨#[60, 97, 62, 60]⟩ : ByteArray)).bind fun bt271 => (if bt266.2.2 = 0 then (if bt266.2.1 = 0 then (if (bt266.1.length : Int) = 3 then (if 1 < (bt266.1.length : Int) then (if ((rd_T33 bt266.1 1).f3).toList = ([120] : List UInt8) then (if ((rd_T33 bt266.1 1).f1) = 3 then (if bt271.2.2 = 5 then (some (bt271.2.1 == 3)) else (some false)) else (some false)) else (some false)) else (none)) else (some false)) else (some false)) else (some false)))
set_option maxHeartbeats 8000000 in
set_option maxRecDepth 100000 in
theorem cardexlaw08_awake.calls  (r : Bool) (w : World) (hG_ : Gd w) (h : cardexlaw08_awake.f  = some r) :
    Calls Tryd.prog 8 #[] w fun e w' => e = .returned (.bool r) ∧ Below w.heap.size w w' := by
  have HB := Aside0.mk (Below.refl w.heap.size w)
  have HG := Aside0.mk hG_
  clear hG_
  have H : ((G_Tokens.f (⟨#[60, 97, 62, 120, 60, 47, 97, 62]⟩ : ByteArray)).bind fun bt266 => ((G_Tokens.f (⟨#[60, 97, 62, 60]⟩ : ByteArray)).bind fun bt271 => (if bt266.2.2 = 0 then (if bt266.2.1 = 0 then (if (bt266.1.length : Int) = 3 then (if 1 < (bt266.1.length : Int) then (if ((rd_T33 bt266.1 1).f3).toList = ([120] : List UInt8) then (if ((rd_T33 bt266.1 1).f1) = 3 then (if bt271.2.2 = 5 then (some (bt271.2.1 == 3)) else (some false)) else (some false)) else (some false)) else (none)) else (some false)) else (some false)) else (some false)))) = some r := h
  clear h
  replace H := Option.bind_eq_some_iff.mp H
  obtain ⟨⟨t266, t267, t268⟩, A10, H⟩ := H
  replace H : ((G_Tokens.f (⟨#[60, 97, 62, 60]⟩ : ByteArray)).bind fun bt271 => (if t268 = 0 then (if t267 = 0 then (if (t266.length : Int) = 3 then (if 1 < (t266.length : Int) then (if ((rd_T33 t266 1).f3).toList = ([120] : List UInt8) then (if ((rd_T33 t266 1).f1) = 3 then (if bt271.2.2 = 5 then (some (bt271.2.1 == 3)) else (some false)) else (some false)) else (some false)) else (none)) else (some false)) else (some false)) else (some false))) = some r := H
  have A1 := Aside0.mk A10
  clear A10
  replace H := Option.bind_eq_some_iff.mp H
  obtain ⟨⟨t271, t272, t273⟩, A20, H⟩ := H
  replace H : (if t268 = 0 then (if t267 = 0 then (if (t266.length : Int) = 3 then (if 1 < (t266.length : Int) then (if ((rd_T33 t266 1).f3).toList = ([120] : List UInt8) then (if ((rd_T33 t266 1).f1) = 3 then (if t273 = 5 then (some (t272 == 3)) else (some false)) else (some false)) else (some false)) else (none)) else (some false)) else (some false)) else (some false)) = some r := H
  have A2 := Aside0.mk A20
  clear A20
  by_cases c3 : t268 = 0
  · rw [if_pos c3] at H
    have c3b0 : (t268 == 0) = true := beq_iff_eq.mpr c3
    have c3b1 : (t268 != 0) = false := bne_eq_false_iff_eq.mpr c3
    clear c3
    by_cases c4 : t267 = 0
    · rw [if_pos c4] at H
      have c4b0 : (t267 == 0) = true := beq_iff_eq.mpr c4
      have c4b1 : (t267 != 0) = false := bne_eq_false_iff_eq.mpr c4
      clear c4
      by_cases c5 : (t266.length : Int) = 3
      · rw [if_pos c5] at H
        have c5b0 : ((t266.length : Int) == 3) = true := beq_iff_eq.mpr c5
        have c5b1 : ((t266.length : Int) != 3) = false := bne_eq_false_iff_eq.mpr c5
        clear c5
        by_cases c6 : 1 < (t266.length : Int)
        · rw [if_pos c6] at H
          have c6b0 : decide (1 < (t266.length : Int)) = true := decide_eq_true c6
          have c6b1 : decide (1 < t266.length) = true := decide_eq_true (by omega)
          clear c6
          by_cases c7 : ((rd_T33 t266 1).f3).toList = ([120] : List UInt8)
          · rw [if_pos c7] at H
            have c7b0 : (((rd_T33 t266 1).f3).toList == ([120] : List UInt8)) = true := beq_iff_eq.mpr c7
            have c7b1 : (((rd_T33 t266 1).f3).toList != ([120] : List UInt8)) = false := bne_eq_false_iff_eq.mpr c7
            clear c7
            by_cases c8 : ((rd_T33 t266 1).f1) = 3
            · rw [if_pos c8] at H
              have c8b0 : (((rd_T33 t266 1).f1) == 3) = true := beq_iff_eq.mpr c8
              have c8b1 : (((rd_T33 t266 1).f1) != 3) = false := bne_eq_false_iff_eq.mpr c8
              clear c8
              by_cases c9 : t273 = 5
              · rw [if_pos c9] at H
                have c9b0 : (t273 == 5) = true := beq_iff_eq.mpr c9
                have c9b1 : (t273 != 5) = false := bne_eq_false_iff_eq.mpr c9
                clear c9
                obtain rfl := Option.some.inj H
                go_enter Tryd.func8, Tryd.ntmps8
                go_wp2_with (first | ((with_reducible refine gate_callee (f := 10) rfl ?_); refine goesL_ (some 8) rfl rfl Tryd.func10 (by kernel_rfl) rfl #[.string (⟨#[60, 97, 62, 120, 60, 47, 97, 62]⟩ : ByteArray)] rfl (by (try simp only [List.map_toArray, List.map_cons, List.map_nil]); first | done | rfl | (simp only [List.length_drop, List.length_take]; rfl)) ?_; (with_reducible refine (G_Tokens.calls (⟨#[60, 97, 62, 120, 60, 47, 97, 62]⟩ : ByteArray) t266 t267 t268 _ ?side1 A1.out).mono ?_); (case side1 => first | exact HG.out | exact Gd.drewN HG.out _ | exact Gd.drew HG.out | exact Gd.below HG.out (by repeat (first | (with_reducible first | exact HB.out | apply below_alloc | apply pw_below_drewN | apply below_drew1) | exact HB.out))); rintro e w10 ⟨v269, rfl, ho0, hb⟩; refine ⟨_, rfl, ?_⟩; have n0_ := Aside0.mk (Kd.S_lower ho0 (below_size (by repeat (first | (with_reducible first | exact HB.out | apply below_alloc | apply pw_below_drewN | apply below_drew1) | exact HB.out)))); have n1_ := Aside0.mk (below_step (by repeat (first | (with_reducible first | exact HB.out | apply below_alloc | apply pw_below_drewN | apply below_drew1) | exact HB.out)) hb); clear HB; have HO270 := n0_; have HB := n1_; clear n0_ n1_; (try clear hb); (try clear hb2); (try clear hk); (try clear hi); (try clear ho0)) | ((with_reducible refine gate_callee (f := 10) rfl ?_); refine goesL_ (some 13) rfl rfl Tryd.func10 (by kernel_rfl) rfl #[.string (⟨#[60, 97, 62, 60]⟩ : ByteArray)] rfl (by (try simp only [List.map_toArray, List.map_cons, List.map_nil]); first | done | rfl | (simp only [List.length_drop, List.length_take]; rfl)) ?_; (with_reducible refine (G_Tokens.calls (⟨#[60, 97, 62, 60]⟩ : ByteArray) t271 t272 t273 _ ?side1 A2.out).mono ?_); (case side1 => first | exact HG.out | exact Gd.drewN HG.out _ | exact Gd.drew HG.out | exact Gd.below HG.out (by repeat (first | (with_reducible first | exact HB.out | apply below_alloc | apply pw_below_drewN | apply below_drew1) | exact HB.out))); rintro e w11 ⟨v274, rfl, ho0, hb⟩; refine ⟨_, rfl, ?_⟩; have n0_ := Aside0.mk (Kd.S_elder' (by (with_reducible repeat (first | apply Kd.S_alloc | apply Kd.S_drewN | apply Kd.S_drew)); exact HO270.out) (Kd.S_base ho0) hb); have n1_ := Aside0.mk (Kd.S_lower (Kd.S_new' ho0 (Kd.S_lt (by (with_reducible repeat (first | apply Kd.S_alloc | apply Kd.S_drewN | apply Kd.S_drew)); exact HO270.out))) (below_size (by repeat (first | (with_reducible first | exact HB.out | apply below_alloc | apply pw_below_drewN | apply below_drew1) | exact HB.out)))); have n2_ := Aside0.mk (below_step (by repeat (first | (with_reducible first | exact HB.out | apply below_alloc | apply pw_below_drewN | apply below_drew1) | exact HB.out)) hb); clear HO270; clear HB; have HO270 := n0_; have HO275 := n1_; have HB := n2_; clear n0_ n1_ n2_; (try clear hb); (try clear hb2); (try clear hk); (try clear hi); (try clear ho0); obtain ⟨Ao12, co12, eo12⟩ := Kd.S_slice HO270.out; subst eo12; have p276 : 0 ≤ (1 : Int) := (by omega); have q276 : 1 < (t266.length : Int) := of_decide_eq_true (by first | (with_reducible assumption) | assumption); obtain ⟨ad276, A276_4, c276_4, e276, hx276_0, hx276_1, hx276_2, hx276_3, hx276_4, hx276_5, hl276_4, hi276_4⟩ := at_T33 (Kd.S_reads' HO270.out).2.2 1 p276 q276; cases e276; obtain ⟨ce276, hce276, hMe276, hcc276⟩ := Kd.S_get HO270.out z33 1 p276 (by first | exact q276 | exact of_decide_eq_true (by first | (with_reducible assumption) | assumption) | (have e_ := (Kd.S_reads' HO270.out).1; omega)); obtain ⟨ve276_4, rfl, ge276_4⟩ := k33_openM hMe276; have hv276_4 := hcc276 4 _ rfl; rw [add_field _ _ 4 (by omega)] at hv276_4; replace hv276_4 := Option.some.inj (hv276_4.symm.trans hx276_4); rw [hv276_4] at ge276_4; have HL276_4 := Aside0.mk (show Kd.R k35 35 _ _ _ _ ((rd_T33 t266 1).f4) from ge276_4); clear hv276_4 ge276_4; clear hcc276 hce276; (try simp only [show (1 : Int).toNat = 1 from rfl, Nat.reduceMul, Nat.reduceEqDiff, Go.Addr.add, ↓reduceIte] at hx276_0); (try simp only [show (1 : Int).toNat = 1 from rfl, Nat.reduceMul, Nat.reduceEqDiff, Go.Addr.add, ↓reduceIte] at hx276_1); (try simp only [show (1 : Int).toNat = 1 from rfl, Nat.reduceMul, Nat.reduceEqDiff, Go.Addr.add, ↓reduceIte] at hx276_2); (try simp only [show (1 : Int).toNat = 1 from rfl, Nat.reduceMul, Nat.reduceEqDiff, Go.Addr.add, ↓reduceIte] at hx276_3); (try simp only [show (1 : Int).toNat = 1 from rfl, Nat.reduceMul, Nat.reduceEqDiff, Go.Addr.add, ↓reduceIte] at hx276_4); (try simp only [show (1 : Int).toNat = 1 from rfl, Nat.reduceMul, Nat.reduceEqDiff, Go.Addr.add, ↓reduceIte] at hx276_5); have qi276 : (1 < t266.length) = True := eq_true (by omega); (try rw [show ((1 : Int)).toNat = 1 from rfl] at hx276_0); (try rw [show 1 * 6 = 6 from rfl] at hx276_0); (try rw [show ((1 : Int)).toNat = 1 from rfl] at hx276_1); (try rw [show 1 * 6 = 6 from rfl] at hx276_1); (try rw [show ((1 : Int)).toNat = 1 from rfl] at hx276_2); (try rw [show 1 * 6 = 6 from rfl] at hx276_2); (try rw [show ((1 : Int)).toNat = 1 from rfl] at hx276_3); (try rw [show 1 * 6 = 6 from rfl] at hx276_3); (try rw [show ((1 : Int)).toNat = 1 from rfl] at hx276_4); (try rw [show 1 * 6 = 6 from rfl] at hx276_4); (try rw [show ((1 : Int)).toNat = 1 from rfl] at hx276_5); (try rw [show 1 * 6 = 6 from rfl] at hx276_5); have HR276_4 := Aside0.mk hi276_4; have HC276_4 := Aside0.mk hl276_4; clear hi276_4 hl276_4; replace p276 := eq_true p276; replace q276 := eq_true q276; have p277 : 0 ≤ (1 : Int) := (by omega); have q277 : 1 < (t266.length : Int) := of_decide_eq_true (by first | (with_reducible assumption) | assumption); obtain ⟨ad277, A277_4, c277_4, e277, hx277_0, hx277_1, hx277_2, hx277_3, hx277_4, hx277_5, hl277_4, hi277_4⟩ := at_T33 (Kd.S_reads' HO270.out).2.2 1 p277 q277; obtain rfl : ad276 = ad277 := (by injection e277); obtain ⟨ce277, hce277, hMe277, hcc277⟩ := Kd.S_get HO270.out z33 1 p277 (by first | exact q277 | exact of_decide_eq_true (by first | (with_reducible assumption) | assumption) | (have e_ := (Kd.S_reads' HO270.out).1; omega)); obtain ⟨ve277_4, rfl, ge277_4⟩ := k33_openM hMe277; have hv277_4 := hcc277 4 _ rfl; rw [add_field _ _ 4 (by omega)] at hv277_4; replace hv277_4 := Option.some.inj (hv277_4.symm.trans hx277_4); rw [hv277_4] at ge277_4; have HL277_4 := Aside0.mk (show Kd.R k35 35 _ _ _ _ ((rd_T33 t266 1).f4) from ge277_4); clear hv277_4 ge277_4; clear hcc277 hce277; (try simp only [show (1 : Int).toNat = 1 from rfl, Nat.reduceMul, Nat.reduceEqDiff, Go.Addr.add, ↓reduceIte] at hx277_0); (try simp only [show (1 : Int).toNat = 1 from rfl, Nat.reduceMul, Nat.reduceEqDiff, Go.Addr.add, ↓reduceIte] at hx277_1); (try simp only [show (1 : Int).toNat = 1 from rfl, Nat.reduceMul, Nat.reduceEqDiff, Go.Addr.add, ↓reduceIte] at hx277_2); (try simp only [show (1 : Int).toNat = 1 from rfl, Nat.reduceMul, Nat.reduceEqDiff, Go.Addr.add, ↓reduceIte] at hx277_3); (try simp only [show (1 : Int).toNat = 1 from rfl, Nat.reduceMul, Nat.reduceEqDiff, Go.Addr.add, ↓reduceIte] at hx277_4); (try simp only [show (1 : Int).toNat = 1 from rfl, Nat.reduceMul, Nat.reduceEqDiff, Go.Addr.add, ↓reduceIte] at hx277_5); have qi277 : (1 < t266.length) = True := eq_true (by omega); (try rw [show ((1 : Int)).toNat = 1 from rfl] at hx277_0); (try rw [show 1 * 6 = 6 from rfl] at hx277_0); (try rw [show ((1 : Int)).toNat = 1 from rfl] at hx277_1); (try rw [show 1 * 6 = 6 from rfl] at hx277_1); (try rw [show ((1 : Int)).toNat = 1 from rfl] at hx277_2); (try rw [show 1 * 6 = 6 from rfl] at hx277_2); (try rw [show ((1 : Int)).toNat = 1 from rfl] at hx277_3); (try rw [show 1 * 6 = 6 from rfl] at hx277_3); (try rw [show ((1 : Int)).toNat = 1 from rfl] at hx277_4); (try rw [show 1 * 6 = 6 from rfl] at hx277_4); (try rw [show ((1 : Int)).toNat = 1 from rfl] at hx277_5); (try rw [show 1 * 6 = 6 from rfl] at hx277_5); have HR277_4 := Aside0.mk hi277_4; have HC277_4 := Aside0.mk hl277_4; clear hi277_4 hl277_4; replace p277 := eq_true p277; replace q277 := eq_true q277; have ea_ := Option.some.inj (hx276_4.symm.trans hx277_4); injection ea_ with ea_ en_ ec_; subst ea_; subst ec_; clear en_))
                go_ret
                exact ⟨by first | rfl | (simp [errW_none, errW_some] <;> rfl) | (simp [*, errW_none, errW_some] <;> rfl), by repeat (first | (with_reducible first | exact HB.out | apply below_alloc | apply pw_below_drewN | apply below_drew1) | exact HB.out)⟩
              · rw [if_neg c9] at H
                have c9b0 : (t273 == 5) = false := beq_eq_false_iff_ne.mpr c9
                have c9b1 : (t273 != 5) = true := bne_iff_ne.mpr c9
                obtain rfl := Option.some.inj H
                go_enter Tryd.func8, Tryd.ntmps8
                go_wp2_with (first | ((with_reducible refine gate_callee (f := 10) rfl ?_); refine goesL_ (some 8) rfl rfl Tryd.func10 (by kernel_rfl) rfl #[.string (⟨#[60, 97, 62, 120, 60, 47, 97, 62]⟩ : ByteArray)] rfl (by (try simp only [List.map_toArray, List.map_cons, List.map_nil]); first | done | rfl | (simp only [List.length_drop, List.length_take]; rfl)) ?_; (with_reducible refine (G_Tokens.calls (⟨#[60, 97, 62, 120, 60, 47, 97, 62]⟩ : ByteArray) t266 t267 t268 _ ?side1 A1.out).mono ?_); (case side1 => first | exact HG.out | exact Gd.drewN HG.out _ | exact Gd.drew HG.out | exact Gd.below HG.out (by repeat (first | (with_reducible first | exact HB.out | apply below_alloc | apply pw_below_drewN | apply below_drew1) | exact HB.out))); rintro e w13 ⟨v269, rfl, ho0, hb⟩; refine ⟨_, rfl, ?_⟩; have n0_ := Aside0.mk (Kd.S_lower ho0 (below_size (by repeat (first | (with_reducible first | exact HB.out | apply below_alloc | apply pw_below_drewN | apply below_drew1) | exact HB.out)))); have n1_ := Aside0.mk (below_step (by repeat (first | (with_reducible first | exact HB.out | apply below_alloc | apply pw_below_drewN | apply below_drew1) | exact HB.out)) hb); clear HB; have HO270 := n0_; have HB := n1_; clear n0_ n1_; (try clear hb); (try clear hb2); (try clear hk); (try clear hi); (try clear ho0)) | ((with_reducible refine gate_callee (f := 10) rfl ?_); refine goesL_ (some 13) rfl rfl Tryd.func10 (by kernel_rfl) rfl #[.string (⟨#[60, 97, 62, 60]⟩ : ByteArray)] rfl (by (try simp only [List.map_toArray, List.map_cons, List.map_nil]); first | done | rfl | (simp only [List.length_drop, List.length_take]; rfl)) ?_; (with_reducible refine (G_Tokens.calls (⟨#[60, 97, 62, 60]⟩ : ByteArray) t271 t272 t273 _ ?side1 A2.out).mono ?_); (case side1 => first | exact HG.out | exact Gd.drewN HG.out _ | exact Gd.drew HG.out | exact Gd.below HG.out (by repeat (first | (with_reducible first | exact HB.out | apply below_alloc | apply pw_below_drewN | apply below_drew1) | exact HB.out))); rintro e w14 ⟨v274, rfl, ho0, hb⟩; refine ⟨_, rfl, ?_⟩; have n0_ := Aside0.mk (Kd.S_elder' (by (with_reducible repeat (first | apply Kd.S_alloc | apply Kd.S_drewN | apply Kd.S_drew)); exact HO270.out) (Kd.S_base ho0) hb); have n1_ := Aside0.mk (Kd.S_lower (Kd.S_new' ho0 (Kd.S_lt (by (with_reducible repeat (first | apply Kd.S_alloc | apply Kd.S_drewN | apply Kd.S_drew)); exact HO270.out))) (below_size (by repeat (first | (with_reducible first | exact HB.out | apply below_alloc | apply pw_below_drewN | apply below_drew1) | exact HB.out)))); have n2_ := Aside0.mk (below_step (by repeat (first | (with_reducible first | exact HB.out | apply below_alloc | apply pw_below_drewN | apply below_drew1) | exact HB.out)) hb); clear HO270; clear HB; have HO270 := n0_; have HO275 := n1_; have HB := n2_; clear n0_ n1_ n2_; (try clear hb); (try clear hb2); (try clear hk); (try clear hi); (try clear ho0); obtain ⟨Ao15, co15, eo15⟩ := Kd.S_slice HO270.out; subst eo15; have p276 : 0 ≤ (1 : Int) := (by omega); have q276 : 1 < (t266.length : Int) := of_decide_eq_true (by first | (with_reducible assumption) | assumption); obtain ⟨ad276, A276_4, c276_4, e276, hx276_0, hx276_1, hx276_2, hx276_3, hx276_4, hx276_5, hl276_4, hi276_4⟩ := at_T33 (Kd.S_reads' HO270.out).2.2 1 p276 q276; cases e276; obtain ⟨ce276, hce276, hMe276, hcc276⟩ := Kd.S_get HO270.out z33 1 p276 (by first | exact q276 | exact of_decide_eq_true (by first | (with_reducible assumption) | assumption) | (have e_ := (Kd.S_reads' HO270.out).1; omega)); obtain ⟨ve276_4, rfl, ge276_4⟩ := k33_openM hMe276; have hv276_4 := hcc276 4 _ rfl; rw [add_field _ _ 4 (by omega)] at hv276_4; replace hv276_4 := Option.some.inj (hv276_4.symm.trans hx276_4); rw [hv276_4] at ge276_4; have HL276_4 := Aside0.mk (show Kd.R k35 35 _ _ _ _ ((rd_T33 t266 1).f4) from ge276_4); clear hv276_4 ge276_4; clear hcc276 hce276; (try simp only [show (1 : Int).toNat = 1 from rfl, Nat.reduceMul, Nat.reduceEqDiff, Go.Addr.add, ↓reduceIte] at hx276_0); (try simp only [show (1 : Int).toNat = 1 from rfl, Nat.reduceMul, Nat.reduceEqDiff, Go.Addr.add, ↓reduceIte] at hx276_1); (try simp only [show (1 : Int).toNat = 1 from rfl, Nat.reduceMul, Nat.reduceEqDiff, Go.Addr.add, ↓reduceIte] at hx276_2); (try simp only [show (1 : Int).toNat = 1 from rfl, Nat.reduceMul, Nat.reduceEqDiff, Go.Addr.add, ↓reduceIte] at hx276_3); (try simp only [show (1 : Int).toNat = 1 from rfl, Nat.reduceMul, Nat.reduceEqDiff, Go.Addr.add, ↓reduceIte] at hx276_4); (try simp only [show (1 : Int).toNat = 1 from rfl, Nat.reduceMul, Nat.reduceEqDiff, Go.Addr.add, ↓reduceIte] at hx276_5); have qi276 : (1 < t266.length) = True := eq_true (by omega); (try rw [show ((1 : Int)).toNat = 1 from rfl] at hx276_0); (try rw [show 1 * 6 = 6 from rfl] at hx276_0); (try rw [show ((1 : Int)).toNat = 1 from rfl] at hx276_1); (try rw [show 1 * 6 = 6 from rfl] at hx276_1); (try rw [show ((1 : Int)).toNat = 1 from rfl] at hx276_2); (try rw [show 1 * 6 = 6 from rfl] at hx276_2); (try rw [show ((1 : Int)).toNat = 1 from rfl] at hx276_3); (try rw [show 1 * 6 = 6 from rfl] at hx276_3); (try rw [show ((1 : Int)).toNat = 1 from rfl] at hx276_4); (try rw [show 1 * 6 = 6 from rfl] at hx276_4); (try rw [show ((1 : Int)).toNat = 1 from rfl] at hx276_5); (try rw [show 1 * 6 = 6 from rfl] at hx276_5); have HR276_4 := Aside0.mk hi276_4; have HC276_4 := Aside0.mk hl276_4; clear hi276_4 hl276_4; replace p276 := eq_true p276; replace q276 := eq_true q276; have p277 : 0 ≤ (1 : Int) := (by omega); have q277 : 1 < (t266.length : Int) := of_decide_eq_true (by first | (with_reducible assumption) | assumption); obtain ⟨ad277, A277_4, c277_4, e277, hx277_0, hx277_1, hx277_2, hx277_3, hx277_4, hx277_5, hl277_4, hi277_4⟩ := at_T33 (Kd.S_reads' HO270.out).2.2 1 p277 q277; obtain rfl : ad276 = ad277 := (by injection e277); obtain ⟨ce277, hce277, hMe277, hcc277⟩ := Kd.S_get HO270.out z33 1 p277 (by first | exact q277 | exact of_decide_eq_true (by first | (with_reducible assumption) | assumption) | (have e_ := (Kd.S_reads' HO270.out).1; omega)); obtain ⟨ve277_4, rfl, ge277_4⟩ := k33_openM hMe277; have hv277_4 := hcc277 4 _ rfl; rw [add_field _ _ 4 (by omega)] at hv277_4; replace hv277_4 := Option.some.inj (hv277_4.symm.trans hx277_4); rw [hv277_4] at ge277_4; have HL277_4 := Aside0.mk (show Kd.R k35 35 _ _ _ _ ((rd_T33 t266 1).f4) from ge277_4); clear hv277_4 ge277_4; clear hcc277 hce277; (try simp only [show (1 : Int).toNat = 1 from rfl, Nat.reduceMul, Nat.reduceEqDiff, Go.Addr.add, ↓reduceIte] at hx277_0); (try simp only [show (1 : Int).toNat = 1 from rfl, Nat.reduceMul, Nat.reduceEqDiff, Go.Addr.add, ↓reduceIte] at hx277_1); (try simp only [show (1 : Int).toNat = 1 from rfl, Nat.reduceMul, Nat.reduceEqDiff, Go.Addr.add, ↓reduceIte] at hx277_2); (try simp only [show (1 : Int).toNat = 1 from rfl, Nat.reduceMul, Nat.reduceEqDiff, Go.Addr.add, ↓reduceIte] at hx277_3); (try simp only [show (1 : Int).toNat = 1 from rfl, Nat.reduceMul, Nat.reduceEqDiff, Go.Addr.add, ↓reduceIte] at hx277_4); (try simp only [show (1 : Int).toNat = 1 from rfl, Nat.reduceMul, Nat.reduceEqDiff, Go.Addr.add, ↓reduceIte] at hx277_5); have qi277 : (1 < t266.length) = True := eq_true (by omega); (try rw [show ((1 : Int)).toNat = 1 from rfl] at hx277_0); (try rw [show 1 * 6 = 6 from rfl] at hx277_0); (try rw [show ((1 : Int)).toNat = 1 from rfl] at hx277_1); (try rw [show 1 * 6 = 6 from rfl] at hx277_1); (try rw [show ((1 : Int)).toNat = 1 from rfl] at hx277_2); (try rw [show 1 * 6 = 6 from rfl] at hx277_2); (try rw [show ((1 : Int)).toNat = 1 from rfl] at hx277_3); (try rw [show 1 * 6 = 6 from rfl] at hx277_3); (try rw [show ((1 : Int)).toNat = 1 from rfl] at hx277_4); (try rw [show 1 * 6 = 6 from rfl] at hx277_4); (try rw [show ((1 : Int)).toNat = 1 from rfl] at hx277_5); (try rw [show 1 * 6 = 6 from rfl] at hx277_5); have HR277_4 := Aside0.mk hi277_4; have HC277_4 := Aside0.mk hl277_4; clear hi277_4 hl277_4; replace p277 := eq_true p277; replace q277 := eq_true q277; have ea_ := Option.some.inj (hx276_4.symm.trans hx277_4); injection ea_ with ea_ en_ ec_; subst ea_; subst ec_; clear en_))
                go_ret
                exact ⟨by first | rfl | (simp [errW_none, errW_some] <;> rfl) | (simp [*, errW_none, errW_some] <;> rfl), by repeat (first | (with_reducible first | exact HB.out | apply below_alloc | apply pw_below_drewN | apply below_drew1) | exact HB.out)⟩
            · rw [if_neg c8] at H
              have c8b0 : (((rd_T33 t266 1).f1) == 3) = false := beq_eq_false_iff_ne.mpr c8
              have c8b1 : (((rd_T33 t266 1).f1) != 3) = true := bne_iff_ne.mpr c8
              obtain rfl := Option.some.inj H
              go_enter Tryd.func8, Tryd.ntmps8
              go_wp2_with (first | ((with_reducible refine gate_callee (f := 10) rfl ?_); refine goesL_ (some 8) rfl rfl Tryd.func10 (by kernel_rfl) rfl #[.string (⟨#[60, 97, 62, 120, 60, 47, 97, 62]⟩ : ByteArray)] rfl (by (try simp only [List.map_toArray, List.map_cons, List.map_nil]); first | done | rfl | (simp only [List.length_drop, List.length_take]; rfl)) ?_; (with_reducible refine (G_Tokens.calls (⟨#[60, 97, 62, 120, 60, 47, 97, 62]⟩ : ByteArray) t266 t267 t268 _ ?side1 A1.out).mono ?_); (case side1 => first | exact HG.out | exact Gd.drewN HG.out _ | exact Gd.drew HG.out | exact Gd.below HG.out (by repeat (first | (with_reducible first | exact HB.out | apply below_alloc | apply pw_below_drewN | apply below_drew1) | exact HB.out))); rintro e w16 ⟨v269, rfl, ho0, hb⟩; refine ⟨_, rfl, ?_⟩; have n0_ := Aside0.mk (Kd.S_lower ho0 (below_size (by repeat (first | (with_reducible first | exact HB.out | apply below_alloc | apply pw_below_drewN | apply below_drew1) | exact HB.out)))); have n1_ := Aside0.mk (below_step (by repeat (first | (with_reducible first | exact HB.out | apply below_alloc | apply pw_below_drewN | apply below_drew1) | exact HB.out)) hb); clear HB; have HO270 := n0_; have HB := n1_; clear n0_ n1_; (try clear hb); (try clear hb2); (try clear hk); (try clear hi); (try clear ho0)) | ((with_reducible refine gate_callee (f := 10) rfl ?_); refine goesL_ (some 13) rfl rfl Tryd.func10 (by kernel_rfl) rfl #[.string (⟨#[60, 97, 62, 60]⟩ : ByteArray)] rfl (by (try simp only [List.map_toArray, List.map_cons, List.map_nil]); first | done | rfl | (simp only [List.length_drop, List.length_take]; rfl)) ?_; (with_reducible refine (G_Tokens.calls (⟨#[60, 97, 62, 60]⟩ : ByteArray) t271 t272 t273 _ ?side1 A2.out).mono ?_); (case side1 => first | exact HG.out | exact Gd.drewN HG.out _ | exact Gd.drew HG.out | exact Gd.below HG.out (by repeat (first | (with_reducible first | exact HB.out | apply below_alloc | apply pw_below_drewN | apply below_drew1) | exact HB.out))); rintro e w17 ⟨v274, rfl, ho0, hb⟩; refine ⟨_, rfl, ?_⟩; have n0_ := Aside0.mk (Kd.S_elder' (by (with_reducible repeat (first | apply Kd.S_alloc | apply Kd.S_drewN | apply Kd.S_drew)); exact HO270.out) (Kd.S_base ho0) hb); have n1_ := Aside0.mk (Kd.S_lower (Kd.S_new' ho0 (Kd.S_lt (by (with_reducible repeat (first | apply Kd.S_alloc | apply Kd.S_drewN | apply Kd.S_drew)); exact HO270.out))) (below_size (by repeat (first | (with_reducible first | exact HB.out | apply below_alloc | apply pw_below_drewN | apply below_drew1) | exact HB.out)))); have n2_ := Aside0.mk (below_step (by repeat (first | (with_reducible first | exact HB.out | apply below_alloc | apply pw_below_drewN | apply below_drew1) | exact HB.out)) hb); clear HO270; clear HB; have HO270 := n0_; have HO275 := n1_; have HB := n2_; clear n0_ n1_ n2_; (try clear hb); (try clear hb2); (try clear hk); (try clear hi); (try clear ho0); obtain ⟨Ao18, co18, eo18⟩ := Kd.S_slice HO270.out; subst eo18; have p276 : 0 ≤ (1 : Int) := (by omega); have q276 : 1 < (t266.length : Int) := of_decide_eq_true (by first | (with_reducible assumption) | assumption); obtain ⟨ad276, A276_4, c276_4, e276, hx276_0, hx276_1, hx276_2, hx276_3, hx276_4, hx276_5, hl276_4, hi276_4⟩ := at_T33 (Kd.S_reads' HO270.out).2.2 1 p276 q276; cases e276; obtain ⟨ce276, hce276, hMe276, hcc276⟩ := Kd.S_get HO270.out z33 1 p276 (by first | exact q276 | exact of_decide_eq_true (by first | (with_reducible assumption) | assumption) | (have e_ := (Kd.S_reads' HO270.out).1; omega)); obtain ⟨ve276_4, rfl, ge276_4⟩ := k33_openM hMe276; have hv276_4 := hcc276 4 _ rfl; rw [add_field _ _ 4 (by omega)] at hv276_4; replace hv276_4 := Option.some.inj (hv276_4.symm.trans hx276_4); rw [hv276_4] at ge276_4; have HL276_4 := Aside0.mk (show Kd.R k35 35 _ _ _ _ ((rd_T33 t266 1).f4) from ge276_4); clear hv276_4 ge276_4; clear hcc276 hce276; (try simp only [show (1 : Int).toNat = 1 from rfl, Nat.reduceMul, Nat.reduceEqDiff, Go.Addr.add, ↓reduceIte] at hx276_0); (try simp only [show (1 : Int).toNat = 1 from rfl, Nat.reduceMul, Nat.reduceEqDiff, Go.Addr.add, ↓reduceIte] at hx276_1); (try simp only [show (1 : Int).toNat = 1 from rfl, Nat.reduceMul, Nat.reduceEqDiff, Go.Addr.add, ↓reduceIte] at hx276_2); (try simp only [show (1 : Int).toNat = 1 from rfl, Nat.reduceMul, Nat.reduceEqDiff, Go.Addr.add, ↓reduceIte] at hx276_3); (try simp only [show (1 : Int).toNat = 1 from rfl, Nat.reduceMul, Nat.reduceEqDiff, Go.Addr.add, ↓reduceIte] at hx276_4); (try simp only [show (1 : Int).toNat = 1 from rfl, Nat.reduceMul, Nat.reduceEqDiff, Go.Addr.add, ↓reduceIte] at hx276_5); have qi276 : (1 < t266.length) = True := eq_true (by omega); (try rw [show ((1 : Int)).toNat = 1 from rfl] at hx276_0); (try rw [show 1 * 6 = 6 from rfl] at hx276_0); (try rw [show ((1 : Int)).toNat = 1 from rfl] at hx276_1); (try rw [show 1 * 6 = 6 from rfl] at hx276_1); (try rw [show ((1 : Int)).toNat = 1 from rfl] at hx276_2); (try rw [show 1 * 6 = 6 from rfl] at hx276_2); (try rw [show ((1 : Int)).toNat = 1 from rfl] at hx276_3); (try rw [show 1 * 6 = 6 from rfl] at hx276_3); (try rw [show ((1 : Int)).toNat = 1 from rfl] at hx276_4); (try rw [show 1 * 6 = 6 from rfl] at hx276_4); (try rw [show ((1 : Int)).toNat = 1 from rfl] at hx276_5); (try rw [show 1 * 6 = 6 from rfl] at hx276_5); have HR276_4 := Aside0.mk hi276_4; have HC276_4 := Aside0.mk hl276_4; clear hi276_4 hl276_4; replace p276 := eq_true p276; replace q276 := eq_true q276; have p277 : 0 ≤ (1 : Int) := (by omega); have q277 : 1 < (t266.length : Int) := of_decide_eq_true (by first | (with_reducible assumption) | assumption); obtain ⟨ad277, A277_4, c277_4, e277, hx277_0, hx277_1, hx277_2, hx277_3, hx277_4, hx277_5, hl277_4, hi277_4⟩ := at_T33 (Kd.S_reads' HO270.out).2.2 1 p277 q277; obtain rfl : ad276 = ad277 := (by injection e277); obtain ⟨ce277, hce277, hMe277, hcc277⟩ := Kd.S_get HO270.out z33 1 p277 (by first | exact q277 | exact of_decide_eq_true (by first | (with_reducible assumption) | assumption) | (have e_ := (Kd.S_reads' HO270.out).1; omega)); obtain ⟨ve277_4, rfl, ge277_4⟩ := k33_openM hMe277; have hv277_4 := hcc277 4 _ rfl; rw [add_field _ _ 4 (by omega)] at hv277_4; replace hv277_4 := Option.some.inj (hv277_4.symm.trans hx277_4); rw [hv277_4] at ge277_4; have HL277_4 := Aside0.mk (show Kd.R k35 35 _ _ _ _ ((rd_T33 t266 1).f4) from ge277_4); clear hv277_4 ge277_4; clear hcc277 hce277; (try simp only [show (1 : Int).toNat = 1 from rfl, Nat.reduceMul, Nat.reduceEqDiff, Go.Addr.add, ↓reduceIte] at hx277_0); (try simp only [show (1 : Int).toNat = 1 from rfl, Nat.reduceMul, Nat.reduceEqDiff, Go.Addr.add, ↓reduceIte] at hx277_1); (try simp only [show (1 : Int).toNat = 1 from rfl, Nat.reduceMul, Nat.reduceEqDiff, Go.Addr.add, ↓reduceIte] at hx277_2); (try simp only [show (1 : Int).toNat = 1 from rfl, Nat.reduceMul, Nat.reduceEqDiff, Go.Addr.add, ↓reduceIte] at hx277_3); (try simp only [show (1 : Int).toNat = 1 from rfl, Nat.reduceMul, Nat.reduceEqDiff, Go.Addr.add, ↓reduceIte] at hx277_4); (try simp only [show (1 : Int).toNat = 1 from rfl, Nat.reduceMul, Nat.reduceEqDiff, Go.Addr.add, ↓reduceIte] at hx277_5); have qi277 : (1 < t266.length) = True := eq_true (by omega); (try rw [show ((1 : Int)).toNat = 1 from rfl] at hx277_0); (try rw [show 1 * 6 = 6 from rfl] at hx277_0); (try rw [show ((1 : Int)).toNat = 1 from rfl] at hx277_1); (try rw [show 1 * 6 = 6 from rfl] at hx277_1); (try rw [show ((1 : Int)).toNat = 1 from rfl] at hx277_2); (try rw [show 1 * 6 = 6 from rfl] at hx277_2); (try rw [show ((1 : Int)).toNat = 1 from rfl] at hx277_3); (try rw [show 1 * 6 = 6 from rfl] at hx277_3); (try rw [show ((1 : Int)).toNat = 1 from rfl] at hx277_4); (try rw [show 1 * 6 = 6 from rfl] at hx277_4); (try rw [show ((1 : Int)).toNat = 1 from rfl] at hx277_5); (try rw [show 1 * 6 = 6 from rfl] at hx277_5); have HR277_4 := Aside0.mk hi277_4; have HC277_4 := Aside0.mk hl277_4; clear hi277_4 hl277_4; replace p277 := eq_true p277; replace q277 := eq_true q277; have ea_ := Option.some.inj (hx276_4.symm.trans hx277_4); injection ea_ with ea_ en_ ec_; subst ea_; subst ec_; clear en_))
              go_ret
              exact ⟨by first | rfl | (simp [errW_none, errW_some] <;> rfl) | (simp [*, errW_none, errW_some] <;> rfl), by repeat (first | (with_reducible first | exact HB.out | apply below_alloc | apply pw_below_drewN | apply below_drew1) | exact HB.out)⟩
          · rw [if_neg c7] at H
            have c7b0 : (((rd_T33 t266 1).f3).toList == ([120] : List UInt8)) = false := beq_eq_false_iff_ne.mpr c7
            have c7b1 : (((rd_T33 t266 1).f3).toList != ([120] : List UInt8)) = true := bne_iff_ne.mpr c7
            obtain rfl := Option.some.inj H
            go_enter Tryd.func8, Tryd.ntmps8
            go_wp2_with (first | ((with_reducible refine gate_callee (f := 10) rfl ?_); refine goesL_ (some 8) rfl rfl Tryd.func10 (by kernel_rfl) rfl #[.string (⟨#[60, 97, 62, 120, 60, 47, 97, 62]⟩ : ByteArray)] rfl (by (try simp only [List.map_toArray, List.map_cons, List.map_nil]); first | done | rfl | (simp only [List.length_drop, List.length_take]; rfl)) ?_; (with_reducible refine (G_Tokens.calls (⟨#[60, 97, 62, 120, 60, 47, 97, 62]⟩ : ByteArray) t266 t267 t268 _ ?side1 A1.out).mono ?_); (case side1 => first | exact HG.out | exact Gd.drewN HG.out _ | exact Gd.drew HG.out | exact Gd.below HG.out (by repeat (first | (with_reducible first | exact HB.out | apply below_alloc | apply pw_below_drewN | apply below_drew1) | exact HB.out))); rintro e w19 ⟨v269, rfl, ho0, hb⟩; refine ⟨_, rfl, ?_⟩; have n0_ := Aside0.mk (Kd.S_lower ho0 (below_size (by repeat (first | (with_reducible first | exact HB.out | apply below_alloc | apply pw_below_drewN | apply below_drew1) | exact HB.out)))); have n1_ := Aside0.mk (below_step (by repeat (first | (with_reducible first | exact HB.out | apply below_alloc | apply pw_below_drewN | apply below_drew1) | exact HB.out)) hb); clear HB; have HO270 := n0_; have HB := n1_; clear n0_ n1_; (try clear hb); (try clear hb2); (try clear hk); (try clear hi); (try clear ho0)) | ((with_reducible refine gate_callee (f := 10) rfl ?_); refine goesL_ (some 13) rfl rfl Tryd.func10 (by kernel_rfl) rfl #[.string (⟨#[60, 97, 62, 60]⟩ : ByteArray)] rfl (by (try simp only [List.map_toArray, List.map_cons, List.map_nil]); first | done | rfl | (simp only [List.length_drop, List.length_take]; rfl)) ?_; (with_reducible refine (G_Tokens.calls (⟨#[60, 97, 62, 60]⟩ : ByteArray) t271 t272 t273 _ ?side1 A2.out).mono ?_); (case side1 => first | exact HG.out | exact Gd.drewN HG.out _ | exact Gd.drew HG.out | exact Gd.below HG.out (by repeat (first | (with_reducible first | exact HB.out | apply below_alloc | apply pw_below_drewN | apply below_drew1) | exact HB.out))); rintro e w20 ⟨v274, rfl, ho0, hb⟩; refine ⟨_, rfl, ?_⟩; have n0_ := Aside0.mk (Kd.S_elder' (by (with_reducible repeat (first | apply Kd.S_alloc | apply Kd.S_drewN | apply Kd.S_drew)); exact HO270.out) (Kd.S_base ho0) hb); have n1_ := Aside0.mk (Kd.S_lower (Kd.S_new' ho0 (Kd.S_lt (by (with_reducible repeat (first | apply Kd.S_alloc | apply Kd.S_drewN | apply Kd.S_drew)); exact HO270.out))) (below_size (by repeat (first | (with_reducible first | exact HB.out | apply below_alloc | apply pw_below_drewN | apply below_drew1) | exact HB.out)))); have n2_ := Aside0.mk (below_step (by repeat (first | (with_reducible first | exact HB.out | apply below_alloc | apply pw_below_drewN | apply below_drew1) | exact HB.out)) hb); clear HO270; clear HB; have HO270 := n0_; have HO275 := n1_; have HB := n2_; clear n0_ n1_ n2_; (try clear hb); (try clear hb2); (try clear hk); (try clear hi); (try clear ho0); obtain ⟨Ao21, co21, eo21⟩ := Kd.S_slice HO270.out; subst eo21; have p276 : 0 ≤ (1 : Int) := (by omega); have q276 : 1 < (t266.length : Int) := of_decide_eq_true (by first | (with_reducible assumption) | assumption); obtain ⟨ad276, A276_4, c276_4, e276, hx276_0, hx276_1, hx276_2, hx276_3, hx276_4, hx276_5, hl276_4, hi276_4⟩ := at_T33 (Kd.S_reads' HO270.out).2.2 1 p276 q276; cases e276; obtain ⟨ce276, hce276, hMe276, hcc276⟩ := Kd.S_get HO270.out z33 1 p276 (by first | exact q276 | exact of_decide_eq_true (by first | (with_reducible assumption) | assumption) | (have e_ := (Kd.S_reads' HO270.out).1; omega)); obtain ⟨ve276_4, rfl, ge276_4⟩ := k33_openM hMe276; have hv276_4 := hcc276 4 _ rfl; rw [add_field _ _ 4 (by omega)] at hv276_4; replace hv276_4 := Option.some.inj (hv276_4.symm.trans hx276_4); rw [hv276_4] at ge276_4; have HL276_4 := Aside0.mk (show Kd.R k35 35 _ _ _ _ ((rd_T33 t266 1).f4) from ge276_4); clear hv276_4 ge276_4; clear hcc276 hce276; (try simp only [show (1 : Int).toNat = 1 from rfl, Nat.reduceMul, Nat.reduceEqDiff, Go.Addr.add, ↓reduceIte] at hx276_0); (try simp only [show (1 : Int).toNat = 1 from rfl, Nat.reduceMul, Nat.reduceEqDiff, Go.Addr.add, ↓reduceIte] at hx276_1); (try simp only [show (1 : Int).toNat = 1 from rfl, Nat.reduceMul, Nat.reduceEqDiff, Go.Addr.add, ↓reduceIte] at hx276_2); (try simp only [show (1 : Int).toNat = 1 from rfl, Nat.reduceMul, Nat.reduceEqDiff, Go.Addr.add, ↓reduceIte] at hx276_3); (try simp only [show (1 : Int).toNat = 1 from rfl, Nat.reduceMul, Nat.reduceEqDiff, Go.Addr.add, ↓reduceIte] at hx276_4); (try simp only [show (1 : Int).toNat = 1 from rfl, Nat.reduceMul, Nat.reduceEqDiff, Go.Addr.add, ↓reduceIte] at hx276_5); have qi276 : (1 < t266.length) = True := eq_true (by omega); (try rw [show ((1 : Int)).toNat = 1 from rfl] at hx276_0); (try rw [show 1 * 6 = 6 from rfl] at hx276_0); (try rw [show ((1 : Int)).toNat = 1 from rfl] at hx276_1); (try rw [show 1 * 6 = 6 from rfl] at hx276_1); (try rw [show ((1 : Int)).toNat = 1 from rfl] at hx276_2); (try rw [show 1 * 6 = 6 from rfl] at hx276_2); (try rw [show ((1 : Int)).toNat = 1 from rfl] at hx276_3); (try rw [show 1 * 6 = 6 from rfl] at hx276_3); (try rw [show ((1 : Int)).toNat = 1 from rfl] at hx276_4); (try rw [show 1 * 6 = 6 from rfl] at hx276_4); (try rw [show ((1 : Int)).toNat = 1 from rfl] at hx276_5); (try rw [show 1 * 6 = 6 from rfl] at hx276_5); have HR276_4 := Aside0.mk hi276_4; have HC276_4 := Aside0.mk hl276_4; clear hi276_4 hl276_4; replace p276 := eq_true p276; replace q276 := eq_true q276))
            go_ret
            exact ⟨by first | rfl | (simp [errW_none, errW_some] <;> rfl) | (simp [*, errW_none, errW_some] <;> rfl), by repeat (first | (with_reducible first | exact HB.out | apply below_alloc | apply pw_below_drewN | apply below_drew1) | exact HB.out)⟩
        · rw [if_neg c6] at H
          exact absurd H (by simp)
      · rw [if_neg c5] at H
        have c5b0 : ((t266.length : Int) == 3) = false := beq_eq_false_iff_ne.mpr c5
        have c5b1 : ((t266.length : Int) != 3) = true := bne_iff_ne.mpr c5
        obtain rfl := Option.some.inj H
        go_enter Tryd.func8, Tryd.ntmps8
        go_wp2_with (first | ((with_reducible refine gate_callee (f := 10) rfl ?_); refine goesL_ (some 8) rfl rfl Tryd.func10 (by kernel_rfl) rfl #[.string (⟨#[60, 97, 62, 120, 60, 47, 97, 62]⟩ : ByteArray)] rfl (by (try simp only [List.map_toArray, List.map_cons, List.map_nil]); first | done | rfl | (simp only [List.length_drop, List.length_take]; rfl)) ?_; (with_reducible refine (G_Tokens.calls (⟨#[60, 97, 62, 120, 60, 47, 97, 62]⟩ : ByteArray) t266 t267 t268 _ ?side1 A1.out).mono ?_); (case side1 => first | exact HG.out | exact Gd.drewN HG.out _ | exact Gd.drew HG.out | exact Gd.below HG.out (by repeat (first | (with_reducible first | exact HB.out | apply below_alloc | apply pw_below_drewN | apply below_drew1) | exact HB.out))); rintro e w22 ⟨v269, rfl, ho0, hb⟩; refine ⟨_, rfl, ?_⟩; have n0_ := Aside0.mk (Kd.S_lower ho0 (below_size (by repeat (first | (with_reducible first | exact HB.out | apply below_alloc | apply pw_below_drewN | apply below_drew1) | exact HB.out)))); have n1_ := Aside0.mk (below_step (by repeat (first | (with_reducible first | exact HB.out | apply below_alloc | apply pw_below_drewN | apply below_drew1) | exact HB.out)) hb); clear HB; have HO270 := n0_; have HB := n1_; clear n0_ n1_; (try clear hb); (try clear hb2); (try clear hk); (try clear hi); (try clear ho0)) | ((with_reducible refine gate_callee (f := 10) rfl ?_); refine goesL_ (some 13) rfl rfl Tryd.func10 (by kernel_rfl) rfl #[.string (⟨#[60, 97, 62, 60]⟩ : ByteArray)] rfl (by (try simp only [List.map_toArray, List.map_cons, List.map_nil]); first | done | rfl | (simp only [List.length_drop, List.length_take]; rfl)) ?_; (with_reducible refine (G_Tokens.calls (⟨#[60, 97, 62, 60]⟩ : ByteArray) t271 t272 t273 _ ?side1 A2.out).mono ?_); (case side1 => first | exact HG.out | exact Gd.drewN HG.out _ | exact Gd.drew HG.out | exact Gd.below HG.out (by repeat (first | (with_reducible first | exact HB.out | apply below_alloc | apply pw_below_drewN | apply below_drew1) | exact HB.out))); rintro e w23 ⟨v274, rfl, ho0, hb⟩; refine ⟨_, rfl, ?_⟩; have n0_ := Aside0.mk (Kd.S_elder' (by (with_reducible repeat (first | apply Kd.S_alloc | apply Kd.S_drewN | apply Kd.S_drew)); exact HO270.out) (Kd.S_base ho0) hb); have n1_ := Aside0.mk (Kd.S_lower (Kd.S_new' ho0 (Kd.S_lt (by (with_reducible repeat (first | apply Kd.S_alloc | apply Kd.S_drewN | apply Kd.S_drew)); exact HO270.out))) (below_size (by repeat (first | (with_reducible first | exact HB.out | apply below_alloc | apply pw_below_drewN | apply below_drew1) | exact HB.out)))); have n2_ := Aside0.mk (below_step (by repeat (first | (with_reducible first | exact HB.out | apply below_alloc | apply pw_below_drewN | apply below_drew1) | exact HB.out)) hb); clear HO270; clear HB; have HO270 := n0_; have HO275 := n1_; have HB := n2_; clear n0_ n1_ n2_; (try clear hb); (try clear hb2); (try clear hk); (try clear hi); (try clear ho0); obtain ⟨Ao24, co24, eo24⟩ := Kd.S_slice HO270.out; subst eo24))
        go_ret
        exact ⟨by first | rfl | (simp [errW_none, errW_some] <;> rfl) | (simp [*, errW_none, errW_some] <;> rfl), by repeat (first | (with_reducible first | exact HB.out | apply below_alloc | apply pw_below_drewN | apply below_drew1) | exact HB.out)⟩
    · rw [if_neg c4] at H
      have c4b0 : (t267 == 0) = false := beq_eq_false_iff_ne.mpr c4
      have c4b1 : (t267 != 0) = true := bne_iff_ne.mpr c4
      obtain rfl := Option.some.inj H
      go_enter Tryd.func8, Tryd.ntmps8
      go_wp2_with (first | ((with_reducible refine gate_callee (f := 10) rfl ?_); refine goesL_ (some 8) rfl rfl Tryd.func10 (by kernel_rfl) rfl #[.string (⟨#[60, 97, 62, 120, 60, 47, 97, 62]⟩ : ByteArray)] rfl (by (try simp only [List.map_toArray, List.map_cons, List.map_nil]); first | done | rfl | (simp only [List.length_drop, List.length_take]; rfl)) ?_; (with_reducible refine (G_Tokens.calls (⟨#[60, 97, 62, 120, 60, 47, 97, 62]⟩ : ByteArray) t266 t267 t268 _ ?side1 A1.out).mono ?_); (case side1 => first | exact HG.out | exact Gd.drewN HG.out _ | exact Gd.drew HG.out | exact Gd.below HG.out (by repeat (first | (with_reducible first | exact HB.out | apply below_alloc | apply pw_below_drewN | apply below_drew1) | exact HB.out))); rintro e w25 ⟨v269, rfl, ho0, hb⟩; refine ⟨_, rfl, ?_⟩; have n0_ := Aside0.mk (Kd.S_lower ho0 (below_size (by repeat (first | (with_reducible first | exact HB.out | apply below_alloc | apply pw_below_drewN | apply below_drew1) | exact HB.out)))); have n1_ := Aside0.mk (below_step (by repeat (first | (with_reducible first | exact HB.out | apply below_alloc | apply pw_below_drewN | apply below_drew1) | exact HB.out)) hb); clear HB; have HO270 := n0_; have HB := n1_; clear n0_ n1_; (try clear hb); (try clear hb2); (try clear hk); (try clear hi); (try clear ho0)) | ((with_reducible refine gate_callee (f := 10) rfl ?_); refine goesL_ (some 13) rfl rfl Tryd.func10 (by kernel_rfl) rfl #[.string (⟨#[60, 97, 62, 60]⟩ : ByteArray)] rfl (by (try simp only [List.map_toArray, List.map_cons, List.map_nil]); first | done | rfl | (simp only [List.length_drop, List.length_take]; rfl)) ?_; (with_reducible refine (G_Tokens.calls (⟨#[60, 97, 62, 60]⟩ : ByteArray) t271 t272 t273 _ ?side1 A2.out).mono ?_); (case side1 => first | exact HG.out | exact Gd.drewN HG.out _ | exact Gd.drew HG.out | exact Gd.below HG.out (by repeat (first | (with_reducible first | exact HB.out | apply below_alloc | apply pw_below_drewN | apply below_drew1) | exact HB.out))); rintro e w26 ⟨v274, rfl, ho0, hb⟩; refine ⟨_, rfl, ?_⟩; have n0_ := Aside0.mk (Kd.S_elder' (by (with_reducible repeat (first | apply Kd.S_alloc | apply Kd.S_drewN | apply Kd.S_drew)); exact HO270.out) (Kd.S_base ho0) hb); have n1_ := Aside0.mk (Kd.S_lower (Kd.S_new' ho0 (Kd.S_lt (by (with_reducible repeat (first | apply Kd.S_alloc | apply Kd.S_drewN | apply Kd.S_drew)); exact HO270.out))) (below_size (by repeat (first | (with_reducible first | exact HB.out | apply below_alloc | apply pw_below_drewN | apply below_drew1) | exact HB.out)))); have n2_ := Aside0.mk (below_step (by repeat (first | (with_reducible first | exact HB.out | apply below_alloc | apply pw_below_drewN | apply below_drew1) | exact HB.out)) hb); clear HO270; clear HB; have HO270 := n0_; have HO275 := n1_; have HB := n2_; clear n0_ n1_ n2_; (try clear hb); (try clear hb2); (try clear hk); (try clear hi); (try clear ho0)))
      go_ret
      exact ⟨by first | rfl | (simp [errW_none, errW_some] <;> rfl) | (simp [*, errW_none, errW_some] <;> rfl), by repeat (first | (with_reducible first | exact HB.out | apply below_alloc | apply pw_below_drewN | apply below_drew1) | exact HB.out)⟩
  · rw [if_neg c3] at H
    have c3b0 : (t268 == 0) = false := beq_eq_false_iff_ne.mpr c3
    have c3b1 : (t268 != 0) = true := bne_iff_ne.mpr c3
    obtain rfl := Option.some.inj H
    go_enter Tryd.func8, Tryd.ntmps8
    go_wp2_with (first | ((with_reducible refine gate_callee (f := 10) rfl ?_); refine goesL_ (some 8) rfl rfl Tryd.func10 (by kernel_rfl) rfl #[.string (⟨#[60, 97, 62, 120, 60, 47, 97, 62]⟩ : ByteArray)] rfl (by (try simp only [List.map_toArray, List.map_cons, List.map_nil]); first | done | rfl | (simp only [List.length_drop, List.length_take]; rfl)) ?_; (with_reducible refine (G_Tokens.calls (⟨#[60, 97, 62, 120, 60, 47, 97, 62]⟩ : ByteArray) t266 t267 t268 _ ?side1 A1.out).mono ?_); (case side1 => first | exact HG.out | exact Gd.drewN HG.out _ | exact Gd.drew HG.out | exact Gd.below HG.out (by repeat (first | (with_reducible first | exact HB.out | apply below_alloc | apply pw_below_drewN | apply below_drew1) | exact HB.out))); rintro e w27 ⟨v269, rfl, ho0, hb⟩; refine ⟨_, rfl, ?_⟩; have n0_ := Aside0.mk (Kd.S_lower ho0 (below_size (by repeat (first | (with_reducible first | exact HB.out | apply below_alloc | apply pw_below_drewN | apply below_drew1) | exact HB.out)))); have n1_ := Aside0.mk (below_step (by repeat (first | (with_reducible first | exact HB.out | apply below_alloc | apply pw_below_drewN | apply below_drew1) | exact HB.out)) hb); clear HB; have HO270 := n0_; have HB := n1_; clear n0_ n1_; (try clear hb); (try clear hb2); (try clear hk); (try clear hi); (try clear ho0)) | ((with_reducible refine gate_callee (f := 10) rfl ?_); refine goesL_ (some 13) rfl rfl Tryd.func10 (by kernel_rfl) rfl #[.string (⟨#[60, 97, 62, 60]⟩ : ByteArray)] rfl (by (try simp only [List.map_toArray, List.map_cons, List.map_nil]); first | done | rfl | (simp only [List.length_drop, List.length_take]; rfl)) ?_; (with_reducible refine (G_Tokens.calls (⟨#[60, 97, 62, 60]⟩ : ByteArray) t271 t272 t273 _ ?side1 A2.out).mono ?_); (case side1 => first | exact HG.out | exact Gd.drewN HG.out _ | exact Gd.drew HG.out | exact Gd.below HG.out (by repeat (first | (with_reducible first | exact HB.out | apply below_alloc | apply pw_below_drewN | apply below_drew1) | exact HB.out))); rintro e w28 ⟨v274, rfl, ho0, hb⟩; refine ⟨_, rfl, ?_⟩; have n0_ := Aside0.mk (Kd.S_elder' (by (with_reducible repeat (first | apply Kd.S_alloc | apply Kd.S_drewN | apply Kd.S_drew)); exact HO270.out) (Kd.S_base ho0) hb); have n1_ := Aside0.mk (Kd.S_lower (Kd.S_new' ho0 (Kd.S_lt (by (with_reducible repeat (first | apply Kd.S_alloc | apply Kd.S_drewN | apply Kd.S_drew)); exact HO270.out))) (below_size (by repeat (first | (with_reducible first | exact HB.out | apply below_alloc | apply pw_below_drewN | apply below_drew1) | exact HB.out)))); have n2_ := Aside0.mk (below_step (by repeat (first | (with_reducible first | exact HB.out | apply below_alloc | apply pw_below_drewN | apply below_drew1) | exact HB.out)) hb); clear HO270; clear HB; have HO270 := n0_; have HO275 := n1_; have HB := n2_; clear n0_ n1_ n2_; (try clear hb); (try clear hb2); (try clear hk); (try clear hi); (try clear ho0)))
    go_ret
    exact ⟨by first | rfl | (simp [errW_none, errW_some] <;> rfl) | (simp [*, errW_none, errW_some] <;> rfl), by repeat (first | (with_reducible first | exact HB.out | apply below_alloc | apply pw_below_drewN | apply below_drew1) | exact HB.out)⟩

end Go.Proofs.YtfelfpjfjjgmoaaDoor.P
end
/- Lean functions for functions of the program, and that the Go code comes to their answers, where the library's variables are as Gd says. Written by a turned copy of the kit's print; Lean checks it. -/
section
namespace Go.Proofs.YtfelfpjfjjgmoaaDoor.P
open Go.RowKit Go.Proofs.YtfelfpjfjjgmoaaDoorW.PrintWords Go.Proofs.YtfelfpjfjjgmoaaDoorW.PrintLast Go.Proofs.YtfelfpjfjjgmoaaDoorW.PrintMore
attribute [local go_sem] max2_int min2_int max_two min_two max_three min_three max_four min_four   -- for this text's walks alone
set_option linter.unusedVariables false
set_option linter.unusedSimpArgs false

/-! ### cardexref01_Escape: function 9 -/
def cardexref01_Escape.l0 : Nat → ByteArray → ByteArray → Int → Option (ByteArray)
  | 0, _, _, _ => none
  | k + 1, x0, x3, x4 => if x4 < (x0.size : Int) then (if 0 ≤ x4 then (if (bt x0 x4) = 38 then (if x3.size + 5 ≤ 9223372036854775807 then (cardexref01_Escape.l0 k x0 (x3 ++ (⟨#[38, 97, 109, 112, 59]⟩ : ByteArray)) (wrap64 (x4 + 1))) else (none)) else (if (bt x0 x4) = 60 then (if x3.size + 4 ≤ 9223372036854775807 then (cardexref01_Escape.l0 k x0 (x3 ++ (⟨#[38, 108, 116, 59]⟩ : ByteArray)) (wrap64 (x4 + 1))) else (none)) else (if (bt x0 x4) = 62 then (if x3.size + 4 ≤ 9223372036854775807 then (cardexref01_Escape.l0 k x0 (x3 ++ (⟨#[38, 103, 116, 59]⟩ : ByteArray)) (wrap64 (x4 + 1))) else (none)) else (if (bt x0 x4) = 34 then (if x3.size + 6 ≤ 9223372036854775807 then (cardexref01_Escape.l0 k x0 (x3 ++ (⟨#[38, 113, 117, 111, 116, 59]⟩ : ByteArray)) (wrap64 (x4 + 1))) else (none)) else (if (bt x0 x4) = 39 then (if x3.size + 6 ≤ 9223372036854775807 then (cardexref01_Escape.l0 k x0 (x3 ++ (⟨#[38, 97, 112, 111, 115, 59]⟩ : ByteArray)) (wrap64 (x4 + 1))) else (none)) else (if (bt x0 x4) = 9 then (if x3.size + 4 ≤ 9223372036854775807 then (cardexref01_Escape.l0 k x0 (x3 ++ (⟨#[38, 35, 57, 59]⟩ : ByteArray)) (wrap64 (x4 + 1))) else (none)) else (if (bt x0 x4) = 10 then (if x3.size + 5 ≤ 9223372036854775807 then (cardexref01_Escape.l0 k x0 (x3 ++ (⟨#[38, 35, 49, 48, 59]⟩ : ByteArray)) (wrap64 (x4 + 1))) else (none)) else (if (bt x0 x4) = 13 then (if x3.size + 5 ≤ 9223372036854775807 then (cardexref01_Escape.l0 k x0 (x3 ++ (⟨#[38, 35, 49, 51, 59]⟩ : ByteArray)) (wrap64 (x4 + 1))) else (none)) else (if x4 ≤ (wrap64 (x4 + 1)) then (if (wrap64 (x4 + 1)) ≤ (x0.size : Int) then (if x3.size + (x0.extract (x4 : Int).toNat ((wrap64 (x4 + 1)) : Int).toNat).size ≤ 9223372036854775807 then (cardexref01_Escape.l0 k x0 (x3 ++ (x0.extract (x4 : Int).toNat ((wrap64 (x4 + 1)) : Int).toNat)) (wrap64 (x4 + 1))) else (none)) else (none)) else (none)))))))))) else (none)) else (some x3)
def cardexref01_Escape.f (k : Nat) (a0 : ByteArray) : Option (ByteArray) := cardexref01_Escape.l0 k a0 (⟨#[]⟩ : ByteArray) 0
theorem cardexref01_Escape.mono_l : ∀ k, (∀ y0 y1 y2, LeO (cardexref01_Escape.l0 k y0 y1 y2) (cardexref01_Escape.l0 (k + 1) y0 y1 y2))
  | 0 => fun _ _ _ r h => by simp [cardexref01_Escape.l0] at h
  | k + 1 => by
    have ih0 := cardexref01_Escape.mono_l k
    · intro y0 y1 y2
      unfold cardexref01_Escape.l0
      repeat' first
      | (with_reducible exact ih0 _ _ _)
      | (with_reducible exact LeO.refl _)
      | (with_reducible exact LeO.none _)
      | (with_reducible refine LeO.ite ?_ ?_)
      | (with_reducible refine LeO.bind ?_ (fun _ => ?_))
      | exact ih0 _ _ _
      | exact LeO.none _
      | refine LeO.ite ?_ ?_
      | refine LeO.bind ?_ (fun _ => ?_)
theorem cardexref01_Escape.mono : ∀ a0 k, LeO (cardexref01_Escape.f k a0) (cardexref01_Escape.f (k + 1) a0) := by
  intro a0 k
  have ih0 := cardexref01_Escape.mono_l k
  unfold cardexref01_Escape.f
  repeat' first
      | (with_reducible exact ih0 _ _ _)
      | (with_reducible exact LeO.refl _)
      | (with_reducible exact LeO.none _)
      | (with_reducible refine LeO.ite ?_ ?_)
      | (with_reducible refine LeO.bind ?_ (fun _ => ?_))
      | exact ih0 _ _ _
      | exact LeO.none _
      | refine LeO.ite ?_ ?_
      | refine LeO.bind ?_ (fun _ => ?_)
set_option maxHeartbeats 8000000 in
set_option maxRecDepth 100000 in
theorem cardexref01_Escape.calls (k : Nat) (a0 : ByteArray) (r : ByteArray) (w : World) (hG_ : Gd w) (h : cardexref01_Escape.f k a0 = some r) :
    Calls Tryd.prog 9 #[.string a0] w fun e w' => e = .returned (.string r) ∧ Drawn0 w w' := by
  have HG := Aside0.mk hG_
  clear hG_
  have H : (cardexref01_Escape.l0 k a0 (⟨#[]⟩ : ByteArray) 0) = some r := h
  clear h
  have H' := Aside0.mk H
  clear H
  go_enter Tryd.func9, Tryd.ntmps9
  go_wp2
  go_loopg [3, 4] k (fun kq v3 v4 w' => ∃ (x3_1 : ByteArray) (x4_1 : Int), v3 = .string x3_1 ∧ v4 = .int .i64 x4_1 ∧ Aside0 (cardexref01_Escape.l0 kq a0 x3_1 x4_1 = some r) ∧ Aside0 (kq ≤ k) ∧ Drawn0 w w')
  case atStart => exact ⟨((⟨#[]⟩ : ByteArray)), (0), (by first | rfl | (simp; done) | (simp [*]; done)), (by first | rfl | (simp; done) | (simp [*]; done)), H', ⟨Nat.le_refl _⟩, by repeat (first | exact Drawn0.refl _ | apply Drawn0.step)⟩
  case round =>
    clear H'
    obtain ⟨x3_1, x4_1, rfl, rfl, HA, HK1, ⟨m1, rfl⟩⟩ := hrel
    cases gk with
    | zero => exact absurd HA.out (by simp [cardexref01_Escape.l0])
    | succ k1 =>
      have H := HA.out
      clear HA
      simp only [cardexref01_Escape.l0] at H
      by_cases c2 : x4_1 < (a0.size : Int)
      · rw [if_pos c2] at H
        have c2b0 : decide (x4_1 < (a0.size : Int)) = true := decide_eq_true c2
        clear c2
        by_cases c3 : 0 ≤ x4_1
        · rw [if_pos c3] at H
          have c3b0 : decide (0 ≤ x4_1) = true := decide_eq_true c3
          clear c3
          by_cases c5 : (bt a0 x4_1) = 38
          · rw [if_pos c5] at H
            have c5b0 : ((bt a0 x4_1) == 38) = true := beq_iff_eq.mpr c5
            have c5b1 : ((bt a0 x4_1) != 38) = false := bne_eq_false_iff_eq.mpr c5
            clear c5
            by_cases c6 : x3_1.size + 5 ≤ 9223372036854775807
            · rw [if_pos c6] at H
              have c6b0 := eq_true c6
              have c6b1 : decide (x3_1.size + 5 ≤ 9223372036854775807) = true := decide_eq_true c6
              try have c6b2 : (9223372036854775807 < x3_1.size + 5) = False := eq_false (Nat.not_lt.2 c6)
              have H' := Aside0.mk H
              clear H
              have p4 : 0 ≤ (x4_1 : Int) := of_decide_eq_true (by first | (with_reducible assumption) | assumption)
              have q4 : x4_1 < (a0.size : Int) := of_decide_eq_true (by first | (with_reducible assumption) | assumption)
              have hx4 := bt_at a0 x4_1
              replace p4 := eq_true p4
              replace q4 := eq_true q4
              go_wp2
              go_roundg k1
              case measure => have := HK1.out; omega
              case rel => exact ⟨(x3_1 ++ (⟨#[38, 97, 109, 112, 59]⟩ : ByteArray)), (wrap64 (x4_1 + 1)), (by first | rfl | (simp; done) | (simp [*]; done)), (by first | rfl | (simp; done) | (simp [*]; done)), H', ⟨by have := HK1.out; omega⟩, by repeat (first | exact Drawn0.refl _ | apply Drawn0.step)⟩
            · rw [if_neg c6] at H
              exact absurd H (by simp)
          · rw [if_neg c5] at H
            have c5b0 : ((bt a0 x4_1) == 38) = false := beq_eq_false_iff_ne.mpr c5
            have c5b1 : ((bt a0 x4_1) != 38) = true := bne_iff_ne.mpr c5
            by_cases c7 : (bt a0 x4_1) = 60
            · rw [if_pos c7] at H
              have c7b0 : ((bt a0 x4_1) == 60) = true := beq_iff_eq.mpr c7
              have c7b1 : ((bt a0 x4_1) != 60) = false := bne_eq_false_iff_eq.mpr c7
              clear c7
              by_cases c8 : x3_1.size + 4 ≤ 9223372036854775807
              · rw [if_pos c8] at H
                have c8b0 := eq_true c8
                have c8b1 : decide (x3_1.size + 4 ≤ 9223372036854775807) = true := decide_eq_true c8
                try have c8b2 : (9223372036854775807 < x3_1.size + 4) = False := eq_false (Nat.not_lt.2 c8)
                have H' := Aside0.mk H
                clear H
                have p4 : 0 ≤ (x4_1 : Int) := of_decide_eq_true (by first | (with_reducible assumption) | assumption)
                have q4 : x4_1 < (a0.size : Int) := of_decide_eq_true (by first | (with_reducible assumption) | assumption)
                have hx4 := bt_at a0 x4_1
                replace p4 := eq_true p4
                replace q4 := eq_true q4
                go_wp2
                go_roundg k1
                case measure => have := HK1.out; omega
                case rel => exact ⟨(x3_1 ++ (⟨#[38, 108, 116, 59]⟩ : ByteArray)), (wrap64 (x4_1 + 1)), (by first | rfl | (simp; done) | (simp [*]; done)), (by first | rfl | (simp; done) | (simp [*]; done)), H', ⟨by have := HK1.out; omega⟩, by repeat (first | exact Drawn0.refl _ | apply Drawn0.step)⟩
              · rw [if_neg c8] at H
                exact absurd H (by simp)
            · rw [if_neg c7] at H
              have c7b0 : ((bt a0 x4_1) == 60) = false := beq_eq_false_iff_ne.mpr c7
              have c7b1 : ((bt a0 x4_1) != 60) = true := bne_iff_ne.mpr c7
              by_cases c9 : (bt a0 x4_1) = 62
              · rw [if_pos c9] at H
                have c9b0 : ((bt a0 x4_1) == 62) = true := beq_iff_eq.mpr c9
                have c9b1 : ((bt a0 x4_1) != 62) = false := bne_eq_false_iff_eq.mpr c9
                clear c9
                by_cases c10 : x3_1.size + 4 ≤ 9223372036854775807
                · rw [if_pos c10] at H
                  have c10b0 := eq_true c10
                  have c10b1 : decide (x3_1.size + 4 ≤ 9223372036854775807) = true := decide_eq_true c10
                  try have c10b2 : (9223372036854775807 < x3_1.size + 4) = False := eq_false (Nat.not_lt.2 c10)
                  have H' := Aside0.mk H
                  clear H
                  have p4 : 0 ≤ (x4_1 : Int) := of_decide_eq_true (by first | (with_reducible assumption) | assumption)
                  have q4 : x4_1 < (a0.size : Int) := of_decide_eq_true (by first | (with_reducible assumption) | assumption)
                  have hx4 := bt_at a0 x4_1
                  replace p4 := eq_true p4
                  replace q4 := eq_true q4
                  go_wp2
                  go_roundg k1
                  case measure => have := HK1.out; omega
                  case rel => exact ⟨(x3_1 ++ (⟨#[38, 103, 116, 59]⟩ : ByteArray)), (wrap64 (x4_1 + 1)), (by first | rfl | (simp; done) | (simp [*]; done)), (by first | rfl | (simp; done) | (simp [*]; done)), H', ⟨by have := HK1.out; omega⟩, by repeat (first | exact Drawn0.refl _ | apply Drawn0.step)⟩
                · rw [if_neg c10] at H
                  exact absurd H (by simp)
              · rw [if_neg c9] at H
                have c9b0 : ((bt a0 x4_1) == 62) = false := beq_eq_false_iff_ne.mpr c9
                have c9b1 : ((bt a0 x4_1) != 62) = true := bne_iff_ne.mpr c9
                by_cases c11 : (bt a0 x4_1) = 34
                · rw [if_pos c11] at H
                  have c11b0 : ((bt a0 x4_1) == 34) = true := beq_iff_eq.mpr c11
                  have c11b1 : ((bt a0 x4_1) != 34) = false := bne_eq_false_iff_eq.mpr c11
                  clear c11
                  by_cases c12 : x3_1.size + 6 ≤ 9223372036854775807
                  · rw [if_pos c12] at H
                    have c12b0 := eq_true c12
                    have c12b1 : decide (x3_1.size + 6 ≤ 9223372036854775807) = true := decide_eq_true c12
                    try have c12b2 : (9223372036854775807 < x3_1.size + 6) = False := eq_false (Nat.not_lt.2 c12)
                    have H' := Aside0.mk H
                    clear H
                    have p4 : 0 ≤ (x4_1 : Int) := of_decide_eq_true (by first | (with_reducible assumption) | assumption)
                    have q4 : x4_1 < (a0.size : Int) := of_decide_eq_true (by first | (with_reducible assumption) | assumption)
                    have hx4 := bt_at a0 x4_1
                    replace p4 := eq_true p4
                    replace q4 := eq_true q4
                    go_wp2
                    go_roundg k1
                    case measure => have := HK1.out; omega
                    case rel => exact ⟨(x3_1 ++ (⟨#[38, 113, 117, 111, 116, 59]⟩ : ByteArray)), (wrap64 (x4_1 + 1)), (by first | rfl | (simp; done) | (simp [*]; done)), (by first | rfl | (simp; done) | (simp [*]; done)), H', ⟨by have := HK1.out; omega⟩, by repeat (first | exact Drawn0.refl _ | apply Drawn0.step)⟩
                  · rw [if_neg c12] at H
                    exact absurd H (by simp)
                · rw [if_neg c11] at H
                  have c11b0 : ((bt a0 x4_1) == 34) = false := beq_eq_false_iff_ne.mpr c11
                  have c11b1 : ((bt a0 x4_1) != 34) = true := bne_iff_ne.mpr c11
                  by_cases c13 : (bt a0 x4_1) = 39
                  · rw [if_pos c13] at H
                    have c13b0 : ((bt a0 x4_1) == 39) = true := beq_iff_eq.mpr c13
                    have c13b1 : ((bt a0 x4_1) != 39) = false := bne_eq_false_iff_eq.mpr c13
                    clear c13
                    by_cases c14 : x3_1.size + 6 ≤ 9223372036854775807
                    · rw [if_pos c14] at H
                      have c14b0 := eq_true c14
                      have c14b1 : decide (x3_1.size + 6 ≤ 9223372036854775807) = true := decide_eq_true c14
                      try have c14b2 : (9223372036854775807 < x3_1.size + 6) = False := eq_false (Nat.not_lt.2 c14)
                      have H' := Aside0.mk H
                      clear H
                      have p4 : 0 ≤ (x4_1 : Int) := of_decide_eq_true (by first | (with_reducible assumption) | assumption)
                      have q4 : x4_1 < (a0.size : Int) := of_decide_eq_true (by first | (with_reducible assumption) | assumption)
                      have hx4 := bt_at a0 x4_1
                      replace p4 := eq_true p4
                      replace q4 := eq_true q4
                      go_wp2
                      go_roundg k1
                      case measure => have := HK1.out; omega
                      case rel => exact ⟨(x3_1 ++ (⟨#[38, 97, 112, 111, 115, 59]⟩ : ByteArray)), (wrap64 (x4_1 + 1)), (by first | rfl | (simp; done) | (simp [*]; done)), (by first | rfl | (simp; done) | (simp [*]; done)), H', ⟨by have := HK1.out; omega⟩, by repeat (first | exact Drawn0.refl _ | apply Drawn0.step)⟩
                    · rw [if_neg c14] at H
                      exact absurd H (by simp)
                  · rw [if_neg c13] at H
                    have c13b0 : ((bt a0 x4_1) == 39) = false := beq_eq_false_iff_ne.mpr c13
                    have c13b1 : ((bt a0 x4_1) != 39) = true := bne_iff_ne.mpr c13
                    by_cases c15 : (bt a0 x4_1) = 9
                    · rw [if_pos c15] at H
                      have c15b0 : ((bt a0 x4_1) == 9) = true := beq_iff_eq.mpr c15
                      have c15b1 : ((bt a0 x4_1) != 9) = false := bne_eq_false_iff_eq.mpr c15
                      clear c15
                      by_cases c16 : x3_1.size + 4 ≤ 9223372036854775807
                      · rw [if_pos c16] at H
                        have c16b0 := eq_true c16
                        have c16b1 : decide (x3_1.size + 4 ≤ 9223372036854775807) = true := decide_eq_true c16
                        try have c16b2 : (9223372036854775807 < x3_1.size + 4) = False := eq_false (Nat.not_lt.2 c16)
                        have H' := Aside0.mk H
                        clear H
                        have p4 : 0 ≤ (x4_1 : Int) := of_decide_eq_true (by first | (with_reducible assumption) | assumption)
                        have q4 : x4_1 < (a0.size : Int) := of_decide_eq_true (by first | (with_reducible assumption) | assumption)
                        have hx4 := bt_at a0 x4_1
                        replace p4 := eq_true p4
                        replace q4 := eq_true q4
                        go_wp2
                        go_roundg k1
                        case measure => have := HK1.out; omega
                        case rel => exact ⟨(x3_1 ++ (⟨#[38, 35, 57, 59]⟩ : ByteArray)), (wrap64 (x4_1 + 1)), (by first | rfl | (simp; done) | (simp [*]; done)), (by first | rfl | (simp; done) | (simp [*]; done)), H', ⟨by have := HK1.out; omega⟩, by repeat (first | exact Drawn0.refl _ | apply Drawn0.step)⟩
                      · rw [if_neg c16] at H
                        exact absurd H (by simp)
                    · rw [if_neg c15] at H
                      have c15b0 : ((bt a0 x4_1) == 9) = false := beq_eq_false_iff_ne.mpr c15
                      have c15b1 : ((bt a0 x4_1) != 9) = true := bne_iff_ne.mpr c15
                      by_cases c17 : (bt a0 x4_1) = 10
                      · rw [if_pos c17] at H
                        have c17b0 : ((bt a0 x4_1) == 10) = true := beq_iff_eq.mpr c17
                        have c17b1 : ((bt a0 x4_1) != 10) = false := bne_eq_false_iff_eq.mpr c17
                        clear c17
                        by_cases c18 : x3_1.size + 5 ≤ 9223372036854775807
                        · rw [if_pos c18] at H
                          have c18b0 := eq_true c18
                          have c18b1 : decide (x3_1.size + 5 ≤ 9223372036854775807) = true := decide_eq_true c18
                          try have c18b2 : (9223372036854775807 < x3_1.size + 5) = False := eq_false (Nat.not_lt.2 c18)
                          have H' := Aside0.mk H
                          clear H
                          have p4 : 0 ≤ (x4_1 : Int) := of_decide_eq_true (by first | (with_reducible assumption) | assumption)
                          have q4 : x4_1 < (a0.size : Int) := of_decide_eq_true (by first | (with_reducible assumption) | assumption)
                          have hx4 := bt_at a0 x4_1
                          replace p4 := eq_true p4
                          replace q4 := eq_true q4
                          go_wp2
                          go_roundg k1
                          case measure => have := HK1.out; omega
                          case rel => exact ⟨(x3_1 ++ (⟨#[38, 35, 49, 48, 59]⟩ : ByteArray)), (wrap64 (x4_1 + 1)), (by first | rfl | (simp; done) | (simp [*]; done)), (by first | rfl | (simp; done) | (simp [*]; done)), H', ⟨by have := HK1.out; omega⟩, by repeat (first | exact Drawn0.refl _ | apply Drawn0.step)⟩
                        · rw [if_neg c18] at H
                          exact absurd H (by simp)
                      · rw [if_neg c17] at H
                        have c17b0 : ((bt a0 x4_1) == 10) = false := beq_eq_false_iff_ne.mpr c17
                        have c17b1 : ((bt a0 x4_1) != 10) = true := bne_iff_ne.mpr c17
                        by_cases c19 : (bt a0 x4_1) = 13
                        · rw [if_pos c19] at H
                          have c19b0 : ((bt a0 x4_1) == 13) = true := beq_iff_eq.mpr c19
                          have c19b1 : ((bt a0 x4_1) != 13) = false := bne_eq_false_iff_eq.mpr c19
                          clear c19
                          by_cases c20 : x3_1.size + 5 ≤ 9223372036854775807
                          · rw [if_pos c20] at H
                            have c20b0 := eq_true c20
                            have c20b1 : decide (x3_1.size + 5 ≤ 9223372036854775807) = true := decide_eq_true c20
                            try have c20b2 : (9223372036854775807 < x3_1.size + 5) = False := eq_false (Nat.not_lt.2 c20)
                            have H' := Aside0.mk H
                            clear H
                            have p4 : 0 ≤ (x4_1 : Int) := of_decide_eq_true (by first | (with_reducible assumption) | assumption)
                            have q4 : x4_1 < (a0.size : Int) := of_decide_eq_true (by first | (with_reducible assumption) | assumption)
                            have hx4 := bt_at a0 x4_1
                            replace p4 := eq_true p4
                            replace q4 := eq_true q4
                            go_wp2
                            go_roundg k1
                            case measure => have := HK1.out; omega
                            case rel => exact ⟨(x3_1 ++ (⟨#[38, 35, 49, 51, 59]⟩ : ByteArray)), (wrap64 (x4_1 + 1)), (by first | rfl | (simp; done) | (simp [*]; done)), (by first | rfl | (simp; done) | (simp [*]; done)), H', ⟨by have := HK1.out; omega⟩, by repeat (first | exact Drawn0.refl _ | apply Drawn0.step)⟩
                          · rw [if_neg c20] at H
                            exact absurd H (by simp)
                        · rw [if_neg c19] at H
                          have c19b0 : ((bt a0 x4_1) == 13) = false := beq_eq_false_iff_ne.mpr c19
                          have c19b1 : ((bt a0 x4_1) != 13) = true := bne_iff_ne.mpr c19
                          have c21b0 := eq_true (of_decide_eq_true (by first | (with_reducible assumption) | assumption) : 0 ≤ x4_1)
                          by_cases c22 : x4_1 ≤ (wrap64 (x4_1 + 1))
                          · rw [if_pos c22] at H
                            have c22b0 := eq_true c22
                            have c22b1 : decide (x4_1 ≤ (wrap64 (x4_1 + 1))) = true := decide_eq_true c22
                            by_cases c23 : (wrap64 (x4_1 + 1)) ≤ (a0.size : Int)
                            · rw [if_pos c23] at H
                              have c23b0 := eq_true c23
                              have c23b1 : decide ((wrap64 (x4_1 + 1)) ≤ (a0.size : Int)) = true := decide_eq_true c23
                              by_cases c24 : x3_1.size + (a0.extract (x4_1 : Int).toNat ((wrap64 (x4_1 + 1)) : Int).toNat).size ≤ 9223372036854775807
                              · rw [if_pos c24] at H
                                have c24b0 := eq_true c24
                                have c24b1 : decide (x3_1.size + (a0.extract (x4_1 : Int).toNat ((wrap64 (x4_1 + 1)) : Int).toNat).size ≤ 9223372036854775807) = true := decide_eq_true c24
                                try have c24b2 : (9223372036854775807 < x3_1.size + (a0.extract (x4_1 : Int).toNat ((wrap64 (x4_1 + 1)) : Int).toNat).size) = False := eq_false (Nat.not_lt.2 c24)
                                have H' := Aside0.mk H
                                clear H
                                have p4 : 0 ≤ (x4_1 : Int) := of_decide_eq_true (by first | (with_reducible assumption) | assumption)
                                have q4 : x4_1 < (a0.size : Int) := of_decide_eq_true (by first | (with_reducible assumption) | assumption)
                                have hx4 := bt_at a0 x4_1
                                replace p4 := eq_true p4
                                replace q4 := eq_true q4
                                go_wp2
                                go_roundg k1
                                case measure => have := HK1.out; omega
                                case rel => exact ⟨(x3_1 ++ (a0.extract (x4_1 : Int).toNat ((wrap64 (x4_1 + 1)) : Int).toNat)), (wrap64 (x4_1 + 1)), (by first | rfl | (simp; done) | (simp [*]; done)), (by first | rfl | (simp; done) | (simp [*]; done)), H', ⟨by have := HK1.out; omega⟩, by repeat (first | exact Drawn0.refl _ | apply Drawn0.step)⟩
                              · rw [if_neg c24] at H
                                exact absurd H (by simp)
                            · rw [if_neg c23] at H
                              exact absurd H (by simp)
                          · rw [if_neg c22] at H
                            exact absurd H (by simp)
        · rw [if_neg c3] at H
          exact absurd H (by simp)
      · rw [if_neg c2] at H
        have c2b0 : decide (x4_1 < (a0.size : Int)) = false := decide_eq_false c2
        clear c2
        obtain rfl := Option.some.inj H
        go_wp2
        go_ret
        exact ⟨by first | rfl | (simp; done) | (simp [*]; done), by repeat (first | exact Drawn0.refl _ | apply Drawn0.step)⟩

end Go.Proofs.YtfelfpjfjjgmoaaDoor.P
end
