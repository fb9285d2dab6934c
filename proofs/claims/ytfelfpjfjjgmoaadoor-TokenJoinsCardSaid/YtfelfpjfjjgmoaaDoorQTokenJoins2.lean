/- Texts of this proof, one behind the other. -/
import Derived.Test.YtfelfpjfjjgmoaaDoorQTokenJoins1
/- Lean functions for functions of the program, and that the Go code comes to their answers, where the library's variables are as Gd says. Written by a turned copy of the kit's print; Lean checks it. -/
section
namespace Go.Proofs.YtfelfpjfjjgmoaaDoor.P
open Go.RowKit Go.Proofs.YtfelfpjfjjgmoaaDoorW.PrintWords Go.Proofs.YtfelfpjfjjgmoaaDoorW.PrintLast Go.Proofs.YtfelfpjfjjgmoaaDoorW.PrintMore
attribute [local go_sem] max2_int min2_int max_two min_two max_three min_three max_four min_four   -- for this text's walks alone
set_option linter.unusedVariables false
set_option linter.unusedSimpArgs false

/-! ### token_shut: function 24 -/
def token_shut.f (s0_0 : ByteArray) (s0_1 : ByteArray) : Option (Int × Int × ByteArray × ByteArray × (List (S35)) × Bool × Bool × ByteArray × ByteArray) := (token_name.f s0_0 s0_1).bind fun bt118 => ((token_run_string.f bt118.2.1 bt118.2.2 (⟨#[9, 10, 13, 32]⟩ : ByteArray)).bind fun bt122 => (if bt118.1.toList = ([] : List UInt8) then (some (2, 0, bt118.1, (⟨#[]⟩ : ByteArray), ([] : List (S35)), false, false, bt122.2.1, bt122.2.2)) else ((token_walk_string_is.f bt122.2.1 bt122.2.2 (⟨#[62]⟩ : ByteArray)).bind fun bt125 => (some (2, 0, bt118.1, (⟨#[]⟩ : ByteArray), ([] : List (S35)), false, bt125.1, bt125.2.1, bt125.2.2)))))
def token_shut.T3 : Bool × List (List Nat × List Nat) := (true, [([], []), ([], []), ([1], [1]), ([2], [2]), ([3], [3]), ([4], [4]), ([5, 4, 4], [4, 5]), ([4, 6], [4, 6]), ([0, 6, 0], [0]), ([7, 8, 0, 1, 2, 3, 4, 5, 6, 7, 8], [7])])
def token_shut.B3 : List Nat := [0, 0, 2, 6, 14, 30, 62, 126, 127, 511]
theorem token_shut.tab3 : rtab .any (opsOf Tryd.f24 3) = token_shut.T3 := by kernel_rfl
theorem token_shut.bits3 : waitsOk token_shut.T3.2 token_shut.B3 = true := by kernel_rfl
set_option maxHeartbeats 8000000 in
set_option maxRecDepth 100000 in
theorem token_shut.calls (g : Nat) (s0_0 : ByteArray) (s0_1 : ByteArray) (r1 : Int) (r2 : Int) (r3 : ByteArray) (r4 : ByteArray) (r5 : List (S35)) (r6 : Bool) (r7 : Bool) (r8 : ByteArray) (r9 : ByteArray) (w0 w : World) (hG_ : Gd w0) (hI : IsS46 w0 w g s0_0 s0_1) (hB : Below w0.heap.size w0 w) (h : token_shut.f s0_0 s0_1 = some (r1, r2, r3, r4, r5, r6, r7, r8, r9)) :
    Calls Tryd.prog 24 #[.pointer (some ⟨g, 0, none⟩)] w fun e w' => ∃ v4_ : Value, e = .returned (.tuple #[.agg #[.int .i64 r1, .int .i64 r2, .string r3, .string r4, v4_, .bool r6], .bool r7]) ∧ Kd.R k35 35 w' w.heap.size (fun _ => True) v4_ r5 ∧ IsS46 w0 w' g r8 r9 ∧ Below w0.heap.size w0 w' ∧ KeepBut w w' g none := by
  have hu33 := Tryd.underlying33
  have HI0 := Aside0.mk hI
  have HK := Aside0.mk (KeepBut.refl w g none)
  have HL := Aside0.mk hB.size
  clear hI
  have HW0 := Aside0.mk hB.size
  have HB := Aside0.mk hB
  clear hB
  have HG := Aside0.mk hG_
  clear hG_
  have H : ((token_name.f s0_0 s0_1).bind fun bt118 => ((token_run_string.f bt118.2.1 bt118.2.2 (⟨#[9, 10, 13, 32]⟩ : ByteArray)).bind fun bt122 => (if bt118.1.toList = ([] : List UInt8) then (some (2, 0, bt118.1, (⟨#[]⟩ : ByteArray), ([] : List (S35)), false, false, bt122.2.1, bt122.2.2)) else ((token_walk_string_is.f bt122.2.1 bt122.2.2 (⟨#[62]⟩ : ByteArray)).bind fun bt125 => (some (2, 0, bt118.1, (⟨#[]⟩ : ByteArray), ([] : List (S35)), false, bt125.1, bt125.2.1, bt125.2.2)))))) = some (r1, r2, r3, r4, r5, r6, r7, r8, r9) := h
  clear h
  replace H := Option.bind_eq_some_iff.mp H
  obtain ⟨⟨t118, t119, t120⟩, A20, H⟩ := H
  replace H : ((token_run_string.f t119 t120 (⟨#[9, 10, 13, 32]⟩ : ByteArray)).bind fun bt122 => (if t118.toList = ([] : List UInt8) then (some (2, 0, t118, (⟨#[]⟩ : ByteArray), ([] : List (S35)), false, false, bt122.2.1, bt122.2.2)) else ((token_walk_string_is.f bt122.2.1 bt122.2.2 (⟨#[62]⟩ : ByteArray)).bind fun bt125 => (some (2, 0, t118, (⟨#[]⟩ : ByteArray), ([] : List (S35)), false, bt125.1, bt125.2.1, bt125.2.2))))) = some (r1, r2, r3, r4, r5, r6, r7, r8, r9) := H
  have A2 := Aside0.mk A20
  clear A20
  replace H := Option.bind_eq_some_iff.mp H
  obtain ⟨⟨t122, t123, t124⟩, A30, H⟩ := H
  replace H : (if t118.toList = ([] : List UInt8) then (some (2, 0, t118, (⟨#[]⟩ : ByteArray), ([] : List (S35)), false, false, t123, t124)) else ((token_walk_string_is.f t123 t124 (⟨#[62]⟩ : ByteArray)).bind fun bt125 => (some (2, 0, t118, (⟨#[]⟩ : ByteArray), ([] : List (S35)), false, bt125.1, bt125.2.1, bt125.2.2)))) = some (r1, r2, r3, r4, r5, r6, r7, r8, r9) := H
  have A3 := Aside0.mk A30
  clear A30
  by_cases c4 : t118.toList = ([] : List UInt8)
  · rw [if_pos c4] at H
    have c4b0 : (t118.toList == ([] : List UInt8)) = true := beq_iff_eq.mpr c4
    have c4b1 : (t118.toList != ([] : List UInt8)) = false := bne_eq_false_iff_eq.mpr c4
    clear c4
    simp only [Option.some.injEq, Prod.mk.injEq] at H
    obtain ⟨rfl, rfl, rfl, rfl, rfl, rfl, rfl, rfl, rfl⟩ := H
    go_enter Tryd.func24, Tryd.ntmps24
    try go_wp2_with (first | ((with_reducible refine gate_dst (N := 2) rfl ?_); refine box_event ?hg (N := 2) ?hd (cs := #[.int .i64 0, .int .i64 0, .string (⟨#[]⟩ : ByteArray), .string (⟨#[]⟩ : ByteArray), .slice none 0 0, .bool false]) (t := 33) ?hr ?_; (case hd => rfl); (case hg => rfl); (case hr => first | (go_simp; done) | (go_simp; rfl)); intro gb117 hg w5 hbox hb; have n0_ := Aside0.mk (IsS46.below (by repeat (first | (with_reducible first | exact HI0.out | apply IsS46.alloc | apply IsS46.drewN | apply IsS46.drew | apply IsS46.set_0 | apply IsS46.set_1) | exact HI0.out)) hb); have n1_ := Aside0.mk (KeepBut.trans (by repeat (first | (with_reducible first | exact HK.out | apply KeepBut.set_ | apply keep_drewN | apply keep_drew | apply keep_alloc) | exact HK.out)) (KeepBut.of_below hb g none) (.inl rfl)); have n2_ := Aside0.mk (below_step (by repeat (first | (with_reducible first | exact HB.out | apply below_alloc | apply pw_below_drewN | apply below_drew1 | refine below_set ?_ (IsS46.ge HI0.out)) | exact HB.out)) hb); have n3_ := Aside0.mk (hbox); have n4_ := Aside0.mk ((by rw [hg]; exact (keep_size (w := w) (g := g) (row := none) (by repeat (first | (with_reducible first | exact HK.out | apply KeepBut.set_ | apply keep_drewN | apply keep_drew | apply keep_alloc) | exact HK.out))) : w.heap.size ≤ gb117)); have n5_ := Aside0.mk ((Nat.le_trans HW0.out (by rw [hg]; exact (keep_size (w := w) (g := g) (row := none) (by repeat (first | (with_reducible first | exact HK.out | apply KeepBut.set_ | apply keep_drewN | apply keep_drew | apply keep_alloc) | exact HK.out))) : w.heap.size ≤ gb117) : w0.heap.size ≤ gb117)); have n6_ := Aside0.mk ((by rw [hg]; exact Nat.ne_of_lt (IsS46.lt (show IsS46 w0 _ g s0_0 s0_1 from by repeat (first | (with_reducible first | exact HI0.out | apply IsS46.alloc | apply IsS46.drewN | apply IsS46.drew | apply IsS46.set_0 | apply IsS46.set_1) | exact HI0.out))) : g ≠ gb117)); have n7_ := Aside0.mk ((by rw [hg]; exact Nat.ne_of_gt (IsS46.lt (show IsS46 w0 _ g s0_0 s0_1 from by repeat (first | (with_reducible first | exact HI0.out | apply IsS46.alloc | apply IsS46.drewN | apply IsS46.drew | apply IsS46.set_0 | apply IsS46.set_1) | exact HI0.out))) : gb117 ≠ g)); clear HI0; clear HK; clear HB; have HI0 := n0_; have HK := n1_; have HB := n2_; have BK117 := n3_; have GW117 := n4_; have GE117 := n5_; have NB0_117 := n6_; have NB117_0 := n7_; clear n0_ n1_ n2_ n3_ n4_ n5_ n6_ n7_; clear hb hbox hg) | ((with_reducible refine gate_callee (f := 34) rfl ?_); refine goesL_ (some 6) rfl rfl Tryd.func34 (by kernel_rfl) rfl #[.pointer (some ⟨g, 0, none⟩)] rfl (by (try simp only [List.map_toArray, List.map_cons, List.map_nil]); first | done | rfl | (simp only [List.length_drop, List.length_take]; rfl)) ?_; (with_reducible refine (token_name.calls g s0_0 s0_1 t118 t119 t120 w0 _ HG.out ?side1 ?side2 A2.out).mono ?_); (case side1 => repeat (first | (with_reducible first | exact HI0.out | apply IsS46.alloc | apply IsS46.drewN | apply IsS46.drew | apply IsS46.set_0 | apply IsS46.set_1 | refine IsS46.far ?_ NB0_117.out _) | exact HI0.out)); (case side2 => repeat (first | (with_reducible first | exact HB.out | apply below_alloc | apply pw_below_drewN | apply below_drew1 | refine below_set ?_ (IsS46.ge HI0.out) | refine below_set ?_ GE117.out) | exact HB.out)); rintro e w6 ⟨rfl, hi, hb, hk⟩; refine ⟨_, rfl, ?_⟩; have n0_ := Aside0.mk (KeepBut.blk hk (g' := gb117) (o := .cells #[.int .i64 0, .int .i64 0, .string (⟨#[]⟩ : ByteArray), .string (⟨#[]⟩ : ByteArray), .slice none 0 0, .bool false] 33 (0, 0)) (by (with_reducible repeat (first | refine blk_drewN ?_ _ | refine blk_drew ?_ | refine blk_alloc ?_ _)); exact BK117.out) NB117_0.out (by simp)); have n1_ := Aside0.mk (KeepBut.trans (by repeat (first | (with_reducible first | exact HK.out | apply KeepBut.set_ | apply keep_drewN | apply keep_drew | apply keep_alloc | refine keep_far ?_ GW117.out _) | exact HK.out)) hk (.inl rfl)); have n2_ := Aside0.mk (hb); have n3_ := Aside0.mk (hi); clear BK117; clear HK; clear HB; clear HI0; have BK117 := n0_; have HK := n1_; have HB := n2_; have HI0 := n3_; clear n0_ n1_ n2_ n3_; (try clear hb); (try clear hb2); (try clear hk); (try clear hi)) | ((with_reducible refine gate_dst (N := 4) rfl ?_); refine box_event ?hg (N := 4) ?hd (cs := #[.int .i64 0, .int .i64 0, .string (⟨#[]⟩ : ByteArray), .string (⟨#[]⟩ : ByteArray), .slice none 0 0, .bool false]) (t := 33) ?hr ?_; (case hd => rfl); (case hg => rfl); (case hr => first | (go_simp; done) | (go_simp; rfl)); intro gb121 hg w7 hbox hb; have n0_ := Aside0.mk (IsS46.below (by repeat (first | (with_reducible first | exact HI0.out | apply IsS46.alloc | apply IsS46.drewN | apply IsS46.drew | apply IsS46.set_0 | apply IsS46.set_1 | refine IsS46.far ?_ NB0_117.out _) | exact HI0.out)) hb); have n1_ := Aside0.mk (blk_below (g := gb117) (o := .cells #[.int .i64 0, .int .i64 0, .string (⟨#[]⟩ : ByteArray), .string (⟨#[]⟩ : ByteArray), .slice none 0 0, .bool false] 33 (0, 0)) (by (with_reducible repeat (first | refine blk_drewN ?_ _ | refine blk_drew ?_ | refine blk_alloc ?_ _)); exact BK117.out) hb); have n2_ := Aside0.mk (KeepBut.trans (by repeat (first | (with_reducible first | exact HK.out | apply KeepBut.set_ | apply keep_drewN | apply keep_drew | apply keep_alloc | refine keep_far ?_ GW117.out _) | exact HK.out)) (KeepBut.of_below hb g none) (.inl rfl)); have n3_ := Aside0.mk (below_step (by repeat (first | (with_reducible first | exact HB.out | apply below_alloc | apply pw_below_drewN | apply below_drew1 | refine below_set ?_ (IsS46.ge HI0.out) | refine below_set ?_ GE117.out) | exact HB.out)) hb); have n4_ := Aside0.mk (hbox); have n5_ := Aside0.mk ((by rw [hg]; exact (keep_size (w := w) (g := g) (row := none) (by repeat (first | (with_reducible first | exact HK.out | apply KeepBut.set_ | apply keep_drewN | apply keep_drew | apply keep_alloc | refine keep_far ?_ GW117.out _) | exact HK.out))) : w.heap.size ≤ gb121)); have n6_ := Aside0.mk ((Nat.le_trans HW0.out (by rw [hg]; exact (keep_size (w := w) (g := g) (row := none) (by repeat (first | (with_reducible first | exact HK.out | apply KeepBut.set_ | apply keep_drewN | apply keep_drew | apply keep_alloc | refine keep_far ?_ GW117.out _) | exact HK.out))) : w.heap.size ≤ gb121) : w0.heap.size ≤ gb121)); have n7_ := Aside0.mk ((by rw [hg]; exact Nat.ne_of_lt (blk_lt (g := gb117) (o := .cells #[.int .i64 0, .int .i64 0, .string (⟨#[]⟩ : ByteArray), .string (⟨#[]⟩ : ByteArray), .slice none 0 0, .bool false] 33 (0, 0)) (by (with_reducible repeat (first | refine blk_drewN ?_ _ | refine blk_drew ?_ | refine blk_alloc ?_ _)); exact BK117.out)) : gb117 ≠ gb121)); have n8_ := Aside0.mk ((by rw [hg]; exact Nat.ne_of_gt (blk_lt (g := gb117) (o := .cells #[.int .i64 0, .int .i64 0, .string (⟨#[]⟩ : ByteArray), .string (⟨#[]⟩ : ByteArray), .slice none 0 0, .bool false] 33 (0, 0)) (by (with_reducible repeat (first | refine blk_drewN ?_ _ | refine blk_drew ?_ | refine blk_alloc ?_ _)); exact BK117.out)) : gb121 ≠ gb117)); have n9_ := Aside0.mk ((by rw [hg]; exact Nat.ne_of_lt (IsS46.lt (show IsS46 w0 _ g t119 t120 from by repeat (first | (with_reducible first | exact HI0.out | apply IsS46.alloc | apply IsS46.drewN | apply IsS46.drew | apply IsS46.set_0 | apply IsS46.set_1 | refine IsS46.far ?_ NB0_117.out _) | exact HI0.out))) : g ≠ gb121)); have n10_ := Aside0.mk ((by rw [hg]; exact Nat.ne_of_gt (IsS46.lt (show IsS46 w0 _ g t119 t120 from by repeat (first | (with_reducible first | exact HI0.out | apply IsS46.alloc | apply IsS46.drewN | apply IsS46.drew | apply IsS46.set_0 | apply IsS46.set_1 | refine IsS46.far ?_ NB0_117.out _) | exact HI0.out))) : gb121 ≠ g)); clear HI0; clear BK117; clear HK; clear HB; have HI0 := n0_; have BK117 := n1_; have HK := n2_; have HB := n3_; have BK121 := n4_; have GW121 := n5_; have GE121 := n6_; have NB117_121 := n7_; have NB121_117 := n8_; have NB0_121 := n9_; have NB121_0 := n10_; clear n0_ n1_ n2_ n3_ n4_ n5_ n6_ n7_ n8_ n9_ n10_; clear hb hbox hg; have hnb8 := NB121_117.out; have hnc8 := NB117_121.out; have hnb9 := NB121_0.out; have hnc9 := NB0_121.out; have hcz10_0 : w7.cell? ⟨gb121, 0, none⟩ = some (.int .i64 0) := (blk_cell BK121.out 0).trans rfl; have hcz10_1 : w7.cell? ⟨gb121, 1, none⟩ = some (.int .i64 0) := (blk_cell BK121.out 1).trans rfl; have hcz10_2 : w7.cell? ⟨gb121, 2, none⟩ = some (.string (⟨#[]⟩ : ByteArray)) := (blk_cell BK121.out 2).trans rfl; have hcz10_3 : w7.cell? ⟨gb121, 3, none⟩ = some (.string (⟨#[]⟩ : ByteArray)) := (blk_cell BK121.out 3).trans rfl; have hcz10_4 : w7.cell? ⟨gb121, 4, none⟩ = some (.slice none 0 0) := (blk_cell BK121.out 4).trans rfl; have hcz10_5 : w7.cell? ⟨gb121, 5, none⟩ = some (.bool false) := (blk_cell BK121.out 5).trans rfl; have hfz10_0 := blk_frozen BK121.out 0; have hfz10_1 := blk_frozen BK121.out 1; have hfz10_2 := blk_frozen BK121.out 2; have hfz10_3 := blk_frozen BK121.out 3; have hfz10_4 := blk_frozen BK121.out 4; have hfz10_5 := blk_frozen BK121.out 5) | ((with_reducible refine gate_callee (f := 35) rfl ?_); refine goesL_ (some 9) rfl rfl Tryd.func35 (by kernel_rfl) rfl #[.pointer (some ⟨g, 0, none⟩), .string (⟨#[9, 10, 13, 32]⟩ : ByteArray)] rfl (by (try simp only [List.map_toArray, List.map_cons, List.map_nil]); first | done | rfl | (simp only [List.length_drop, List.length_take]; rfl)) ?_; (with_reducible refine (token_run_string.calls g t119 t120 (⟨#[9, 10, 13, 32]⟩ : ByteArray) t122 t123 t124 w0 _ HG.out ?side1 ?side2 A3.out).mono ?_); (case side1 => repeat (first | (with_reducible first | exact HI0.out | apply IsS46.alloc | apply IsS46.drewN | apply IsS46.drew | apply IsS46.set_0 | apply IsS46.set_1 | refine IsS46.far ?_ NB0_117.out _ | refine IsS46.far ?_ NB0_121.out _) | exact HI0.out)); (case side2 => repeat (first | (with_reducible first | exact HB.out | apply below_alloc | apply pw_below_drewN | apply below_drew1 | refine below_set ?_ (IsS46.ge HI0.out) | refine below_set ?_ GE117.out | refine below_set ?_ GE121.out) | exact HB.out)); rintro e w11 ⟨rfl, hi, hb, hk⟩; refine ⟨_, rfl, ?_⟩; have n0_ := Aside0.mk (KeepBut.blk hk (g' := gb117) (o := .cells #[.int .i64 0, .int .i64 0, .string (⟨#[]⟩ : ByteArray), .string (⟨#[]⟩ : ByteArray), .slice none 0 0, .bool false] 33 (0, 0)) (by (with_reducible repeat (first | refine blk_drewN ?_ _ | refine blk_drew ?_ | refine blk_alloc ?_ _)); refine blk_far ?_ NB117_121.out _; (with_reducible repeat (first | refine blk_drewN ?_ _ | refine blk_drew ?_ | refine blk_alloc ?_ _)); refine blk_far ?_ NB117_121.out _; (with_reducible repeat (first | refine blk_drewN ?_ _ | refine blk_drew ?_ | refine blk_alloc ?_ _)); refine blk_far ?_ NB117_121.out _; (with_reducible repeat (first | refine blk_drewN ?_ _ | refine blk_drew ?_ | refine blk_alloc ?_ _)); refine blk_far ?_ NB117_121.out _; (with_reducible repeat (first | refine blk_drewN ?_ _ | refine blk_drew ?_ | refine blk_alloc ?_ _)); refine blk_far ?_ NB117_121.out _; (with_reducible repeat (first | refine blk_drewN ?_ _ | refine blk_drew ?_ | refine blk_alloc ?_ _)); refine blk_far ?_ NB117_121.out _; (with_reducible repeat (first | refine blk_drewN ?_ _ | refine blk_drew ?_ | refine blk_alloc ?_ _)); exact BK117.out) NB117_0.out (by simp)); have n1_ := Aside0.mk (KeepBut.blk hk (g' := gb121) (o := .cells #[.int .i64 2, .int .i64 0, .string t118, .string (⟨#[]⟩ : ByteArray), .slice none 0 0, .bool false] 33 (0, 0)) (by (with_reducible repeat (first | refine blk_drewN ?_ _ | refine blk_drew ?_ | refine blk_alloc ?_ _)); refine blk_put (cs := #[.int .i64 2, .int .i64 0, .string t118, .string (⟨#[]⟩ : ByteArray), .slice none 0 0, .bool false]) ?_ 5 _ rfl; (with_reducible repeat (first | refine blk_drewN ?_ _ | refine blk_drew ?_ | refine blk_alloc ?_ _)); refine blk_put (cs := #[.int .i64 2, .int .i64 0, .string t118, .string (⟨#[]⟩ : ByteArray), .slice none 0 0, .bool false]) ?_ 4 _ rfl; (with_reducible repeat (first | refine blk_drewN ?_ _ | refine blk_drew ?_ | refine blk_alloc ?_ _)); refine blk_put (cs := #[.int .i64 2, .int .i64 0, .string t118, .string (⟨#[]⟩ : ByteArray), .slice none 0 0, .bool false]) ?_ 3 _ rfl; (with_reducible repeat (first | refine blk_drewN ?_ _ | refine blk_drew ?_ | refine blk_alloc ?_ _)); refine blk_put (cs := #[.int .i64 2, .int .i64 0, .string (⟨#[]⟩ : ByteArray), .string (⟨#[]⟩ : ByteArray), .slice none 0 0, .bool false]) ?_ 2 _ rfl; (with_reducible repeat (first | refine blk_drewN ?_ _ | refine blk_drew ?_ | refine blk_alloc ?_ _)); refine blk_put (cs := #[.int .i64 2, .int .i64 0, .string (⟨#[]⟩ : ByteArray), .string (⟨#[]⟩ : ByteArray), .slice none 0 0, .bool false]) ?_ 1 _ rfl; (with_reducible repeat (first | refine blk_drewN ?_ _ | refine blk_drew ?_ | refine blk_alloc ?_ _)); refine blk_put (cs := #[.int .i64 0, .int .i64 0, .string (⟨#[]⟩ : ByteArray), .string (⟨#[]⟩ : ByteArray), .slice none 0 0, .bool false]) ?_ 0 _ rfl; (with_reducible repeat (first | refine blk_drewN ?_ _ | refine blk_drew ?_ | refine blk_alloc ?_ _)); exact BK121.out) NB121_0.out (by simp)); have n2_ := Aside0.mk (KeepBut.trans (by repeat (first | (with_reducible first | exact HK.out | apply KeepBut.set_ | apply keep_drewN | apply keep_drew | apply keep_alloc | refine keep_far ?_ GW117.out _ | refine keep_far ?_ GW121.out _) | exact HK.out)) hk (.inl rfl)); have n3_ := Aside0.mk (hb); have n4_ := Aside0.mk (hi); clear BK117; clear BK121; clear HK; clear HB; clear HI0; have BK117 := n0_; have BK121 := n1_; have HK := n2_; have HB := n3_; have HI0 := n4_; clear n0_ n1_ n2_ n3_ n4_; (try clear hb); (try clear hb2); (try clear hk); (try clear hi)))
    have n0_ := Aside0.mk (blk_drew BK117.out)
    have n1_ := Aside0.mk (blk_drew BK121.out)
    have n2_ := Aside0.mk (IsS46.drew HI0.out)
    have n3_ := Aside0.mk (keep_drew HK.out)
    have n4_ := Aside0.mk (below_drew1 HB.out)
    clear BK117
    clear BK121
    clear HI0
    clear HK
    clear HB
    have BK117 := n0_
    have BK121 := n1_
    have HI0 := n2_
    have HK := n3_
    have HB := n4_
    clear n0_ n1_ n2_ n3_ n4_
    refine start_ (n := 10) (S := fun w' => w'.cell? ⟨gb121, 0, none⟩ = some (.int .i64 2) ∧ w'.cell? ⟨gb121, 1, none⟩ = some (.int .i64 0) ∧ w'.cell? ⟨gb121, 2, none⟩ = some (.string t118) ∧ w'.cell? ⟨gb121, 3, none⟩ = some (.string (⟨#[]⟩ : ByteArray)) ∧ w'.cell? ⟨gb121, 4, none⟩ = some (.slice none 0 0) ∧ w'.cell? ⟨gb121, 5, none⟩ = some (.bool false)) (ds := []) #[false, false, false, false, false, false, false, false, false, false] (by kernel_rfl) rfl rfl ⟨(blk_cell BK121.out 0).trans rfl, (blk_cell BK121.out 1).trans rfl, (blk_cell BK121.out 2).trans rfl, (blk_cell BK121.out 3).trans rfl, (blk_cell BK121.out 4).trans rfl, (blk_cell BK121.out 5).trans rfl⟩ (fun hHeld => ?_); refine with_tabW token_shut.tab3 token_shut.bits3 (fun HT_ HW_ => ?_)
    generalize w11.drew = w12 at BK117 BK121 HI0 HK HB hHeld ⊢
    refine pure_ (i := 1) (N := some 11) (v := ?_) (a' := ?_) #[false, true, false, false, false, false, false, false, false, false] rfl rfl (any_of HT_.out (by kernel_rfl)) (fun _ _ _ h => h) (Or.inl ⟨by rfl, ?_⟩) ?_ ?_
    rotate_left
    · intro w'
      go_simp
      with_reducible rfl
    rotate_left
    · simp only [Act.put, List.setIfInBounds_toArray, List.set_cons_zero, List.set_cons_succ, i64_w, i32_w]
      rfl
    refine take_ (i := 0) (N := some 10) (v := ?_) (a' := ?_) #[true, true, false, false, false, false, false, false, false, false] rfl rfl (take_ofW HT_.out HW_.out (by kernel_rfl)) (fun _ _ _ h => h) (Or.inl ⟨by rfl, ?_⟩) hHeld ?_ ?_
    rotate_left
    · rintro w' ⟨s0, s1, s2, s3, s4, s5⟩
      go_simp
      with_reducible rfl
    rotate_left
    · simp only [Act.put, List.setIfInBounds_toArray, List.set_cons_zero, List.set_cons_succ, i64_w, i32_w]
      rfl
    refine take_ (i := 2) (N := some 12) (v := ?_) (a' := ?_) #[true, true, true, false, false, false, false, false, false, false] rfl rfl (take_ofW HT_.out HW_.out (by kernel_rfl)) (fun _ _ _ h => h) (Or.inl ⟨by rfl, ?_⟩) hHeld ?_ ?_
    rotate_left
    · rintro w' ⟨s0, s1, s2, s3, s4, s5⟩
      go_simp
      with_reducible rfl
    rotate_left
    · simp only [Act.put, List.setIfInBounds_toArray, List.set_cons_zero, List.set_cons_succ, i64_w, i32_w]
      rfl
    refine pure_ (i := 3) (N := some 13) (v := ?_) (a' := ?_) #[true, true, true, true, false, false, false, false, false, false] rfl rfl (any_of HT_.out (by kernel_rfl)) (fun _ _ _ h => h) (Or.inl ⟨by rfl, ?_⟩) ?_ ?_
    rotate_left
    · intro w'
      go_simp
      with_reducible rfl
    rotate_left
    · simp only [Act.put, List.setIfInBounds_toArray, List.set_cons_zero, List.set_cons_succ, i64_w, i32_w]
      rfl
    refine pure_ (i := 4) (N := some 14) (v := ?_) (a' := ?_) #[true, true, true, true, true, false, false, false, false, false] rfl rfl (any_of HT_.out (by kernel_rfl)) (fun _ _ _ h => h) (Or.inl ⟨by rfl, ?_⟩) ?_ ?_
    rotate_left
    · intro w'
      go_simp
      with_reducible rfl
    rotate_left
    · simp only [Act.put, List.setIfInBounds_toArray, List.set_cons_zero, List.set_cons_succ, i64_w, i32_w]
      rfl
    refine pure_ (i := 5) (N := some 15) (v := undef) (a' := ?_) #[true, true, true, true, true, true, false, false, false, false] rfl rfl (any_of HT_.out (by kernel_rfl)) (fun _ _ _ h => h) (Or.inr ⟨by rfl, rfl⟩) ?_ ?_
    rotate_left
    · simp only [Act.put, List.setIfInBounds_toArray, List.set_cons_zero, List.set_cons_succ, i64_w, i32_w]
      rfl
    refine pure_ (i := 6) (N := some 16) (v := undef) (a' := ?_) #[true, true, true, true, true, true, true, false, false, false] rfl rfl (any_of HT_.out (by kernel_rfl)) (fun _ _ _ h => h) (Or.inr ⟨by rfl, rfl⟩) ?_ ?_
    rotate_left
    · simp only [Act.put, List.setIfInBounds_toArray, List.set_cons_zero, List.set_cons_succ, i64_w, i32_w]
      rfl
    refine pure_ (i := 7) (N := some 17) (v := ?_) (a' := ?_) #[true, true, true, true, true, true, true, true, false, false] rfl rfl (any_of HT_.out (by kernel_rfl)) (fun _ _ _ h => h) (Or.inl ⟨by rfl, ?_⟩) ?_ ?_
    rotate_left
    · intro w'
      go_simp
      with_reducible rfl
    rotate_left
    · simp only [Act.put, List.setIfInBounds_toArray, List.set_cons_zero, List.set_cons_succ, i64_w, i32_w]
      rfl
    refine one_ (i := 8) (N := none) #[true, true, true, true, true, true, true, true, true, false] rfl rfl (one_of HT_.out (by kernel_rfl)) (by decide) (fun K hK => ?_)
    have hs13 : w12.cell? ⟨gb117, 0, none⟩ = some (.int .i64 0) := (blk_cell BK117.out 0).trans rfl
    have hfs13 := blk_frozen BK117.out 0
    have hns13_1 := NB121_117.out
    have hms13_1 := NB117_121.out
    have hs14 : w12.cell? ⟨gb117, 1, none⟩ = some (.int .i64 0) := (blk_cell BK117.out 1).trans rfl
    have hfs14 := blk_frozen BK117.out 1
    have hns14_1 := NB121_117.out
    have hms14_1 := NB117_121.out
    have hs15 : w12.cell? ⟨gb117, 2, none⟩ = some (.string (⟨#[]⟩ : ByteArray)) := (blk_cell BK117.out 2).trans rfl
    have hfs15 := blk_frozen BK117.out 2
    have hns15_1 := NB121_117.out
    have hms15_1 := NB117_121.out
    have hs16 : w12.cell? ⟨gb117, 3, none⟩ = some (.string (⟨#[]⟩ : ByteArray)) := (blk_cell BK117.out 3).trans rfl
    have hfs16 := blk_frozen BK117.out 3
    have hns16_1 := NB121_117.out
    have hms16_1 := NB117_121.out
    have hs17 : w12.cell? ⟨gb117, 4, none⟩ = some (.slice none 0 0) := (blk_cell BK117.out 4).trans rfl
    have hfs17 := blk_frozen BK117.out 4
    have hns17_1 := NB121_117.out
    have hms17_1 := NB117_121.out
    have hs18 : w12.cell? ⟨gb117, 5, none⟩ = some (.bool false) := (blk_cell BK117.out 5).trans rfl
    have hfs18 := blk_frozen BK117.out 5
    have hns18_1 := NB121_117.out
    have hms18_1 := NB117_121.out
    refine skip_ (w1 := ?_) (by rfl) rfl ?_ ?_
    rotate_left
    · go_simp
      rfl
    refine hK.out _ _ ⟨((cell_far (p := ⟨gb117, _, none⟩) NB121_117.out _).trans (((cell_far (p := ⟨gb117, _, none⟩) NB121_117.out _).trans (((cell_far (p := ⟨gb117, _, none⟩) NB121_117.out _).trans (((cell_far (p := ⟨gb117, _, none⟩) NB121_117.out _).trans (((cell_far (p := ⟨gb117, _, none⟩) NB121_117.out _).trans (((cell_far (p := ⟨gb117, _, none⟩) NB121_117.out _).trans (hHeld.1)))))))))))), ((cell_far (p := ⟨gb117, _, none⟩) NB121_117.out _).trans (((cell_far (p := ⟨gb117, _, none⟩) NB121_117.out _).trans (((cell_far (p := ⟨gb117, _, none⟩) NB121_117.out _).trans (((cell_far (p := ⟨gb117, _, none⟩) NB121_117.out _).trans (((cell_far (p := ⟨gb117, _, none⟩) NB121_117.out _).trans (((cell_far (p := ⟨gb117, _, none⟩) NB121_117.out _).trans (hHeld.2.1)))))))))))), ((cell_far (p := ⟨gb117, _, none⟩) NB121_117.out _).trans (((cell_far (p := ⟨gb117, _, none⟩) NB121_117.out _).trans (((cell_far (p := ⟨gb117, _, none⟩) NB121_117.out _).trans (((cell_far (p := ⟨gb117, _, none⟩) NB121_117.out _).trans (((cell_far (p := ⟨gb117, _, none⟩) NB121_117.out _).trans (((cell_far (p := ⟨gb117, _, none⟩) NB121_117.out _).trans (hHeld.2.2.1)))))))))))), ((cell_far (p := ⟨gb117, _, none⟩) NB121_117.out _).trans (((cell_far (p := ⟨gb117, _, none⟩) NB121_117.out _).trans (((cell_far (p := ⟨gb117, _, none⟩) NB121_117.out _).trans (((cell_far (p := ⟨gb117, _, none⟩) NB121_117.out _).trans (((cell_far (p := ⟨gb117, _, none⟩) NB121_117.out _).trans (((cell_far (p := ⟨gb117, _, none⟩) NB121_117.out _).trans (hHeld.2.2.2.1)))))))))))), ((cell_far (p := ⟨gb117, _, none⟩) NB121_117.out _).trans (((cell_far (p := ⟨gb117, _, none⟩) NB121_117.out _).trans (((cell_far (p := ⟨gb117, _, none⟩) NB121_117.out _).trans (((cell_far (p := ⟨gb117, _, none⟩) NB121_117.out _).trans (((cell_far (p := ⟨gb117, _, none⟩) NB121_117.out _).trans (((cell_far (p := ⟨gb117, _, none⟩) NB121_117.out _).trans (hHeld.2.2.2.2.1)))))))))))), ((cell_far (p := ⟨gb117, _, none⟩) NB121_117.out _).trans (((cell_far (p := ⟨gb117, _, none⟩) NB121_117.out _).trans (((cell_far (p := ⟨gb117, _, none⟩) NB121_117.out _).trans (((cell_far (p := ⟨gb117, _, none⟩) NB121_117.out _).trans (((cell_far (p := ⟨gb117, _, none⟩) NB121_117.out _).trans (((cell_far (p := ⟨gb117, _, none⟩) NB121_117.out _).trans (hHeld.2.2.2.2.2))))))))))))⟩ (fun hHeld => ?_)
    clear hK K
    refine pure_ (i := 9) (N := some 3) (v := ?_) (a' := ?_) #[true, true, true, true, true, true, true, true, true, true] rfl rfl (any_of HT_.out (by kernel_rfl)) (fun _ _ _ h => h) (Or.inl ⟨by rfl, ?_⟩) ?_ ?_
    rotate_left
    · intro w'
      go_simp
      with_reducible rfl
    rotate_left
    · simp only [Act.put, List.setIfInBounds_toArray, List.set_cons_zero, List.set_cons_succ, i64_w, i32_w]
      rfl
    refine done_ (done_of HT_.out (by kernel_rfl)) ?_
    try go_wp2
    refine bodyPost_ret (results_ct rfl _ _ gb117 33 #[.int .i64 2, .int .i64 0, .string t118, .string (⟨#[]⟩ : ByteArray), .slice none 0 0, .bool false] (0, 0) _ rfl (by (with_reducible repeat (first | refine blk_drewN ?_ _ | refine blk_drew ?_ | refine blk_alloc ?_ _)); refine blk_put (cs := #[.int .i64 2, .int .i64 0, .string t118, .string (⟨#[]⟩ : ByteArray), .slice none 0 0, .bool false]) ?_ 5 _ rfl; (with_reducible repeat (first | refine blk_drewN ?_ _ | refine blk_drew ?_ | refine blk_alloc ?_ _)); refine blk_put (cs := #[.int .i64 2, .int .i64 0, .string t118, .string (⟨#[]⟩ : ByteArray), .slice none 0 0, .bool false]) ?_ 4 _ rfl; (with_reducible repeat (first | refine blk_drewN ?_ _ | refine blk_drew ?_ | refine blk_alloc ?_ _)); refine blk_put (cs := #[.int .i64 2, .int .i64 0, .string t118, .string (⟨#[]⟩ : ByteArray), .slice none 0 0, .bool false]) ?_ 3 _ rfl; (with_reducible repeat (first | refine blk_drewN ?_ _ | refine blk_drew ?_ | refine blk_alloc ?_ _)); refine blk_put (cs := #[.int .i64 2, .int .i64 0, .string (⟨#[]⟩ : ByteArray), .string (⟨#[]⟩ : ByteArray), .slice none 0 0, .bool false]) ?_ 2 _ rfl; (with_reducible repeat (first | refine blk_drewN ?_ _ | refine blk_drew ?_ | refine blk_alloc ?_ _)); refine blk_put (cs := #[.int .i64 2, .int .i64 0, .string (⟨#[]⟩ : ByteArray), .string (⟨#[]⟩ : ByteArray), .slice none 0 0, .bool false]) ?_ 1 _ rfl; (with_reducible repeat (first | refine blk_drewN ?_ _ | refine blk_drew ?_ | refine blk_alloc ?_ _)); refine blk_put (cs := #[.int .i64 0, .int .i64 0, .string (⟨#[]⟩ : ByteArray), .string (⟨#[]⟩ : ByteArray), .slice none 0 0, .bool false]) ?_ 0 _ rfl; (with_reducible repeat (first | refine blk_drewN ?_ _ | refine blk_drew ?_ | refine blk_alloc ?_ _)); exact BK117.out) Tryd.underlying33 rfl (by kernel_rfl)) rfl ?_
    exact ⟨_, by first | rfl | (simp [errW_none, errW_some] <;> rfl) | (simp [*, errW_none, errW_some] <;> rfl), by first | exact Kd.R_nil _ _ _ _ _ | exact Kd.N_nil _ _ _ _ _ | exact Kd.V_nil _ _ _ _ _ | exact Kd.Q_nil _ _ _ _ _ | exact Kd.S_nil _ _ _ _ _, by repeat (first | (with_reducible first | exact HI0.out | apply IsS46.alloc | apply IsS46.drewN | apply IsS46.drew | apply IsS46.set_0 | apply IsS46.set_1 | refine IsS46.far ?_ NB0_117.out _ | refine IsS46.far ?_ NB0_121.out _) | exact HI0.out), by repeat (first | (with_reducible first | exact HB.out | apply below_alloc | apply pw_below_drewN | apply below_drew1 | refine below_set ?_ (IsS46.ge HI0.out) | refine below_set ?_ GE117.out | refine below_set ?_ GE121.out) | exact HB.out), by repeat (first | (with_reducible first | exact HK.out | apply KeepBut.set_ | apply keep_drewN | apply keep_drew | apply keep_alloc | refine keep_far ?_ GW117.out _ | refine keep_far ?_ GW121.out _) | exact HK.out)⟩
  · rw [if_neg c4] at H
    have c4b0 : (t118.toList == ([] : List UInt8)) = false := beq_eq_false_iff_ne.mpr c4
    have c4b1 : (t118.toList != ([] : List UInt8)) = true := bne_iff_ne.mpr c4
    replace H := Option.bind_eq_some_iff.mp H
    obtain ⟨⟨t125, t126, t127⟩, A190, H⟩ := H
    replace H : (some (2, 0, t118, (⟨#[]⟩ : ByteArray), ([] : List (S35)), false, t125, t126, t127)) = some (r1, r2, r3, r4, r5, r6, r7, r8, r9) := H
    have A19 := Aside0.mk A190
    clear A190
    simp only [Option.some.injEq, Prod.mk.injEq] at H
    obtain ⟨rfl, rfl, rfl, rfl, rfl, rfl, rfl, rfl, rfl⟩ := H
    go_enter Tryd.func24, Tryd.ntmps24
    try go_wp2_with (first | ((with_reducible refine gate_dst (N := 2) rfl ?_); refine box_event ?hg (N := 2) ?hd (cs := #[.int .i64 0, .int .i64 0, .string (⟨#[]⟩ : ByteArray), .string (⟨#[]⟩ : ByteArray), .slice none 0 0, .bool false]) (t := 33) ?hr ?_; (case hd => rfl); (case hg => rfl); (case hr => first | (go_simp; done) | (go_simp; rfl)); intro gb117 hg w20 hbox hb; have n0_ := Aside0.mk (IsS46.below (by repeat (first | (with_reducible first | exact HI0.out | apply IsS46.alloc | apply IsS46.drewN | apply IsS46.drew | apply IsS46.set_0 | apply IsS46.set_1) | exact HI0.out)) hb); have n1_ := Aside0.mk (KeepBut.trans (by repeat (first | (with_reducible first | exact HK.out | apply KeepBut.set_ | apply keep_drewN | apply keep_drew | apply keep_alloc) | exact HK.out)) (KeepBut.of_below hb g none) (.inl rfl)); have n2_ := Aside0.mk (below_step (by repeat (first | (with_reducible first | exact HB.out | apply below_alloc | apply pw_below_drewN | apply below_drew1 | refine below_set ?_ (IsS46.ge HI0.out)) | exact HB.out)) hb); have n3_ := Aside0.mk (hbox); have n4_ := Aside0.mk ((by rw [hg]; exact (keep_size (w := w) (g := g) (row := none) (by repeat (first | (with_reducible first | exact HK.out | apply KeepBut.set_ | apply keep_drewN | apply keep_drew | apply keep_alloc) | exact HK.out))) : w.heap.size ≤ gb117)); have n5_ := Aside0.mk ((Nat.le_trans HW0.out (by rw [hg]; exact (keep_size (w := w) (g := g) (row := none) (by repeat (first | (with_reducible first | exact HK.out | apply KeepBut.set_ | apply keep_drewN | apply keep_drew | apply keep_alloc) | exact HK.out))) : w.heap.size ≤ gb117) : w0.heap.size ≤ gb117)); have n6_ := Aside0.mk ((by rw [hg]; exact Nat.ne_of_lt (IsS46.lt (show IsS46 w0 _ g s0_0 s0_1 from by repeat (first | (with_reducible first | exact HI0.out | apply IsS46.alloc | apply IsS46.drewN | apply IsS46.drew | apply IsS46.set_0 | apply IsS46.set_1) | exact HI0.out))) : g ≠ gb117)); have n7_ := Aside0.mk ((by rw [hg]; exact Nat.ne_of_gt (IsS46.lt (show IsS46 w0 _ g s0_0 s0_1 from by repeat (first | (with_reducible first | exact HI0.out | apply IsS46.alloc | apply IsS46.drewN | apply IsS46.drew | apply IsS46.set_0 | apply IsS46.set_1) | exact HI0.out))) : gb117 ≠ g)); clear HI0; clear HK; clear HB; have HI0 := n0_; have HK := n1_; have HB := n2_; have BK117 := n3_; have GW117 := n4_; have GE117 := n5_; have NB0_117 := n6_; have NB117_0 := n7_; clear n0_ n1_ n2_ n3_ n4_ n5_ n6_ n7_; clear hb hbox hg) | ((with_reducible refine gate_callee (f := 34) rfl ?_); refine goesL_ (some 6) rfl rfl Tryd.func34 (by kernel_rfl) rfl #[.pointer (some ⟨g, 0, none⟩)] rfl (by (try simp only [List.map_toArray, List.map_cons, List.map_nil]); first | done | rfl | (simp only [List.length_drop, List.length_take]; rfl)) ?_; (with_reducible refine (token_name.calls g s0_0 s0_1 t118 t119 t120 w0 _ HG.out ?side1 ?side2 A2.out).mono ?_); (case side1 => repeat (first | (with_reducible first | exact HI0.out | apply IsS46.alloc | apply IsS46.drewN | apply IsS46.drew | apply IsS46.set_0 | apply IsS46.set_1 | refine IsS46.far ?_ NB0_117.out _) | exact HI0.out)); (case side2 => repeat (first | (with_reducible first | exact HB.out | apply below_alloc | apply pw_below_drewN | apply below_drew1 | refine below_set ?_ (IsS46.ge HI0.out) | refine below_set ?_ GE117.out) | exact HB.out)); rintro e w21 ⟨rfl, hi, hb, hk⟩; refine ⟨_, rfl, ?_⟩; have n0_ := Aside0.mk (KeepBut.blk hk (g' := gb117) (o := .cells #[.int .i64 0, .int .i64 0, .string (⟨#[]⟩ : ByteArray), .string (⟨#[]⟩ : ByteArray), .slice none 0 0, .bool false] 33 (0, 0)) (by (with_reducible repeat (first | refine blk_drewN ?_ _ | refine blk_drew ?_ | refine blk_alloc ?_ _)); exact BK117.out) NB117_0.out (by simp)); have n1_ := Aside0.mk (KeepBut.trans (by repeat (first | (with_reducible first | exact HK.out | apply KeepBut.set_ | apply keep_drewN | apply keep_drew | apply keep_alloc | refine keep_far ?_ GW117.out _) | exact HK.out)) hk (.inl rfl)); have n2_ := Aside0.mk (hb); have n3_ := Aside0.mk (hi); clear BK117; clear HK; clear HB; clear HI0; have BK117 := n0_; have HK := n1_; have HB := n2_; have HI0 := n3_; clear n0_ n1_ n2_ n3_; (try clear hb); (try clear hb2); (try clear hk); (try clear hi)) | ((with_reducible refine gate_dst (N := 4) rfl ?_); refine box_event ?hg (N := 4) ?hd (cs := #[.int .i64 0, .int .i64 0, .string (⟨#[]⟩ : ByteArray), .string (⟨#[]⟩ : ByteArray), .slice none 0 0, .bool false]) (t := 33) ?hr ?_; (case hd => rfl); (case hg => rfl); (case hr => first | (go_simp; done) | (go_simp; rfl)); intro gb121 hg w22 hbox hb; have n0_ := Aside0.mk (IsS46.below (by repeat (first | (with_reducible first | exact HI0.out | apply IsS46.alloc | apply IsS46.drewN | apply IsS46.drew | apply IsS46.set_0 | apply IsS46.set_1 | refine IsS46.far ?_ NB0_117.out _) | exact HI0.out)) hb); have n1_ := Aside0.mk (blk_below (g := gb117) (o := .cells #[.int .i64 0, .int .i64 0, .string (⟨#[]⟩ : ByteArray), .string (⟨#[]⟩ : ByteArray), .slice none 0 0, .bool false] 33 (0, 0)) (by (with_reducible repeat (first | refine blk_drewN ?_ _ | refine blk_drew ?_ | refine blk_alloc ?_ _)); exact BK117.out) hb); have n2_ := Aside0.mk (KeepBut.trans (by repeat (first | (with_reducible first | exact HK.out | apply KeepBut.set_ | apply keep_drewN | apply keep_drew | apply keep_alloc | refine keep_far ?_ GW117.out _) | exact HK.out)) (KeepBut.of_below hb g none) (.inl rfl)); have n3_ := Aside0.mk (below_step (by repeat (first | (with_reducible first | exact HB.out | apply below_alloc | apply pw_below_drewN | apply below_drew1 | refine below_set ?_ (IsS46.ge HI0.out) | refine below_set ?_ GE117.out) | exact HB.out)) hb); have n4_ := Aside0.mk (hbox); have n5_ := Aside0.mk ((by rw [hg]; exact (keep_size (w := w) (g := g) (row := none) (by repeat (first | (with_reducible first | exact HK.out | apply KeepBut.set_ | apply keep_drewN | apply keep_drew | apply keep_alloc | refine keep_far ?_ GW117.out _) | exact HK.out))) : w.heap.size ≤ gb121)); have n6_ := Aside0.mk ((Nat.le_trans HW0.out (by rw [hg]; exact (keep_size (w := w) (g := g) (row := none) (by repeat (first | (with_reducible first | exact HK.out | apply KeepBut.set_ | apply keep_drewN | apply keep_drew | apply keep_alloc | refine keep_far ?_ GW117.out _) | exact HK.out))) : w.heap.size ≤ gb121) : w0.heap.size ≤ gb121)); have n7_ := Aside0.mk ((by rw [hg]; exact Nat.ne_of_lt (blk_lt (g := gb117) (o := .cells #[.int .i64 0, .int .i64 0, .string (⟨#[]⟩ : ByteArray), .string (⟨#[]⟩ : ByteArray), .slice none 0 0, .bool false] 33 (0, 0)) (by (with_reducible repeat (first | refine blk_drewN ?_ _ | refine blk_drew ?_ | refine blk_alloc ?_ _)); exact BK117.out)) : gb117 ≠ gb121)); have n8_ := Aside0.mk ((by rw [hg]; exact Nat.ne_of_gt (blk_lt (g := gb117) (o := .cells #[.int .i64 0, .int .i64 0, .string (⟨#[]⟩ : ByteArray), .string (⟨#[]⟩ : ByteArray), .slice none 0 0, .bool false] 33 (0, 0)) (by (with_reducible repeat (first | refine blk_drewN ?_ _ | refine blk_drew ?_ | refine blk_alloc ?_ _)); exact BK117.out)) : gb121 ≠ gb117)); have n9_ := Aside0.mk ((by rw [hg]; exact Nat.ne_of_lt (IsS46.lt (show IsS46 w0 _ g t119 t120 from by repeat (first | (with_reducible first | exact HI0.out | apply IsS46.alloc | apply IsS46.drewN | apply IsS46.drew | apply IsS46.set_0 | apply IsS46.set_1 | refine IsS46.far ?_ NB0_117.out _) | exact HI0.out))) : g ≠ gb121)); have n10_ := Aside0.mk ((by rw [hg]; exact Nat.ne_of_gt (IsS46.lt (show IsS46 w0 _ g t119 t120 from by repeat (first | (with_reducible first | exact HI0.out | apply IsS46.alloc | apply IsS46.drewN | apply IsS46.drew | apply IsS46.set_0 | apply IsS46.set_1 | refine IsS46.far ?_ NB0_117.out _) | exact HI0.out))) : gb121 ≠ g)); clear HI0; clear BK117; clear HK; clear HB; have HI0 := n0_; have BK117 := n1_; have HK := n2_; have HB := n3_; have BK121 := n4_; have GW121 := n5_; have GE121 := n6_; have NB117_121 := n7_; have NB121_117 := n8_; have NB0_121 := n9_; have NB121_0 := n10_; clear n0_ n1_ n2_ n3_ n4_ n5_ n6_ n7_ n8_ n9_ n10_; clear hb hbox hg; have hnb23 := NB121_117.out; have hnc23 := NB117_121.out; have hnb24 := NB121_0.out; have hnc24 := NB0_121.out; have hcz25_0 : w22.cell? ⟨gb121, 0, none⟩ = some (.int .i64 0) := (blk_cell BK121.out 0).trans rfl; have hcz25_1 : w22.cell? ⟨gb121, 1, none⟩ = some (.int .i64 0) := (blk_cell BK121.out 1).trans rfl; have hcz25_2 : w22.cell? ⟨gb121, 2, none⟩ = some (.string (⟨#[]⟩ : ByteArray)) := (blk_cell BK121.out 2).trans rfl; have hcz25_3 : w22.cell? ⟨gb121, 3, none⟩ = some (.string (⟨#[]⟩ : ByteArray)) := (blk_cell BK121.out 3).trans rfl; have hcz25_4 : w22.cell? ⟨gb121, 4, none⟩ = some (.slice none 0 0) := (blk_cell BK121.out 4).trans rfl; have hcz25_5 : w22.cell? ⟨gb121, 5, none⟩ = some (.bool false) := (blk_cell BK121.out 5).trans rfl; have hfz25_0 := blk_frozen BK121.out 0; have hfz25_1 := blk_frozen BK121.out 1; have hfz25_2 := blk_frozen BK121.out 2; have hfz25_3 := blk_frozen BK121.out 3; have hfz25_4 := blk_frozen BK121.out 4; have hfz25_5 := blk_frozen BK121.out 5) | ((with_reducible refine gate_callee (f := 35) rfl ?_); refine goesL_ (some 9) rfl rfl Tryd.func35 (by kernel_rfl) rfl #[.pointer (some ⟨g, 0, none⟩), .string (⟨#[9, 10, 13, 32]⟩ : ByteArray)] rfl (by (try simp only [List.map_toArray, List.map_cons, List.map_nil]); first | done | rfl | (simp only [List.length_drop, List.length_take]; rfl)) ?_; (with_reducible refine (token_run_string.calls g t119 t120 (⟨#[9, 10, 13, 32]⟩ : ByteArray) t122 t123 t124 w0 _ HG.out ?side1 ?side2 A3.out).mono ?_); (case side1 => repeat (first | (with_reducible first | exact HI0.out | apply IsS46.alloc | apply IsS46.drewN | apply IsS46.drew | apply IsS46.set_0 | apply IsS46.set_1 | refine IsS46.far ?_ NB0_117.out _ | refine IsS46.far ?_ NB0_121.out _) | exact HI0.out)); (case side2 => repeat (first | (with_reducible first | exact HB.out | apply below_alloc | apply pw_below_drewN | apply below_drew1 | refine below_set ?_ (IsS46.ge HI0.out) | refine below_set ?_ GE117.out | refine below_set ?_ GE121.out) | exact HB.out)); rintro e w26 ⟨rfl, hi, hb, hk⟩; refine ⟨_, rfl, ?_⟩; have n0_ := Aside0.mk (KeepBut.blk hk (g' := gb117) (o := .cells #[.int .i64 0, .int .i64 0, .string (⟨#[]⟩ : ByteArray), .string (⟨#[]⟩ : ByteArray), .slice none 0 0, .bool false] 33 (0, 0)) (by (with_reducible repeat (first | refine blk_drewN ?_ _ | refine blk_drew ?_ | refine blk_alloc ?_ _)); refine blk_far ?_ NB117_121.out _; (with_reducible repeat (first | refine blk_drewN ?_ _ | refine blk_drew ?_ | refine blk_alloc ?_ _)); refine blk_far ?_ NB117_121.out _; (with_reducible repeat (first | refine blk_drewN ?_ _ | refine blk_drew ?_ | refine blk_alloc ?_ _)); refine blk_far ?_ NB117_121.out _; (with_reducible repeat (first | refine blk_drewN ?_ _ | refine blk_drew ?_ | refine blk_alloc ?_ _)); refine blk_far ?_ NB117_121.out _; (with_reducible repeat (first | refine blk_drewN ?_ _ | refine blk_drew ?_ | refine blk_alloc ?_ _)); refine blk_far ?_ NB117_121.out _; (with_reducible repeat (first | refine blk_drewN ?_ _ | refine blk_drew ?_ | refine blk_alloc ?_ _)); refine blk_far ?_ NB117_121.out _; (with_reducible repeat (first | refine blk_drewN ?_ _ | refine blk_drew ?_ | refine blk_alloc ?_ _)); exact BK117.out) NB117_0.out (by simp)); have n1_ := Aside0.mk (KeepBut.blk hk (g' := gb121) (o := .cells #[.int .i64 2, .int .i64 0, .string t118, .string (⟨#[]⟩ : ByteArray), .slice none 0 0, .bool false] 33 (0, 0)) (by (with_reducible repeat (first | refine blk_drewN ?_ _ | refine blk_drew ?_ | refine blk_alloc ?_ _)); refine blk_put (cs := #[.int .i64 2, .int .i64 0, .string t118, .string (⟨#[]⟩ : ByteArray), .slice none 0 0, .bool false]) ?_ 5 _ rfl; (with_reducible repeat (first | refine blk_drewN ?_ _ | refine blk_drew ?_ | refine blk_alloc ?_ _)); refine blk_put (cs := #[.int .i64 2, .int .i64 0, .string t118, .string (⟨#[]⟩ : ByteArray), .slice none 0 0, .bool false]) ?_ 4 _ rfl; (with_reducible repeat (first | refine blk_drewN ?_ _ | refine blk_drew ?_ | refine blk_alloc ?_ _)); refine blk_put (cs := #[.int .i64 2, .int .i64 0, .string t118, .string (⟨#[]⟩ : ByteArray), .slice none 0 0, .bool false]) ?_ 3 _ rfl; (with_reducible repeat (first | refine blk_drewN ?_ _ | refine blk_drew ?_ | refine blk_alloc ?_ _)); refine blk_put (cs := #[.int .i64 2, .int .i64 0, .string (⟨#[]⟩ : ByteArray), .string (⟨#[]⟩ : ByteArray), .slice none 0 0, .bool false]) ?_ 2 _ rfl; (with_reducible repeat (first | refine blk_drewN ?_ _ | refine blk_drew ?_ | refine blk_alloc ?_ _)); refine blk_put (cs := #[.int .i64 2, .int .i64 0, .string (⟨#[]⟩ : ByteArray), .string (⟨#[]⟩ : ByteArray), .slice none 0 0, .bool false]) ?_ 1 _ rfl; (with_reducible repeat (first | refine blk_drewN ?_ _ | refine blk_drew ?_ | refine blk_alloc ?_ _)); refine blk_put (cs := #[.int .i64 0, .int .i64 0, .string (⟨#[]⟩ : ByteArray), .string (⟨#[]⟩ : ByteArray), .slice none 0 0, .bool false]) ?_ 0 _ rfl; (with_reducible repeat (first | refine blk_drewN ?_ _ | refine blk_drew ?_ | refine blk_alloc ?_ _)); exact BK121.out) NB121_0.out (by simp)); have n2_ := Aside0.mk (KeepBut.trans (by repeat (first | (with_reducible first | exact HK.out | apply KeepBut.set_ | apply keep_drewN | apply keep_drew | apply keep_alloc | refine keep_far ?_ GW117.out _ | refine keep_far ?_ GW121.out _) | exact HK.out)) hk (.inl rfl)); have n3_ := Aside0.mk (hb); have n4_ := Aside0.mk (hi); clear BK117; clear BK121; clear HK; clear HB; clear HI0; have BK117 := n0_; have BK121 := n1_; have HK := n2_; have HB := n3_; have HI0 := n4_; clear n0_ n1_ n2_ n3_ n4_; (try clear hb); (try clear hb2); (try clear hk); (try clear hi)))
    have n0_ := Aside0.mk (blk_drew BK117.out)
    have n1_ := Aside0.mk (blk_drew BK121.out)
    have n2_ := Aside0.mk (IsS46.drew HI0.out)
    have n3_ := Aside0.mk (keep_drew HK.out)
    have n4_ := Aside0.mk (below_drew1 HB.out)
    clear BK117
    clear BK121
    clear HI0
    clear HK
    clear HB
    have BK117 := n0_
    have BK121 := n1_
    have HI0 := n2_
    have HK := n3_
    have HB := n4_
    clear n0_ n1_ n2_ n3_ n4_
    refine start_ (n := 10) (S := fun w' => w'.cell? ⟨gb121, 0, none⟩ = some (.int .i64 2) ∧ w'.cell? ⟨gb121, 1, none⟩ = some (.int .i64 0) ∧ w'.cell? ⟨gb121, 2, none⟩ = some (.string t118) ∧ w'.cell? ⟨gb121, 3, none⟩ = some (.string (⟨#[]⟩ : ByteArray)) ∧ w'.cell? ⟨gb121, 4, none⟩ = some (.slice none 0 0) ∧ w'.cell? ⟨gb121, 5, none⟩ = some (.bool false)) (ds := []) #[false, false, false, false, false, false, false, false, false, false] (by kernel_rfl) rfl rfl ⟨(blk_cell BK121.out 0).trans rfl, (blk_cell BK121.out 1).trans rfl, (blk_cell BK121.out 2).trans rfl, (blk_cell BK121.out 3).trans rfl, (blk_cell BK121.out 4).trans rfl, (blk_cell BK121.out 5).trans rfl⟩ (fun hHeld => ?_); refine with_tabW token_shut.tab3 token_shut.bits3 (fun HT_ HW_ => ?_)
    generalize w26.drew = w27 at BK117 BK121 HI0 HK HB hHeld ⊢
    refine pure_ (i := 1) (N := some 11) (v := ?_) (a' := ?_) #[false, true, false, false, false, false, false, false, false, false] rfl rfl (any_of HT_.out (by kernel_rfl)) (fun _ _ _ h => h) (Or.inl ⟨by rfl, ?_⟩) ?_ ?_
    rotate_left
    · intro w'
      go_simp
      with_reducible rfl
    rotate_left
    · simp only [Act.put, List.setIfInBounds_toArray, List.set_cons_zero, List.set_cons_succ, i64_w, i32_w]
      rfl
    refine take_ (i := 0) (N := some 10) (v := ?_) (a' := ?_) #[true, true, false, false, false, false, false, false, false, false] rfl rfl (take_ofW HT_.out HW_.out (by kernel_rfl)) (fun _ _ _ h => h) (Or.inl ⟨by rfl, ?_⟩) hHeld ?_ ?_
    rotate_left
    · rintro w' ⟨s0, s1, s2, s3, s4, s5⟩
      go_simp
      with_reducible rfl
    rotate_left
    · simp only [Act.put, List.setIfInBounds_toArray, List.set_cons_zero, List.set_cons_succ, i64_w, i32_w]
      rfl
    refine take_ (i := 2) (N := some 12) (v := ?_) (a' := ?_) #[true, true, true, false, false, false, false, false, false, false] rfl rfl (take_ofW HT_.out HW_.out (by kernel_rfl)) (fun _ _ _ h => h) (Or.inl ⟨by rfl, ?_⟩) hHeld ?_ ?_
    rotate_left
    · rintro w' ⟨s0, s1, s2, s3, s4, s5⟩
      go_simp
      with_reducible rfl
    rotate_left
    · simp only [Act.put, List.setIfInBounds_toArray, List.set_cons_zero, List.set_cons_succ, i64_w, i32_w]
      rfl
    refine pure_ (i := 3) (N := some 13) (v := ?_) (a' := ?_) #[true, true, true, true, false, false, false, false, false, false] rfl rfl (any_of HT_.out (by kernel_rfl)) (fun _ _ _ h => h) (Or.inl ⟨by rfl, ?_⟩) ?_ ?_
    rotate_left
    · intro w'
      go_simp
      with_reducible rfl
    rotate_left
    · simp only [Act.put, List.setIfInBounds_toArray, List.set_cons_zero, List.set_cons_succ, i64_w, i32_w]
      rfl
    refine pure_ (i := 4) (N := some 14) (v := ?_) (a' := ?_) #[true, true, true, true, true, false, false, false, false, false] rfl rfl (any_of HT_.out (by kernel_rfl)) (fun _ _ _ h => h) (Or.inl ⟨by rfl, ?_⟩) ?_ ?_
    rotate_left
    · intro w'
      go_simp
      with_reducible rfl
    rotate_left
    · simp only [Act.put, List.setIfInBounds_toArray, List.set_cons_zero, List.set_cons_succ, i64_w, i32_w]
      rfl
    refine pure_ (i := 5) (N := some 15) (v := ?_) (a' := ?_) #[true, true, true, true, true, true, false, false, false, false] rfl rfl (any_of HT_.out (by kernel_rfl)) (fun _ _ _ h => h) (Or.inl ⟨by rfl, ?_⟩) ?_ ?_
    rotate_left
    · intro w'
      go_simp
      with_reducible rfl
    rotate_left
    · simp only [Act.put, List.setIfInBounds_toArray, List.set_cons_zero, List.set_cons_succ, i64_w, i32_w]
      rfl
    refine one_ (i := 6) (N := some 16) #[true, true, true, true, true, true, true, false, false, false] rfl rfl (one_of HT_.out (by kernel_rfl)) (by decide) (fun K hK => ?_)
    refine goes_ Tryd.func15 (by kernel_rfl) rfl #[.pointer (some ⟨g, 0, none⟩), .string (⟨#[62]⟩ : ByteArray)] (by rfl) rfl rfl (by (try simp only [List.map_toArray, List.map_cons, List.map_nil]); first | done | rfl | (simp only [List.length_drop, List.length_take]; rfl)) ?_
    with_reducible refine (token_walk_string_is.calls g t123 t124 (⟨#[62]⟩ : ByteArray) t125 t126 t127 w0 _ HG.out ?side1 ?side2 A19.out).mono ?_
    (case side1 => repeat (first | (with_reducible first | exact HI0.out | apply IsS46.alloc | apply IsS46.drewN | apply IsS46.drew | apply IsS46.set_0 | apply IsS46.set_1 | refine IsS46.far ?_ NB0_117.out _ | refine IsS46.far ?_ NB0_121.out _) | exact HI0.out))
    (case side2 => repeat (first | (with_reducible first | exact HB.out | apply below_alloc | apply pw_below_drewN | apply below_drew1 | refine below_set ?_ (IsS46.ge HI0.out) | refine below_set ?_ GE117.out | refine below_set ?_ GE121.out) | exact HB.out))
    rintro e w28 ⟨rfl, hi, hb, hk⟩
    refine ⟨_, rfl, ?_⟩
    have n0_ := Aside0.mk (KeepBut.blk hk (g' := gb117) (o := .cells #[.int .i64 0, .int .i64 0, .string (⟨#[]⟩ : ByteArray), .string (⟨#[]⟩ : ByteArray), .slice none 0 0, .bool false] 33 (0, 0)) (by (with_reducible repeat (first | refine blk_drewN ?_ _ | refine blk_drew ?_ | refine blk_alloc ?_ _)); exact BK117.out) NB117_0.out (by simp))
    have n1_ := Aside0.mk (KeepBut.blk hk (g' := gb121) (o := .cells #[.int .i64 2, .int .i64 0, .string t118, .string (⟨#[]⟩ : ByteArray), .slice none 0 0, .bool false] 33 (0, 0)) (by (with_reducible repeat (first | refine blk_drewN ?_ _ | refine blk_drew ?_ | refine blk_alloc ?_ _)); exact BK121.out) NB121_0.out (by simp))
    have n2_ := Aside0.mk (KeepBut.trans (by repeat (first | (with_reducible first | exact HK.out | apply KeepBut.set_ | apply keep_drewN | apply keep_drew | apply keep_alloc | refine keep_far ?_ GW117.out _ | refine keep_far ?_ GW121.out _) | exact HK.out)) hk (.inl rfl))
    have n3_ := Aside0.mk (hb)
    have n4_ := Aside0.mk (hi)
    clear BK117
    clear BK121
    clear HK
    clear HB
    clear HI0
    have BK117 := n0_
    have BK121 := n1_
    have HK := n2_
    have HB := n3_
    have HI0 := n4_
    clear n0_ n1_ n2_ n3_ n4_
    (try clear hb)
    (try clear hb2)
    (try clear hk)
    (try clear hi)
    refine hK.out _ _ ⟨(blk_cell BK121.out 0).trans rfl, (blk_cell BK121.out 1).trans rfl, (blk_cell BK121.out 2).trans rfl, (blk_cell BK121.out 3).trans rfl, (blk_cell BK121.out 4).trans rfl, (blk_cell BK121.out 5).trans rfl⟩ (fun hHeld => ?_)
    clear hK K
    refine norm_ (a' := ?_) ?_ ?_
    rotate_left
    · show Act.put _ (some 16) _ = _
      simp only [Act.put, List.setIfInBounds_toArray, List.set_cons_zero, List.set_cons_succ, i64_w, i32_w]
      rfl
    refine pure_ (i := 7) (N := some 17) (v := ?_) (a' := ?_) #[true, true, true, true, true, true, true, true, false, false] rfl rfl (any_of HT_.out (by kernel_rfl)) (fun _ _ _ h => h) (Or.inl ⟨by rfl, ?_⟩) ?_ ?_
    rotate_left
    · intro w'
      go_simp
      with_reducible rfl
    rotate_left
    · simp only [Act.put, List.setIfInBounds_toArray, List.set_cons_zero, List.set_cons_succ, i64_w, i32_w]
      rfl
    refine one_ (i := 8) (N := none) #[true, true, true, true, true, true, true, true, true, false] rfl rfl (one_of HT_.out (by kernel_rfl)) (by decide) (fun K hK => ?_)
    have hs29 : w28.cell? ⟨gb117, 0, none⟩ = some (.int .i64 0) := (blk_cell BK117.out 0).trans rfl
    have hfs29 := blk_frozen BK117.out 0
    have hns29_1 := NB121_117.out
    have hms29_1 := NB117_121.out
    have hs30 : w28.cell? ⟨gb117, 1, none⟩ = some (.int .i64 0) := (blk_cell BK117.out 1).trans rfl
    have hfs30 := blk_frozen BK117.out 1
    have hns30_1 := NB121_117.out
    have hms30_1 := NB117_121.out
    have hs31 : w28.cell? ⟨gb117, 2, none⟩ = some (.string (⟨#[]⟩ : ByteArray)) := (blk_cell BK117.out 2).trans rfl
    have hfs31 := blk_frozen BK117.out 2
    have hns31_1 := NB121_117.out
    have hms31_1 := NB117_121.out
    have hs32 : w28.cell? ⟨gb117, 3, none⟩ = some (.string (⟨#[]⟩ : ByteArray)) := (blk_cell BK117.out 3).trans rfl
    have hfs32 := blk_frozen BK117.out 3
    have hns32_1 := NB121_117.out
    have hms32_1 := NB117_121.out
    have hs33 : w28.cell? ⟨gb117, 4, none⟩ = some (.slice none 0 0) := (blk_cell BK117.out 4).trans rfl
    have hfs33 := blk_frozen BK117.out 4
    have hns33_1 := NB121_117.out
    have hms33_1 := NB117_121.out
    have hs34 : w28.cell? ⟨gb117, 5, none⟩ = some (.bool false) := (blk_cell BK117.out 5).trans rfl
    have hfs34 := blk_frozen BK117.out 5
    have hns34_1 := NB121_117.out
    have hms34_1 := NB117_121.out
    refine skip_ (w1 := ?_) (by rfl) rfl ?_ ?_
    rotate_left
    · go_simp
      rfl
    refine hK.out _ _ ⟨((cell_far (p := ⟨gb117, _, none⟩) NB121_117.out _).trans (((cell_far (p := ⟨gb117, _, none⟩) NB121_117.out _).trans (((cell_far (p := ⟨gb117, _, none⟩) NB121_117.out _).trans (((cell_far (p := ⟨gb117, _, none⟩) NB121_117.out _).trans (((cell_far (p := ⟨gb117, _, none⟩) NB121_117.out _).trans (((cell_far (p := ⟨gb117, _, none⟩) NB121_117.out _).trans (hHeld.1)))))))))))), ((cell_far (p := ⟨gb117, _, none⟩) NB121_117.out _).trans (((cell_far (p := ⟨gb117, _, none⟩) NB121_117.out _).trans (((cell_far (p := ⟨gb117, _, none⟩) NB121_117.out _).trans (((cell_far (p := ⟨gb117, _, none⟩) NB121_117.out _).trans (((cell_far (p := ⟨gb117, _, none⟩) NB121_117.out _).trans (((cell_far (p := ⟨gb117, _, none⟩) NB121_117.out _).trans (hHeld.2.1)))))))))))), ((cell_far (p := ⟨gb117, _, none⟩) NB121_117.out _).trans (((cell_far (p := ⟨gb117, _, none⟩) NB121_117.out _).trans (((cell_far (p := ⟨gb117, _, none⟩) NB121_117.out _).trans (((cell_far (p := ⟨gb117, _, none⟩) NB121_117.out _).trans (((cell_far (p := ⟨gb117, _, none⟩) NB121_117.out _).trans (((cell_far (p := ⟨gb117, _, none⟩) NB121_117.out _).trans (hHeld.2.2.1)))))))))))), ((cell_far (p := ⟨gb117, _, none⟩) NB121_117.out _).trans (((cell_far (p := ⟨gb117, _, none⟩) NB121_117.out _).trans (((cell_far (p := ⟨gb117, _, none⟩) NB121_117.out _).trans (((cell_far (p := ⟨gb117, _, none⟩) NB121_117.out _).trans (((cell_far (p := ⟨gb117, _, none⟩) NB121_117.out _).trans (((cell_far (p := ⟨gb117, _, none⟩) NB121_117.out _).trans (hHeld.2.2.2.1)))))))))))), ((cell_far (p := ⟨gb117, _, none⟩) NB121_117.out _).trans (((cell_far (p := ⟨gb117, _, none⟩) NB121_117.out _).trans (((cell_far (p := ⟨gb117, _, none⟩) NB121_117.out _).trans (((cell_far (p := ⟨gb117, _, none⟩) NB121_117.out _).trans (((cell_far (p := ⟨gb117, _, none⟩) NB121_117.out _).trans (((cell_far (p := ⟨gb117, _, none⟩) NB121_117.out _).trans (hHeld.2.2.2.2.1)))))))))))), ((cell_far (p := ⟨gb117, _, none⟩) NB121_117.out _).trans (((cell_far (p := ⟨gb117, _, none⟩) NB121_117.out _).trans (((cell_far (p := ⟨gb117, _, none⟩) NB121_117.out _).trans (((cell_far (p := ⟨gb117, _, none⟩) NB121_117.out _).trans (((cell_far (p := ⟨gb117, _, none⟩) NB121_117.out _).trans (((cell_far (p := ⟨gb117, _, none⟩) NB121_117.out _).trans (hHeld.2.2.2.2.2))))))))))))⟩ (fun hHeld => ?_)
    clear hK K
    refine pure_ (i := 9) (N := some 3) (v := ?_) (a' := ?_) #[true, true, true, true, true, true, true, true, true, true] rfl rfl (any_of HT_.out (by kernel_rfl)) (fun _ _ _ h => h) (Or.inl ⟨by rfl, ?_⟩) ?_ ?_
    rotate_left
    · intro w'
      go_simp
      with_reducible rfl
    rotate_left
    · simp only [Act.put, List.setIfInBounds_toArray, List.set_cons_zero, List.set_cons_succ, i64_w, i32_w]
      rfl
    refine done_ (done_of HT_.out (by kernel_rfl)) ?_
    try go_wp2
    refine bodyPost_ret (results_ct rfl _ _ gb117 33 #[.int .i64 2, .int .i64 0, .string t118, .string (⟨#[]⟩ : ByteArray), .slice none 0 0, .bool false] (0, 0) _ rfl (by (with_reducible repeat (first | refine blk_drewN ?_ _ | refine blk_drew ?_ | refine blk_alloc ?_ _)); refine blk_put (cs := #[.int .i64 2, .int .i64 0, .string t118, .string (⟨#[]⟩ : ByteArray), .slice none 0 0, .bool false]) ?_ 5 _ rfl; (with_reducible repeat (first | refine blk_drewN ?_ _ | refine blk_drew ?_ | refine blk_alloc ?_ _)); refine blk_put (cs := #[.int .i64 2, .int .i64 0, .string t118, .string (⟨#[]⟩ : ByteArray), .slice none 0 0, .bool false]) ?_ 4 _ rfl; (with_reducible repeat (first | refine blk_drewN ?_ _ | refine blk_drew ?_ | refine blk_alloc ?_ _)); refine blk_put (cs := #[.int .i64 2, .int .i64 0, .string t118, .string (⟨#[]⟩ : ByteArray), .slice none 0 0, .bool false]) ?_ 3 _ rfl; (with_reducible repeat (first | refine blk_drewN ?_ _ | refine blk_drew ?_ | refine blk_alloc ?_ _)); refine blk_put (cs := #[.int .i64 2, .int .i64 0, .string (⟨#[]⟩ : ByteArray), .string (⟨#[]⟩ : ByteArray), .slice none 0 0, .bool false]) ?_ 2 _ rfl; (with_reducible repeat (first | refine blk_drewN ?_ _ | refine blk_drew ?_ | refine blk_alloc ?_ _)); refine blk_put (cs := #[.int .i64 2, .int .i64 0, .string (⟨#[]⟩ : ByteArray), .string (⟨#[]⟩ : ByteArray), .slice none 0 0, .bool false]) ?_ 1 _ rfl; (with_reducible repeat (first | refine blk_drewN ?_ _ | refine blk_drew ?_ | refine blk_alloc ?_ _)); refine blk_put (cs := #[.int .i64 0, .int .i64 0, .string (⟨#[]⟩ : ByteArray), .string (⟨#[]⟩ : ByteArray), .slice none 0 0, .bool false]) ?_ 0 _ rfl; (with_reducible repeat (first | refine blk_drewN ?_ _ | refine blk_drew ?_ | refine blk_alloc ?_ _)); exact BK117.out) Tryd.underlying33 rfl (by kernel_rfl)) rfl ?_
    exact ⟨_, by first | rfl | (simp [errW_none, errW_some] <;> rfl) | (simp [*, errW_none, errW_some] <;> rfl), by first | exact Kd.R_nil _ _ _ _ _ | exact Kd.N_nil _ _ _ _ _ | exact Kd.V_nil _ _ _ _ _ | exact Kd.Q_nil _ _ _ _ _ | exact Kd.S_nil _ _ _ _ _, by repeat (first | (with_reducible first | exact HI0.out | apply IsS46.alloc | apply IsS46.drewN | apply IsS46.drew | apply IsS46.set_0 | apply IsS46.set_1 | refine IsS46.far ?_ NB0_117.out _ | refine IsS46.far ?_ NB0_121.out _) | exact HI0.out), by repeat (first | (with_reducible first | exact HB.out | apply below_alloc | apply pw_below_drewN | apply below_drew1 | refine below_set ?_ (IsS46.ge HI0.out) | refine below_set ?_ GE117.out | refine below_set ?_ GE121.out) | exact HB.out), by repeat (first | (with_reducible first | exact HK.out | apply KeepBut.set_ | apply keep_drewN | apply keep_drew | apply keep_alloc | refine keep_far ?_ GW117.out _ | refine keep_far ?_ GW121.out _) | exact HK.out)⟩

end Go.Proofs.YtfelfpjfjjgmoaaDoor.P
end
/- token.upTo: all up to a sign. -/
section
set_option linter.unusedVariables false
namespace Go.Proofs.YtfelfpjfjjgmoaaDoor
open Go.RowKit Go.Shelf Go.Proofs.YtfelfpjfjjgmoaaDoorW.PrintWords Go.Proofs.YtfelfpjfjjgmoaaDoorW.PrintLast

def G_upTo.f (s0_0 s0_1 a1 : ByteArray) : Option (ByteArray × Bool × ByteArray × ByteArray) :=
  if s0_1.size < 4294967281 then
    (if Lib.index s0_1.data.toList a1.data.toList < 0 then some (s0_1, false, s0_0, ⟨#[]⟩)
     else if Lib.index s0_1.data.toList a1.data.toList ≤ (s0_1.size : Int) then some (s0_1.extract 0 (Lib.index s0_1.data.toList a1.data.toList).toNat, !(s0_1.extract (Lib.index s0_1.data.toList a1.data.toList).toNat s0_1.size).toList.isEmpty, s0_0, s0_1.extract (Lib.index s0_1.data.toList a1.data.toList).toNat s0_1.size) else none) else none
set_option maxHeartbeats 4000000 in
set_option maxRecDepth 100000 in
theorem G_upTo.calls (g : Nat) (s0_0 s0_1 a1 : ByteArray) (r1 : ByteArray) (r2 : Bool) (r3 r4 : ByteArray) (w0 w : World) (hG_ : Gd w0) (hI : P.IsS46 w0 w g s0_0 s0_1) (hB : Below w0.heap.size w0 w) (h : G_upTo.f s0_0 s0_1 a1 = some (r1, r2, r3, r4)) :
    Calls Tryd.prog 26 #[.pointer (some ⟨g, 0, none⟩), .string a1] w fun e w' => e = .returned (.tuple #[.string r1, .bool r2]) ∧ P.IsS46 w0 w' g r3 r4 ∧ Below w0.heap.size w0 w' ∧ KeepBut w w' g none := by
  unfold G_upTo.f at h
  split at h
  rotate_left
  · cases h
  rename_i hs
  have CI := fun (W : World) (hW : Gd W) => G_Index.calls s0_1 a1 (Lib.index s0_1.data.toList a1.data.toList) W hW (by unfold G_Index.f; rw [if_pos hs])
  have CI1 := CI w (hG_.below hB)
  clear CI
  generalize Lib.index s0_1.data.toList a1.data.toList = i at CI1 h
  obtain ⟨hh, hge⟩ := hI
  have c0 := P.cellS46_0 hh
  have c1 := P.cellS46_1 hh
  have f0 := blk_frozen hh 0
  have f1 := blk_frozen hh 1
  have HH := Aside0.mk hh
  have HB := Aside0.mk hB
  clear hh hB
  by_cases hi : i < 0
  · rw [if_pos hi] at h
    simp only [Option.some.injEq, Prod.mk.injEq] at h
    obtain ⟨rfl, rfl, rfl, rfl⟩ := h
    go_enter Tryd.func26, Tryd.ntmps26
    go_wp2_with (go_at_call 39; refine CI1.mono ?_; rintro e w1 ⟨rfl, ⟨nd, rfl⟩⟩)
    go_quiet (fail)
    go_wp2
    go_ret2
    refine ⟨rfl, ?_, ?_, ?_⟩
    · exact P.IsS46.drewN (P.IsS46.set_1 (P.IsS46.drewN ⟨HH.out, hge⟩ nd) _) _
    · exact pw_below_drewN (Below.setCell (pw_below_drewN HB.out nd) (p := ⟨g, 1, none⟩) hge _) _
    · exact keep_drewN (KeepBut.set_ (keep_drewN (KeepBut.refl w g none) nd) _ _) _
  · rw [if_neg hi] at h
    split at h
    rotate_left
    · cases h
    rename_i hle
    simp only [Option.some.injEq, Prod.mk.injEq] at h
    obtain ⟨rfl, rfl, rfl, rfl⟩ := h
    have hi0 : 0 ≤ i := by omega
    clear hi
    cases hx : (s0_1.extract i.toNat s0_1.size).toList.isEmpty with
    | true =>
      go_enter Tryd.func26, Tryd.ntmps26
      go_wp2_with (go_at_call 39; refine CI1.mono ?_; rintro e w1 ⟨rfl, ⟨nd, rfl⟩⟩)
      go_quiet (fail)
      go_wp2
      go_ret2
      refine ⟨rfl, ?_, ?_, ?_⟩
      · exact P.IsS46.drewN (P.IsS46.set_1 (P.IsS46.drewN ⟨HH.out, hge⟩ nd) _) _
      · exact pw_below_drewN (Below.setCell (pw_below_drewN HB.out nd) (p := ⟨g, 1, none⟩) hge _) _
      · exact keep_drewN (KeepBut.set_ (keep_drewN (KeepBut.refl w g none) nd) _ _) _
    | false =>
      go_enter Tryd.func26, Tryd.ntmps26
      go_wp2_with (go_at_call 39; refine CI1.mono ?_; rintro e w1 ⟨rfl, ⟨nd, rfl⟩⟩)
      go_quiet (fail)
      go_wp2
      go_ret2
      refine ⟨rfl, ?_, ?_, ?_⟩
      · exact P.IsS46.drewN (P.IsS46.set_1 (P.IsS46.drewN ⟨HH.out, hge⟩ nd) _) _
      · exact pw_below_drewN (Below.setCell (pw_below_drewN HB.out nd) (p := ⟨g, 1, none⟩) hge _) _
      · exact keep_drewN (KeepBut.set_ (keep_drewN (KeepBut.refl w g none) nd) _ _) _
end Go.Proofs.YtfelfpjfjjgmoaaDoor
end
/- Lean functions for functions of the program, and that the Go code comes to their answers, where the library's variables are as Gd says. Written by a turned copy of the kit's print; Lean checks it. -/
section
namespace Go.Proofs.YtfelfpjfjjgmoaaDoor.P
open Go.RowKit Go.Proofs.YtfelfpjfjjgmoaaDoorW.PrintWords Go.Proofs.YtfelfpjfjjgmoaaDoorW.PrintLast Go.Proofs.YtfelfpjfjjgmoaaDoorW.PrintMore
attribute [local go_sem] max2_int min2_int max_two min_two max_three min_three max_four min_four   -- for this text's walks alone
set_option linter.unusedVariables false
set_option linter.unusedSimpArgs false

/-! ### token_value: function 51 -/
def token_value.f (s0_0 : ByteArray) (s0_1 : ByteArray) : Option (ByteArray × Bool × ByteArray × ByteArray) := (token_walk_string_is.f s0_0 s0_1 (⟨#[39]⟩ : ByteArray)).bind fun bt189 => (if bt189.1 = true then ((G_upTo.f bt189.2.1 bt189.2.2 (⟨#[39]⟩ : ByteArray)).bind fun bt192 => ((G_Back.f bt192.1).bind fun bt196 => (if bt192.2.1 = true then ((token_walk_string_is.f bt192.2.2.1 bt192.2.2.2 (⟨#[39]⟩ : ByteArray)).bind fun bt198 => (if bt198.1 = true then (some (bt196.1, (bt196.2 == 0), bt198.2.1, bt198.2.2)) else (some (bt196.1, false, bt198.2.1, bt198.2.2)))) else (some (bt196.1, false, bt192.2.2.1, bt192.2.2.2))))) else ((token_walk_string_is.f bt189.2.1 bt189.2.2 (⟨#[34]⟩ : ByteArray)).bind fun bt201 => (if bt201.1 = true then ((G_upTo.f bt201.2.1 bt201.2.2 (⟨#[34]⟩ : ByteArray)).bind fun bt204 => ((G_Back.f bt204.1).bind fun bt208 => (if bt204.2.1 = true then ((token_walk_string_is.f bt204.2.2.1 bt204.2.2.2 (⟨#[34]⟩ : ByteArray)).bind fun bt210 => (if bt210.1 = true then (some (bt208.1, (bt208.2 == 0), bt210.2.1, bt210.2.2)) else (some (bt208.1, false, bt210.2.1, bt210.2.2)))) else (some (bt208.1, false, bt204.2.2.1, bt204.2.2.2))))) else (some ((⟨#[]⟩ : ByteArray), false, bt201.2.1, bt201.2.2)))))
set_option maxHeartbeats 8000000 in
set_option maxRecDepth 100000 in
theorem token_value.calls (g : Nat) (s0_0 : ByteArray) (s0_1 : ByteArray) (r1 : ByteArray) (r2 : Bool) (r3 : ByteArray) (r4 : ByteArray) (w0 w : World) (hG_ : Gd w0) (hI : IsS46 w0 w g s0_0 s0_1) (hB : Below w0.heap.size w0 w) (h : token_value.f s0_0 s0_1 = some (r1, r2, r3, r4)) :
    Calls Tryd.prog 51 #[.pointer (some ⟨g, 0, none⟩)] w fun e w' => e = .returned (.tuple #[.string r1, .bool r2]) ∧ IsS46 w0 w' g r3 r4 ∧ Below w0.heap.size w0 w' ∧ KeepBut w w' g none := by
  have HI0 := Aside0.mk hI
  have HK := Aside0.mk (KeepBut.refl w g none)
  have HL := Aside0.mk hB.size
  clear hI
  have HW0 := Aside0.mk hB.size
  have HB := Aside0.mk hB
  clear hB
  have HG := Aside0.mk hG_
  clear hG_
  have H : ((token_walk_string_is.f s0_0 s0_1 (⟨#[39]⟩ : ByteArray)).bind fun bt189 => (if bt189.1 = true then ((G_upTo.f bt189.2.1 bt189.2.2 (⟨#[39]⟩ : ByteArray)).bind fun bt192 => ((G_Back.f bt192.1).bind fun bt196 => (if bt192.2.1 = true then ((token_walk_string_is.f bt192.2.2.1 bt192.2.2.2 (⟨#[39]⟩ : ByteArray)).bind fun bt198 => (if bt198.1 = true then (some (bt196.1, (bt196.2 == 0), bt198.2.1, bt198.2.2)) else (some (bt196.1, false, bt198.2.1, bt198.2.2)))) else (some (bt196.1, false, bt192.2.2.1, bt192.2.2.2))))) else ((token_walk_string_is.f bt189.2.1 bt189.2.2 (⟨#[34]⟩ : ByteArray)).bind fun bt201 => (if bt201.1 = true then ((G_upTo.f bt201.2.1 bt201.2.2 (⟨#[34]⟩ : ByteArray)).bind fun bt204 => ((G_Back.f bt204.1).bind fun bt208 => (if bt204.2.1 = true then ((token_walk_string_is.f bt204.2.2.1 bt204.2.2.2 (⟨#[34]⟩ : ByteArray)).bind fun bt210 => (if bt210.1 = true then (some (bt208.1, (bt208.2 == 0), bt210.2.1, bt210.2.2)) else (some (bt208.1, false, bt210.2.1, bt210.2.2)))) else (some (bt208.1, false, bt204.2.2.1, bt204.2.2.2))))) else (some ((⟨#[]⟩ : ByteArray), false, bt201.2.1, bt201.2.2)))))) = some (r1, r2, r3, r4) := h
  clear h
  replace H := Option.bind_eq_some_iff.mp H
  obtain ⟨⟨t189, t190, t191⟩, A20, H⟩ := H
  replace H : (if t189 = true then ((G_upTo.f t190 t191 (⟨#[39]⟩ : ByteArray)).bind fun bt192 => ((G_Back.f bt192.1).bind fun bt196 => (if bt192.2.1 = true then ((token_walk_string_is.f bt192.2.2.1 bt192.2.2.2 (⟨#[39]⟩ : ByteArray)).bind fun bt198 => (if bt198.1 = true then (some (bt196.1, (bt196.2 == 0), bt198.2.1, bt198.2.2)) else (some (bt196.1, false, bt198.2.1, bt198.2.2)))) else (some (bt196.1, false, bt192.2.2.1, bt192.2.2.2))))) else ((token_walk_string_is.f t190 t191 (⟨#[34]⟩ : ByteArray)).bind fun bt201 => (if bt201.1 = true then ((G_upTo.f bt201.2.1 bt201.2.2 (⟨#[34]⟩ : ByteArray)).bind fun bt204 => ((G_Back.f bt204.1).bind fun bt208 => (if bt204.2.1 = true then ((token_walk_string_is.f bt204.2.2.1 bt204.2.2.2 (⟨#[34]⟩ : ByteArray)).bind fun bt210 => (if bt210.1 = true then (some (bt208.1, (bt208.2 == 0), bt210.2.1, bt210.2.2)) else (some (bt208.1, false, bt210.2.1, bt210.2.2)))) else (some (bt208.1, false, bt204.2.2.1, bt204.2.2.2))))) else (some ((⟨#[]⟩ : ByteArray), false, bt201.2.1, bt201.2.2))))) = some (r1, r2, r3, r4) := H
  have A2 := Aside0.mk A20
  clear A20
  by_cases c3 : t189 = true
  · subst c3
    have H1 : ((G_upTo.f t190 t191 (⟨#[39]⟩ : ByteArray)).bind fun bt192 => ((G_Back.f bt192.1).bind fun bt196 => (if bt192.2.1 = true then ((token_walk_string_is.f bt192.2.2.1 bt192.2.2.2 (⟨#[39]⟩ : ByteArray)).bind fun bt198 => (if bt198.1 = true then (some (bt196.1, (bt196.2 == 0), bt198.2.1, bt198.2.2)) else (some (bt196.1, false, bt198.2.1, bt198.2.2)))) else (some (bt196.1, false, bt192.2.2.1, bt192.2.2.2))))) = some (r1, r2, r3, r4) := by rw [if_pos rfl] at H; exact H
    clear H
    have H := H1
    clear H1
    replace H := Option.bind_eq_some_iff.mp H
    obtain ⟨⟨t192, t193, t194, t195⟩, A40, H⟩ := H
    replace H : ((G_Back.f t192).bind fun bt196 => (if t193 = true then ((token_walk_string_is.f t194 t195 (⟨#[39]⟩ : ByteArray)).bind fun bt198 => (if bt198.1 = true then (some (bt196.1, (bt196.2 == 0), bt198.2.1, bt198.2.2)) else (some (bt196.1, false, bt198.2.1, bt198.2.2)))) else (some (bt196.1, false, t194, t195)))) = some (r1, r2, r3, r4) := H
    have A4 := Aside0.mk A40
    clear A40
    replace H := Option.bind_eq_some_iff.mp H
    obtain ⟨⟨t196, t197⟩, A50, H⟩ := H
    replace H : (if t193 = true then ((token_walk_string_is.f t194 t195 (⟨#[39]⟩ : ByteArray)).bind fun bt198 => (if bt198.1 = true then (some (t196, (t197 == 0), bt198.2.1, bt198.2.2)) else (some (t196, false, bt198.2.1, bt198.2.2)))) else (some (t196, false, t194, t195))) = some (r1, r2, r3, r4) := H
    have A5 := Aside0.mk A50
    clear A50
    by_cases c6 : t193 = true
    · subst c6
      have H1 : ((token_walk_string_is.f t194 t195 (⟨#[39]⟩ : ByteArray)).bind fun bt198 => (if bt198.1 = true then (some (t196, (t197 == 0), bt198.2.1, bt198.2.2)) else (some (t196, false, bt198.2.1, bt198.2.2)))) = some (r1, r2, r3, r4) := by rw [if_pos rfl] at H; exact H
      clear H
      have H := H1
      clear H1
      replace H := Option.bind_eq_some_iff.mp H
      obtain ⟨⟨t198, t199, t200⟩, A70, H⟩ := H
      replace H : (if t198 = true then (some (t196, (t197 == 0), t199, t200)) else (some (t196, false, t199, t200))) = some (r1, r2, r3, r4) := H
      have A7 := Aside0.mk A70
      clear A70
      by_cases c8 : t198 = true
      · subst c8
        have H1 : (some (t196, (t197 == 0), t199, t200)) = some (r1, r2, r3, r4) := by rw [if_pos rfl] at H; exact H
        clear H
        have H := H1
        clear H1
        simp only [Option.some.injEq, Prod.mk.injEq] at H
        obtain ⟨rfl, rfl, rfl, rfl⟩ := H
        go_enter Tryd.func51, Tryd.ntmps51
        go_wp2_with (first | ((with_reducible refine gate_callee (f := 15) rfl ?_); refine goesL_ (some 11) rfl rfl Tryd.func15 (by kernel_rfl) rfl #[.pointer (some ⟨g, 0, none⟩), .string (⟨#[39]⟩ : ByteArray)] rfl (by (try simp only [List.map_toArray, List.map_cons, List.map_nil]); first | done | rfl | (simp only [List.length_drop, List.length_take]; rfl)) ?_; (with_reducible refine (token_walk_string_is.calls g s0_0 s0_1 (⟨#[39]⟩ : ByteArray) true t190 t191 w0 _ HG.out ?side1 ?side2 A2.out).mono ?_); (case side1 => repeat (first | (with_reducible first | exact HI0.out | apply IsS46.alloc | apply IsS46.drewN | apply IsS46.drew | apply IsS46.set_0 | apply IsS46.set_1) | exact HI0.out)); (case side2 => repeat (first | (with_reducible first | exact HB.out | apply below_alloc | apply pw_below_drewN | apply below_drew1 | refine below_set ?_ (IsS46.ge HI0.out)) | exact HB.out)); rintro e w9 ⟨rfl, hi, hb, hk⟩; refine ⟨_, rfl, ?_⟩; have n0_ := Aside0.mk (KeepBut.trans (by repeat (first | (with_reducible first | exact HK.out | apply KeepBut.set_ | apply keep_drewN | apply keep_drew | apply keep_alloc) | exact HK.out)) hk (.inl rfl)); have n1_ := Aside0.mk (hb); have n2_ := Aside0.mk (hi); clear HK; clear HB; clear HI0; have HK := n0_; have HB := n1_; have HI0 := n2_; clear n0_ n1_ n2_; (try clear hb); (try clear hb2); (try clear hk); (try clear hi)) | ((with_reducible refine gate_callee (f := 26) rfl ?_); refine goesL_ (some 20) rfl rfl Tryd.func26 (by kernel_rfl) rfl #[.pointer (some ⟨g, 0, none⟩), .string (⟨#[39]⟩ : ByteArray)] rfl (by (try simp only [List.map_toArray, List.map_cons, List.map_nil]); first | done | rfl | (simp only [List.length_drop, List.length_take]; rfl)) ?_; (with_reducible refine (G_upTo.calls g t190 t191 (⟨#[39]⟩ : ByteArray) t192 true t194 t195 w0 _ HG.out ?side1 ?side2 A4.out).mono ?_); (case side1 => repeat (first | (with_reducible first | exact HI0.out | apply IsS46.alloc | apply IsS46.drewN | apply IsS46.drew | apply IsS46.set_0 | apply IsS46.set_1) | exact HI0.out)); (case side2 => repeat (first | (with_reducible first | exact HB.out | apply below_alloc | apply pw_below_drewN | apply below_drew1 | refine below_set ?_ (IsS46.ge HI0.out)) | exact HB.out)); rintro e w10 ⟨rfl, hi, hb, hk⟩; refine ⟨_, rfl, ?_⟩; have n0_ := Aside0.mk (KeepBut.trans (by repeat (first | (with_reducible first | exact HK.out | apply KeepBut.set_ | apply keep_drewN | apply keep_drew | apply keep_alloc) | exact HK.out)) hk (.inl rfl)); have n1_ := Aside0.mk (hb); have n2_ := Aside0.mk (hi); clear HK; clear HB; clear HI0; have HK := n0_; have HB := n1_; have HI0 := n2_; clear n0_ n1_ n2_; (try clear hb); (try clear hb2); (try clear hk); (try clear hi)) | ((with_reducible refine gate_callee (f := 27) rfl ?_); refine goesL_ (some 25) rfl rfl Tryd.func27 (by kernel_rfl) rfl #[.string t192] rfl (by (try simp only [List.map_toArray, List.map_cons, List.map_nil]); first | done | rfl | (simp only [List.length_drop, List.length_take]; rfl)) ?_; (with_reducible refine (G_Back.calls t192 t196 t197 _ ?side1 A5.out).mono ?_); (case side1 => first | exact HG.out | exact Gd.drewN HG.out _ | exact Gd.drew HG.out | exact Gd.below HG.out (by repeat (first | (with_reducible first | exact HB.out | apply below_alloc | apply pw_below_drewN | apply below_drew1 | refine below_set ?_ (IsS46.ge HI0.out)) | exact HB.out))); rintro e w11 ⟨rfl, hb⟩; refine ⟨_, rfl, ?_⟩; have n0_ := Aside0.mk (IsS46.below (by repeat (first | (with_reducible first | exact HI0.out | apply IsS46.alloc | apply IsS46.drewN | apply IsS46.drew | apply IsS46.set_0 | apply IsS46.set_1) | exact HI0.out)) hb); have n1_ := Aside0.mk (KeepBut.trans (by repeat (first | (with_reducible first | exact HK.out | apply KeepBut.set_ | apply keep_drewN | apply keep_drew | apply keep_alloc) | exact HK.out)) (KeepBut.of_below hb g none) (.inl rfl)); have n2_ := Aside0.mk (below_step (by repeat (first | (with_reducible first | exact HB.out | apply below_alloc | apply pw_below_drewN | apply below_drew1 | refine below_set ?_ (IsS46.ge HI0.out)) | exact HB.out)) hb); clear HI0; clear HK; clear HB; have HI0 := n0_; have HK := n1_; have HB := n2_; clear n0_ n1_ n2_; (try clear hb); (try clear hb2); (try clear hk); (try clear hi)) | (go_at_call 15; (with_reducible refine (token_walk_string_is.calls g t194 t195 (⟨#[39]⟩ : ByteArray) true t199 t200 w0 _ HG.out ?side1 ?side2 A7.out).mono ?_); (case side1 => repeat (first | (with_reducible first | exact HI0.out | apply IsS46.alloc | apply IsS46.drewN | apply IsS46.drew | apply IsS46.set_0 | apply IsS46.set_1) | exact HI0.out)); (case side2 => repeat (first | (with_reducible first | exact HB.out | apply below_alloc | apply pw_below_drewN | apply below_drew1 | refine below_set ?_ (IsS46.ge HI0.out)) | exact HB.out)); rintro e w12 ⟨rfl, hi, hb, hk⟩; have n0_ := Aside0.mk (KeepBut.trans (by repeat (first | (with_reducible first | exact HK.out | apply KeepBut.set_ | apply keep_drewN | apply keep_drew | apply keep_alloc) | exact HK.out)) hk (.inl rfl)); have n1_ := Aside0.mk (hb); have n2_ := Aside0.mk (hi); clear HK; clear HB; clear HI0; have HK := n0_; have HB := n1_; have HI0 := n2_; clear n0_ n1_ n2_; (try clear hb); (try clear hb2); (try clear hk); (try clear hi)))
        go_ret2
        exact ⟨by first | rfl | (simp [errW_none, errW_some] <;> rfl) | (simp [*, errW_none, errW_some] <;> rfl), by repeat (first | (with_reducible first | exact HI0.out | apply IsS46.alloc | apply IsS46.drewN | apply IsS46.drew | apply IsS46.set_0 | apply IsS46.set_1) | exact HI0.out), by repeat (first | (with_reducible first | exact HB.out | apply below_alloc | apply pw_below_drewN | apply below_drew1 | refine below_set ?_ (IsS46.ge HI0.out)) | exact HB.out), by repeat (first | (with_reducible first | exact HK.out | apply KeepBut.set_ | apply keep_drewN | apply keep_drew | apply keep_alloc) | exact HK.out)⟩
      · replace c8 := Bool.eq_false_iff.mpr c8
        subst c8
        have H1 : (some (t196, false, t199, t200)) = some (r1, r2, r3, r4) := by rw [if_neg (show ¬ (false = true) by decide)] at H; exact H
        clear H
        have H := H1
        clear H1
        simp only [Option.some.injEq, Prod.mk.injEq] at H
        obtain ⟨rfl, rfl, rfl, rfl⟩ := H
        go_enter Tryd.func51, Tryd.ntmps51
        go_wp2_with (first | ((with_reducible refine gate_callee (f := 15) rfl ?_); refine goesL_ (some 11) rfl rfl Tryd.func15 (by kernel_rfl) rfl #[.pointer (some ⟨g, 0, none⟩), .string (⟨#[39]⟩ : ByteArray)] rfl (by (try simp only [List.map_toArray, List.map_cons, List.map_nil]); first | done | rfl | (simp only [List.length_drop, List.length_take]; rfl)) ?_; (with_reducible refine (token_walk_string_is.calls g s0_0 s0_1 (⟨#[39]⟩ : ByteArray) true t190 t191 w0 _ HG.out ?side1 ?side2 A2.out).mono ?_); (case side1 => repeat (first | (with_reducible first | exact HI0.out | apply IsS46.alloc | apply IsS46.drewN | apply IsS46.drew | apply IsS46.set_0 | apply IsS46.set_1) | exact HI0.out)); (case side2 => repeat (first | (with_reducible first | exact HB.out | apply below_alloc | apply pw_below_drewN | apply below_drew1 | refine below_set ?_ (IsS46.ge HI0.out)) | exact HB.out)); rintro e w13 ⟨rfl, hi, hb, hk⟩; refine ⟨_, rfl, ?_⟩; have n0_ := Aside0.mk (KeepBut.trans (by repeat (first | (with_reducible first | exact HK.out | apply KeepBut.set_ | apply keep_drewN | apply keep_drew | apply keep_alloc) | exact HK.out)) hk (.inl rfl)); have n1_ := Aside0.mk (hb); have n2_ := Aside0.mk (hi); clear HK; clear HB; clear HI0; have HK := n0_; have HB := n1_; have HI0 := n2_; clear n0_ n1_ n2_; (try clear hb); (try clear hb2); (try clear hk); (try clear hi)) | ((with_reducible refine gate_callee (f := 26) rfl ?_); refine goesL_ (some 20) rfl rfl Tryd.func26 (by kernel_rfl) rfl #[.pointer (some ⟨g, 0, none⟩), .string (⟨#[39]⟩ : ByteArray)] rfl (by (try simp only [List.map_toArray, List.map_cons, List.map_nil]); first | done | rfl | (simp only [List.length_drop, List.length_take]; rfl)) ?_; (with_reducible refine (G_upTo.calls g t190 t191 (⟨#[39]⟩ : ByteArray) t192 true t194 t195 w0 _ HG.out ?side1 ?side2 A4.out).mono ?_); (case side1 => repeat (first | (with_reducible first | exact HI0.out | apply IsS46.alloc | apply IsS46.drewN | apply IsS46.drew | apply IsS46.set_0 | apply IsS46.set_1) | exact HI0.out)); (case side2 => repeat (first | (with_reducible first | exact HB.out | apply below_alloc | apply pw_below_drewN | apply below_drew1 | refine below_set ?_ (IsS46.ge HI0.out)) | exact HB.out)); rintro e w14 ⟨rfl, hi, hb, hk⟩; refine ⟨_, rfl, ?_⟩; have n0_ := Aside0.mk (KeepBut.trans (by repeat (first | (with_reducible first | exact HK.out | apply KeepBut.set_ | apply keep_drewN | apply keep_drew | apply keep_alloc) | exact HK.out)) hk (.inl rfl)); have n1_ := Aside0.mk (hb); have n2_ := Aside0.mk (hi); clear HK; clear HB; clear HI0; have HK := n0_; have HB := n1_; have HI0 := n2_; clear n0_ n1_ n2_; (try clear hb); (try clear hb2); (try clear hk); (try clear hi)) | ((with_reducible refine gate_callee (f := 27) rfl ?_); refine goesL_ (some 25) rfl rfl Tryd.func27 (by kernel_rfl) rfl #[.string t192] rfl (by (try simp only [List.map_toArray, List.map_cons, List.map_nil]); first | done | rfl | (simp only [List.length_drop, List.length_take]; rfl)) ?_; (with_reducible refine (G_Back.calls t192 t196 t197 _ ?side1 A5.out).mono ?_); (case side1 => first | exact HG.out | exact Gd.drewN HG.out _ | exact Gd.drew HG.out | exact Gd.below HG.out (by repeat (first | (with_reducible first | exact HB.out | apply below_alloc | apply pw_below_drewN | apply below_drew1 | refine below_set ?_ (IsS46.ge HI0.out)) | exact HB.out))); rintro e w15 ⟨rfl, hb⟩; refine ⟨_, rfl, ?_⟩; have n0_ := Aside0.mk (IsS46.below (by repeat (first | (with_reducible first | exact HI0.out | apply IsS46.alloc | apply IsS46.drewN | apply IsS46.drew | apply IsS46.set_0 | apply IsS46.set_1) | exact HI0.out)) hb); have n1_ := Aside0.mk (KeepBut.trans (by repeat (first | (with_reducible first | exact HK.out | apply KeepBut.set_ | apply keep_drewN | apply keep_drew | apply keep_alloc) | exact HK.out)) (KeepBut.of_below hb g none) (.inl rfl)); have n2_ := Aside0.mk (below_step (by repeat (first | (with_reducible first | exact HB.out | apply below_alloc | apply pw_below_drewN | apply below_drew1 | refine below_set ?_ (IsS46.ge HI0.out)) | exact HB.out)) hb); clear HI0; clear HK; clear HB; have HI0 := n0_; have HK := n1_; have HB := n2_; clear n0_ n1_ n2_; (try clear hb); (try clear hb2); (try clear hk); (try clear hi)) | (go_at_call 15; (with_reducible refine (token_walk_string_is.calls g t194 t195 (⟨#[39]⟩ : ByteArray) false t199 t200 w0 _ HG.out ?side1 ?side2 A7.out).mono ?_); (case side1 => repeat (first | (with_reducible first | exact HI0.out | apply IsS46.alloc | apply IsS46.drewN | apply IsS46.drew | apply IsS46.set_0 | apply IsS46.set_1) | exact HI0.out)); (case side2 => repeat (first | (with_reducible first | exact HB.out | apply below_alloc | apply pw_below_drewN | apply below_drew1 | refine below_set ?_ (IsS46.ge HI0.out)) | exact HB.out)); rintro e w16 ⟨rfl, hi, hb, hk⟩; have n0_ := Aside0.mk (KeepBut.trans (by repeat (first | (with_reducible first | exact HK.out | apply KeepBut.set_ | apply keep_drewN | apply keep_drew | apply keep_alloc) | exact HK.out)) hk (.inl rfl)); have n1_ := Aside0.mk (hb); have n2_ := Aside0.mk (hi); clear HK; clear HB; clear HI0; have HK := n0_; have HB := n1_; have HI0 := n2_; clear n0_ n1_ n2_; (try clear hb); (try clear hb2); (try clear hk); (try clear hi)))
        go_ret2
        exact ⟨by first | rfl | (simp [errW_none, errW_some] <;> rfl) | (simp [*, errW_none, errW_some] <;> rfl), by repeat (first | (with_reducible first | exact HI0.out | apply IsS46.alloc | apply IsS46.drewN | apply IsS46.drew | apply IsS46.set_0 | apply IsS46.set_1) | exact HI0.out), by repeat (first | (with_reducible first | exact HB.out | apply below_alloc | apply pw_below_drewN | apply below_drew1 | refine below_set ?_ (IsS46.ge HI0.out)) | exact HB.out), by repeat (first | (with_reducible first | exact HK.out | apply KeepBut.set_ | apply keep_drewN | apply keep_drew | apply keep_alloc) | exact HK.out)⟩
    · replace c6 := Bool.eq_false_iff.mpr c6
      subst c6
      have H1 : (some (t196, false, t194, t195)) = some (r1, r2, r3, r4) := by rw [if_neg (show ¬ (false = true) by decide)] at H; exact H
      clear H
      have H := H1
      clear H1
      simp only [Option.some.injEq, Prod.mk.injEq] at H
      obtain ⟨rfl, rfl, rfl, rfl⟩ := H
      go_enter Tryd.func51, Tryd.ntmps51
      go_wp2_with (first | ((with_reducible refine gate_callee (f := 15) rfl ?_); refine goesL_ (some 11) rfl rfl Tryd.func15 (by kernel_rfl) rfl #[.pointer (some ⟨g, 0, none⟩), .string (⟨#[39]⟩ : ByteArray)] rfl (by (try simp only [List.map_toArray, List.map_cons, List.map_nil]); first | done | rfl | (simp only [List.length_drop, List.length_take]; rfl)) ?_; (with_reducible refine (token_walk_string_is.calls g s0_0 s0_1 (⟨#[39]⟩ : ByteArray) true t190 t191 w0 _ HG.out ?side1 ?side2 A2.out).mono ?_); (case side1 => repeat (first | (with_reducible first | exact HI0.out | apply IsS46.alloc | apply IsS46.drewN | apply IsS46.drew | apply IsS46.set_0 | apply IsS46.set_1) | exact HI0.out)); (case side2 => repeat (first | (with_reducible first | exact HB.out | apply below_alloc | apply pw_below_drewN | apply below_drew1 | refine below_set ?_ (IsS46.ge HI0.out)) | exact HB.out)); rintro e w17 ⟨rfl, hi, hb, hk⟩; refine ⟨_, rfl, ?_⟩; have n0_ := Aside0.mk (KeepBut.trans (by repeat (first | (with_reducible first | exact HK.out | apply KeepBut.set_ | apply keep_drewN | apply keep_drew | apply keep_alloc) | exact HK.out)) hk (.inl rfl)); have n1_ := Aside0.mk (hb); have n2_ := Aside0.mk (hi); clear HK; clear HB; clear HI0; have HK := n0_; have HB := n1_; have HI0 := n2_; clear n0_ n1_ n2_; (try clear hb); (try clear hb2); (try clear hk); (try clear hi)) | ((with_reducible refine gate_callee (f := 26) rfl ?_); refine goesL_ (some 20) rfl rfl Tryd.func26 (by kernel_rfl) rfl #[.pointer (some ⟨g, 0, none⟩), .string (⟨#[39]⟩ : ByteArray)] rfl (by (try simp only [List.map_toArray, List.map_cons, List.map_nil]); first | done | rfl | (simp only [List.length_drop, List.length_take]; rfl)) ?_; (with_reducible refine (G_upTo.calls g t190 t191 (⟨#[39]⟩ : ByteArray) t192 false t194 t195 w0 _ HG.out ?side1 ?side2 A4.out).mono ?_); (case side1 => repeat (first | (with_reducible first | exact HI0.out | apply IsS46.alloc | apply IsS46.drewN | apply IsS46.drew | apply IsS46.set_0 | apply IsS46.set_1) | exact HI0.out)); (case side2 => repeat (first | (with_reducible first | exact HB.out | apply below_alloc | apply pw_below_drewN | apply below_drew1 | refine below_set ?_ (IsS46.ge HI0.out)) | exact HB.out)); rintro e w18 ⟨rfl, hi, hb, hk⟩; refine ⟨_, rfl, ?_⟩; have n0_ := Aside0.mk (KeepBut.trans (by repeat (first | (with_reducible first | exact HK.out | apply KeepBut.set_ | apply keep_drewN | apply keep_drew | apply keep_alloc) | exact HK.out)) hk (.inl rfl)); have n1_ := Aside0.mk (hb); have n2_ := Aside0.mk (hi); clear HK; clear HB; clear HI0; have HK := n0_; have HB := n1_; have HI0 := n2_; clear n0_ n1_ n2_; (try clear hb); (try clear hb2); (try clear hk); (try clear hi)) | ((with_reducible refine gate_callee (f := 27) rfl ?_); refine goesL_ (some 25) rfl rfl Tryd.func27 (by kernel_rfl) rfl #[.string t192] rfl (by (try simp only [List.map_toArray, List.map_cons, List.map_nil]); first | done | rfl | (simp only [List.length_drop, List.length_take]; rfl)) ?_; (with_reducible refine (G_Back.calls t192 t196 t197 _ ?side1 A5.out).mono ?_); (case side1 => first | exact HG.out | exact Gd.drewN HG.out _ | exact Gd.drew HG.out | exact Gd.below HG.out (by repeat (first | (with_reducible first | exact HB.out | apply below_alloc | apply pw_below_drewN | apply below_drew1 | refine below_set ?_ (IsS46.ge HI0.out)) | exact HB.out))); rintro e w19 ⟨rfl, hb⟩; refine ⟨_, rfl, ?_⟩; have n0_ := Aside0.mk (IsS46.below (by repeat (first | (with_reducible first | exact HI0.out | apply IsS46.alloc | apply IsS46.drewN | apply IsS46.drew | apply IsS46.set_0 | apply IsS46.set_1) | exact HI0.out)) hb); have n1_ := Aside0.mk (KeepBut.trans (by repeat (first | (with_reducible first | exact HK.out | apply KeepBut.set_ | apply keep_drewN | apply keep_drew | apply keep_alloc) | exact HK.out)) (KeepBut.of_below hb g none) (.inl rfl)); have n2_ := Aside0.mk (below_step (by repeat (first | (with_reducible first | exact HB.out | apply below_alloc | apply pw_below_drewN | apply below_drew1 | refine below_set ?_ (IsS46.ge HI0.out)) | exact HB.out)) hb); clear HI0; clear HK; clear HB; have HI0 := n0_; have HK := n1_; have HB := n2_; clear n0_ n1_ n2_; (try clear hb); (try clear hb2); (try clear hk); (try clear hi)))
      go_ret2
      exact ⟨by first | rfl | (simp [errW_none, errW_some] <;> rfl) | (simp [*, errW_none, errW_some] <;> rfl), by repeat (first | (with_reducible first | exact HI0.out | apply IsS46.alloc | apply IsS46.drewN | apply IsS46.drew | apply IsS46.set_0 | apply IsS46.set_1) | exact HI0.out), by repeat (first | (with_reducible first | exact HB.out | apply below_alloc | apply pw_below_drewN | apply below_drew1 | refine below_set ?_ (IsS46.ge HI0.out)) | exact HB.out), by repeat (first | (with_reducible first | exact HK.out | apply KeepBut.set_ | apply keep_drewN | apply keep_drew | apply keep_alloc) | exact HK.out)⟩
  · replace c3 := Bool.eq_false_iff.mpr c3
    subst c3
    have H1 : ((token_walk_string_is.f t190 t191 (⟨#[34]⟩ : ByteArray)).bind fun bt201 => (if bt201.1 = true then ((G_upTo.f bt201.2.1 bt201.2.2 (⟨#[34]⟩ : ByteArray)).bind fun bt204 => ((G_Back.f bt204.1).bind fun bt208 => (if bt204.2.1 = true then ((token_walk_string_is.f bt204.2.2.1 bt204.2.2.2 (⟨#[34]⟩ : ByteArray)).bind fun bt210 => (if bt210.1 = true then (some (bt208.1, (bt208.2 == 0), bt210.2.1, bt210.2.2)) else (some (bt208.1, false, bt210.2.1, bt210.2.2)))) else (some (bt208.1, false, bt204.2.2.1, bt204.2.2.2))))) else (some ((⟨#[]⟩ : ByteArray), false, bt201.2.1, bt201.2.2)))) = some (r1, r2, r3, r4) := by rw [if_neg (show ¬ (false = true) by decide)] at H; exact H
    clear H
    have H := H1
    clear H1
    replace H := Option.bind_eq_some_iff.mp H
    obtain ⟨⟨t201, t202, t203⟩, A200, H⟩ := H
    replace H : (if t201 = true then ((G_upTo.f t202 t203 (⟨#[34]⟩ : ByteArray)).bind fun bt204 => ((G_Back.f bt204.1).bind fun bt208 => (if bt204.2.1 = true then ((token_walk_string_is.f bt204.2.2.1 bt204.2.2.2 (⟨#[34]⟩ : ByteArray)).bind fun bt210 => (if bt210.1 = true then (some (bt208.1, (bt208.2 == 0), bt210.2.1, bt210.2.2)) else (some (bt208.1, false, bt210.2.1, bt210.2.2)))) else (some (bt208.1, false, bt204.2.2.1, bt204.2.2.2))))) else (some ((⟨#[]⟩ : ByteArray), false, t202, t203))) = some (r1, r2, r3, r4) := H
    have A20 := Aside0.mk A200
    clear A200
    by_cases c21 : t201 = true
    · subst c21
      have H1 : ((G_upTo.f t202 t203 (⟨#[34]⟩ : ByteArray)).bind fun bt204 => ((G_Back.f bt204.1).bind fun bt208 => (if bt204.2.1 = true then ((token_walk_string_is.f bt204.2.2.1 bt204.2.2.2 (⟨#[34]⟩ : ByteArray)).bind fun bt210 => (if bt210.1 = true then (some (bt208.1, (bt208.2 == 0), bt210.2.1, bt210.2.2)) else (some (bt208.1, false, bt210.2.1, bt210.2.2)))) else (some (bt208.1, false, bt204.2.2.1, bt204.2.2.2))))) = some (r1, r2, r3, r4) := by rw [if_pos rfl] at H; exact H
      clear H
      have H := H1
      clear H1
      replace H := Option.bind_eq_some_iff.mp H
      obtain ⟨⟨t204, t205, t206, t207⟩, A220, H⟩ := H
      replace H : ((G_Back.f t204).bind fun bt208 => (if t205 = true then ((token_walk_string_is.f t206 t207 (⟨#[34]⟩ : ByteArray)).bind fun bt210 => (if bt210.1 = true then (some (bt208.1, (bt208.2 == 0), bt210.2.1, bt210.2.2)) else (some (bt208.1, false, bt210.2.1, bt210.2.2)))) else (some (bt208.1, false, t206, t207)))) = some (r1, r2, r3, r4) := H
      have A22 := Aside0.mk A220
      clear A220
      replace H := Option.bind_eq_some_iff.mp H
      obtain ⟨⟨t208, t209⟩, A230, H⟩ := H
      replace H : (if t205 = true then ((token_walk_string_is.f t206 t207 (⟨#[34]⟩ : ByteArray)).bind fun bt210 => (if bt210.1 = true then (some (t208, (t209 == 0), bt210.2.1, bt210.2.2)) else (some (t208, false, bt210.2.1, bt210.2.2)))) else (some (t208, false, t206, t207))) = some (r1, r2, r3, r4) := H
      have A23 := Aside0.mk A230
      clear A230
      by_cases c24 : t205 = true
      · subst c24
        have H1 : ((token_walk_string_is.f t206 t207 (⟨#[34]⟩ : ByteArray)).bind fun bt210 => (if bt210.1 = true then (some (t208, (t209 == 0), bt210.2.1, bt210.2.2)) else (some (t208, false, bt210.2.1, bt210.2.2)))) = some (r1, r2, r3, r4) := by rw [if_pos rfl] at H; exact H
        clear H
        have H := H1
        clear H1
        replace H := Option.bind_eq_some_iff.mp H
        obtain ⟨⟨t210, t211, t212⟩, A250, H⟩ := H
        replace H : (if t210 = true then (some (t208, (t209 == 0), t211, t212)) else (some (t208, false, t211, t212))) = some (r1, r2, r3, r4) := H
        have A25 := Aside0.mk A250
        clear A250
        by_cases c26 : t210 = true
        · subst c26
          have H1 : (some (t208, (t209 == 0), t211, t212)) = some (r1, r2, r3, r4) := by rw [if_pos rfl] at H; exact H
          clear H
          have H := H1
          clear H1
          simp only [Option.some.injEq, Prod.mk.injEq] at H
          obtain ⟨rfl, rfl, rfl, rfl⟩ := H
          go_enter Tryd.func51, Tryd.ntmps51
          go_wp2_with (first | ((with_reducible refine gate_callee (f := 15) rfl ?_); refine goesL_ (some 11) rfl rfl Tryd.func15 (by kernel_rfl) rfl #[.pointer (some ⟨g, 0, none⟩), .string (⟨#[39]⟩ : ByteArray)] rfl (by (try simp only [List.map_toArray, List.map_cons, List.map_nil]); first | done | rfl | (simp only [List.length_drop, List.length_take]; rfl)) ?_; (with_reducible refine (token_walk_string_is.calls g s0_0 s0_1 (⟨#[39]⟩ : ByteArray) false t190 t191 w0 _ HG.out ?side1 ?side2 A2.out).mono ?_); (case side1 => repeat (first | (with_reducible first | exact HI0.out | apply IsS46.alloc | apply IsS46.drewN | apply IsS46.drew | apply IsS46.set_0 | apply IsS46.set_1) | exact HI0.out)); (case side2 => repeat (first | (with_reducible first | exact HB.out | apply below_alloc | apply pw_below_drewN | apply below_drew1 | refine below_set ?_ (IsS46.ge HI0.out)) | exact HB.out)); rintro e w27 ⟨rfl, hi, hb, hk⟩; refine ⟨_, rfl, ?_⟩; have n0_ := Aside0.mk (KeepBut.trans (by repeat (first | (with_reducible first | exact HK.out | apply KeepBut.set_ | apply keep_drewN | apply keep_drew | apply keep_alloc) | exact HK.out)) hk (.inl rfl)); have n1_ := Aside0.mk (hb); have n2_ := Aside0.mk (hi); clear HK; clear HB; clear HI0; have HK := n0_; have HB := n1_; have HI0 := n2_; clear n0_ n1_ n2_; (try clear hb); (try clear hb2); (try clear hk); (try clear hi)) | ((with_reducible refine gate_callee (f := 15) rfl ?_); refine goesL_ (some 15) rfl rfl Tryd.func15 (by kernel_rfl) rfl #[.pointer (some ⟨g, 0, none⟩), .string (⟨#[34]⟩ : ByteArray)] rfl (by (try simp only [List.map_toArray, List.map_cons, List.map_nil]); first | done | rfl | (simp only [List.length_drop, List.length_take]; rfl)) ?_; (with_reducible refine (token_walk_string_is.calls g t190 t191 (⟨#[34]⟩ : ByteArray) true t202 t203 w0 _ HG.out ?side1 ?side2 A20.out).mono ?_); (case side1 => repeat (first | (with_reducible first | exact HI0.out | apply IsS46.alloc | apply IsS46.drewN | apply IsS46.drew | apply IsS46.set_0 | apply IsS46.set_1) | exact HI0.out)); (case side2 => repeat (first | (with_reducible first | exact HB.out | apply below_alloc | apply pw_below_drewN | apply below_drew1 | refine below_set ?_ (IsS46.ge HI0.out)) | exact HB.out)); rintro e w28 ⟨rfl, hi, hb, hk⟩; refine ⟨_, rfl, ?_⟩; have n0_ := Aside0.mk (KeepBut.trans (by repeat (first | (with_reducible first | exact HK.out | apply KeepBut.set_ | apply keep_drewN | apply keep_drew | apply keep_alloc) | exact HK.out)) hk (.inl rfl)); have n1_ := Aside0.mk (hb); have n2_ := Aside0.mk (hi); clear HK; clear HB; clear HI0; have HK := n0_; have HB := n1_; have HI0 := n2_; clear n0_ n1_ n2_; (try clear hb); (try clear hb2); (try clear hk); (try clear hi)) | ((with_reducible refine gate_callee (f := 26) rfl ?_); refine goesL_ (some 20) rfl rfl Tryd.func26 (by kernel_rfl) rfl #[.pointer (some ⟨g, 0, none⟩), .string (⟨#[34]⟩ : ByteArray)] rfl (by (try simp only [List.map_toArray, List.map_cons, List.map_nil]); first | done | rfl | (simp only [List.length_drop, List.length_take]; rfl)) ?_; (with_reducible refine (G_upTo.calls g t202 t203 (⟨#[34]⟩ : ByteArray) t204 true t206 t207 w0 _ HG.out ?side1 ?side2 A22.out).mono ?_); (case side1 => repeat (first | (with_reducible first | exact HI0.out | apply IsS46.alloc | apply IsS46.drewN | apply IsS46.drew | apply IsS46.set_0 | apply IsS46.set_1) | exact HI0.out)); (case side2 => repeat (first | (with_reducible first | exact HB.out | apply below_alloc | apply pw_below_drewN | apply below_drew1 | refine below_set ?_ (IsS46.ge HI0.out)) | exact HB.out)); rintro e w29 ⟨rfl, hi, hb, hk⟩; refine ⟨_, rfl, ?_⟩; have n0_ := Aside0.mk (KeepBut.trans (by repeat (first | (with_reducible first | exact HK.out | apply KeepBut.set_ | apply keep_drewN | apply keep_drew | apply keep_alloc) | exact HK.out)) hk (.inl rfl)); have n1_ := Aside0.mk (hb); have n2_ := Aside0.mk (hi); clear HK; clear HB; clear HI0; have HK := n0_; have HB := n1_; have HI0 := n2_; clear n0_ n1_ n2_; (try clear hb); (try clear hb2); (try clear hk); (try clear hi)) | ((with_reducible refine gate_callee (f := 27) rfl ?_); refine goesL_ (some 25) rfl rfl Tryd.func27 (by kernel_rfl) rfl #[.string t204] rfl (by (try simp only [List.map_toArray, List.map_cons, List.map_nil]); first | done | rfl | (simp only [List.length_drop, List.length_take]; rfl)) ?_; (with_reducible refine (G_Back.calls t204 t208 t209 _ ?side1 A23.out).mono ?_); (case side1 => first | exact HG.out | exact Gd.drewN HG.out _ | exact Gd.drew HG.out | exact Gd.below HG.out (by repeat (first | (with_reducible first | exact HB.out | apply below_alloc | apply pw_below_drewN | apply below_drew1 | refine below_set ?_ (IsS46.ge HI0.out)) | exact HB.out))); rintro e w30 ⟨rfl, hb⟩; refine ⟨_, rfl, ?_⟩; have n0_ := Aside0.mk (IsS46.below (by repeat (first | (with_reducible first | exact HI0.out | apply IsS46.alloc | apply IsS46.drewN | apply IsS46.drew | apply IsS46.set_0 | apply IsS46.set_1) | exact HI0.out)) hb); have n1_ := Aside0.mk (KeepBut.trans (by repeat (first | (with_reducible first | exact HK.out | apply KeepBut.set_ | apply keep_drewN | apply keep_drew | apply keep_alloc) | exact HK.out)) (KeepBut.of_below hb g none) (.inl rfl)); have n2_ := Aside0.mk (below_step (by repeat (first | (with_reducible first | exact HB.out | apply below_alloc | apply pw_below_drewN | apply below_drew1 | refine below_set ?_ (IsS46.ge HI0.out)) | exact HB.out)) hb); clear HI0; clear HK; clear HB; have HI0 := n0_; have HK := n1_; have HB := n2_; clear n0_ n1_ n2_; (try clear hb); (try clear hb2); (try clear hk); (try clear hi)) | (go_at_call 15; (with_reducible refine (token_walk_string_is.calls g t206 t207 (⟨#[34]⟩ : ByteArray) true t211 t212 w0 _ HG.out ?side1 ?side2 A25.out).mono ?_); (case side1 => repeat (first | (with_reducible first | exact HI0.out | apply IsS46.alloc | apply IsS46.drewN | apply IsS46.drew | apply IsS46.set_0 | apply IsS46.set_1) | exact HI0.out)); (case side2 => repeat (first | (with_reducible first | exact HB.out | apply below_alloc | apply pw_below_drewN | apply below_drew1 | refine below_set ?_ (IsS46.ge HI0.out)) | exact HB.out)); rintro e w31 ⟨rfl, hi, hb, hk⟩; have n0_ := Aside0.mk (KeepBut.trans (by repeat (first | (with_reducible first | exact HK.out | apply KeepBut.set_ | apply keep_drewN | apply keep_drew | apply keep_alloc) | exact HK.out)) hk (.inl rfl)); have n1_ := Aside0.mk (hb); have n2_ := Aside0.mk (hi); clear HK; clear HB; clear HI0; have HK := n0_; have HB := n1_; have HI0 := n2_; clear n0_ n1_ n2_; (try clear hb); (try clear hb2); (try clear hk); (try clear hi)))
          go_ret2
          exact ⟨by first | rfl | (simp [errW_none, errW_some] <;> rfl) | (simp [*, errW_none, errW_some] <;> rfl), by repeat (first | (with_reducible first | exact HI0.out | apply IsS46.alloc | apply IsS46.drewN | apply IsS46.drew | apply IsS46.set_0 | apply IsS46.set_1) | exact HI0.out), by repeat (first | (with_reducible first | exact HB.out | apply below_alloc | apply pw_below_drewN | apply below_drew1 | refine below_set ?_ (IsS46.ge HI0.out)) | exact HB.out), by repeat (first | (with_reducible first | exact HK.out | apply KeepBut.set_ | apply keep_drewN | apply keep_drew | apply keep_alloc) | exact HK.out)⟩
        · replace c26 := Bool.eq_false_iff.mpr c26
          subst c26
          have H1 : (some (t208, false, t211, t212)) = some (r1, r2, r3, r4) := by rw [if_neg (show ¬ (false = true) by decide)] at H; exact H
          clear H
          have H := H1
          clear H1
          simp only [Option.some.injEq, Prod.mk.injEq] at H
          obtain ⟨rfl, rfl, rfl, rfl⟩ := H
          go_enter Tryd.func51, Tryd.ntmps51
          go_wp2_with (first | ((with_reducible refine gate_callee (f := 15) rfl ?_); refine goesL_ (some 11) rfl rfl Tryd.func15 (by kernel_rfl) rfl #[.pointer (some ⟨g, 0, none⟩), .string (⟨#[39]⟩ : ByteArray)] rfl (by (try simp only [List.map_toArray, List.map_cons, List.map_nil]); first | done | rfl | (simp only [List.length_drop, List.length_take]; rfl)) ?_; (with_reducible refine (token_walk_string_is.calls g s0_0 s0_1 (⟨#[39]⟩ : ByteArray) false t190 t191 w0 _ HG.out ?side1 ?side2 A2.out).mono ?_); (case side1 => repeat (first | (with_reducible first | exact HI0.out | apply IsS46.alloc | apply IsS46.drewN | apply IsS46.drew | apply IsS46.set_0 | apply IsS46.set_1) | exact HI0.out)); (case side2 => repeat (first | (with_reducible first | exact HB.out | apply below_alloc | apply pw_below_drewN | apply below_drew1 | refine below_set ?_ (IsS46.ge HI0.out)) | exact HB.out)); rintro e w32 ⟨rfl, hi, hb, hk⟩; refine ⟨_, rfl, ?_⟩; have n0_ := Aside0.mk (KeepBut.trans (by repeat (first | (with_reducible first | exact HK.out | apply KeepBut.set_ | apply keep_drewN | apply keep_drew | apply keep_alloc) | exact HK.out)) hk (.inl rfl)); have n1_ := Aside0.mk (hb); have n2_ := Aside0.mk (hi); clear HK; clear HB; clear HI0; have HK := n0_; have HB := n1_; have HI0 := n2_; clear n0_ n1_ n2_; (try clear hb); (try clear hb2); (try clear hk); (try clear hi)) | ((with_reducible refine gate_callee (f := 15) rfl ?_); refine goesL_ (some 15) rfl rfl Tryd.func15 (by kernel_rfl) rfl #[.pointer (some ⟨g, 0, none⟩), .string (⟨#[34]⟩ : ByteArray)] rfl (by (try simp only [List.map_toArray, List.map_cons, List.map_nil]); first | done | rfl | (simp only [List.length_drop, List.length_take]; rfl)) ?_; (with_reducible refine (token_walk_string_is.calls g t190 t191 (⟨#[34]⟩ : ByteArray) true t202 t203 w0 _ HG.out ?side1 ?side2 A20.out).mono ?_); (case side1 => repeat (first | (with_reducible first | exact HI0.out | apply IsS46.alloc | apply IsS46.drewN | apply IsS46.drew | apply IsS46.set_0 | apply IsS46.set_1) | exact HI0.out)); (case side2 => repeat (first | (with_reducible first | exact HB.out | apply below_alloc | apply pw_below_drewN | apply below_drew1 | refine below_set ?_ (IsS46.ge HI0.out)) | exact HB.out)); rintro e w33 ⟨rfl, hi, hb, hk⟩; refine ⟨_, rfl, ?_⟩; have n0_ := Aside0.mk (KeepBut.trans (by repeat (first | (with_reducible first | exact HK.out | apply KeepBut.set_ | apply keep_drewN | apply keep_drew | apply keep_alloc) | exact HK.out)) hk (.inl rfl)); have n1_ := Aside0.mk (hb); have n2_ := Aside0.mk (hi); clear HK; clear HB; clear HI0; have HK := n0_; have HB := n1_; have HI0 := n2_; clear n0_ n1_ n2_; (try clear hb); (try clear hb2); (try clear hk); (try clear hi)) | ((with_reducible refine gate_callee (f := 26) rfl ?_); refine goesL_ (some 20) rfl rfl Tryd.func26 (by kernel_rfl) rfl #[.pointer (some ⟨g, 0, none⟩), .string (⟨#[34]⟩ : ByteArray)] rfl (by (try simp only [List.map_toArray, List.map_cons, List.map_nil]); first | done | rfl | (simp only [List.length_drop, List.length_take]; rfl)) ?_; (with_reducible refine (G_upTo.calls g t202 t203 (⟨#[34]⟩ : ByteArray) t204 true t206 t207 w0 _ HG.out ?side1 ?side2 A22.out).mono ?_); (case side1 => repeat (first | (with_reducible first | exact HI0.out | apply IsS46.alloc | apply IsS46.drewN | apply IsS46.drew | apply IsS46.set_0 | apply IsS46.set_1) | exact HI0.out)); (case side2 => repeat (first | (with_reducible first | exact HB.out | apply below_alloc | apply pw_below_drewN | apply below_drew1 | refine below_set ?_ (IsS46.ge HI0.out)) | exact HB.out)); rintro e w34 ⟨rfl, hi, hb, hk⟩; refine ⟨_, rfl, ?_⟩; have n0_ := Aside0.mk (KeepBut.trans (by repeat (first | (with_reducible first | exact HK.out | apply KeepBut.set_ | apply keep_drewN | apply keep_drew | apply keep_alloc) | exact HK.out)) hk (.inl rfl)); have n1_ := Aside0.mk (hb); have n2_ := Aside0.mk (hi); clear HK; clear HB; clear HI0; have HK := n0_; have HB := n1_; have HI0 := n2_; clear n0_ n1_ n2_; (try clear hb); (try clear hb2); (try clear hk); (try clear hi)) | ((with_reducible refine gate_callee (f := 27) rfl ?_); refine goesL_ (some 25) rfl rfl Tryd.func27 (by kernel_rfl) rfl #[.string t204] rfl (by (try simp only [List.map_toArray, List.map_cons, List.map_nil]); first | done | rfl | (simp only [List.length_drop, List.length_take]; rfl)) ?_; (with_reducible refine (G_Back.calls t204 t208 t209 _ ?side1 A23.out).mono ?_); (case side1 => first | exact HG.out | exact Gd.drewN HG.out _ | exact Gd.drew HG.out | exact Gd.below HG.out (by repeat (first | (with_reducible first | exact HB.out | apply below_alloc | apply pw_below_drewN | apply below_drew1 | refine below_set ?_ (IsS46.ge HI0.out)) | exact HB.out))); rintro e w35 ⟨rfl, hb⟩; refine ⟨_, rfl, ?_⟩; have n0_ := Aside0.mk (IsS46.below (by repeat (first | (with_reducible first | exact HI0.out | apply IsS46.alloc | apply IsS46.drewN | apply IsS46.drew | apply IsS46.set_0 | apply IsS46.set_1) | exact HI0.out)) hb); have n1_ := Aside0.mk (KeepBut.trans (by repeat (first | (with_reducible first | exact HK.out | apply KeepBut.set_ | apply keep_drewN | apply keep_drew | apply keep_alloc) | exact HK.out)) (KeepBut.of_below hb g none) (.inl rfl)); have n2_ := Aside0.mk (below_step (by repeat (first | (with_reducible first | exact HB.out | apply below_alloc | apply pw_below_drewN | apply below_drew1 | refine below_set ?_ (IsS46.ge HI0.out)) | exact HB.out)) hb); clear HI0; clear HK; clear HB; have HI0 := n0_; have HK := n1_; have HB := n2_; clear n0_ n1_ n2_; (try clear hb); (try clear hb2); (try clear hk); (try clear hi)) | (go_at_call 15; (with_reducible refine (token_walk_string_is.calls g t206 t207 (⟨#[34]⟩ : ByteArray) false t211 t212 w0 _ HG.out ?side1 ?side2 A25.out).mono ?_); (case side1 => repeat (first | (with_reducible first | exact HI0.out | apply IsS46.alloc | apply IsS46.drewN | apply IsS46.drew | apply IsS46.set_0 | apply IsS46.set_1) | exact HI0.out)); (case side2 => repeat (first | (with_reducible first | exact HB.out | apply below_alloc | apply pw_below_drewN | apply below_drew1 | refine below_set ?_ (IsS46.ge HI0.out)) | exact HB.out)); rintro e w36 ⟨rfl, hi, hb, hk⟩; have n0_ := Aside0.mk (KeepBut.trans (by repeat (first | (with_reducible first | exact HK.out | apply KeepBut.set_ | apply keep_drewN | apply keep_drew | apply keep_alloc) | exact HK.out)) hk (.inl rfl)); have n1_ := Aside0.mk (hb); have n2_ := Aside0.mk (hi); clear HK; clear HB; clear HI0; have HK := n0_; have HB := n1_; have HI0 := n2_; clear n0_ n1_ n2_; (try clear hb); (try clear hb2); (try clear hk); (try clear hi)))
          go_ret2
          exact ⟨by first | rfl | (simp [errW_none, errW_some] <;> rfl) | (simp [*, errW_none, errW_some] <;> rfl), by repeat (first | (with_reducible first | exact HI0.out | apply IsS46.alloc | apply IsS46.drewN | apply IsS46.drew | apply IsS46.set_0 | apply IsS46.set_1) | exact HI0.out), by repeat (first | (with_reducible first | exact HB.out | apply below_alloc | apply pw_below_drewN | apply below_drew1 | refine below_set ?_ (IsS46.ge HI0.out)) | exact HB.out), by repeat (first | (with_reducible first | exact HK.out | apply KeepBut.set_ | apply keep_drewN | apply keep_drew | apply keep_alloc) | exact HK.out)⟩
      · replace c24 := Bool.eq_false_iff.mpr c24
        subst c24
        have H1 : (some (t208, false, t206, t207)) = some (r1, r2, r3, r4) := by rw [if_neg (show ¬ (false = true) by decide)] at H; exact H
        clear H
        have H := H1
        clear H1
        simp only [Option.some.injEq, Prod.mk.injEq] at H
        obtain ⟨rfl, rfl, rfl, rfl⟩ := H
        go_enter Tryd.func51, Tryd.ntmps51
        go_wp2_with (first | ((with_reducible refine gate_callee (f := 15) rfl ?_); refine goesL_ (some 11) rfl rfl Tryd.func15 (by kernel_rfl) rfl #[.pointer (some ⟨g, 0, none⟩), .string (⟨#[39]⟩ : ByteArray)] rfl (by (try simp only [List.map_toArray, List.map_cons, List.map_nil]); first | done | rfl | (simp only [List.length_drop, List.length_take]; rfl)) ?_; (with_reducible refine (token_walk_string_is.calls g s0_0 s0_1 (⟨#[39]⟩ : ByteArray) false t190 t191 w0 _ HG.out ?side1 ?side2 A2.out).mono ?_); (case side1 => repeat (first | (with_reducible first | exact HI0.out | apply IsS46.alloc | apply IsS46.drewN | apply IsS46.drew | apply IsS46.set_0 | apply IsS46.set_1) | exact HI0.out)); (case side2 => repeat (first | (with_reducible first | exact HB.out | apply below_alloc | apply pw_below_drewN | apply below_drew1 | refine below_set ?_ (IsS46.ge HI0.out)) | exact HB.out)); rintro e w37 ⟨rfl, hi, hb, hk⟩; refine ⟨_, rfl, ?_⟩; have n0_ := Aside0.mk (KeepBut.trans (by repeat (first | (with_reducible first | exact HK.out | apply KeepBut.set_ | apply keep_drewN | apply keep_drew | apply keep_alloc) | exact HK.out)) hk (.inl rfl)); have n1_ := Aside0.mk (hb); have n2_ := Aside0.mk (hi); clear HK; clear HB; clear HI0; have HK := n0_; have HB := n1_; have HI0 := n2_; clear n0_ n1_ n2_; (try clear hb); (try clear hb2); (try clear hk); (try clear hi)) | ((with_reducible refine gate_callee (f := 15) rfl ?_); refine goesL_ (some 15) rfl rfl Tryd.func15 (by kernel_rfl) rfl #[.pointer (some ⟨g, 0, none⟩), .string (⟨#[34]⟩ : ByteArray)] rfl (by (try simp only [List.map_toArray, List.map_cons, List.map_nil]); first | done | rfl | (simp only [List.length_drop, List.length_take]; rfl)) ?_; (with_reducible refine (token_walk_string_is.calls g t190 t191 (⟨#[34]⟩ : ByteArray) true t202 t203 w0 _ HG.out ?side1 ?side2 A20.out).mono ?_); (case side1 => repeat (first | (with_reducible first | exact HI0.out | apply IsS46.alloc | apply IsS46.drewN | apply IsS46.drew | apply IsS46.set_0 | apply IsS46.set_1) | exact HI0.out)); (case side2 => repeat (first | (with_reducible first | exact HB.out | apply below_alloc | apply pw_below_drewN | apply below_drew1 | refine below_set ?_ (IsS46.ge HI0.out)) | exact HB.out)); rintro e w38 ⟨rfl, hi, hb, hk⟩; refine ⟨_, rfl, ?_⟩; have n0_ := Aside0.mk (KeepBut.trans (by repeat (first | (with_reducible first | exact HK.out | apply KeepBut.set_ | apply keep_drewN | apply keep_drew | apply keep_alloc) | exact HK.out)) hk (.inl rfl)); have n1_ := Aside0.mk (hb); have n2_ := Aside0.mk (hi); clear HK; clear HB; clear HI0; have HK := n0_; have HB := n1_; have HI0 := n2_; clear n0_ n1_ n2_; (try clear hb); (try clear hb2); (try clear hk); (try clear hi)) | ((with_reducible refine gate_callee (f := 26) rfl ?_); refine goesL_ (some 20) rfl rfl Tryd.func26 (by kernel_rfl) rfl #[.pointer (some ⟨g, 0, none⟩), .string (⟨#[34]⟩ : ByteArray)] rfl (by (try simp only [List.map_toArray, List.map_cons, List.map_nil]); first | done | rfl | (simp only [List.length_drop, List.length_take]; rfl)) ?_; (with_reducible refine (G_upTo.calls g t202 t203 (⟨#[34]⟩ : ByteArray) t204 false t206 t207 w0 _ HG.out ?side1 ?side2 A22.out).mono ?_); (case side1 => repeat (first | (with_reducible first | exact HI0.out | apply IsS46.alloc | apply IsS46.drewN | apply IsS46.drew | apply IsS46.set_0 | apply IsS46.set_1) | exact HI0.out)); (case side2 => repeat (first | (with_reducible first | exact HB.out | apply below_alloc | apply pw_below_drewN | apply below_drew1 | refine below_set ?_ (IsS46.ge HI0.out)) | exact HB.out)); rintro e w39 ⟨rfl, hi, hb, hk⟩; refine ⟨_, rfl, ?_⟩; have n0_ := Aside0.mk (KeepBut.trans (by repeat (first | (with_reducible first | exact HK.out | apply KeepBut.set_ | apply keep_drewN | apply keep_drew | apply keep_alloc) | exact HK.out)) hk (.inl rfl)); have n1_ := Aside0.mk (hb); have n2_ := Aside0.mk (hi); clear HK; clear HB; clear HI0; have HK := n0_; have HB := n1_; have HI0 := n2_; clear n0_ n1_ n2_; (try clear hb); (try clear hb2); (try clear hk); (try clear hi)) | ((with_reducible refine gate_callee (f := 27) rfl ?_); refine goesL_ (some 25) rfl rfl Tryd.func27 (by kernel_rfl) rfl #[.string t204] rfl (by (try simp only [List.map_toArray, List.map_cons, List.map_nil]); first | done | rfl | (simp only [List.length_drop, List.length_take]; rfl)) ?_; (with_reducible refine (G_Back.calls t204 t208 t209 _ ?side1 A23.out).mono ?_); (case side1 => first | exact HG.out | exact Gd.drewN HG.out _ | exact Gd.drew HG.out | exact Gd.below HG.out (by repeat (first | (with_reducible first | exact HB.out | apply below_alloc | apply pw_below_drewN | apply below_drew1 | refine below_set ?_ (IsS46.ge HI0.out)) | exact HB.out))); rintro e w40 ⟨rfl, hb⟩; refine ⟨_, rfl, ?_⟩; have n0_ := Aside0.mk (IsS46.below (by repeat (first | (with_reducible first | exact HI0.out | apply IsS46.alloc | apply IsS46.drewN | apply IsS46.drew | apply IsS46.set_0 | apply IsS46.set_1) | exact HI0.out)) hb); have n1_ := Aside0.mk (KeepBut.trans (by repeat (first | (with_reducible first | exact HK.out | apply KeepBut.set_ | apply keep_drewN | apply keep_drew | apply keep_alloc) | exact HK.out)) (KeepBut.of_below hb g none) (.inl rfl)); have n2_ := Aside0.mk (below_step (by repeat (first | (with_reducible first | exact HB.out | apply below_alloc | apply pw_below_drewN | apply below_drew1 | refine below_set ?_ (IsS46.ge HI0.out)) | exact HB.out)) hb); clear HI0; clear HK; clear HB; have HI0 := n0_; have HK := n1_; have HB := n2_; clear n0_ n1_ n2_; (try clear hb); (try clear hb2); (try clear hk); (try clear hi)))
        go_ret2
        exact ⟨by first | rfl | (simp [errW_none, errW_some] <;> rfl) | (simp [*, errW_none, errW_some] <;> rfl), by repeat (first | (with_reducible first | exact HI0.out | apply IsS46.alloc | apply IsS46.drewN | apply IsS46.drew | apply IsS46.set_0 | apply IsS46.set_1) | exact HI0.out), by repeat (first | (with_reducible first | exact HB.out | apply below_alloc | apply pw_below_drewN | apply below_drew1 | refine below_set ?_ (IsS46.ge HI0.out)) | exact HB.out), by repeat (first | (with_reducible first | exact HK.out | apply KeepBut.set_ | apply keep_drewN | apply keep_drew | apply keep_alloc) | exact HK.out)⟩
    · replace c21 := Bool.eq_false_iff.mpr c21
      subst c21
      have H1 : (some ((⟨#[]⟩ : ByteArray), false, t202, t203)) = some (r1, r2, r3, r4) := by rw [if_neg (show ¬ (false = true) by decide)] at H; exact H
      clear H
      have H := H1
      clear H1
      simp only [Option.some.injEq, Prod.mk.injEq] at H
      obtain ⟨rfl, rfl, rfl, rfl⟩ := H
      go_enter Tryd.func51, Tryd.ntmps51
      go_wp2_with (first | ((with_reducible refine gate_callee (f := 15) rfl ?_); refine goesL_ (some 11) rfl rfl Tryd.func15 (by kernel_rfl) rfl #[.pointer (some ⟨g, 0, none⟩), .string (⟨#[39]⟩ : ByteArray)] rfl (by (try simp only [List.map_toArray, List.map_cons, List.map_nil]); first | done | rfl | (simp only [List.length_drop, List.length_take]; rfl)) ?_; (with_reducible refine (token_walk_string_is.calls g s0_0 s0_1 (⟨#[39]⟩ : ByteArray) false t190 t191 w0 _ HG.out ?side1 ?side2 A2.out).mono ?_); (case side1 => repeat (first | (with_reducible first | exact HI0.out | apply IsS46.alloc | apply IsS46.drewN | apply IsS46.drew | apply IsS46.set_0 | apply IsS46.set_1) | exact HI0.out)); (case side2 => repeat (first | (with_reducible first | exact HB.out | apply below_alloc | apply pw_below_drewN | apply below_drew1 | refine below_set ?_ (IsS46.ge HI0.out)) | exact HB.out)); rintro e w41 ⟨rfl, hi, hb, hk⟩; refine ⟨_, rfl, ?_⟩; have n0_ := Aside0.mk (KeepBut.trans (by repeat (first | (with_reducible first | exact HK.out | apply KeepBut.set_ | apply keep_drewN | apply keep_drew | apply keep_alloc) | exact HK.out)) hk (.inl rfl)); have n1_ := Aside0.mk (hb); have n2_ := Aside0.mk (hi); clear HK; clear HB; clear HI0; have HK := n0_; have HB := n1_; have HI0 := n2_; clear n0_ n1_ n2_; (try clear hb); (try clear hb2); (try clear hk); (try clear hi)) | ((with_reducible refine gate_callee (f := 15) rfl ?_); refine goesL_ (some 15) rfl rfl Tryd.func15 (by kernel_rfl) rfl #[.pointer (some ⟨g, 0, none⟩), .string (⟨#[34]⟩ : ByteArray)] rfl (by (try simp only [List.map_toArray, List.map_cons, List.map_nil]); first | done | rfl | (simp only [List.length_drop, List.length_take]; rfl)) ?_; (with_reducible refine (token_walk_string_is.calls g t190 t191 (⟨#[34]⟩ : ByteArray) false t202 t203 w0 _ HG.out ?side1 ?side2 A20.out).mono ?_); (case side1 => repeat (first | (with_reducible first | exact HI0.out | apply IsS46.alloc | apply IsS46.drewN | apply IsS46.drew | apply IsS46.set_0 | apply IsS46.set_1) | exact HI0.out)); (case side2 => repeat (first | (with_reducible first | exact HB.out | apply below_alloc | apply pw_below_drewN | apply below_drew1 | refine below_set ?_ (IsS46.ge HI0.out)) | exact HB.out)); rintro e w42 ⟨rfl, hi, hb, hk⟩; refine ⟨_, rfl, ?_⟩; have n0_ := Aside0.mk (KeepBut.trans (by repeat (first | (with_reducible first | exact HK.out | apply KeepBut.set_ | apply keep_drewN | apply keep_drew | apply keep_alloc) | exact HK.out)) hk (.inl rfl)); have n1_ := Aside0.mk (hb); have n2_ := Aside0.mk (hi); clear HK; clear HB; clear HI0; have HK := n0_; have HB := n1_; have HI0 := n2_; clear n0_ n1_ n2_; (try clear hb); (try clear hb2); (try clear hk); (try clear hi)))
      go_ret2
      exact ⟨by first | rfl | (simp [errW_none, errW_some] <;> rfl) | (simp [*, errW_none, errW_some] <;> rfl), by repeat (first | (with_reducible first | exact HI0.out | apply IsS46.alloc | apply IsS46.drewN | apply IsS46.drew | apply IsS46.set_0 | apply IsS46.set_1) | exact HI0.out), by repeat (first | (with_reducible first | exact HB.out | apply below_alloc | apply pw_below_drewN | apply below_drew1 | refine below_set ?_ (IsS46.ge HI0.out)) | exact HB.out), by repeat (first | (with_reducible first | exact HK.out | apply KeepBut.set_ | apply keep_drewN | apply keep_drew | apply keep_alloc) | exact HK.out)⟩

end Go.Proofs.YtfelfpjfjjgmoaaDoor.P
end
/- Lean functions for functions of the program, and that the Go code comes to their answers, where the library's variables are as Gd says. Written by a turned copy of the kit's print; Lean checks it. -/
section
namespace Go.Proofs.YtfelfpjfjjgmoaaDoor.P
open Go.RowKit Go.Proofs.YtfelfpjfjjgmoaaDoorW.PrintWords Go.Proofs.YtfelfpjfjjgmoaaDoorW.PrintLast Go.Proofs.YtfelfpjfjjgmoaaDoorW.PrintMore
attribute [local go_sem] max2_int min2_int max_two min_two max_three min_three max_four min_four   -- for this text's walks alone
set_option linter.unusedVariables false
set_option linter.unusedSimpArgs false

/-! ### token_attr: function 36 -/
def token_attr.j0 : Nat → Bool → ByteArray → ByteArray → ByteArray → ByteArray → Option (ByteArray × ByteArray × Bool × ByteArray × ByteArray)
  | 0, _, _, _, _, _ => none
  | k + 1, x19, x1000, x1001, x218000, x218001 => if x19 = true then (some (x218000, x218001, false, x1000, x1001)) else ((token_run_string.f x1000 x1001 (⟨#[9, 10, 13, 32]⟩ : ByteArray)).bind fun bt224 => ((token_value.f bt224.2.1 bt224.2.2).bind fun bt227 => (some (x218000, bt227.1, bt227.2.1, bt227.2.2.1, bt227.2.2.2))))
def token_attr.f (k : Nat) (s0_0 : ByteArray) (s0_1 : ByteArray) : Option (ByteArray × ByteArray × Bool × ByteArray × ByteArray) := (token_name.f s0_0 s0_1).bind fun bt214 => ((token_run_string.f bt214.2.1 bt214.2.2 (⟨#[9, 10, 13, 32]⟩ : ByteArray)).bind fun bt218 => (if bt214.1.toList = ([] : List UInt8) then (token_attr.j0 k true bt218.2.1 bt218.2.2 bt214.1 (⟨#[]⟩ : ByteArray)) else ((token_walk_string_is.f bt218.2.1 bt218.2.2 (⟨#[61]⟩ : ByteArray)).bind fun bt221 => (token_attr.j0 k (!bt221.1) bt221.2.1 bt221.2.2 bt214.1 (⟨#[]⟩ : ByteArray)))))
theorem token_attr.mono_l : ∀ k, (∀ y0 y1 y2 y3 y4, LeO (token_attr.j0 k y0 y1 y2 y3 y4) (token_attr.j0 (k + 1) y0 y1 y2 y3 y4))
  | 0 => fun _ _ _ _ _ r h => by simp [token_attr.j0] at h
  | k + 1 => by
    have ih0 := token_attr.mono_l k
    · intro y0 y1 y2 y3 y4
      unfold token_attr.j0
      repeat' first
      | (with_reducible exact ih0 _ _ _ _ _)
      | (with_reducible exact LeO.refl _)
      | (with_reducible exact LeO.none _)
      | (with_reducible refine LeO.ite ?_ ?_)
      | (with_reducible refine LeO.bind ?_ (fun _ => ?_))
      | exact ih0 _ _ _ _ _
      | exact LeO.none _
      | refine LeO.ite ?_ ?_
      | refine LeO.bind ?_ (fun _ => ?_)
theorem token_attr.mono : ∀ a0 a1 k, LeO (token_attr.f k a0 a1) (token_attr.f (k + 1) a0 a1) := by
  intro a0 a1 k
  have ih0 := token_attr.mono_l k
  unfold token_attr.f
  repeat' first
      | (with_reducible exact ih0 _ _ _ _ _)
      | (with_reducible exact LeO.refl _)
      | (with_reducible exact LeO.none _)
      | (with_reducible refine LeO.ite ?_ ?_)
      | (with_reducible refine LeO.bind ?_ (fun _ => ?_))
      | exact ih0 _ _ _ _ _
      | exact LeO.none _
      | refine LeO.ite ?_ ?_
      | refine LeO.bind ?_ (fun _ => ?_)
set_option maxHeartbeats 8000000 in
set_option maxRecDepth 100000 in
theorem token_attr.calls (k : Nat) (g : Nat) (s0_0 : ByteArray) (s0_1 : ByteArray) (r1 : ByteArray) (r2 : ByteArray) (r3 : Bool) (r4 : ByteArray) (r5 : ByteArray) (w0 w : World) (hG_ : Gd w0) (hI : IsS46 w0 w g s0_0 s0_1) (hB : Below w0.heap.size w0 w) (h : token_attr.f k s0_0 s0_1 = some (r1, r2, r3, r4, r5)) :
    Calls Tryd.prog 36 #[.pointer (some ⟨g, 0, none⟩)] w fun e w' => e = .returned (.tuple #[.agg #[.string r1, .string r2], .bool r3]) ∧ IsS46 w0 w' g r4 r5 ∧ Below w0.heap.size w0 w' ∧ KeepBut w w' g none := by
  have hu35 := Tryd.underlying35
  have HI0 := Aside0.mk hI
  have HK := Aside0.mk (KeepBut.refl w g none)
  have HL := Aside0.mk hB.size
  clear hI
  have HW0 := Aside0.mk hB.size
  have HB := Aside0.mk hB
  clear hB
  have HG := Aside0.mk hG_
  clear hG_
  have H : ((token_name.f s0_0 s0_1).bind fun bt214 => ((token_run_string.f bt214.2.1 bt214.2.2 (⟨#[9, 10, 13, 32]⟩ : ByteArray)).bind fun bt218 => (if bt214.1.toList = ([] : List UInt8) then (token_attr.j0 k true bt218.2.1 bt218.2.2 bt214.1 (⟨#[]⟩ : ByteArray)) else ((token_walk_string_is.f bt218.2.1 bt218.2.2 (⟨#[61]⟩ : ByteArray)).bind fun bt221 => (token_attr.j0 k (!bt221.1) bt221.2.1 bt221.2.2 bt214.1 (⟨#[]⟩ : ByteArray)))))) = some (r1, r2, r3, r4, r5) := h
  clear h
  replace H := Option.bind_eq_some_iff.mp H
  obtain ⟨⟨t214, t215, t216⟩, A20, H⟩ := H
  replace H : ((token_run_string.f t215 t216 (⟨#[9, 10, 13, 32]⟩ : ByteArray)).bind fun bt218 => (if t214.toList = ([] : List UInt8) then (token_attr.j0 k true bt218.2.1 bt218.2.2 t214 (⟨#[]⟩ : ByteArray)) else ((token_walk_string_is.f bt218.2.1 bt218.2.2 (⟨#[61]⟩ : ByteArray)).bind fun bt221 => (token_attr.j0 k (!bt221.1) bt221.2.1 bt221.2.2 t214 (⟨#[]⟩ : ByteArray))))) = some (r1, r2, r3, r4, r5) := H
  have A2 := Aside0.mk A20
  clear A20
  replace H := Option.bind_eq_some_iff.mp H
  obtain ⟨⟨t218, t219, t220⟩, A30, H⟩ := H
  replace H : (if t214.toList = ([] : List UInt8) then (token_attr.j0 k true t219 t220 t214 (⟨#[]⟩ : ByteArray)) else ((token_walk_string_is.f t219 t220 (⟨#[61]⟩ : ByteArray)).bind fun bt221 => (token_attr.j0 k (!bt221.1) bt221.2.1 bt221.2.2 t214 (⟨#[]⟩ : ByteArray)))) = some (r1, r2, r3, r4, r5) := H
  have A3 := Aside0.mk A30
  clear A30
  have HC4 := Aside0.mk H
  clear H
  go_enter Tryd.func36, Tryd.ntmps36
  go_upto_region 3 with (first | ((with_reducible refine gate_dst (N := 2) rfl ?_); refine box_event ?hg (N := 2) ?hd (cs := #[.string (⟨#[]⟩ : ByteArray), .string (⟨#[]⟩ : ByteArray)]) (t := 35) ?hr ?_; (case hd => rfl); (case hg => rfl); (case hr => first | (go_simp; done) | (go_simp; rfl)); intro gb213 hg w5 hbox hb; have n0_ := Aside0.mk (IsS46.below (by repeat (first | (with_reducible first | exact HI0.out | apply IsS46.alloc | apply IsS46.drewN | apply IsS46.drew | apply IsS46.set_0 | apply IsS46.set_1) | exact HI0.out)) hb); have n1_ := Aside0.mk (KeepBut.trans (by repeat (first | (with_reducible first | exact HK.out | apply KeepBut.set_ | apply keep_drewN | apply keep_drew | apply keep_alloc) | exact HK.out)) (KeepBut.of_below hb g none) (.inl rfl)); have n2_ := Aside0.mk (below_step (by repeat (first | (with_reducible first | exact HB.out | apply below_alloc | apply pw_below_drewN | apply below_drew1 | refine below_set ?_ (IsS46.ge HI0.out)) | exact HB.out)) hb); have n3_ := Aside0.mk (hbox); have n4_ := Aside0.mk ((by rw [hg]; exact (keep_size (w := w) (g := g) (row := none) (by repeat (first | (with_reducible first | exact HK.out | apply KeepBut.set_ | apply keep_drewN | apply keep_drew | apply keep_alloc) | exact HK.out))) : w.heap.size ≤ gb213)); have n5_ := Aside0.mk ((Nat.le_trans HW0.out (by rw [hg]; exact (keep_size (w := w) (g := g) (row := none) (by repeat (first | (with_reducible first | exact HK.out | apply KeepBut.set_ | apply keep_drewN | apply keep_drew | apply keep_alloc) | exact HK.out))) : w.heap.size ≤ gb213) : w0.heap.size ≤ gb213)); have n6_ := Aside0.mk ((by rw [hg]; exact Nat.ne_of_lt (IsS46.lt (show IsS46 w0 _ g s0_0 s0_1 from by repeat (first | (with_reducible first | exact HI0.out | apply IsS46.alloc | apply IsS46.drewN | apply IsS46.drew | apply IsS46.set_0 | apply IsS46.set_1) | exact HI0.out))) : g ≠ gb213)); have n7_ := Aside0.mk ((by rw [hg]; exact Nat.ne_of_gt (IsS46.lt (show IsS46 w0 _ g s0_0 s0_1 from by repeat (first | (with_reducible first | exact HI0.out | apply IsS46.alloc | apply IsS46.drewN | apply IsS46.drew | apply IsS46.set_0 | apply IsS46.set_1) | exact HI0.out))) : gb213 ≠ g)); clear HI0; clear HK; clear HB; have HI0 := n0_; have HK := n1_; have HB := n2_; have BK213 := n3_; have GW213 := n4_; have GE213 := n5_; have NB0_213 := n6_; have NB213_0 := n7_; clear n0_ n1_ n2_ n3_ n4_ n5_ n6_ n7_; clear hb hbox hg) | ((with_reducible refine gate_callee (f := 34) rfl ?_); refine goesL_ (some 8) rfl rfl Tryd.func34 (by kernel_rfl) rfl #[.pointer (some ⟨g, 0, none⟩)] rfl (by (try simp only [List.map_toArray, List.map_cons, List.map_nil]); first | done | rfl | (simp only [List.length_drop, List.length_take]; rfl)) ?_; (with_reducible refine (token_name.calls g s0_0 s0_1 t214 t215 t216 w0 _ HG.out ?side1 ?side2 A2.out).mono ?_); (case side1 => repeat (first | (with_reducible first | exact HI0.out | apply IsS46.alloc | apply IsS46.drewN | apply IsS46.drew | apply IsS46.set_0 | apply IsS46.set_1 | refine IsS46.far ?_ NB0_213.out _) | exact HI0.out)); (case side2 => repeat (first | (with_reducible first | exact HB.out | apply below_alloc | apply pw_below_drewN | apply below_drew1 | refine below_set ?_ (IsS46.ge HI0.out) | refine below_set ?_ GE213.out) | exact HB.out)); rintro e w6 ⟨rfl, hi, hb, hk⟩; refine ⟨_, rfl, ?_⟩; have n0_ := Aside0.mk (KeepBut.blk hk (g' := gb213) (o := .cells #[.string (⟨#[]⟩ : ByteArray), .string (⟨#[]⟩ : ByteArray)] 35 (0, 0)) (by (with_reducible repeat (first | refine blk_drewN ?_ _ | refine blk_drew ?_ | refine blk_alloc ?_ _)); exact BK213.out) NB213_0.out (by simp)); have n1_ := Aside0.mk (KeepBut.trans (by repeat (first | (with_reducible first | exact HK.out | apply KeepBut.set_ | apply keep_drewN | apply keep_drew | apply keep_alloc | refine keep_far ?_ GW213.out _) | exact HK.out)) hk (.inl rfl)); have n2_ := Aside0.mk (hb); have n3_ := Aside0.mk (hi); clear BK213; clear HK; clear HB; clear HI0; have BK213 := n0_; have HK := n1_; have HB := n2_; have HI0 := n3_; clear n0_ n1_ n2_ n3_; (try clear hb); (try clear hb2); (try clear hk); (try clear hi)) | ((with_reducible refine gate_dst (N := 4) rfl ?_); refine box_event ?hg (N := 4) ?hd (cs := #[.string (⟨#[]⟩ : ByteArray), .string (⟨#[]⟩ : ByteArray)]) (t := 35) ?hr ?_; (case hd => rfl); (case hg => rfl); (case hr => first | (go_simp; done) | (go_simp; rfl)); intro gb217 hg w7 hbox hb; have n0_ := Aside0.mk (IsS46.below (by repeat (first | (with_reducible first | exact HI0.out | apply IsS46.alloc | apply IsS46.drewN | apply IsS46.drew | apply IsS46.set_0 | apply IsS46.set_1 | refine IsS46.far ?_ NB0_213.out _) | exact HI0.out)) hb); have n1_ := Aside0.mk (blk_below (g := gb213) (o := .cells #[.string (⟨#[]⟩ : ByteArray), .string (⟨#[]⟩ : ByteArray)] 35 (0, 0)) (by (with_reducible repeat (first | refine blk_drewN ?_ _ | refine blk_drew ?_ | refine blk_alloc ?_ _)); exact BK213.out) hb); have n2_ := Aside0.mk (KeepBut.trans (by repeat (first | (with_reducible first | exact HK.out | apply KeepBut.set_ | apply keep_drewN | apply keep_drew | apply keep_alloc | refine keep_far ?_ GW213.out _) | exact HK.out)) (KeepBut.of_below hb g none) (.inl rfl)); have n3_ := Aside0.mk (below_step (by repeat (first | (with_reducible first | exact HB.out | apply below_alloc | apply pw_below_drewN | apply below_drew1 | refine below_set ?_ (IsS46.ge HI0.out) | refine below_set ?_ GE213.out) | exact HB.out)) hb); have n4_ := Aside0.mk (hbox); have n5_ := Aside0.mk ((by rw [hg]; exact (keep_size (w := w) (g := g) (row := none) (by repeat (first | (with_reducible first | exact HK.out | apply KeepBut.set_ | apply keep_drewN | apply keep_drew | apply keep_alloc | refine keep_far ?_ GW213.out _) | exact HK.out))) : w.heap.size ≤ gb217)); have n6_ := Aside0.mk ((Nat.le_trans HW0.out (by rw [hg]; exact (keep_size (w := w) (g := g) (row := none) (by repeat (first | (with_reducible first | exact HK.out | apply KeepBut.set_ | apply keep_drewN | apply keep_drew | apply keep_alloc | refine keep_far ?_ GW213.out _) | exact HK.out))) : w.heap.size ≤ gb217) : w0.heap.size ≤ gb217)); have n7_ := Aside0.mk ((by rw [hg]; exact Nat.ne_of_lt (blk_lt (g := gb213) (o := .cells #[.string (⟨#[]⟩ : ByteArray), .string (⟨#[]⟩ : ByteArray)] 35 (0, 0)) (by (with_reducible repeat (first | refine blk_drewN ?_ _ | refine blk_drew ?_ | refine blk_alloc ?_ _)); exact BK213.out)) : gb213 ≠ gb217)); have n8_ := Aside0.mk ((by rw [hg]; exact Nat.ne_of_gt (blk_lt (g := gb213) (o := .cells #[.string (⟨#[]⟩ : ByteArray), .string (⟨#[]⟩ : ByteArray)] 35 (0, 0)) (by (with_reducible repeat (first | refine blk_drewN ?_ _ | refine blk_drew ?_ | refine blk_alloc ?_ _)); exact BK213.out)) : gb217 ≠ gb213)); have n9_ := Aside0.mk ((by rw [hg]; exact Nat.ne_of_lt (IsS46.lt (show IsS46 w0 _ g t215 t216 from by repeat (first | (with_reducible first | exact HI0.out | apply IsS46.alloc | apply IsS46.drewN | apply IsS46.drew | apply IsS46.set_0 | apply IsS46.set_1 | refine IsS46.far ?_ NB0_213.out _) | exact HI0.out))) : g ≠ gb217)); have n10_ := Aside0.mk ((by rw [hg]; exact Nat.ne_of_gt (IsS46.lt (show IsS46 w0 _ g t215 t216 from by repeat (first | (with_reducible first | exact HI0.out | apply IsS46.alloc | apply IsS46.drewN | apply IsS46.drew | apply IsS46.set_0 | apply IsS46.set_1 | refine IsS46.far ?_ NB0_213.out _) | exact HI0.out))) : gb217 ≠ g)); clear HI0; clear BK213; clear HK; clear HB; have HI0 := n0_; have BK213 := n1_; have HK := n2_; have HB := n3_; have BK217 := n4_; have GW217 := n5_; have GE217 := n6_; have NB213_217 := n7_; have NB217_213 := n8_; have NB0_217 := n9_; have NB217_0 := n10_; clear n0_ n1_ n2_ n3_ n4_ n5_ n6_ n7_ n8_ n9_ n10_; clear hb hbox hg; have hnb8 := NB217_213.out; have hnc8 := NB213_217.out; have hnb9 := NB217_0.out; have hnc9 := NB0_217.out; have hcz10_0 : w7.cell? ⟨gb217, 0, none⟩ = some (.string (⟨#[]⟩ : ByteArray)) := (blk_cell BK217.out 0).trans rfl; have hcz10_1 : w7.cell? ⟨gb217, 1, none⟩ = some (.string (⟨#[]⟩ : ByteArray)) := (blk_cell BK217.out 1).trans rfl; have hfz10_0 := blk_frozen BK217.out 0; have hfz10_1 := blk_frozen BK217.out 1) | ((with_reducible refine gate_callee (f := 35) rfl ?_); refine goesL_ (some 11) rfl rfl Tryd.func35 (by kernel_rfl) rfl #[.pointer (some ⟨g, 0, none⟩), .string (⟨#[9, 10, 13, 32]⟩ : ByteArray)] rfl (by (try simp only [List.map_toArray, List.map_cons, List.map_nil]); first | done | rfl | (simp only [List.length_drop, List.length_take]; rfl)) ?_; (with_reducible refine (token_run_string.calls g t215 t216 (⟨#[9, 10, 13, 32]⟩ : ByteArray) t218 t219 t220 w0 _ HG.out ?side1 ?side2 A3.out).mono ?_); (case side1 => repeat (first | (with_reducible first | exact HI0.out | apply IsS46.alloc | apply IsS46.drewN | apply IsS46.drew | apply IsS46.set_0 | apply IsS46.set_1 | refine IsS46.far ?_ NB0_213.out _ | refine IsS46.far ?_ NB0_217.out _) | exact HI0.out)); (case side2 => repeat (first | (with_reducible first | exact HB.out | apply below_alloc | apply pw_below_drewN | apply below_drew1 | refine below_set ?_ (IsS46.ge HI0.out) | refine below_set ?_ GE213.out | refine below_set ?_ GE217.out) | exact HB.out)); rintro e w11 ⟨rfl, hi, hb, hk⟩; refine ⟨_, rfl, ?_⟩; have n0_ := Aside0.mk (KeepBut.blk hk (g' := gb213) (o := .cells #[.string (⟨#[]⟩ : ByteArray), .string (⟨#[]⟩ : ByteArray)] 35 (0, 0)) (by (with_reducible repeat (first | refine blk_drewN ?_ _ | refine blk_drew ?_ | refine blk_alloc ?_ _)); refine blk_far ?_ NB213_217.out _; (with_reducible repeat (first | refine blk_drewN ?_ _ | refine blk_drew ?_ | refine blk_alloc ?_ _)); refine blk_far ?_ NB213_217.out _; (with_reducible repeat (first | refine blk_drewN ?_ _ | refine blk_drew ?_ | refine blk_alloc ?_ _)); exact BK213.out) NB213_0.out (by simp)); have n1_ := Aside0.mk (KeepBut.blk hk (g' := gb217) (o := .cells #[.string t214, .string (⟨#[]⟩ : ByteArray)] 35 (0, 0)) (by (with_reducible repeat (first | refine blk_drewN ?_ _ | refine blk_drew ?_ | refine blk_alloc ?_ _)); refine blk_put (cs := #[.string t214, .string (⟨#[]⟩ : ByteArray)]) ?_ 1 _ rfl; (with_reducible repeat (first | refine blk_drewN ?_ _ | refine blk_drew ?_ | refine blk_alloc ?_ _)); refine blk_put (cs := #[.string (⟨#[]⟩ : ByteArray), .string (⟨#[]⟩ : ByteArray)]) ?_ 0 _ rfl; (with_reducible repeat (first | refine blk_drewN ?_ _ | refine blk_drew ?_ | refine blk_alloc ?_ _)); exact BK217.out) NB217_0.out (by simp)); have n2_ := Aside0.mk (KeepBut.trans (by repeat (first | (with_reducible first | exact HK.out | apply KeepBut.set_ | apply keep_drewN | apply keep_drew | apply keep_alloc | refine keep_far ?_ GW213.out _ | refine keep_far ?_ GW217.out _) | exact HK.out)) hk (.inl rfl)); have n3_ := Aside0.mk (hb); have n4_ := Aside0.mk (hi); clear BK213; clear BK217; clear HK; clear HB; clear HI0; have BK213 := n0_; have BK217 := n1_; have HK := n2_; have HB := n3_; have HI0 := n4_; clear n0_ n1_ n2_ n3_ n4_; (try clear hb); (try clear hb2); (try clear hk); (try clear hi)))
  (try simp only [Act.put, List.setIfInBounds_toArray, List.set_cons_zero, List.set_cons_succ])
  go_cut [19] (fun v19 wc => ∃ (kq : Nat) (x19_3 : Bool) (x1000_3 : ByteArray) (x1001_3 : ByteArray), v19 = .bool x19_3 ∧ Aside0 (token_attr.j0 kq x19_3 x1000_3 x1001_3 t214 (⟨#[]⟩ : ByteArray) = some (r1, r2, r3, r4, r5)) ∧ Aside0 (kq ≤ k) ∧ Aside0 (wc.heap[gb213]? = some (.cells #[.string (⟨#[]⟩ : ByteArray), .string (⟨#[]⟩ : ByteArray)] 35 (0, 0))) ∧ Aside0 (wc.heap[gb217]? = some (.cells #[.string t214, .string (⟨#[]⟩ : ByteArray)] 35 (0, 0))) ∧ Aside0 (IsS46 w0 wc g x1000_3 x1001_3) ∧ Aside0 (KeepBut w wc g none) ∧ Aside0 (Below w0.heap.size w0 wc))
  case first =>
    have H := HC4.out
    clear HC4
    by_cases c12 : t214.toList = ([] : List UInt8)
    · rw [if_pos c12] at H
      have c12b0 : (t214.toList == ([] : List UInt8)) = true := beq_iff_eq.mpr c12
      have c12b1 : (t214.toList != ([] : List UInt8)) = false := bne_eq_false_iff_eq.mpr c12
      clear c12
      (first | rw [c12b0] | (simp only [i64_w, i32_w]; rw [c12b0]) | skip)
      have H' := Aside0.mk H
      clear H
      have hnb13 := NB217_213.out
      have hnc13 := NB213_217.out
      have hnb14 := NB217_0.out
      have hnc14 := NB0_217.out
      have hcz15_0 : w11.cell? ⟨gb217, 0, none⟩ = some (.string t214) := (blk_cell BK217.out 0).trans rfl
      have hcz15_1 : w11.cell? ⟨gb217, 1, none⟩ = some (.string (⟨#[]⟩ : ByteArray)) := (blk_cell BK217.out 1).trans rfl
      have hfz15_0 := blk_frozen BK217.out 0
      have hfz15_1 := blk_frozen BK217.out 1
      go_wp2
      go_meet
      case rel => exact ⟨_, (true), (t219), (t220), (by first | rfl | (simp; done) | (simp [*]; done)), H', ⟨by first | omega | exact Nat.le_refl _⟩, ⟨by (with_reducible repeat (first | refine blk_drewN ?_ _ | refine blk_drew ?_ | refine blk_alloc ?_ _)); exact BK213.out⟩, ⟨by (with_reducible repeat (first | refine blk_drewN ?_ _ | refine blk_drew ?_ | refine blk_alloc ?_ _)); exact BK217.out⟩, ⟨by repeat (first | (with_reducible first | exact HI0.out | apply IsS46.alloc | apply IsS46.drewN | apply IsS46.drew | apply IsS46.set_0 | apply IsS46.set_1 | refine IsS46.far ?_ NB0_213.out _ | refine IsS46.far ?_ NB0_217.out _) | exact HI0.out)⟩, ⟨by repeat (first | (with_reducible first | exact HK.out | apply KeepBut.set_ | apply keep_drewN | apply keep_drew | apply keep_alloc | refine keep_far ?_ GW213.out _ | refine keep_far ?_ GW217.out _) | exact HK.out)⟩, ⟨by repeat (first | (with_reducible first | exact HB.out | apply below_alloc | apply pw_below_drewN | apply below_drew1 | refine below_set ?_ (IsS46.ge HI0.out) | refine below_set ?_ GE213.out | refine below_set ?_ GE217.out) | exact HB.out)⟩⟩
    · rw [if_neg c12] at H
      have c12b0 : (t214.toList == ([] : List UInt8)) = false := beq_eq_false_iff_ne.mpr c12
      have c12b1 : (t214.toList != ([] : List UInt8)) = true := bne_iff_ne.mpr c12
      (first | rw [c12b0] | (simp only [i64_w, i32_w]; rw [c12b0]) | skip)
      replace H := Option.bind_eq_some_iff.mp H
      obtain ⟨⟨t221, t222, t223⟩, A160, H⟩ := H
      replace H : (token_attr.j0 k (!t221) t222 t223 t214 (⟨#[]⟩ : ByteArray)) = some (r1, r2, r3, r4, r5) := H
      have A16 := Aside0.mk A160
      clear A160
      have H' := Aside0.mk H
      clear H
      have hnb17 := NB217_213.out
      have hnc17 := NB213_217.out
      have hnb18 := NB217_0.out
      have hnc18 := NB0_217.out
      have hcz19_0 : w11.cell? ⟨gb217, 0, none⟩ = some (.string t214) := (blk_cell BK217.out 0).trans rfl
      have hcz19_1 : w11.cell? ⟨gb217, 1, none⟩ = some (.string (⟨#[]⟩ : ByteArray)) := (blk_cell BK217.out 1).trans rfl
      have hfz19_0 := blk_frozen BK217.out 0
      have hfz19_1 := blk_frozen BK217.out 1
      go_wp2_with (first | (go_at_call 15; (with_reducible refine (token_walk_string_is.calls g t219 t220 (⟨#[61]⟩ : ByteArray) t221 t222 t223 w0 _ HG.out ?side1 ?side2 A16.out).mono ?_); (case side1 => repeat (first | (with_reducible first | exact HI0.out | apply IsS46.alloc | apply IsS46.drewN | apply IsS46.drew | apply IsS46.set_0 | apply IsS46.set_1 | refine IsS46.far ?_ NB0_213.out _ | refine IsS46.far ?_ NB0_217.out _) | exact HI0.out)); (case side2 => repeat (first | (with_reducible first | exact HB.out | apply below_alloc | apply pw_below_drewN | apply below_drew1 | refine below_set ?_ (IsS46.ge HI0.out) | refine below_set ?_ GE213.out | refine below_set ?_ GE217.out) | exact HB.out)); rintro e w20 ⟨rfl, hi, hb, hk⟩; have n0_ := Aside0.mk (KeepBut.blk hk (g' := gb213) (o := .cells #[.string (⟨#[]⟩ : ByteArray), .string (⟨#[]⟩ : ByteArray)] 35 (0, 0)) (by (with_reducible repeat (first | refine blk_drewN ?_ _ | refine blk_drew ?_ | refine blk_alloc ?_ _)); exact BK213.out) NB213_0.out (by simp)); have n1_ := Aside0.mk (KeepBut.blk hk (g' := gb217) (o := .cells #[.string t214, .string (⟨#[]⟩ : ByteArray)] 35 (0, 0)) (by (with_reducible repeat (first | refine blk_drewN ?_ _ | refine blk_drew ?_ | refine blk_alloc ?_ _)); exact BK217.out) NB217_0.out (by simp)); have n2_ := Aside0.mk (KeepBut.trans (by repeat (first | (with_reducible first | exact HK.out | apply KeepBut.set_ | apply keep_drewN | apply keep_drew | apply keep_alloc | refine keep_far ?_ GW213.out _ | refine keep_far ?_ GW217.out _) | exact HK.out)) hk (.inl rfl)); have n3_ := Aside0.mk (hb); have n4_ := Aside0.mk (hi); clear BK213; clear BK217; clear HK; clear HB; clear HI0; have BK213 := n0_; have BK217 := n1_; have HK := n2_; have HB := n3_; have HI0 := n4_; clear n0_ n1_ n2_ n3_ n4_; (try clear hb); (try clear hb2); (try clear hk); (try clear hi)))
      go_meet
      case rel => exact ⟨_, (!t221), (t222), (t223), (by first | rfl | (simp; done) | (simp [*]; done)), H', ⟨by first | omega | exact Nat.le_refl _⟩, ⟨by (with_reducible repeat (first | refine blk_drewN ?_ _ | refine blk_drew ?_ | refine blk_alloc ?_ _)); exact BK213.out⟩, ⟨by (with_reducible repeat (first | refine blk_drewN ?_ _ | refine blk_drew ?_ | refine blk_alloc ?_ _)); exact BK217.out⟩, ⟨by repeat (first | (with_reducible first | exact HI0.out | apply IsS46.alloc | apply IsS46.drewN | apply IsS46.drew | apply IsS46.set_0 | apply IsS46.set_1 | refine IsS46.far ?_ NB0_213.out _ | refine IsS46.far ?_ NB0_217.out _) | exact HI0.out)⟩, ⟨by repeat (first | (with_reducible first | exact HK.out | apply KeepBut.set_ | apply keep_drewN | apply keep_drew | apply keep_alloc | refine keep_far ?_ GW213.out _ | refine keep_far ?_ GW217.out _) | exact HK.out)⟩, ⟨by repeat (first | (with_reducible first | exact HB.out | apply below_alloc | apply pw_below_drewN | apply below_drew1 | refine below_set ?_ (IsS46.ge HI0.out) | refine below_set ?_ GE213.out | refine below_set ?_ GE217.out) | exact HB.out)⟩⟩
  case rest =>
    clear HC4
    try clear c1
    try clear p2
    try clear c3
    try clear c8
    try clear c9
    try clear c12
    try clear c12b0
    try clear c12b1
    try clear c13
    try clear c14
    try clear c17
    try clear c18
    try clear hcz10_0
    try clear hcz10_1
    try clear hcz15_0
    try clear hcz15_1
    try clear hcz19_0
    try clear hcz19_1
    try clear hfz10_0
    try clear hfz10_1
    try clear hfz15_0
    try clear hfz15_1
    try clear hfz19_0
    try clear hfz19_1
    obtain ⟨kq, x19_3, x1000_3, x1001_3, rfl, HA, HJ3, BK213, BK217, HI0, HK, HB⟩ := hcut
    cases kq with
    | zero => exact absurd HA.out (by simp [token_attr.j0])
    | succ kj3 =>
      have H := HA.out
      clear HA
      simp only [token_attr.j0] at H
      by_cases c21 : x19_3 = true
      · subst c21
        have H1 : (some (t214, (⟨#[]⟩ : ByteArray), false, x1000_3, x1001_3)) = some (r1, r2, r3, r4, r5) := by rw [if_pos rfl] at H; exact H
        clear H
        have H := H1
        clear H1
        simp only [Option.some.injEq, Prod.mk.injEq] at H
        obtain ⟨rfl, rfl, rfl, rfl, rfl⟩ := H
        have hnb22 := NB217_213.out
        have hnc22 := NB213_217.out
        have hnb23 := NB217_0.out
        have hnc23 := NB0_217.out
        have hcz24_0 : wc.cell? ⟨gb217, 0, none⟩ = some (.string t214) := (blk_cell BK217.out 0).trans rfl
        have hcz24_1 : wc.cell? ⟨gb217, 1, none⟩ = some (.string (⟨#[]⟩ : ByteArray)) := (blk_cell BK217.out 1).trans rfl
        have hfz24_0 := blk_frozen BK217.out 0
        have hfz24_1 := blk_frozen BK217.out 1
        have hnb25 := NB213_0.out
        have hnc25 := NB0_213.out
        have hcz26_0 : wc.cell? ⟨gb213, 0, none⟩ = some (.string (⟨#[]⟩ : ByteArray)) := (blk_cell BK213.out 0).trans rfl
        have hcz26_1 : wc.cell? ⟨gb213, 1, none⟩ = some (.string (⟨#[]⟩ : ByteArray)) := (blk_cell BK213.out 1).trans rfl
        have hfz26_0 := blk_frozen BK213.out 0
        have hfz26_1 := blk_frozen BK213.out 1
        go_wp2
        refine bodyPost_ret (results_ct rfl _ _ gb213 35 #[.string t214, .string (⟨#[]⟩ : ByteArray)] (0, 0) _ rfl (by (with_reducible repeat (first | refine blk_drewN ?_ _ | refine blk_drew ?_ | refine blk_alloc ?_ _)); refine blk_put (cs := #[.string t214, .string (⟨#[]⟩ : ByteArray)]) ?_ 1 _ rfl; (with_reducible repeat (first | refine blk_drewN ?_ _ | refine blk_drew ?_ | refine blk_alloc ?_ _)); refine blk_put (cs := #[.string (⟨#[]⟩ : ByteArray), .string (⟨#[]⟩ : ByteArray)]) ?_ 0 _ rfl; (with_reducible repeat (first | refine blk_drewN ?_ _ | refine blk_drew ?_ | refine blk_alloc ?_ _)); exact BK213.out) Tryd.underlying35 rfl (by kernel_rfl)) rfl ?_
        exact ⟨by first | rfl | (simp [errW_none, errW_some] <;> rfl) | (simp [*, errW_none, errW_some] <;> rfl), by repeat (first | (with_reducible first | exact HI0.out | apply IsS46.alloc | apply IsS46.drewN | apply IsS46.drew | apply IsS46.set_0 | apply IsS46.set_1 | refine IsS46.far ?_ NB0_213.out _ | refine IsS46.far ?_ NB0_217.out _) | exact HI0.out), by repeat (first | (with_reducible first | exact HB.out | apply below_alloc | apply pw_below_drewN | apply below_drew1 | refine below_set ?_ (IsS46.ge HI0.out) | refine below_set ?_ GE213.out | refine below_set ?_ GE217.out) | exact HB.out), by repeat (first | (with_reducible first | exact HK.out | apply KeepBut.set_ | apply keep_drewN | apply keep_drew | apply keep_alloc | refine keep_far ?_ GW213.out _ | refine keep_far ?_ GW217.out _) | exact HK.out)⟩
      · replace c21 := Bool.eq_false_iff.mpr c21
        subst c21
        have H1 : ((token_run_string.f x1000_3 x1001_3 (⟨#[9, 10, 13, 32]⟩ : ByteArray)).bind fun bt224 => ((token_value.f bt224.2.1 bt224.2.2).bind fun bt227 => (some (t214, bt227.1, bt227.2.1, bt227.2.2.1, bt227.2.2.2)))) = some (r1, r2, r3, r4, r5) := by rw [if_neg (show ¬ (false = true) by decide)] at H; exact H
        clear H
        have H := H1
        clear H1
        replace H := Option.bind_eq_some_iff.mp H
        obtain ⟨⟨t224, t225, t226⟩, A270, H⟩ := H
        replace H : ((token_value.f t225 t226).bind fun bt227 => (some (t214, bt227.1, bt227.2.1, bt227.2.2.1, bt227.2.2.2))) = some (r1, r2, r3, r4, r5) := H
        have A27 := Aside0.mk A270
        clear A270
        replace H := Option.bind_eq_some_iff.mp H
        obtain ⟨⟨t227, t228, t229, t230⟩, A280, H⟩ := H
        replace H : (some (t214, t227, t228, t229, t230)) = some (r1, r2, r3, r4, r5) := H
        have A28 := Aside0.mk A280
        clear A280
        simp only [Option.some.injEq, Prod.mk.injEq] at H
        obtain ⟨rfl, rfl, rfl, rfl, rfl⟩ := H
        go_wp2_with (first | ((with_reducible refine gate_callee (f := 35) rfl ?_); refine goesL_ (some 22) rfl rfl Tryd.func35 (by kernel_rfl) rfl #[.pointer (some ⟨g, 0, none⟩), .string (⟨#[9, 10, 13, 32]⟩ : ByteArray)] rfl (by (try simp only [List.map_toArray, List.map_cons, List.map_nil]); first | done | rfl | (simp only [List.length_drop, List.length_take]; rfl)) ?_; (with_reducible refine (token_run_string.calls g x1000_3 x1001_3 (⟨#[9, 10, 13, 32]⟩ : ByteArray) t224 t225 t226 w0 _ HG.out ?side1 ?side2 A27.out).mono ?_); (case side1 => repeat (first | (with_reducible first | exact HI0.out | apply IsS46.alloc | apply IsS46.drewN | apply IsS46.drew | apply IsS46.set_0 | apply IsS46.set_1 | refine IsS46.far ?_ NB0_213.out _ | refine IsS46.far ?_ NB0_217.out _) | exact HI0.out)); (case side2 => repeat (first | (with_reducible first | exact HB.out | apply below_alloc | apply pw_below_drewN | apply below_drew1 | refine below_set ?_ (IsS46.ge HI0.out) | refine below_set ?_ GE213.out | refine below_set ?_ GE217.out) | exact HB.out)); rintro e w29 ⟨rfl, hi, hb, hk⟩; refine ⟨_, rfl, ?_⟩; have n0_ := Aside0.mk (KeepBut.blk hk (g' := gb213) (o := .cells #[.string (⟨#[]⟩ : ByteArray), .string (⟨#[]⟩ : ByteArray)] 35 (0, 0)) (by (with_reducible repeat (first | refine blk_drewN ?_ _ | refine blk_drew ?_ | refine blk_alloc ?_ _)); exact BK213.out) NB213_0.out (by simp)); have n1_ := Aside0.mk (KeepBut.blk hk (g' := gb217) (o := .cells #[.string t214, .string (⟨#[]⟩ : ByteArray)] 35 (0, 0)) (by (with_reducible repeat (first | refine blk_drewN ?_ _ | refine blk_drew ?_ | refine blk_alloc ?_ _)); exact BK217.out) NB217_0.out (by simp)); have n2_ := Aside0.mk (KeepBut.trans (by repeat (first | (with_reducible first | exact HK.out | apply KeepBut.set_ | apply keep_drewN | apply keep_drew | apply keep_alloc | refine keep_far ?_ GW213.out _ | refine keep_far ?_ GW217.out _) | exact HK.out)) hk (.inl rfl)); have n3_ := Aside0.mk (hb); have n4_ := Aside0.mk (hi); clear BK213; clear BK217; clear HK; clear HB; clear HI0; have BK213 := n0_; have BK217 := n1_; have HK := n2_; have HB := n3_; have HI0 := n4_; clear n0_ n1_ n2_ n3_ n4_; (try clear hb); (try clear hb2); (try clear hk); (try clear hi)) | ((with_reducible refine gate_callee (f := 51) rfl ?_); refine goesL_ (some 25) rfl rfl Tryd.func51 (by kernel_rfl) rfl #[.pointer (some ⟨g, 0, none⟩)] rfl (by (try simp only [List.map_toArray, List.map_cons, List.map_nil]); first | done | rfl | (simp only [List.length_drop, List.length_take]; rfl)) ?_; (with_reducible refine (token_value.calls g t225 t226 t227 t228 t229 t230 w0 _ HG.out ?side1 ?side2 A28.out).mono ?_); (case side1 => repeat (first | (with_reducible first | exact HI0.out | apply IsS46.alloc | apply IsS46.drewN | apply IsS46.drew | apply IsS46.set_0 | apply IsS46.set_1 | refine IsS46.far ?_ NB0_213.out _ | refine IsS46.far ?_ NB0_217.out _) | exact HI0.out)); (case side2 => repeat (first | (with_reducible first | exact HB.out | apply below_alloc | apply pw_below_drewN | apply below_drew1 | refine below_set ?_ (IsS46.ge HI0.out) | refine below_set ?_ GE213.out | refine below_set ?_ GE217.out) | exact HB.out)); rintro e w30 ⟨rfl, hi, hb, hk⟩; refine ⟨_, rfl, ?_⟩; have n0_ := Aside0.mk (KeepBut.blk hk (g' := gb213) (o := .cells #[.string (⟨#[]⟩ : ByteArray), .string (⟨#[]⟩ : ByteArray)] 35 (0, 0)) (by (with_reducible repeat (first | refine blk_drewN ?_ _ | refine blk_drew ?_ | refine blk_alloc ?_ _)); exact BK213.out) NB213_0.out (by simp)); have n1_ := Aside0.mk (KeepBut.blk hk (g' := gb217) (o := .cells #[.string t214, .string (⟨#[]⟩ : ByteArray)] 35 (0, 0)) (by (with_reducible repeat (first | refine blk_drewN ?_ _ | refine blk_drew ?_ | refine blk_alloc ?_ _)); exact BK217.out) NB217_0.out (by simp)); have n2_ := Aside0.mk (KeepBut.trans (by repeat (first | (with_reducible first | exact HK.out | apply KeepBut.set_ | apply keep_drewN | apply keep_drew | apply keep_alloc | refine keep_far ?_ GW213.out _ | refine keep_far ?_ GW217.out _) | exact HK.out)) hk (.inl rfl)); have n3_ := Aside0.mk (hb); have n4_ := Aside0.mk (hi); clear BK213; clear BK217; clear HK; clear HB; clear HI0; have BK213 := n0_; have BK217 := n1_; have HK := n2_; have HB := n3_; have HI0 := n4_; clear n0_ n1_ n2_ n3_ n4_; (try clear hb); (try clear hb2); (try clear hk); (try clear hi); have hnb31 := NB217_213.out; have hnc31 := NB213_217.out; have hnb32 := NB217_0.out; have hnc32 := NB0_217.out; have hcz33_0 : w30.cell? ⟨gb217, 0, none⟩ = some (.string t214) := (blk_cell BK217.out 0).trans rfl; have hcz33_1 : w30.cell? ⟨gb217, 1, none⟩ = some (.string (⟨#[]⟩ : ByteArray)) := (blk_cell BK217.out 1).trans rfl; have hfz33_0 := blk_frozen BK217.out 0; have hfz33_1 := blk_frozen BK217.out 1; have hnb34 := NB213_0.out; have hnc34 := NB0_213.out; have hcz35_0 : w30.cell? ⟨gb213, 0, none⟩ = some (.string (⟨#[]⟩ : ByteArray)) := (blk_cell BK213.out 0).trans rfl; have hcz35_1 : w30.cell? ⟨gb213, 1, none⟩ = some (.string (⟨#[]⟩ : ByteArray)) := (blk_cell BK213.out 1).trans rfl; have hfz35_0 := blk_frozen BK213.out 0; have hfz35_1 := blk_frozen BK213.out 1))
        refine bodyPost_ret (results_ct rfl _ _ gb213 35 #[.string t214, .string t227] (0, 0) _ rfl (by (with_reducible repeat (first | refine blk_drewN ?_ _ | refine blk_drew ?_ | refine blk_alloc ?_ _)); refine blk_put (cs := #[.string t214, .string (⟨#[]⟩ : ByteArray)]) ?_ 1 _ rfl; (with_reducible repeat (first | refine blk_drewN ?_ _ | refine blk_drew ?_ | refine blk_alloc ?_ _)); refine blk_put (cs := #[.string (⟨#[]⟩ : ByteArray), .string (⟨#[]⟩ : ByteArray)]) ?_ 0 _ rfl; (with_reducible repeat (first | refine blk_drewN ?_ _ | refine blk_drew ?_ | refine blk_alloc ?_ _)); refine blk_far ?_ NB213_217.out _; (with_reducible repeat (first | refine blk_drewN ?_ _ | refine blk_drew ?_ | refine blk_alloc ?_ _)); exact BK213.out) Tryd.underlying35 rfl (by kernel_rfl)) rfl ?_
        exact ⟨by first | rfl | (simp [errW_none, errW_some] <;> rfl) | (simp [*, errW_none, errW_some] <;> rfl), by repeat (first | (with_reducible first | exact HI0.out | apply IsS46.alloc | apply IsS46.drewN | apply IsS46.drew | apply IsS46.set_0 | apply IsS46.set_1 | refine IsS46.far ?_ NB0_213.out _ | refine IsS46.far ?_ NB0_217.out _) | exact HI0.out), by repeat (first | (with_reducible first | exact HB.out | apply below_alloc | apply pw_below_drewN | apply below_drew1 | refine below_set ?_ (IsS46.ge HI0.out) | refine below_set ?_ GE213.out | refine below_set ?_ GE217.out) | exact HB.out), by repeat (first | (with_reducible first | exact HK.out | apply KeepBut.set_ | apply keep_drewN | apply keep_drew | apply keep_alloc | refine keep_far ?_ GW213.out _ | refine keep_far ?_ GW217.out _) | exact HK.out)⟩

end Go.Proofs.YtfelfpjfjjgmoaaDoor.P
end
/- slices.ContainsFunc at attributes, with the function value that token.open makes: is there an attribute of that name? -/
section
set_option linter.unusedVariables false
namespace Go.Proofs.YtfelfpjfjjgmoaaDoor
open Go.RowKit Go.Shelf Go.Proofs.YtfelfpjfjjgmoaaDoorW.PrintWords Go.Proofs.YtfelfpjfjjgmoaaDoorW.PrintLast

set_option maxRecDepth 100000 in
theorem open1_calls (n v m x : ByteArray) (B : Nat) (w : World) (hb : w.cell? ⟨B, 0, none⟩ = some (.string m)) (hb1 : w.cell? ⟨B, 1, none⟩ = some (.string x)) :
    Calls Tryd.prog 38 #[.agg #[.string n, .string v], .pointer (some ⟨B, 0, none⟩)] w fun e w' => e = .returned (.bool (decide (n.toList = m.toList))) ∧ Below w.heap.size w w' := by
  have hu35 := Tryd.underlying35
  have c0 : (w.alloc (.cells #[.string n, .string v] 35)).cell? ⟨B, 0, none⟩ = some (.string m) := pw_cell_below (below_alloc (Below.refl _ _) _) hb
  by_cases h : n.toList = m.toList
  all_goals
    go_enter Tryd.func38, Tryd.ntmps38
    go_wp2
    go_ret
    refine ⟨by simp [h], ?_⟩
    first | exact below_alloc (Below.refl _ _) _ | exact pw_below_drewN (below_alloc (Below.refl _ _) _) _

set_option maxHeartbeats 2000000 in
theorem IdxAttr (g : Nat) (lb : Array Value) (nm vl : Nat → ByteArray) (p : Nat → Bool) (eg : ∀ args w, (callFunc g args).run Tryd.prog w = .ok (.enter g args) w) (A : Option Addr) (n c : Nat) (w : World)
    (hp : ∀ W j, j < n → Below w.heap.size w W → Calls Tryd.prog g (#[.agg #[.string (nm j), .string (vl j)]] ++ lb) W fun e w' => e = .returned (.bool (p j)) ∧ Below W.heap.size W w') (hbig : n ≤ 9223372036854775807)
    (hc : 0 < n → ∃ ad, A = some ad ∧ ∀ j, j < n → w.cell? (ad.add (j * 2)) = some (.string (nm j)) ∧ w.cell? ⟨(ad.add (j * 2)).block, (ad.add (j * 2)).off + 1, none⟩ = some (.string (vl j))) :
    Calls Tryd.prog 52 #[.slice A n c, .func (.func g) #[] lb] w fun e w' => e = .returned (.int .i64 (firstAt p n n)) ∧ Below w.heap.size w w' := by
  have hu35 := Tryd.underlying35
  go_enter Tryd.func52, Tryd.ntmps52
  go_wp2
  go_loopg [5, 8] n (fun gg _ s8 wr => ∃ kk : Nat, kk ≤ n ∧ n - kk ≤ gg ∧ s8 = .int .i64 kk ∧ Aside (Below w.heap.size w wr) ∧ Aside (firstAt p n n = firstAt p n (n - kk)))
  case atStart => exact ⟨0, Nat.zero_le _, by omega, rfl, Below.refl _ w, rfl⟩
  case round =>
    obtain ⟨kk, hkk, hg, rfl, BW, HA⟩ := hrel
    by_cases hlt : kk < n
    · have hltz : (kk : Int) < (n : Int) := by omega
      obtain ⟨ad, rfl, hcell⟩ := hc (by omega)
      have hcall := hp wr kk hlt BW.out
      have hck := pw_cell_below BW.out (hcell kk hlt).1
      have hck1 := pw_cell_below BW.out (hcell kk hlt).2
      clear hc hp hcell
      have HE := Aside0.mk (show firstAt p n (n - kk) = if p kk then (kk : Int) else firstAt p n (n - (kk + 1)) from by
        obtain ⟨d, hd⟩ : ∃ d, n - kk = d + 1 := ⟨n - kk - 1, by omega⟩
        rw [hd]
        simp only [firstAt]
        rw [show n - (d + 1) = kk from by omega, show n - (kk + 1) = d from by omega])
      cases hq : p kk with
      | true =>
        rw [hq] at hcall HE
        go_wp2_with (go_at_fn g; refine hcall.mono ?_; rintro e w' ⟨rfl, hb'⟩)
        go_ret
        refine ⟨?_, ?_⟩
        · rw [HA.out, HE.out]
          rfl
        · exact BW.out.trans (hb'.mono BW.out.size)
      | false =>
        rw [hq] at hcall HE
        go_wp2_with (go_at_fn g; refine hcall.mono ?_; rintro e w' ⟨rfl, hb'⟩)
        go_roundg (n - (kk + 1))
        case measure => omega
        case rel =>
          refine ⟨kk + 1, by omega, by omega, by go_num, ?_, ?_⟩
          · exact BW.out.trans (hb'.mono BW.out.size)
          · show firstAt _ n n = _
            rw [HA.out, HE.out]
            rfl
    · have hltz : ¬ (kk : Int) < (n : Int) := by omega
      have : kk = n := by omega
      subst this
      go_wp2
      go_ret
      refine ⟨?_, ?_⟩
      · rw [HA.out, Nat.sub_self]
        rfl
      · exact BW.out

set_option maxHeartbeats 2000000 in
theorem ContainsAttr (g : Nat) (lb : Array Value) (nm vl : Nat → ByteArray) (p : Nat → Bool) (eg : ∀ args w, (callFunc g args).run Tryd.prog w = .ok (.enter g args) w) (A : Option Addr) (n c : Nat) (w : World)
    (hp : ∀ W j, j < n → Below w.heap.size w W → Calls Tryd.prog g (#[.agg #[.string (nm j), .string (vl j)]] ++ lb) W fun e w' => e = .returned (.bool (p j)) ∧ Below W.heap.size W w') (hbig : n ≤ 9223372036854775807)
    (hc : 0 < n → ∃ ad, A = some ad ∧ ∀ j, j < n → w.cell? (ad.add (j * 2)) = some (.string (nm j)) ∧ w.cell? ⟨(ad.add (j * 2)).block, (ad.add (j * 2)).off + 1, none⟩ = some (.string (vl j))) :
    Calls Tryd.prog 37 #[.slice A n c, .func (.func g) #[] lb] w fun e w' => e = .returned (.bool (anyAt p n)) ∧ Below w.heap.size w w' := by
  have C := IdxAttr g lb nm vl p eg A n c w hp hbig hc
  have F := Aside0.mk (firstAt_anyAt p n)
  clear hc hp
  generalize firstAt p n n = r at C F
  go_enter Tryd.func37, Tryd.ntmps37
  go_wp2_with (go_at_call 52; refine C.mono ?_; rintro e w' ⟨rfl, hb'⟩)
  go_ret
  refine ⟨?_, ?_⟩
  · rw [← F.out]
    rfl
  · exact hb'
end Go.Proofs.YtfelfpjfjjgmoaaDoor
end
/- token.open: what is behind a "<". -/
section
set_option linter.unusedVariables false
namespace Go.Proofs.YtfelfpjfjjgmoaaDoor
open Go.RowKit Go.Shelf Go.Proofs.YtfelfpjfjjgmoaaDoorW.PrintWords Go.Proofs.YtfelfpjfjjgmoaaDoorW.PrintLast

def openJ : Nat → ByteArray → List P.S35 → ByteArray → ByteArray → Option (List P.S35 × Bool × Bool × ByteArray × ByteArray)
  | 0, _, _, _, _ => none
  | k + 1, nm, l, s0, s1 =>
    if nm.toList = ([] : List UInt8) then some (l, false, false, s0, s1)
    else (P.token_run_string.f s0 s1 (⟨#[9, 10, 13, 32]⟩ : ByteArray)).bind fun r =>
      (P.token_walk_string_is.f r.2.1 r.2.2 (⟨#[47, 62]⟩ : ByteArray)).bind fun a =>
        if a.1 = true then some (l, true, true, a.2.1, a.2.2)
        else (P.token_walk_string_is.f a.2.1 a.2.2 (⟨#[62]⟩ : ByteArray)).bind fun b =>
          if b.1 = true then some (l, false, true, b.2.1, b.2.2)
          else (P.token_attr.f 2 b.2.1 b.2.2).bind fun c =>
            if r.1.toList = ([] : List UInt8) then some (l, false, false, c.2.2.2.1, c.2.2.2.2)
            else if c.2.2.1 = false then some (l, false, false, c.2.2.2.1, c.2.2.2.2)
            else if 1000000000 < l.length then none
            else if anyAt (fun j => decide ((l.getD j P.z35).f0.toList = c.1.toList)) l.length = true then some (l, false, false, c.2.2.2.1, c.2.2.2.2)
            else openJ k nm (l ++ [⟨c.1, c.2.1⟩]) c.2.2.2.1 c.2.2.2.2

def G_open.f (s0 s1 : ByteArray) : Option (Int × Int × ByteArray × ByteArray × List P.S35 × Bool × Bool × ByteArray × ByteArray) :=
  (P.token_name.f s0 s1).bind fun n => (openJ (s1.size + 2) n.1 [] n.2.1 n.2.2).bind fun r => some (1, 0, n.1, ⟨#[]⟩, r.1, r.2.1, r.2.2.1, r.2.2.2.1, r.2.2.2.2)

/-- What holds within token.open. -/
structure OpenInv (w0 w W : World) (g b2 b4 : Nat) (s0 s1 nm : ByteArray) (v : Value) (l : List P.S35) (em : Bool) : Prop where
  hI : P.IsS46 w0 W g s0 s1
  hB : Below w0.heap.size w0 W
  hK : KeepBut w W g none
  h2 : W.heap[b2]? = some (.cells #[.int .i64 0, .int .i64 0, .string ⟨#[]⟩, .string ⟨#[]⟩, .slice none 0 0, .bool false] 33 (0, 0))
  h4 : W.heap[b4]? = some (.cells #[.int .i64 1, .int .i64 0, .string nm, .string ⟨#[]⟩, v, .bool em] 33 (0, 0))
  hR : Kd.R P.k35 35 W w.heap.size (fun k => k ≠ g ∧ k ≠ b2 ∧ k ≠ b4) v l
  n0 : w0.heap.size ≤ w.heap.size
  n1 : g < w.heap.size
  n2 : w.heap.size ≤ b2
  n3 : b2 < b4
namespace OpenInv
variable {w0 w W W' : World} {g b2 b4 : Nat} {s0 s1 nm : ByteArray} {v : Value} {l : List P.S35} {em : Bool}
theorem below (h : OpenInv w0 w W g b2 b4 s0 s1 nm v l em) (hb : Below W.heap.size W W') : OpenInv w0 w W' g b2 b4 s0 s1 nm v l em :=
  ⟨h.hI.below hb, below_step h.hB hb, h.hK.trans (KeepBut.of_below hb g none) (.inl rfl), blk_below h.h2 hb, blk_below h.h4 hb, Kd.R_below h.hR hb, h.n0, h.n1, h.n2, h.n3⟩
theorem drewN (h : OpenInv w0 w W g b2 b4 s0 s1 nm v l em) (m : Nat) : OpenInv w0 w (W.drewN m) g b2 b4 s0 s1 nm v l em := h.below (pw_below_drewN (Below.refl _ _) m)
theorem alloc (h : OpenInv w0 w W g b2 b4 s0 s1 nm v l em) (o : Obj) : OpenInv w0 w (W.alloc o) g b2 b4 s0 s1 nm v l em := h.below (below_alloc (Below.refl _ _) o)
theorem call (h : OpenInv w0 w W g b2 b4 s0 s1 nm v l em) {t0 t1 : ByteArray} (hi : P.IsS46 w0 W' g t0 t1) (hb : Below w0.heap.size w0 W') (hk : KeepBut W W' g none) : OpenInv w0 w W' g b2 b4 t0 t1 nm v l em :=
  have e2 : b2 ≠ g := by have := h.n1; have := h.n2; omega
  have e4 : b4 ≠ g := by have := h.n1; have := h.n2; have := h.n3; omega
  ⟨hi, hb, h.hK.trans hk (.inl rfl), hk.blk h.h2 e2 (by simp), hk.blk h.h4 e4 (by simp), Kd.R_keep h.hR hk (fun k hk => hk.1), h.n0, h.n1, h.n2, h.n3⟩
theorem setEm (h : OpenInv w0 w W g b2 b4 s0 s1 nm v l em) (e : Bool) : OpenInv w0 w (W.setCell ⟨b4, 5, none⟩ (.bool e)) g b2 b4 s0 s1 nm v l e :=
  have g4 : g ≠ b4 := by have := h.n1; have := h.n2; have := h.n3; omega
  have e24 : b2 ≠ b4 := by have := h.n3; omega
  ⟨P.IsS46.far h.hI g4 _, below_set h.hB (g := b4) (j := 5) (by have := h.n0; have := h.n2; have := h.n3; show w0.heap.size ≤ b4; omega), keep_far h.hK (by have := h.n2; have := h.n3; show w.heap.size ≤ b4; omega) _, blk_far h.h2 e24 _, blk_put h.h4 5 _ rfl, Kd.R_far h.hR (fun k hk => hk.2.2) _, h.n0, h.n1, h.n2, h.n3⟩
/-- A longer row is put where the old one was. -/
theorem setV {W1 : World} {v1 : Value} {l1 : List P.S35} (h : OpenInv w0 w W g b2 b4 s0 s1 nm v l em) (hR1 : Kd.R P.k35 35 W1 w.heap.size (fun k => k ≠ g ∧ k ≠ b2 ∧ k ≠ b4) v1 l1) (hB1 : Below w0.heap.size w0 W1) (hg : W.grownBy W1 v.ownBlock) :
    OpenInv w0 w (W1.setCell ⟨b4, 4, none⟩ v1) g b2 b4 s0 s1 nm v1 l1 em :=
  have g4 : g ≠ b4 := by have := h.n1; have := h.n2; have := h.n3; omega
  have e24 : b2 ≠ b4 := by have := h.n3; omega
  have ng : some g ≠ v.ownBlock := Kd.R_away h.hR (fun k hk => hk.1)
  have n2' : some b2 ≠ v.ownBlock := Kd.R_away h.hR (fun k hk => hk.2.1)
  have n4' : some b4 ≠ v.ownBlock := Kd.R_away h.hR (fun k hk => hk.2.2)
  have hKw : KeepBut w W1 g none := by
    refine ⟨Nat.le_trans h.hK.1 hg.size, fun i hi hne hr => ?_⟩
    rw [hg.block i (Nat.lt_of_lt_of_le hi h.hK.1) (fun e => by have := Kd.R_base h.hR i e.symm; omega)]
    exact h.hK.2 i hi hne hr
  ⟨P.IsS46.far (h.hI.grown hg ng) g4 _, below_set hB1 (g := b4) (j := 4) (by have := h.n0; have := h.n2; have := h.n3; show w0.heap.size ≤ b4; omega), keep_far hKw (by have := h.n2; have := h.n3; show w.heap.size ≤ b4; omega) _, blk_far (blk_grown h.h2 hg n2') e24 _, blk_put (blk_grown h.h4 hg n4') 4 _ rfl, Kd.R_far hR1 (fun k hk => hk.2.2) _, h.n0, h.n1, h.n2, h.n3⟩

def finW (W : World) (b2 : Nat) (nm : ByteArray) (v : Value) (em : Bool) : World := (((((W.setCell ⟨b2, 0, none⟩ (.int .i64 1)).setCell ⟨b2, 1, none⟩ (.int .i64 0)).setCell ⟨b2, 2, none⟩ (.string nm)).setCell ⟨b2, 3, none⟩ (.string ⟨#[]⟩)).setCell ⟨b2, 4, none⟩ v).setCell ⟨b2, 5, none⟩ (.bool em)
theorem fin2 (h : OpenInv w0 w W g b2 b4 s0 s1 nm v l em) : (finW W b2 nm v em).heap[b2]? = some (.cells #[.int .i64 1, .int .i64 0, .string nm, .string ⟨#[]⟩, v, .bool em] 33 (0, 0)) :=
  blk_put (blk_put (blk_put (blk_put (blk_put (blk_put h.h2 0 _ rfl) 1 _ rfl) 2 _ rfl) 3 _ rfl) 4 _ rfl) 5 _ rfl
theorem fin (h : OpenInv w0 w W g b2 b4 s0 s1 nm v l em) : Kd.R P.k35 35 (finW W b2 nm v em) w.heap.size (fun _ => True) v l ∧ P.IsS46 w0 (finW W b2 nm v em) g s0 s1 ∧ Below w0.heap.size w0 (finW W b2 nm v em) ∧ KeepBut w (finW W b2 nm v em) g none := by
  have g2 : g ≠ b2 := by have := h.n1; have := h.n2; omega
  have ge0 : w0.heap.size ≤ b2 := Nat.le_trans h.n0 h.n2
  have ge : w.heap.size ≤ b2 := h.n2
  unfold finW
  refine ⟨?_, ?_, ?_, ?_⟩
  · refine Kd.R_mono ?_ (fun _ _ => trivial) (ok := fun k => k ≠ g ∧ k ≠ b2 ∧ k ≠ b4)
    iterate 6 refine Kd.R_far ?_ (fun k hk => hk.2.1) _
    exact h.hR
  · iterate 6 refine P.IsS46.far ?_ g2 _
    exact h.hI
  · iterate 6 refine below_set ?_ ge0
    exact h.hB
  · iterate 6 refine keep_far ?_ ge _
    exact h.hK

theorem put6 (h : OpenInv w0 w W g b2 b4 s0 s1 nm v l em) {b6 : Nat} (h46 : b4 < b6) (hn : some b6 ≠ v.ownBlock) (j : Nat) (u : Value) : OpenInv w0 w (W.setCell ⟨b6, j, none⟩ u) g b2 b4 s0 s1 nm v l em :=
  have g6 : g ≠ b6 := by have := h.n1; have := h.n2; have := h.n3; omega
  have e26 : b2 ≠ b6 := by have := h.n3; omega
  have e46 : b4 ≠ b6 := by omega
  ⟨P.IsS46.far h.hI g6 _, below_set h.hB (g := b6) (j := j) (by have := h.n0; have := h.n2; have := h.n3; omega), keep_far h.hK (by have := h.n2; have := h.n3; show w.heap.size ≤ b6; omega) _, blk_far h.h2 e26 _, blk_far h.h4 e46 _, Kd.R_mono (Kd.R_far (Kd.R_far1 h.hR rfl hn) (fun k hk => hk.2) _) (fun k hk => hk.1), h.n0, h.n1, h.n2, h.n3⟩
end OpenInv
theorem row_cells {W : World} {base : Nat} {ok : Nat → Prop} {A : Option Addr} {c : Nat} {l : List P.S35} (h : Kd.R P.k35 35 W base ok (.slice A l.length c) l) (h0 : 0 < l.length) :
    ∃ ad, A = some ad ∧ ∀ j, j < l.length → W.cell? (ad.add (j * 2)) = some (.string (l.getD j P.z35).f0) ∧ W.cell? ⟨(ad.add (j * 2)).block, (ad.add (j * 2)).off + 1, none⟩ = some (.string (l.getD j P.z35).f1) := by
  obtain ⟨_, _, hC⟩ := Kd.R_reads' h
  obtain ⟨ad, rfl, _, _⟩ := P.at_T35 hC 0 (Int.le_refl _) (by omega)
  refine ⟨ad, rfl, fun j hj => ?_⟩
  obtain ⟨ad', e, h1, h2⟩ := P.at_T35 hC (j : Int) (by omega) (by omega)
  cases e
  rw [Int.toNat_natCast] at h1 h2
  exact ⟨h1, h2⟩

set_option maxHeartbeats 8000000 in
set_option maxRecDepth 100000 in
theorem G_open.calls (g : Nat) (s0_0 s0_1 : ByteArray) (r1 r2 : Int) (r3 r4 : ByteArray) (r5 : List P.S35) (r6 r7 : Bool) (r8 r9 : ByteArray) (w0 w : World) (hG_ : Gd w0) (hI : P.IsS46 w0 w g s0_0 s0_1) (hB : Below w0.heap.size w0 w) (h : G_open.f s0_0 s0_1 = some (r1, r2, r3, r4, r5, r6, r7, r8, r9)) :
    Calls Tryd.prog 25 #[.pointer (some ⟨g, 0, none⟩)] w fun e w' => ∃ v4_ : Value, e = .returned (.tuple #[.agg #[.int .i64 r1, .int .i64 r2, .string r3, .string r4, v4_, .bool r6], .bool r7]) ∧ Kd.R P.k35 35 w' w.heap.size (fun _ => True) v4_ r5 ∧ P.IsS46 w0 w' g r8 r9 ∧ Below w0.heap.size w0 w' ∧ KeepBut w w' g none := by
  have hu33 := Tryd.underlying33
  have hu35 := Tryd.underlying35
  unfold G_open.f at h
  replace h := Option.bind_eq_some_iff.1 h
  obtain ⟨⟨nm, t0, t1⟩, HN, h⟩ := h
  replace h := Option.bind_eq_some_iff.1 h
  obtain ⟨⟨q1, q2, q3, q4, q5⟩, HJ, h⟩ := h
  simp only [Option.some.injEq, Prod.mk.injEq] at h
  obtain ⟨rfl, rfl, rfl, rfl, rfl, rfl, rfl, rfl, rfl⟩ := h
  simp only [] at HJ
  have CN := fun (W : World) (h1 : P.IsS46 w0 W g s0_0 s0_1) (h2 : Below w0.heap.size w0 W) => P.token_name.calls g s0_0 s0_1 nm t0 t1 w0 W hG_ h1 h2 HN
  have HJ' := Aside0.mk HJ
  clear HJ HN
  have HI := Aside0.mk hI
  have HB := Aside0.mk hB
  clear hI hB
  go_enter Tryd.func25, Tryd.ntmps25
  go_wp2_with (first | ((with_reducible refine gate_dst (N := 2) rfl ?_); refine box_event ?hg (N := 2) ?hd (cs := #[.int .i64 0, .int .i64 0, .string ⟨#[]⟩, .string ⟨#[]⟩, .slice none 0 0, .bool false]) (t := 33) ?hr ?_; (case hd => rfl); (case hg => rfl); (case hr => first | (go_simp; done) | (go_simp; rfl)); intro b2 hg w2 hbox hb; have nb2 := Nat.le_of_eq hg.symm; clear hg; have HX2 := Aside0.mk hbox; clear hbox) | (go_at_call 34; refine (CN _ (HI.out.below hb) (below_step HB.out hb)).mono ?_; rintro e w3 ⟨rfl, hi, hb3, hk⟩) | ((with_reducible refine gate_dst (N := 4) rfl ?_); refine box_event ?hg (N := 4) ?hd (cs := #[.int .i64 0, .int .i64 0, .string ⟨#[]⟩, .string ⟨#[]⟩, .slice none 0 0, .bool false]) (t := 33) ?hr ?_; (case hd => rfl); (case hg => rfl); (case hr => first | (go_simp; done) | (go_simp; rfl)); intro b4 hg4 w4 hbox4 hb4; have nb4 : b2 < b4 := (by rw [hg4]; exact Nat.lt_of_lt_of_le (blk_lt HX2.out) hk.1); clear hg4; have z0 := blk_cell hbox4 0; have z1 := blk_cell hbox4 1; have z2 := blk_cell hbox4 2; have z3 := blk_cell hbox4 3; have z4 := blk_cell hbox4 4; have z5 := blk_cell hbox4 5; have y0 := blk_frozen hbox4 0; have y1 := blk_frozen hbox4 1; have y2 := blk_frozen hbox4 2; have y3 := blk_frozen hbox4 3; have y4 := blk_frozen hbox4 4; have y5 := blk_frozen hbox4 5; have HX4 := Aside0.mk hbox4; clear hbox4))
  go_loopg [] (s0_1.size + 2) (fun gg wr => ∃ s0 s1 v l k, k ≤ gg ∧ Aside (openJ k nm l s0 s1 = some (q1, q2, q3, q4, q5)) ∧ Aside (OpenInv w0 w wr g b2 b4 s0 s1 nm v l false))
  case atStart =>
    have n1 : g < w.heap.size := P.IsS46.lt HI.out
    have n0 := HB.out.size
    have g4 : g ≠ b4 := by omega
    have e24 : b2 ≠ b4 := by omega
    have ge0 : w0.heap.size ≤ b4 := by omega
    have ge : w.heap.size ≤ b4 := by omega
    have h2 := blk_below (hk.blk HX2.out (by omega) (by simp)) hb4
    have hK := ((KeepBut.of_below hb g none).trans hk (.inl rfl)).trans (KeepBut.of_below hb4 g none) (.inl rfl)
    refine ⟨t0, t1, .slice none 0 0, [], _, Nat.le_refl _, HJ'.out, ?_⟩
    refine ⟨?_, ?_, ?_, ?_, ?_, ?_, n0, n1, nb2, nb4⟩
    · iterate 6 refine P.IsS46.far ?_ g4 _
      exact hi.below hb4
    · iterate 6 refine below_set ?_ ge0
      exact below_step hb3 hb4
    · iterate 6 refine keep_far ?_ ge _
      exact hK
    · iterate 6 refine blk_far ?_ e24 _
      exact h2
    · exact blk_put (blk_put (blk_put (blk_put (blk_put (blk_put HX4.out 0 _ rfl) 1 _ rfl) 2 _ rfl) 3 _ rfl) 4 _ rfl) 5 _ rfl
    · exact Kd.R_nil _ _ _ _ _
  case round =>
    obtain ⟨s0, s1, v, l, k, hkk, HJ, INV⟩ := hrel
    have INV := Aside0.mk INV.out
    obtain ⟨A4, c4, hv⟩ := Kd.R_slice INV.out.hR
    subst hv
    have HJ := HJ.out
    cases k with
    | zero => simp [openJ] at HJ
    | succ k =>
    unfold openJ at HJ
    clear z0 z1 z2 z3 z4 z5 y0 y1 y2 y3 y4 y5 HX2 HX4 hi hk hb hb3 hb4 CN HJ' HI HB nb2
    have ne := Nat.ne_of_lt nb4
    have ne' := Nat.ne_of_gt nb4
    have z0 := blk_cell INV.out.h4 0
    have z1 := blk_cell INV.out.h4 1
    have z2 := blk_cell INV.out.h4 2
    have z3 := blk_cell INV.out.h4 3
    have z4 := blk_cell INV.out.h4 4
    have z5 := blk_cell INV.out.h4 5
    have y5 := blk_frozen INV.out.h4 5
    have y4 := blk_frozen INV.out.h4 4
    have x0 := blk_frozen INV.out.h2 0
    have x1 := blk_frozen INV.out.h2 1
    have x2 := blk_frozen INV.out.h2 2
    have x3 := blk_frozen INV.out.h2 3
    have x4 := blk_frozen INV.out.h2 4
    have x5 := blk_frozen INV.out.h2 5
    have v0 := blk_cell INV.out.h2 0
    have v1 := blk_cell INV.out.h2 1
    have v2 := blk_cell INV.out.h2 2
    have v3 := blk_cell INV.out.h2 3
    have v4 := blk_cell INV.out.h2 4
    have v5 := blk_cell INV.out.h2 5
    by_cases hnm : nm.toList = ([] : List UInt8)
    · rw [if_pos hnm] at HJ
      simp only [Option.some.injEq, Prod.mk.injEq] at HJ
      obtain ⟨rfl, rfl, rfl, rfl, rfl⟩ := HJ
      go_wp2
      refine bodyPost_ret (results_ct rfl _ _ b2 33 #[.int .i64 1, .int .i64 0, .string nm, .string ⟨#[]⟩, .slice A4 l.length c4, .bool false] (0, 0) _ rfl (OpenInv.fin2 INV.out) Tryd.underlying33 rfl (by kernel_rfl)) rfl ?_
      exact ⟨_, rfl, OpenInv.fin INV.out⟩
    · rw [if_neg hnm] at HJ
      have hne : nm.toList.isEmpty = false := by cases hx : nm.toList with | nil => exact absurd hx hnm | cons _ _ => rfl
      replace HJ := Option.bind_eq_some_iff.1 HJ
      obtain ⟨⟨gap, p0, p1⟩, HR, HJ⟩ := HJ
      replace HJ := Option.bind_eq_some_iff.1 HJ
      obtain ⟨⟨isa, o0, o1⟩, HA, HJ⟩ := HJ
      have CR := fun (W : World) (h1 : P.IsS46 w0 W g s0 s1) (h2 : Below w0.heap.size w0 W) => P.token_run_string.calls g s0 s1 (⟨#[9, 10, 13, 32]⟩ : ByteArray) gap p0 p1 w0 W hG_ h1 h2 HR
      have CA := fun (W : World) (h1 : P.IsS46 w0 W g p0 p1) (h2 : Below w0.heap.size w0 W) => P.token_walk_string_is.calls g p0 p1 (⟨#[47, 62]⟩ : ByteArray) isa o0 o1 w0 W hG_ h1 h2 HA
      clear HR HA
      simp only [] at HJ
      cases isa with
      | true =>
        simp only [if_true, Option.some.injEq, Prod.mk.injEq] at HJ
        obtain ⟨rfl, rfl, rfl, rfl, rfl⟩ := HJ
        go_wp2_with (first | (go_at_call 35; with_reducible refine (CR _ INV.out.hI INV.out.hB).mono ?_; rintro e w5 ⟨rfl, hi, hb, hk⟩; have INV1 := Aside0.mk (INV.out.call hi hb hk); clear INV hi hb hk; clear z0 z1 z2 z3 z4 z5 y5 y4 x0 x1 x2 x3 x4 x5 v0 v1 v2 v3 v4 v5; have INV := INV1; clear INV1; have z0 := blk_cell INV.out.h4 0; have z1 := blk_cell INV.out.h4 1; have z2 := blk_cell INV.out.h4 2; have z3 := blk_cell INV.out.h4 3; have z4 := blk_cell INV.out.h4 4; have z5 := blk_cell INV.out.h4 5; have y5 := blk_frozen INV.out.h4 5; have y4 := blk_frozen INV.out.h4 4; have x0 := blk_frozen INV.out.h2 0; have x1 := blk_frozen INV.out.h2 1; have x2 := blk_frozen INV.out.h2 2; have x3 := blk_frozen INV.out.h2 3; have x4 := blk_frozen INV.out.h2 4; have x5 := blk_frozen INV.out.h2 5; have v0 := blk_cell INV.out.h2 0; have v1 := blk_cell INV.out.h2 1; have v2 := blk_cell INV.out.h2 2; have v3 := blk_cell INV.out.h2 3; have v4 := blk_cell INV.out.h2 4; have v5 := blk_cell INV.out.h2 5) | (go_at_call 15; with_reducible refine (CA _ INV.out.hI INV.out.hB).mono ?_; rintro e w5 ⟨rfl, hi, hb, hk⟩; have INV1 := Aside0.mk (INV.out.call hi hb hk); clear INV hi hb hk; clear z0 z1 z2 z3 z4 z5 y5 y4 x0 x1 x2 x3 x4 x5 v0 v1 v2 v3 v4 v5; have INV := INV1; clear INV1; have z0 := blk_cell INV.out.h4 0; have z1 := blk_cell INV.out.h4 1; have z2 := blk_cell INV.out.h4 2; have z3 := blk_cell INV.out.h4 3; have z4 := blk_cell INV.out.h4 4; have z5 := blk_cell INV.out.h4 5; have y5 := blk_frozen INV.out.h4 5; have y4 := blk_frozen INV.out.h4 4; have x0 := blk_frozen INV.out.h2 0; have x1 := blk_frozen INV.out.h2 1; have x2 := blk_frozen INV.out.h2 2; have x3 := blk_frozen INV.out.h2 3; have x4 := blk_frozen INV.out.h2 4; have x5 := blk_frozen INV.out.h2 5; have v0 := blk_cell INV.out.h2 0; have v1 := blk_cell INV.out.h2 1; have v2 := blk_cell INV.out.h2 2; have v3 := blk_cell INV.out.h2 3; have v4 := blk_cell INV.out.h2 4; have v5 := blk_cell INV.out.h2 5))
        refine bodyPost_ret (results_ct rfl _ _ b2 33 #[.int .i64 1, .int .i64 0, .string nm, .string ⟨#[]⟩, .slice A4 l.length c4, .bool true] (0, 0) _ rfl (OpenInv.fin2 (INV.out.setEm true)) Tryd.underlying33 rfl (by kernel_rfl)) rfl ?_
        exact ⟨_, rfl, OpenInv.fin (INV.out.setEm true)⟩
      | false =>
        simp only [Bool.false_eq_true, if_false] at HJ
        replace HJ := Option.bind_eq_some_iff.1 HJ
        obtain ⟨⟨isb, m0, m1⟩, HBB, HJ⟩ := HJ
        have CB := fun (W : World) (h1 : P.IsS46 w0 W g o0 o1) (h2 : Below w0.heap.size w0 W) => P.token_walk_string_is.calls g o0 o1 (⟨#[62]⟩ : ByteArray) isb m0 m1 w0 W hG_ h1 h2 HBB
        clear HBB
        simp only [] at HJ
        cases isb with
        | true =>
          simp only [if_true, Option.some.injEq, Prod.mk.injEq] at HJ
          obtain ⟨rfl, rfl, rfl, rfl, rfl⟩ := HJ
          go_wp2_with (first | (go_at_call 35; with_reducible refine (CR _ INV.out.hI INV.out.hB).mono ?_; rintro e w5 ⟨rfl, hi, hb, hk⟩; have INV1 := Aside0.mk (INV.out.call hi hb hk); clear INV hi hb hk; clear z0 z1 z2 z3 z4 z5 y5 y4 x0 x1 x2 x3 x4 x5 v0 v1 v2 v3 v4 v5; have INV := INV1; clear INV1; have z0 := blk_cell INV.out.h4 0; have z1 := blk_cell INV.out.h4 1; have z2 := blk_cell INV.out.h4 2; have z3 := blk_cell INV.out.h4 3; have z4 := blk_cell INV.out.h4 4; have z5 := blk_cell INV.out.h4 5; have y5 := blk_frozen INV.out.h4 5; have y4 := blk_frozen INV.out.h4 4; have x0 := blk_frozen INV.out.h2 0; have x1 := blk_frozen INV.out.h2 1; have x2 := blk_frozen INV.out.h2 2; have x3 := blk_frozen INV.out.h2 3; have x4 := blk_frozen INV.out.h2 4; have x5 := blk_frozen INV.out.h2 5; have v0 := blk_cell INV.out.h2 0; have v1 := blk_cell INV.out.h2 1; have v2 := blk_cell INV.out.h2 2; have v3 := blk_cell INV.out.h2 3; have v4 := blk_cell INV.out.h2 4; have v5 := blk_cell INV.out.h2 5) | (go_at_call 15; with_reducible refine (CA _ INV.out.hI INV.out.hB).mono ?_; rintro e w5 ⟨rfl, hi, hb, hk⟩; have INV1 := Aside0.mk (INV.out.call hi hb hk); clear INV hi hb hk; clear z0 z1 z2 z3 z4 z5 y5 y4 x0 x1 x2 x3 x4 x5 v0 v1 v2 v3 v4 v5; have INV := INV1; clear INV1; have z0 := blk_cell INV.out.h4 0; have z1 := blk_cell INV.out.h4 1; have z2 := blk_cell INV.out.h4 2; have z3 := blk_cell INV.out.h4 3; have z4 := blk_cell INV.out.h4 4; have z5 := blk_cell INV.out.h4 5; have y5 := blk_frozen INV.out.h4 5; have y4 := blk_frozen INV.out.h4 4; have x0 := blk_frozen INV.out.h2 0; have x1 := blk_frozen INV.out.h2 1; have x2 := blk_frozen INV.out.h2 2; have x3 := blk_frozen INV.out.h2 3; have x4 := blk_frozen INV.out.h2 4; have x5 := blk_frozen INV.out.h2 5; have v0 := blk_cell INV.out.h2 0; have v1 := blk_cell INV.out.h2 1; have v2 := blk_cell INV.out.h2 2; have v3 := blk_cell INV.out.h2 3; have v4 := blk_cell INV.out.h2 4; have v5 := blk_cell INV.out.h2 5) | (go_at_call 15; with_reducible refine (CB _ (INV.out.setEm false).hI (INV.out.setEm false).hB).mono ?_; rintro e w5 ⟨rfl, hi, hb, hk⟩; have INV1 := Aside0.mk ((INV.out.setEm false).call hi hb hk); clear INV hi hb hk; clear z0 z1 z2 z3 z4 z5 y5 y4 x0 x1 x2 x3 x4 x5 v0 v1 v2 v3 v4 v5; have INV := INV1; clear INV1; have z0 := blk_cell INV.out.h4 0; have z1 := blk_cell INV.out.h4 1; have z2 := blk_cell INV.out.h4 2; have z3 := blk_cell INV.out.h4 3; have z4 := blk_cell INV.out.h4 4; have z5 := blk_cell INV.out.h4 5; have y5 := blk_frozen INV.out.h4 5; have y4 := blk_frozen INV.out.h4 4; have x0 := blk_frozen INV.out.h2 0; have x1 := blk_frozen INV.out.h2 1; have x2 := blk_frozen INV.out.h2 2; have x3 := blk_frozen INV.out.h2 3; have x4 := blk_frozen INV.out.h2 4; have x5 := blk_frozen INV.out.h2 5; have v0 := blk_cell INV.out.h2 0; have v1 := blk_cell INV.out.h2 1; have v2 := blk_cell INV.out.h2 2; have v3 := blk_cell INV.out.h2 3; have v4 := blk_cell INV.out.h2 4; have v5 := blk_cell INV.out.h2 5))
          refine bodyPost_ret (results_ct rfl _ _ b2 33 #[.int .i64 1, .int .i64 0, .string nm, .string ⟨#[]⟩, .slice A4 l.length c4, .bool false] (0, 0) _ rfl (OpenInv.fin2 INV.out) Tryd.underlying33 rfl (by kernel_rfl)) rfl ?_
          exact ⟨_, rfl, OpenInv.fin INV.out⟩
        | false =>
          simp only [Bool.false_eq_true, if_false] at HJ
          replace HJ := Option.bind_eq_some_iff.1 HJ
          obtain ⟨⟨an, av, aok, u0, u1⟩, HC, HJ⟩ := HJ
          have CC := fun (W : World) (h1 : P.IsS46 w0 W g m0 m1) (h2 : Below w0.heap.size w0 W) => P.token_attr.calls 2 g m0 m1 an av aok u0 u1 w0 W hG_ h1 h2 HC
          clear HC
          simp only [] at HJ
          by_cases hgap : gap.toList = ([] : List UInt8)
          · rw [if_pos hgap] at HJ
            simp only [Option.some.injEq, Prod.mk.injEq] at HJ
            obtain ⟨rfl, rfl, rfl, rfl, rfl⟩ := HJ
            have hgp : gap.toList.isEmpty = true := by rw [hgap]; rfl
            go_wp2_with (first | (go_at_call 35; with_reducible refine (CR _ INV.out.hI INV.out.hB).mono ?_; rintro e w5 ⟨rfl, hi, hb, hk⟩; have INV1 := Aside0.mk (INV.out.call hi hb hk); clear INV hi hb hk; clear z0 z1 z2 z3 z4 z5 y5 y4 x0 x1 x2 x3 x4 x5 v0 v1 v2 v3 v4 v5; have INV := INV1; clear INV1; have z0 := blk_cell INV.out.h4 0; have z1 := blk_cell INV.out.h4 1; have z2 := blk_cell INV.out.h4 2; have z3 := blk_cell INV.out.h4 3; have z4 := blk_cell INV.out.h4 4; have z5 := blk_cell INV.out.h4 5; have y5 := blk_frozen INV.out.h4 5; have y4 := blk_frozen INV.out.h4 4; have x0 := blk_frozen INV.out.h2 0; have x1 := blk_frozen INV.out.h2 1; have x2 := blk_frozen INV.out.h2 2; have x3 := blk_frozen INV.out.h2 3; have x4 := blk_frozen INV.out.h2 4; have x5 := blk_frozen INV.out.h2 5; have v0 := blk_cell INV.out.h2 0; have v1 := blk_cell INV.out.h2 1; have v2 := blk_cell INV.out.h2 2; have v3 := blk_cell INV.out.h2 3; have v4 := blk_cell INV.out.h2 4; have v5 := blk_cell INV.out.h2 5) | (go_at_call 15; with_reducible refine (CA _ INV.out.hI INV.out.hB).mono ?_; rintro e w5 ⟨rfl, hi, hb, hk⟩; have INV1 := Aside0.mk (INV.out.call hi hb hk); clear INV hi hb hk; clear z0 z1 z2 z3 z4 z5 y5 y4 x0 x1 x2 x3 x4 x5 v0 v1 v2 v3 v4 v5; have INV := INV1; clear INV1; have z0 := blk_cell INV.out.h4 0; have z1 := blk_cell INV.out.h4 1; have z2 := blk_cell INV.out.h4 2; have z3 := blk_cell INV.out.h4 3; have z4 := blk_cell INV.out.h4 4; have z5 := blk_cell INV.out.h4 5; have y5 := blk_frozen INV.out.h4 5; have y4 := blk_frozen INV.out.h4 4; have x0 := blk_frozen INV.out.h2 0; have x1 := blk_frozen INV.out.h2 1; have x2 := blk_frozen INV.out.h2 2; have x3 := blk_frozen INV.out.h2 3; have x4 := blk_frozen INV.out.h2 4; have x5 := blk_frozen INV.out.h2 5; have v0 := blk_cell INV.out.h2 0; have v1 := blk_cell INV.out.h2 1; have v2 := blk_cell INV.out.h2 2; have v3 := blk_cell INV.out.h2 3; have v4 := blk_cell INV.out.h2 4; have v5 := blk_cell INV.out.h2 5) | (go_at_call 15; with_reducible refine (CB _ (INV.out.setEm false).hI (INV.out.setEm false).hB).mono ?_; rintro e w5 ⟨rfl, hi, hb, hk⟩; have INV1 := Aside0.mk ((INV.out.setEm false).call hi hb hk); clear INV hi hb hk; clear z0 z1 z2 z3 z4 z5 y5 y4 x0 x1 x2 x3 x4 x5 v0 v1 v2 v3 v4 v5; have INV := INV1; clear INV1; have z0 := blk_cell INV.out.h4 0; have z1 := blk_cell INV.out.h4 1; have z2 := blk_cell INV.out.h4 2; have z3 := blk_cell INV.out.h4 3; have z4 := blk_cell INV.out.h4 4; have z5 := blk_cell INV.out.h4 5; have y5 := blk_frozen INV.out.h4 5; have y4 := blk_frozen INV.out.h4 4; have x0 := blk_frozen INV.out.h2 0; have x1 := blk_frozen INV.out.h2 1; have x2 := blk_frozen INV.out.h2 2; have x3 := blk_frozen INV.out.h2 3; have x4 := blk_frozen INV.out.h2 4; have x5 := blk_frozen INV.out.h2 5; have v0 := blk_cell INV.out.h2 0; have v1 := blk_cell INV.out.h2 1; have v2 := blk_cell INV.out.h2 2; have v3 := blk_cell INV.out.h2 3; have v4 := blk_cell INV.out.h2 4; have v5 := blk_cell INV.out.h2 5) | (go_at_call 36; with_reducible refine (CC _ INV.out.hI INV.out.hB).mono ?_; rintro e w5 ⟨rfl, hi, hb, hk⟩; have INV1 := Aside0.mk (INV.out.call hi hb hk); clear INV hi hb hk; clear z0 z1 z2 z3 z4 z5 y5 y4 x0 x1 x2 x3 x4 x5 v0 v1 v2 v3 v4 v5; have INV := INV1; clear INV1; have z0 := blk_cell INV.out.h4 0; have z1 := blk_cell INV.out.h4 1; have z2 := blk_cell INV.out.h4 2; have z3 := blk_cell INV.out.h4 3; have z4 := blk_cell INV.out.h4 4; have z5 := blk_cell INV.out.h4 5; have y5 := blk_frozen INV.out.h4 5; have y4 := blk_frozen INV.out.h4 4; have x0 := blk_frozen INV.out.h2 0; have x1 := blk_frozen INV.out.h2 1; have x2 := blk_frozen INV.out.h2 2; have x3 := blk_frozen INV.out.h2 3; have x4 := blk_frozen INV.out.h2 4; have x5 := blk_frozen INV.out.h2 5; have v0 := blk_cell INV.out.h2 0; have v1 := blk_cell INV.out.h2 1; have v2 := blk_cell INV.out.h2 2; have v3 := blk_cell INV.out.h2 3; have v4 := blk_cell INV.out.h2 4; have v5 := blk_cell INV.out.h2 5) | ((with_reducible refine gate_dst (N := 6) rfl ?_); refine box_event ?hg (N := 6) ?hd (cs := #[.string ⟨#[]⟩, .string ⟨#[]⟩]) (t := 35) ?hr ?_; (case hd => rfl); (case hg => rfl); (case hr => first | (go_simp; done) | (go_simp; rfl)); intro b6 hg6 w6 hbox6 hb6; have nb6 : b4 < b6 := (by rw [hg6]; exact blk_lt INV.out.h4); have hn6 := Aside0.mk (show some b6 ≠ (Value.slice A4 l.length c4).ownBlock from (by intro he; have := Kd.R_lt INV.out.hR b6 he.symm; rw [hg6] at this; omega)); clear hg6; have INV1 := Aside0.mk (INV.out.below hb6); clear INV; clear z0 z1 z2 z3 z4 z5 y5 y4 x0 x1 x2 x3 x4 x5 v0 v1 v2 v3 v4 v5; have INV := INV1; clear INV1; have z0 := blk_cell INV.out.h4 0; have z1 := blk_cell INV.out.h4 1; have z2 := blk_cell INV.out.h4 2; have z3 := blk_cell INV.out.h4 3; have z4 := blk_cell INV.out.h4 4; have z5 := blk_cell INV.out.h4 5; have y5 := blk_frozen INV.out.h4 5; have y4 := blk_frozen INV.out.h4 4; have x0 := blk_frozen INV.out.h2 0; have x1 := blk_frozen INV.out.h2 1; have x2 := blk_frozen INV.out.h2 2; have x3 := blk_frozen INV.out.h2 3; have x4 := blk_frozen INV.out.h2 4; have x5 := blk_frozen INV.out.h2 5; have v0 := blk_cell INV.out.h2 0; have v1 := blk_cell INV.out.h2 1; have v2 := blk_cell INV.out.h2 2; have v3 := blk_cell INV.out.h2 3; have v4 := blk_cell INV.out.h2 4; have v5 := blk_cell INV.out.h2 5; have ne46 := Nat.ne_of_lt nb6; have ne64 := Nat.ne_of_gt nb6; have ne26 := Nat.ne_of_lt (Nat.lt_trans nb4 nb6); have ne62 := Nat.ne_of_gt (Nat.lt_trans nb4 nb6); have t60 := blk_cell hbox6 0; have t61 := blk_cell hbox6 1; have f60 := blk_frozen hbox6 0; have f61 := blk_frozen hbox6 1; have HX6 := Aside0.mk hbox6; clear hbox6))
            refine bodyPost_ret (results_ct rfl _ _ b2 33 #[.int .i64 1, .int .i64 0, .string nm, .string ⟨#[]⟩, .slice A4 l.length c4, .bool false] (0, 0) _ rfl (OpenInv.fin2 ((INV.out.put6 nb6 hn6.out 0 (.string an)).put6 nb6 hn6.out 1 (.string av))) Tryd.underlying33 rfl (by kernel_rfl)) rfl ?_
            exact ⟨_, rfl, OpenInv.fin ((INV.out.put6 nb6 hn6.out 0 (.string an)).put6 nb6 hn6.out 1 (.string av))⟩
          · rw [if_neg hgap] at HJ
            have hgp : gap.toList.isEmpty = false := by cases hx : gap.toList with | nil => exact absurd hx hgap | cons _ _ => rfl
            cases aok with
            | false =>
              simp only [if_true, Option.some.injEq, Prod.mk.injEq] at HJ
              obtain ⟨rfl, rfl, rfl, rfl, rfl⟩ := HJ
              go_wp2_with (first | (go_at_call 35; with_reducible refine (CR _ INV.out.hI INV.out.hB).mono ?_; rintro e w5 ⟨rfl, hi, hb, hk⟩; have INV1 := Aside0.mk (INV.out.call hi hb hk); clear INV hi hb hk; clear z0 z1 z2 z3 z4 z5 y5 y4 x0 x1 x2 x3 x4 x5 v0 v1 v2 v3 v4 v5; have INV := INV1; clear INV1; have z0 := blk_cell INV.out.h4 0; have z1 := blk_cell INV.out.h4 1; have z2 := blk_cell INV.out.h4 2; have z3 := blk_cell INV.out.h4 3; have z4 := blk_cell INV.out.h4 4; have z5 := blk_cell INV.out.h4 5; have y5 := blk_frozen INV.out.h4 5; have y4 := blk_frozen INV.out.h4 4; have x0 := blk_frozen INV.out.h2 0; have x1 := blk_frozen INV.out.h2 1; have x2 := blk_frozen INV.out.h2 2; have x3 := blk_frozen INV.out.h2 3; have x4 := blk_frozen INV.out.h2 4; have x5 := blk_frozen INV.out.h2 5; have v0 := blk_cell INV.out.h2 0; have v1 := blk_cell INV.out.h2 1; have v2 := blk_cell INV.out.h2 2; have v3 := blk_cell INV.out.h2 3; have v4 := blk_cell INV.out.h2 4; have v5 := blk_cell INV.out.h2 5) | (go_at_call 15; with_reducible refine (CA _ INV.out.hI INV.out.hB).mono ?_; rintro e w5 ⟨rfl, hi, hb, hk⟩; have INV1 := Aside0.mk (INV.out.call hi hb hk); clear INV hi hb hk; clear z0 z1 z2 z3 z4 z5 y5 y4 x0 x1 x2 x3 x4 x5 v0 v1 v2 v3 v4 v5; have INV := INV1; clear INV1; have z0 := blk_cell INV.out.h4 0; have z1 := blk_cell INV.out.h4 1; have z2 := blk_cell INV.out.h4 2; have z3 := blk_cell INV.out.h4 3; have z4 := blk_cell INV.out.h4 4; have z5 := blk_cell INV.out.h4 5; have y5 := blk_frozen INV.out.h4 5; have y4 := blk_frozen INV.out.h4 4; have x0 := blk_frozen INV.out.h2 0; have x1 := blk_frozen INV.out.h2 1; have x2 := blk_frozen INV.out.h2 2; have x3 := blk_frozen INV.out.h2 3; have x4 := blk_frozen INV.out.h2 4; have x5 := blk_frozen INV.out.h2 5; have v0 := blk_cell INV.out.h2 0; have v1 := blk_cell INV.out.h2 1; have v2 := blk_cell INV.out.h2 2; have v3 := blk_cell INV.out.h2 3; have v4 := blk_cell INV.out.h2 4; have v5 := blk_cell INV.out.h2 5) | (go_at_call 15; with_reducible refine (CB _ (INV.out.setEm false).hI (INV.out.setEm false).hB).mono ?_; rintro e w5 ⟨rfl, hi, hb, hk⟩; have INV1 := Aside0.mk ((INV.out.setEm false).call hi hb hk); clear INV hi hb hk; clear z0 z1 z2 z3 z4 z5 y5 y4 x0 x1 x2 x3 x4 x5 v0 v1 v2 v3 v4 v5; have INV := INV1; clear INV1; have z0 := blk_cell INV.out.h4 0; have z1 := blk_cell INV.out.h4 1; have z2 := blk_cell INV.out.h4 2; have z3 := blk_cell INV.out.h4 3; have z4 := blk_cell INV.out.h4 4; have z5 := blk_cell INV.out.h4 5; have y5 := blk_frozen INV.out.h4 5; have y4 := blk_frozen INV.out.h4 4; have x0 := blk_frozen INV.out.h2 0; have x1 := blk_frozen INV.out.h2 1; have x2 := blk_frozen INV.out.h2 2; have x3 := blk_frozen INV.out.h2 3; have x4 := blk_frozen INV.out.h2 4; have x5 := blk_frozen INV.out.h2 5; have v0 := blk_cell INV.out.h2 0; have v1 := blk_cell INV.out.h2 1; have v2 := blk_cell INV.out.h2 2; have v3 := blk_cell INV.out.h2 3; have v4 := blk_cell INV.out.h2 4; have v5 := blk_cell INV.out.h2 5) | (go_at_call 36; with_reducible refine (CC _ INV.out.hI INV.out.hB).mono ?_; rintro e w5 ⟨rfl, hi, hb, hk⟩; have INV1 := Aside0.mk (INV.out.call hi hb hk); clear INV hi hb hk; clear z0 z1 z2 z3 z4 z5 y5 y4 x0 x1 x2 x3 x4 x5 v0 v1 v2 v3 v4 v5; have INV := INV1; clear INV1; have z0 := blk_cell INV.out.h4 0; have z1 := blk_cell INV.out.h4 1; have z2 := blk_cell INV.out.h4 2; have z3 := blk_cell INV.out.h4 3; have z4 := blk_cell INV.out.h4 4; have z5 := blk_cell INV.out.h4 5; have y5 := blk_frozen INV.out.h4 5; have y4 := blk_frozen INV.out.h4 4; have x0 := blk_frozen INV.out.h2 0; have x1 := blk_frozen INV.out.h2 1; have x2 := blk_frozen INV.out.h2 2; have x3 := blk_frozen INV.out.h2 3; have x4 := blk_frozen INV.out.h2 4; have x5 := blk_frozen INV.out.h2 5; have v0 := blk_cell INV.out.h2 0; have v1 := blk_cell INV.out.h2 1; have v2 := blk_cell INV.out.h2 2; have v3 := blk_cell INV.out.h2 3; have v4 := blk_cell INV.out.h2 4; have v5 := blk_cell INV.out.h2 5) | ((with_reducible refine gate_dst (N := 6) rfl ?_); refine box_event ?hg (N := 6) ?hd (cs := #[.string ⟨#[]⟩, .string ⟨#[]⟩]) (t := 35) ?hr ?_; (case hd => rfl); (case hg => rfl); (case hr => first | (go_simp; done) | (go_simp; rfl)); intro b6 hg6 w6 hbox6 hb6; have nb6 : b4 < b6 := (by rw [hg6]; exact blk_lt INV.out.h4); have hn6 := Aside0.mk (show some b6 ≠ (Value.slice A4 l.length c4).ownBlock from (by intro he; have := Kd.R_lt INV.out.hR b6 he.symm; rw [hg6] at this; omega)); clear hg6; have INV1 := Aside0.mk (INV.out.below hb6); clear INV; clear z0 z1 z2 z3 z4 z5 y5 y4 x0 x1 x2 x3 x4 x5 v0 v1 v2 v3 v4 v5; have INV := INV1; clear INV1; have z0 := blk_cell INV.out.h4 0; have z1 := blk_cell INV.out.h4 1; have z2 := blk_cell INV.out.h4 2; have z3 := blk_cell INV.out.h4 3; have z4 := blk_cell INV.out.h4 4; have z5 := blk_cell INV.out.h4 5; have y5 := blk_frozen INV.out.h4 5; have y4 := blk_frozen INV.out.h4 4; have x0 := blk_frozen INV.out.h2 0; have x1 := blk_frozen INV.out.h2 1; have x2 := blk_frozen INV.out.h2 2; have x3 := blk_frozen INV.out.h2 3; have x4 := blk_frozen INV.out.h2 4; have x5 := blk_frozen INV.out.h2 5; have v0 := blk_cell INV.out.h2 0; have v1 := blk_cell INV.out.h2 1; have v2 := blk_cell INV.out.h2 2; have v3 := blk_cell INV.out.h2 3; have v4 := blk_cell INV.out.h2 4; have v5 := blk_cell INV.out.h2 5; have ne46 := Nat.ne_of_lt nb6; have ne64 := Nat.ne_of_gt nb6; have ne26 := Nat.ne_of_lt (Nat.lt_trans nb4 nb6); have ne62 := Nat.ne_of_gt (Nat.lt_trans nb4 nb6); have t60 := blk_cell hbox6 0; have t61 := blk_cell hbox6 1; have f60 := blk_frozen hbox6 0; have f61 := blk_frozen hbox6 1; have HX6 := Aside0.mk hbox6; clear hbox6))
              refine bodyPost_ret (results_ct rfl _ _ b2 33 #[.int .i64 1, .int .i64 0, .string nm, .string ⟨#[]⟩, .slice A4 l.length c4, .bool false] (0, 0) _ rfl (OpenInv.fin2 ((INV.out.put6 nb6 hn6.out 0 (.string an)).put6 nb6 hn6.out 1 (.string av))) Tryd.underlying33 rfl (by kernel_rfl)) rfl ?_
              exact ⟨_, rfl, OpenInv.fin ((INV.out.put6 nb6 hn6.out 0 (.string an)).put6 nb6 hn6.out 1 (.string av))⟩
            | true =>
              simp only [Bool.true_eq_false, if_false] at HJ
              by_cases hlen : 1000000000 < l.length
              · rw [if_pos hlen] at HJ
                cases HJ
              rw [if_neg hlen] at HJ
              have CT := fun (b6 : Nat) (W : World) (hv : OpenInv w0 w W g b2 b4 u0 u1 nm (.slice A4 l.length c4) l false) (hx : W.heap[b6]? = some (.cells #[.string an, .string av] 35 (0, 0))) =>
                ContainsAttr 38 #[.pointer (some ⟨b6, 0, none⟩)] (fun j => (l.getD j P.z35).f0) (fun j => (l.getD j P.z35).f1) (fun j => decide ((l.getD j P.z35).f0.toList = an.toList)) (enters_of Tryd.func38 (by kernel_rfl) rfl) A4 l.length c4 W
                  (fun W' j hj hb => open1_calls _ _ an av b6 W' (pw_cell_below hb (blk_cell hx 0)) (pw_cell_below hb (blk_cell hx 1))) (by omega) (row_cells hv.hR)
              generalize anyAt (fun j => decide ((l.getD j P.z35).f0.toList = an.toList)) l.length = q at CT HJ
              cases q with
              | true =>
                simp only [if_true, Option.some.injEq, Prod.mk.injEq] at HJ
                obtain ⟨rfl, rfl, rfl, rfl, rfl⟩ := HJ
                go_wp2_with (first | (go_at_call 35; with_reducible refine (CR _ INV.out.hI INV.out.hB).mono ?_; rintro e w5 ⟨rfl, hi, hb, hk⟩; have INV1 := Aside0.mk (INV.out.call hi hb hk); clear INV hi hb hk; clear z0 z1 z2 z3 z4 z5 y5 y4 x0 x1 x2 x3 x4 x5 v0 v1 v2 v3 v4 v5; have INV := INV1; clear INV1; have z0 := blk_cell INV.out.h4 0; have z1 := blk_cell INV.out.h4 1; have z2 := blk_cell INV.out.h4 2; have z3 := blk_cell INV.out.h4 3; have z4 := blk_cell INV.out.h4 4; have z5 := blk_cell INV.out.h4 5; have y5 := blk_frozen INV.out.h4 5; have y4 := blk_frozen INV.out.h4 4; have x0 := blk_frozen INV.out.h2 0; have x1 := blk_frozen INV.out.h2 1; have x2 := blk_frozen INV.out.h2 2; have x3 := blk_frozen INV.out.h2 3; have x4 := blk_frozen INV.out.h2 4; have x5 := blk_frozen INV.out.h2 5; have v0 := blk_cell INV.out.h2 0; have v1 := blk_cell INV.out.h2 1; have v2 := blk_cell INV.out.h2 2; have v3 := blk_cell INV.out.h2 3; have v4 := blk_cell INV.out.h2 4; have v5 := blk_cell INV.out.h2 5) | (go_at_call 15; with_reducible refine (CA _ INV.out.hI INV.out.hB).mono ?_; rintro e w5 ⟨rfl, hi, hb, hk⟩; have INV1 := Aside0.mk (INV.out.call hi hb hk); clear INV hi hb hk; clear z0 z1 z2 z3 z4 z5 y5 y4 x0 x1 x2 x3 x4 x5 v0 v1 v2 v3 v4 v5; have INV := INV1; clear INV1; have z0 := blk_cell INV.out.h4 0; have z1 := blk_cell INV.out.h4 1; have z2 := blk_cell INV.out.h4 2; have z3 := blk_cell INV.out.h4 3; have z4 := blk_cell INV.out.h4 4; have z5 := blk_cell INV.out.h4 5; have y5 := blk_frozen INV.out.h4 5; have y4 := blk_frozen INV.out.h4 4; have x0 := blk_frozen INV.out.h2 0; have x1 := blk_frozen INV.out.h2 1; have x2 := blk_frozen INV.out.h2 2; have x3 := blk_frozen INV.out.h2 3; have x4 := blk_frozen INV.out.h2 4; have x5 := blk_frozen INV.out.h2 5; have v0 := blk_cell INV.out.h2 0; have v1 := blk_cell INV.out.h2 1; have v2 := blk_cell INV.out.h2 2; have v3 := blk_cell INV.out.h2 3; have v4 := blk_cell INV.out.h2 4; have v5 := blk_cell INV.out.h2 5) | (go_at_call 15; with_reducible refine (CB _ (INV.out.setEm false).hI (INV.out.setEm false).hB).mono ?_; rintro e w5 ⟨rfl, hi, hb, hk⟩; have INV1 := Aside0.mk ((INV.out.setEm false).call hi hb hk); clear INV hi hb hk; clear z0 z1 z2 z3 z4 z5 y5 y4 x0 x1 x2 x3 x4 x5 v0 v1 v2 v3 v4 v5; have INV := INV1; clear INV1; have z0 := blk_cell INV.out.h4 0; have z1 := blk_cell INV.out.h4 1; have z2 := blk_cell INV.out.h4 2; have z3 := blk_cell INV.out.h4 3; have z4 := blk_cell INV.out.h4 4; have z5 := blk_cell INV.out.h4 5; have y5 := blk_frozen INV.out.h4 5; have y4 := blk_frozen INV.out.h4 4; have x0 := blk_frozen INV.out.h2 0; have x1 := blk_frozen INV.out.h2 1; have x2 := blk_frozen INV.out.h2 2; have x3 := blk_frozen INV.out.h2 3; have x4 := blk_frozen INV.out.h2 4; have x5 := blk_frozen INV.out.h2 5; have v0 := blk_cell INV.out.h2 0; have v1 := blk_cell INV.out.h2 1; have v2 := blk_cell INV.out.h2 2; have v3 := blk_cell INV.out.h2 3; have v4 := blk_cell INV.out.h2 4; have v5 := blk_cell INV.out.h2 5) | (go_at_call 36; with_reducible refine (CC _ INV.out.hI INV.out.hB).mono ?_; rintro e w5 ⟨rfl, hi, hb, hk⟩; have INV1 := Aside0.mk (INV.out.call hi hb hk); clear INV hi hb hk; clear z0 z1 z2 z3 z4 z5 y5 y4 x0 x1 x2 x3 x4 x5 v0 v1 v2 v3 v4 v5; have INV := INV1; clear INV1; have z0 := blk_cell INV.out.h4 0; have z1 := blk_cell INV.out.h4 1; have z2 := blk_cell INV.out.h4 2; have z3 := blk_cell INV.out.h4 3; have z4 := blk_cell INV.out.h4 4; have z5 := blk_cell INV.out.h4 5; have y5 := blk_frozen INV.out.h4 5; have y4 := blk_frozen INV.out.h4 4; have x0 := blk_frozen INV.out.h2 0; have x1 := blk_frozen INV.out.h2 1; have x2 := blk_frozen INV.out.h2 2; have x3 := blk_frozen INV.out.h2 3; have x4 := blk_frozen INV.out.h2 4; have x5 := blk_frozen INV.out.h2 5; have v0 := blk_cell INV.out.h2 0; have v1 := blk_cell INV.out.h2 1; have v2 := blk_cell INV.out.h2 2; have v3 := blk_cell INV.out.h2 3; have v4 := blk_cell INV.out.h2 4; have v5 := blk_cell INV.out.h2 5) | ((with_reducible refine gate_dst (N := 6) rfl ?_); refine box_event ?hg (N := 6) ?hd (cs := #[.string ⟨#[]⟩, .string ⟨#[]⟩]) (t := 35) ?hr ?_; (case hd => rfl); (case hg => rfl); (case hr => first | (go_simp; done) | (go_simp; rfl)); intro b6 hg6 w6 hbox6 hb6; have nb6 : b4 < b6 := (by rw [hg6]; exact blk_lt INV.out.h4); have hn6 := Aside0.mk (show some b6 ≠ (Value.slice A4 l.length c4).ownBlock from (by intro he; have := Kd.R_lt INV.out.hR b6 he.symm; rw [hg6] at this; omega)); clear hg6; have INV1 := Aside0.mk (INV.out.below hb6); clear INV; clear z0 z1 z2 z3 z4 z5 y5 y4 x0 x1 x2 x3 x4 x5 v0 v1 v2 v3 v4 v5; have INV := INV1; clear INV1; have z0 := blk_cell INV.out.h4 0; have z1 := blk_cell INV.out.h4 1; have z2 := blk_cell INV.out.h4 2; have z3 := blk_cell INV.out.h4 3; have z4 := blk_cell INV.out.h4 4; have z5 := blk_cell INV.out.h4 5; have y5 := blk_frozen INV.out.h4 5; have y4 := blk_frozen INV.out.h4 4; have x0 := blk_frozen INV.out.h2 0; have x1 := blk_frozen INV.out.h2 1; have x2 := blk_frozen INV.out.h2 2; have x3 := blk_frozen INV.out.h2 3; have x4 := blk_frozen INV.out.h2 4; have x5 := blk_frozen INV.out.h2 5; have v0 := blk_cell INV.out.h2 0; have v1 := blk_cell INV.out.h2 1; have v2 := blk_cell INV.out.h2 2; have v3 := blk_cell INV.out.h2 3; have v4 := blk_cell INV.out.h2 4; have v5 := blk_cell INV.out.h2 5; have ne46 := Nat.ne_of_lt nb6; have ne64 := Nat.ne_of_gt nb6; have ne26 := Nat.ne_of_lt (Nat.lt_trans nb4 nb6); have ne62 := Nat.ne_of_gt (Nat.lt_trans nb4 nb6); have t60 := blk_cell hbox6 0; have t61 := blk_cell hbox6 1; have f60 := blk_frozen hbox6 0; have f61 := blk_frozen hbox6 1; have HX6 := Aside0.mk hbox6; clear hbox6) | (go_at_call 37; have INV1 := Aside0.mk ((INV.out.put6 nb6 hn6.out 0 (.string an)).put6 nb6 hn6.out 1 (.string av)); have HX7 := Aside0.mk (blk_put (cs' := #[.string an, .string av]) (blk_put (cs' := #[.string an, .string ⟨#[]⟩]) HX6.out 0 (.string an) rfl) 1 (.string av) rfl); with_reducible refine (CT b6 _ INV1.out HX7.out).mono ?_; rintro e w8 ⟨rfl, hb8⟩; have INV2 := Aside0.mk (INV1.out.below hb8); have HX8 := Aside0.mk (blk_below HX7.out hb8); clear INV INV1 HX7 HX6 t60 t61 f60 f61; clear z0 z1 z2 z3 z4 z5 y5 y4 x0 x1 x2 x3 x4 x5 v0 v1 v2 v3 v4 v5; have INV := INV2; clear INV2; have z0 := blk_cell INV.out.h4 0; have z1 := blk_cell INV.out.h4 1; have z2 := blk_cell INV.out.h4 2; have z3 := blk_cell INV.out.h4 3; have z4 := blk_cell INV.out.h4 4; have z5 := blk_cell INV.out.h4 5; have y5 := blk_frozen INV.out.h4 5; have y4 := blk_frozen INV.out.h4 4; have x0 := blk_frozen INV.out.h2 0; have x1 := blk_frozen INV.out.h2 1; have x2 := blk_frozen INV.out.h2 2; have x3 := blk_frozen INV.out.h2 3; have x4 := blk_frozen INV.out.h2 4; have x5 := blk_frozen INV.out.h2 5; have v0 := blk_cell INV.out.h2 0; have v1 := blk_cell INV.out.h2 1; have v2 := blk_cell INV.out.h2 2; have v3 := blk_cell INV.out.h2 3; have v4 := blk_cell INV.out.h2 4; have v5 := blk_cell INV.out.h2 5; have t60 := blk_cell HX8.out 0; have t61 := blk_cell HX8.out 1))
                refine bodyPost_ret (results_ct rfl _ _ b2 33 #[.int .i64 1, .int .i64 0, .string nm, .string ⟨#[]⟩, .slice A4 l.length c4, .bool false] (0, 0) _ rfl (OpenInv.fin2 INV.out) Tryd.underlying33 rfl (by kernel_rfl)) rfl ?_
                exact ⟨_, rfl, OpenInv.fin INV.out⟩
              | false =>
                simp only [Bool.false_eq_true, if_false] at HJ
                have HJ := Aside0.mk HJ
                have info35_ : (Tryd.prog.info? 35).map (fun i => (i.zero, i.size, i.bytes)) = some (some (.agg #[.string ⟨#[]⟩, .string ⟨#[]⟩]), 2, 32) := by kernel_rfl
                go_wp2_with (first | (go_at_call 35; with_reducible refine (CR _ INV.out.hI INV.out.hB).mono ?_; rintro e w5 ⟨rfl, hi, hb, hk⟩; have INV1 := Aside0.mk (INV.out.call hi hb hk); clear INV hi hb hk; clear z0 z1 z2 z3 z4 z5 y5 y4 x0 x1 x2 x3 x4 x5 v0 v1 v2 v3 v4 v5; have INV := INV1; clear INV1; have z0 := blk_cell INV.out.h4 0; have z1 := blk_cell INV.out.h4 1; have z2 := blk_cell INV.out.h4 2; have z3 := blk_cell INV.out.h4 3; have z4 := blk_cell INV.out.h4 4; have z5 := blk_cell INV.out.h4 5; have y5 := blk_frozen INV.out.h4 5; have y4 := blk_frozen INV.out.h4 4; have x0 := blk_frozen INV.out.h2 0; have x1 := blk_frozen INV.out.h2 1; have x2 := blk_frozen INV.out.h2 2; have x3 := blk_frozen INV.out.h2 3; have x4 := blk_frozen INV.out.h2 4; have x5 := blk_frozen INV.out.h2 5; have v0 := blk_cell INV.out.h2 0; have v1 := blk_cell INV.out.h2 1; have v2 := blk_cell INV.out.h2 2; have v3 := blk_cell INV.out.h2 3; have v4 := blk_cell INV.out.h2 4; have v5 := blk_cell INV.out.h2 5) | (go_at_call 15; with_reducible refine (CA _ INV.out.hI INV.out.hB).mono ?_; rintro e w5 ⟨rfl, hi, hb, hk⟩; have INV1 := Aside0.mk (INV.out.call hi hb hk); clear INV hi hb hk; clear z0 z1 z2 z3 z4 z5 y5 y4 x0 x1 x2 x3 x4 x5 v0 v1 v2 v3 v4 v5; have INV := INV1; clear INV1; have z0 := blk_cell INV.out.h4 0; have z1 := blk_cell INV.out.h4 1; have z2 := blk_cell INV.out.h4 2; have z3 := blk_cell INV.out.h4 3; have z4 := blk_cell INV.out.h4 4; have z5 := blk_cell INV.out.h4 5; have y5 := blk_frozen INV.out.h4 5; have y4 := blk_frozen INV.out.h4 4; have x0 := blk_frozen INV.out.h2 0; have x1 := blk_frozen INV.out.h2 1; have x2 := blk_frozen INV.out.h2 2; have x3 := blk_frozen INV.out.h2 3; have x4 := blk_frozen INV.out.h2 4; have x5 := blk_frozen INV.out.h2 5; have v0 := blk_cell INV.out.h2 0; have v1 := blk_cell INV.out.h2 1; have v2 := blk_cell INV.out.h2 2; have v3 := blk_cell INV.out.h2 3; have v4 := blk_cell INV.out.h2 4; have v5 := blk_cell INV.out.h2 5) | (go_at_call 15; with_reducible refine (CB _ (INV.out.setEm false).hI (INV.out.setEm false).hB).mono ?_; rintro e w5 ⟨rfl, hi, hb, hk⟩; have INV1 := Aside0.mk ((INV.out.setEm false).call hi hb hk); clear INV hi hb hk; clear z0 z1 z2 z3 z4 z5 y5 y4 x0 x1 x2 x3 x4 x5 v0 v1 v2 v3 v4 v5; have INV := INV1; clear INV1; have z0 := blk_cell INV.out.h4 0; have z1 := blk_cell INV.out.h4 1; have z2 := blk_cell INV.out.h4 2; have z3 := blk_cell INV.out.h4 3; have z4 := blk_cell INV.out.h4 4; have z5 := blk_cell INV.out.h4 5; have y5 := blk_frozen INV.out.h4 5; have y4 := blk_frozen INV.out.h4 4; have x0 := blk_frozen INV.out.h2 0; have x1 := blk_frozen INV.out.h2 1; have x2 := blk_frozen INV.out.h2 2; have x3 := blk_frozen INV.out.h2 3; have x4 := blk_frozen INV.out.h2 4; have x5 := blk_frozen INV.out.h2 5; have v0 := blk_cell INV.out.h2 0; have v1 := blk_cell INV.out.h2 1; have v2 := blk_cell INV.out.h2 2; have v3 := blk_cell INV.out.h2 3; have v4 := blk_cell INV.out.h2 4; have v5 := blk_cell INV.out.h2 5) | (go_at_call 36; with_reducible refine (CC _ INV.out.hI INV.out.hB).mono ?_; rintro e w5 ⟨rfl, hi, hb, hk⟩; have INV1 := Aside0.mk (INV.out.call hi hb hk); clear INV hi hb hk; clear z0 z1 z2 z3 z4 z5 y5 y4 x0 x1 x2 x3 x4 x5 v0 v1 v2 v3 v4 v5; have INV := INV1; clear INV1; have z0 := blk_cell INV.out.h4 0; have z1 := blk_cell INV.out.h4 1; have z2 := blk_cell INV.out.h4 2; have z3 := blk_cell INV.out.h4 3; have z4 := blk_cell INV.out.h4 4; have z5 := blk_cell INV.out.h4 5; have y5 := blk_frozen INV.out.h4 5; have y4 := blk_frozen INV.out.h4 4; have x0 := blk_frozen INV.out.h2 0; have x1 := blk_frozen INV.out.h2 1; have x2 := blk_frozen INV.out.h2 2; have x3 := blk_frozen INV.out.h2 3; have x4 := blk_frozen INV.out.h2 4; have x5 := blk_frozen INV.out.h2 5; have v0 := blk_cell INV.out.h2 0; have v1 := blk_cell INV.out.h2 1; have v2 := blk_cell INV.out.h2 2; have v3 := blk_cell INV.out.h2 3; have v4 := blk_cell INV.out.h2 4; have v5 := blk_cell INV.out.h2 5) | ((with_reducible refine gate_dst (N := 6) rfl ?_); refine box_event ?hg (N := 6) ?hd (cs := #[.string ⟨#[]⟩, .string ⟨#[]⟩]) (t := 35) ?hr ?_; (case hd => rfl); (case hg => rfl); (case hr => first | (go_simp; done) | (go_simp; rfl)); intro b6 hg6 w6 hbox6 hb6; have nb6 : b4 < b6 := (by rw [hg6]; exact blk_lt INV.out.h4); have hn6 := Aside0.mk (show some b6 ≠ (Value.slice A4 l.length c4).ownBlock from (by intro he; have := Kd.R_lt INV.out.hR b6 he.symm; rw [hg6] at this; omega)); clear hg6; have INV1 := Aside0.mk (INV.out.below hb6); clear INV; clear z0 z1 z2 z3 z4 z5 y5 y4 x0 x1 x2 x3 x4 x5 v0 v1 v2 v3 v4 v5; have INV := INV1; clear INV1; have z0 := blk_cell INV.out.h4 0; have z1 := blk_cell INV.out.h4 1; have z2 := blk_cell INV.out.h4 2; have z3 := blk_cell INV.out.h4 3; have z4 := blk_cell INV.out.h4 4; have z5 := blk_cell INV.out.h4 5; have y5 := blk_frozen INV.out.h4 5; have y4 := blk_frozen INV.out.h4 4; have x0 := blk_frozen INV.out.h2 0; have x1 := blk_frozen INV.out.h2 1; have x2 := blk_frozen INV.out.h2 2; have x3 := blk_frozen INV.out.h2 3; have x4 := blk_frozen INV.out.h2 4; have x5 := blk_frozen INV.out.h2 5; have v0 := blk_cell INV.out.h2 0; have v1 := blk_cell INV.out.h2 1; have v2 := blk_cell INV.out.h2 2; have v3 := blk_cell INV.out.h2 3; have v4 := blk_cell INV.out.h2 4; have v5 := blk_cell INV.out.h2 5; have ne46 := Nat.ne_of_lt nb6; have ne64 := Nat.ne_of_gt nb6; have ne26 := Nat.ne_of_lt (Nat.lt_trans nb4 nb6); have ne62 := Nat.ne_of_gt (Nat.lt_trans nb4 nb6); have t60 := blk_cell hbox6 0; have t61 := blk_cell hbox6 1; have f60 := blk_frozen hbox6 0; have f61 := blk_frozen hbox6 1; have HX6 := Aside0.mk hbox6; clear hbox6) | (go_at_call 37; have INV1 := Aside0.mk ((INV.out.put6 nb6 hn6.out 0 (.string an)).put6 nb6 hn6.out 1 (.string av)); have HX7 := Aside0.mk (blk_put (cs' := #[.string an, .string av]) (blk_put (cs' := #[.string an, .string ⟨#[]⟩]) HX6.out 0 (.string an) rfl) 1 (.string av) rfl); with_reducible refine (CT b6 _ INV1.out HX7.out).mono ?_; rintro e w8 ⟨rfl, hb8⟩; have INV2 := Aside0.mk (INV1.out.below hb8); have HX8 := Aside0.mk (blk_below HX7.out hb8); clear INV INV1 HX7 HX6 t60 t61 f60 f61; clear z0 z1 z2 z3 z4 z5 y5 y4 x0 x1 x2 x3 x4 x5 v0 v1 v2 v3 v4 v5; have INV := INV2; clear INV2; have z0 := blk_cell INV.out.h4 0; have z1 := blk_cell INV.out.h4 1; have z2 := blk_cell INV.out.h4 2; have z3 := blk_cell INV.out.h4 3; have z4 := blk_cell INV.out.h4 4; have z5 := blk_cell INV.out.h4 5; have y5 := blk_frozen INV.out.h4 5; have y4 := blk_frozen INV.out.h4 4; have x0 := blk_frozen INV.out.h2 0; have x1 := blk_frozen INV.out.h2 1; have x2 := blk_frozen INV.out.h2 2; have x3 := blk_frozen INV.out.h2 3; have x4 := blk_frozen INV.out.h2 4; have x5 := blk_frozen INV.out.h2 5; have v0 := blk_cell INV.out.h2 0; have v1 := blk_cell INV.out.h2 1; have v2 := blk_cell INV.out.h2 2; have v3 := blk_cell INV.out.h2 3; have v4 := blk_cell INV.out.h2 4; have v5 := blk_cell INV.out.h2 5; have t60 := blk_cell HX8.out 0; have t61 := blk_cell HX8.out 1) | ((with_reducible refine gate_builtin (b := .append) (xs := #[.tmp 44, .tmp 46]) rfl ?_); at_builtin; refine Kd.R_append P.k35 w.heap.size rfl (.tmp 44) (.tmp 46) 31 35 (.agg #[.string ⟨#[]⟩, .string ⟨#[]⟩]) 32 rfl Tryd.underlying31 info35_ rfl (by decide) (by omega) (.slice A4 l.length c4) l ⟨an, av⟩ [.string an, .string av] (fun k => k ≠ g ∧ k ≠ b2 ∧ k ≠ b4) (fun _ => False) rfl rfl ?aP (fun _ hk => hk.elim) ?aF ?aO (Below.refl _ _) ?aS ?aL ?_; (case aP => exact P.k35_mkM _ _ _ ⟨an, av⟩); (case aF => exact fun k hk => (by have h1 := INV.out.hI.lt; have h2 := blk_lt INV.out.h2; have h3 := blk_lt INV.out.h4; omega)); (case aO => exact INV.out.hR); (case aS => exact INV.out.hK.1); (case aL => omega); intro v1 w1 ho hb hg hat; obtain ⟨A5, c5, rfl⟩ := Kd.R_slice ho; have n4' := Kd.R_away INV.out.hR (fun k hk => hk.2.2); have z4 := blk_cell (blk_grown INV.out.h4 hg n4') 4; have y4 := blk_frozen (blk_grown INV.out.h4 hg n4') 4; have INV2 := Aside0.mk (INV.out.setV ho (below_weaken INV.out.hB INV.out.n0 hb) hg); clear INV hat hg hb ho))
                go_roundg k
                case measure => omega
                case rel =>
                  have h := INV2.out
                  simp only [List.length_append, List.length_cons, List.length_nil, Nat.zero_add] at h
                  exact ⟨u0, u1, _, _, k, Nat.le_refl _, HJ.out, h⟩
end Go.Proofs.YtfelfpjfjjgmoaaDoor
end
/- Lean functions for functions of the program, and that the Go code comes to their answers, where the library's variables are as Gd says. Written by a turned copy of the kit's print; Lean checks it. -/
section
namespace Go.Proofs.YtfelfpjfjjgmoaaDoor.P
open Go.RowKit Go.Proofs.YtfelfpjfjjgmoaaDoorW.PrintWords Go.Proofs.YtfelfpjfjjgmoaaDoorW.PrintLast Go.Proofs.YtfelfpjfjjgmoaaDoorW.PrintMore
attribute [local go_sem] max2_int min2_int max_two min_two max_three min_three max_four min_four   -- for this text's walks alone
set_option linter.unusedVariables false
set_option linter.unusedSimpArgs false

/-! ### token_next: function 17 -/
def token_next.f (s0_0 : ByteArray) (s0_1 : ByteArray) : Option (Int × Int × ByteArray × ByteArray × (List (S35)) × Bool × Bool × ByteArray × ByteArray) := (token_walk_string_is.f s0_0 s0_1 (⟨#[60, 47]⟩ : ByteArray)).bind fun bt232 => (if bt232.1 = true then ((token_shut.f bt232.2.1 bt232.2.2).bind fun bt235 => (some (bt235.1, bt235.2.1, bt235.2.2.1, bt235.2.2.2.1, bt235.2.2.2.2.1, bt235.2.2.2.2.2.1, bt235.2.2.2.2.2.2.1, bt235.2.2.2.2.2.2.2.1, bt235.2.2.2.2.2.2.2.2))) else ((token_walk_string_is.f bt232.2.1 bt232.2.2 (⟨#[60]⟩ : ByteArray)).bind fun bt246 => (if bt246.1 = true then ((G_open.f bt246.2.1 bt246.2.2).bind fun bt249 => (some (bt249.1, bt249.2.1, bt249.2.2.1, bt249.2.2.2.1, bt249.2.2.2.2.1, bt249.2.2.2.2.2.1, bt249.2.2.2.2.2.2.1, bt249.2.2.2.2.2.2.2.1, bt249.2.2.2.2.2.2.2.2))) else ((G_upTo.f bt246.2.1 bt246.2.2 (⟨#[60]⟩ : ByteArray)).bind fun bt260 => ((G_Back.f bt260.1).bind fun bt264 => (some (3, 0, (⟨#[]⟩ : ByteArray), bt264.1, ([] : List (S35)), false, (bt264.2 == 0), bt260.2.2.1, bt260.2.2.2)))))))
set_option maxHeartbeats 8000000 in
set_option maxRecDepth 100000 in
theorem token_next.calls (g : Nat) (s0_0 : ByteArray) (s0_1 : ByteArray) (r1 : Int) (r2 : Int) (r3 : ByteArray) (r4 : ByteArray) (r5 : List (S35)) (r6 : Bool) (r7 : Bool) (r8 : ByteArray) (r9 : ByteArray) (w0 w : World) (hG_ : Gd w0) (hI : IsS46 w0 w g s0_0 s0_1) (hB : Below w0.heap.size w0 w) (h : token_next.f s0_0 s0_1 = some (r1, r2, r3, r4, r5, r6, r7, r8, r9)) :
    Calls Tryd.prog 17 #[.pointer (some ⟨g, 0, none⟩)] w fun e w' => ∃ v4_ : Value, e = .returned (.tuple #[.agg #[.int .i64 r1, .int .i64 r2, .string r3, .string r4, v4_, .bool r6], .bool r7]) ∧ Kd.R k35 35 w' w.heap.size (fun _ => True) v4_ r5 ∧ IsS46 w0 w' g r8 r9 ∧ Below w0.heap.size w0 w' ∧ KeepBut w w' g none := by
  have hu33 := Tryd.underlying33
  have HI0 := Aside0.mk hI
  have HK := Aside0.mk (KeepBut.refl w g none)
  have HL := Aside0.mk hB.size
  clear hI
  have HW0 := Aside0.mk hB.size
  have HB := Aside0.mk hB
  clear hB
  have HG := Aside0.mk hG_
  clear hG_
  have H : ((token_walk_string_is.f s0_0 s0_1 (⟨#[60, 47]⟩ : ByteArray)).bind fun bt232 => (if bt232.1 = true then ((token_shut.f bt232.2.1 bt232.2.2).bind fun bt235 => (some (bt235.1, bt235.2.1, bt235.2.2.1, bt235.2.2.2.1, bt235.2.2.2.2.1, bt235.2.2.2.2.2.1, bt235.2.2.2.2.2.2.1, bt235.2.2.2.2.2.2.2.1, bt235.2.2.2.2.2.2.2.2))) else ((token_walk_string_is.f bt232.2.1 bt232.2.2 (⟨#[60]⟩ : ByteArray)).bind fun bt246 => (if bt246.1 = true then ((G_open.f bt246.2.1 bt246.2.2).bind fun bt249 => (some (bt249.1, bt249.2.1, bt249.2.2.1, bt249.2.2.2.1, bt249.2.2.2.2.1, bt249.2.2.2.2.2.1, bt249.2.2.2.2.2.2.1, bt249.2.2.2.2.2.2.2.1, bt249.2.2.2.2.2.2.2.2))) else ((G_upTo.f bt246.2.1 bt246.2.2 (⟨#[60]⟩ : ByteArray)).bind fun bt260 => ((G_Back.f bt260.1).bind fun bt264 => (some (3, 0, (⟨#[]⟩ : ByteArray), bt264.1, ([] : List (S35)), false, (bt264.2 == 0), bt260.2.2.1, bt260.2.2.2)))))))) = some (r1, r2, r3, r4, r5, r6, r7, r8, r9) := h
  clear h
  replace H := Option.bind_eq_some_iff.mp H
  obtain ⟨⟨t232, t233, t234⟩, A20, H⟩ := H
  replace H : (if t232 = true then ((token_shut.f t233 t234).bind fun bt235 => (some (bt235.1, bt235.2.1, bt235.2.2.1, bt235.2.2.2.1, bt235.2.2.2.2.1, bt235.2.2.2.2.2.1, bt235.2.2.2.2.2.2.1, bt235.2.2.2.2.2.2.2.1, bt235.2.2.2.2.2.2.2.2))) else ((token_walk_string_is.f t233 t234 (⟨#[60]⟩ : ByteArray)).bind fun bt246 => (if bt246.1 = true then ((G_open.f bt246.2.1 bt246.2.2).bind fun bt249 => (some (bt249.1, bt249.2.1, bt249.2.2.1, bt249.2.2.2.1, bt249.2.2.2.2.1, bt249.2.2.2.2.2.1, bt249.2.2.2.2.2.2.1, bt249.2.2.2.2.2.2.2.1, bt249.2.2.2.2.2.2.2.2))) else ((G_upTo.f bt246.2.1 bt246.2.2 (⟨#[60]⟩ : ByteArray)).bind fun bt260 => ((G_Back.f bt260.1).bind fun bt264 => (some (3, 0, (⟨#[]⟩ : ByteArray), bt264.1, ([] : List (S35)), false, (bt264.2 == 0), bt260.2.2.1, bt260.2.2.2))))))) = some (r1, r2, r3, r4, r5, r6, r7, r8, r9) := H
  have A2 := Aside0.mk A20
  clear A20
  by_cases c3 : t232 = true
  · subst c3
    have H1 : ((token_shut.f t233 t234).bind fun bt235 => (some (bt235.1, bt235.2.1, bt235.2.2.1, bt235.2.2.2.1, bt235.2.2.2.2.1, bt235.2.2.2.2.2.1, bt235.2.2.2.2.2.2.1, bt235.2.2.2.2.2.2.2.1, bt235.2.2.2.2.2.2.2.2))) = some (r1, r2, r3, r4, r5, r6, r7, r8, r9) := by rw [if_pos rfl] at H; exact H
    clear H
    have H := H1
    clear H1
    replace H := Option.bind_eq_some_iff.mp H
    obtain ⟨⟨t235, t236, t237, t238, t239, t242, t243, t244, t245⟩, A40, H⟩ := H
    replace H : (some (t235, t236, t237, t238, t239, t242, t243, t244, t245)) = some (r1, r2, r3, r4, r5, r6, r7, r8, r9) := H
    have A4 := Aside0.mk A40
    clear A40
    simp only [Option.some.injEq, Prod.mk.injEq] at H
    obtain ⟨rfl, rfl, rfl, rfl, rfl, rfl, rfl, rfl, rfl⟩ := H
    go_enter Tryd.func17, Tryd.ntmps17
    go_wp2_with (first | ((with_reducible refine gate_dst (N := 2) rfl ?_); refine box_event ?hg (N := 2) ?hd (cs := #[.int .i64 0, .int .i64 0, .string (⟨#[]⟩ : ByteArray), .string (⟨#[]⟩ : ByteArray), .slice none 0 0, .bool false]) (t := 33) ?hr ?_; (case hd => rfl); (case hg => rfl); (case hr => first | (go_simp; done) | (go_simp; rfl)); intro gb231 hg w5 hbox hb; have n0_ := Aside0.mk (IsS46.below (by repeat (first | (with_reducible first | exact HI0.out | apply IsS46.alloc | apply IsS46.drewN | apply IsS46.drew | apply IsS46.set_0 | apply IsS46.set_1) | exact HI0.out)) hb); have n1_ := Aside0.mk (KeepBut.trans (by repeat (first | (with_reducible first | exact HK.out | apply KeepBut.set_ | apply keep_drewN | apply keep_drew | apply keep_alloc) | exact HK.out)) (KeepBut.of_below hb g none) (.inl rfl)); have n2_ := Aside0.mk (below_step (by repeat (first | (with_reducible first | exact HB.out | apply below_alloc | apply pw_below_drewN | apply below_drew1 | refine below_set ?_ (IsS46.ge HI0.out)) | exact HB.out)) hb); have n3_ := Aside0.mk (hbox); have n4_ := Aside0.mk ((by rw [hg]; exact (keep_size (w := w) (g := g) (row := none) (by repeat (first | (with_reducible first | exact HK.out | apply KeepBut.set_ | apply keep_drewN | apply keep_drew | apply keep_alloc) | exact HK.out))) : w.heap.size ≤ gb231)); have n5_ := Aside0.mk ((Nat.le_trans HW0.out (by rw [hg]; exact (keep_size (w := w) (g := g) (row := none) (by repeat (first | (with_reducible first | exact HK.out | apply KeepBut.set_ | apply keep_drewN | apply keep_drew | apply keep_alloc) | exact HK.out))) : w.heap.size ≤ gb231) : w0.heap.size ≤ gb231)); have n6_ := Aside0.mk ((by rw [hg]; exact Nat.ne_of_lt (IsS46.lt (show IsS46 w0 _ g s0_0 s0_1 from by repeat (first | (with_reducible first | exact HI0.out | apply IsS46.alloc | apply IsS46.drewN | apply IsS46.drew | apply IsS46.set_0 | apply IsS46.set_1) | exact HI0.out))) : g ≠ gb231)); have n7_ := Aside0.mk ((by rw [hg]; exact Nat.ne_of_gt (IsS46.lt (show IsS46 w0 _ g s0_0 s0_1 from by repeat (first | (with_reducible first | exact HI0.out | apply IsS46.alloc | apply IsS46.drewN | apply IsS46.drew | apply IsS46.set_0 | apply IsS46.set_1) | exact HI0.out))) : gb231 ≠ g)); clear HI0; clear HK; clear HB; have HI0 := n0_; have HK := n1_; have HB := n2_; have BK231 := n3_; have GW231 := n4_; have GE231 := n5_; have NB0_231 := n6_; have NB231_0 := n7_; clear n0_ n1_ n2_ n3_ n4_ n5_ n6_ n7_; clear hb hbox hg) | ((with_reducible refine gate_callee (f := 15) rfl ?_); refine goesL_ (some 10) rfl rfl Tryd.func15 (by kernel_rfl) rfl #[.pointer (some ⟨g, 0, none⟩), .string (⟨#[60, 47]⟩ : ByteArray)] rfl (by (try simp only [List.map_toArray, List.map_cons, List.map_nil]); first | done | rfl | (simp only [List.length_drop, List.length_take]; rfl)) ?_; (with_reducible refine (token_walk_string_is.calls g s0_0 s0_1 (⟨#[60, 47]⟩ : ByteArray) true t233 t234 w0 _ HG.out ?side1 ?side2 A2.out).mono ?_); (case side1 => repeat (first | (with_reducible first | exact HI0.out | apply IsS46.alloc | apply IsS46.drewN | apply IsS46.drew | apply IsS46.set_0 | apply IsS46.set_1 | refine IsS46.far ?_ NB0_231.out _) | exact HI0.out)); (case side2 => repeat (first | (with_reducible first | exact HB.out | apply below_alloc | apply pw_below_drewN | apply below_drew1 | refine below_set ?_ (IsS46.ge HI0.out) | refine below_set ?_ GE231.out) | exact HB.out)); rintro e w6 ⟨rfl, hi, hb, hk⟩; refine ⟨_, rfl, ?_⟩; have n0_ := Aside0.mk (KeepBut.blk hk (g' := gb231) (o := .cells #[.int .i64 0, .int .i64 0, .string (⟨#[]⟩ : ByteArray), .string (⟨#[]⟩ : ByteArray), .slice none 0 0, .bool false] 33 (0, 0)) (by (with_reducible repeat (first | refine blk_drewN ?_ _ | refine blk_drew ?_ | refine blk_alloc ?_ _)); exact BK231.out) NB231_0.out (by simp)); have n1_ := Aside0.mk (KeepBut.trans (by repeat (first | (with_reducible first | exact HK.out | apply KeepBut.set_ | apply keep_drewN | apply keep_drew | apply keep_alloc | refine keep_far ?_ GW231.out _) | exact HK.out)) hk (.inl rfl)); have n2_ := Aside0.mk (hb); have n3_ := Aside0.mk (hi); clear BK231; clear HK; clear HB; clear HI0; have BK231 := n0_; have HK := n1_; have HB := n2_; have HI0 := n3_; clear n0_ n1_ n2_ n3_; (try clear hb); (try clear hb2); (try clear hk); (try clear hi)) | ((with_reducible refine gate_callee (f := 24) rfl ?_); refine goesL_ (some 12) rfl rfl Tryd.func24 (by kernel_rfl) rfl #[.pointer (some ⟨g, 0, none⟩)] rfl (by (try simp only [List.map_toArray, List.map_cons, List.map_nil]); first | done | rfl | (simp only [List.length_drop, List.length_take]; rfl)) ?_; (with_reducible refine (token_shut.calls g t233 t234 t235 t236 t237 t238 t239 t242 t243 t244 t245 w0 _ HG.out ?side1 ?side2 A4.out).mono ?_); (case side1 => repeat (first | (with_reducible first | exact HI0.out | apply IsS46.alloc | apply IsS46.drewN | apply IsS46.drew | apply IsS46.set_0 | apply IsS46.set_1 | refine IsS46.far ?_ NB0_231.out _) | exact HI0.out)); (case side2 => repeat (first | (with_reducible first | exact HB.out | apply below_alloc | apply pw_below_drewN | apply below_drew1 | refine below_set ?_ (IsS46.ge HI0.out) | refine below_set ?_ GE231.out) | exact HB.out)); rintro e w7 ⟨v240, rfl, ho0, hi, hb, hk⟩; refine ⟨_, rfl, ?_⟩; have n0_ := Aside0.mk (KeepBut.blk hk (g' := gb231) (o := .cells #[.int .i64 0, .int .i64 0, .string (⟨#[]⟩ : ByteArray), .string (⟨#[]⟩ : ByteArray), .slice none 0 0, .bool false] 33 (0, 0)) (by (with_reducible repeat (first | refine blk_drewN ?_ _ | refine blk_drew ?_ | refine blk_alloc ?_ _)); exact BK231.out) NB231_0.out (by simp)); have n1_ := Aside0.mk (Kd.R_lower ho0 (keep_size (w := w) (g := g) (row := none) (by repeat (first | (with_reducible first | exact HK.out | apply KeepBut.set_ | apply keep_drewN | apply keep_drew | apply keep_alloc | refine keep_far ?_ GW231.out _) | exact HK.out)))); have n2_ := Aside0.mk (KeepBut.trans (by repeat (first | (with_reducible first | exact HK.out | apply KeepBut.set_ | apply keep_drewN | apply keep_drew | apply keep_alloc | refine keep_far ?_ GW231.out _) | exact HK.out)) hk (.inl rfl)); have n3_ := Aside0.mk (hb); have n4_ := Aside0.mk (hi); clear BK231; clear HK; clear HB; clear HI0; have BK231 := n0_; have HO241 := n1_; have HK := n2_; have HB := n3_; have HI0 := n4_; clear n0_ n1_ n2_ n3_ n4_; (try clear hb); (try clear hb2); (try clear hk); (try clear hi); (try clear ho0); have hnb8 := NB231_0.out; have hnc8 := NB0_231.out; have hcz9_0 : w7.cell? ⟨gb231, 0, none⟩ = some (.int .i64 0) := (blk_cell BK231.out 0).trans rfl; have hcz9_1 : w7.cell? ⟨gb231, 1, none⟩ = some (.int .i64 0) := (blk_cell BK231.out 1).trans rfl; have hcz9_2 : w7.cell? ⟨gb231, 2, none⟩ = some (.string (⟨#[]⟩ : ByteArray)) := (blk_cell BK231.out 2).trans rfl; have hcz9_3 : w7.cell? ⟨gb231, 3, none⟩ = some (.string (⟨#[]⟩ : ByteArray)) := (blk_cell BK231.out 3).trans rfl; have hcz9_4 : w7.cell? ⟨gb231, 4, none⟩ = some (.slice none 0 0) := (blk_cell BK231.out 4).trans rfl; have hcz9_5 : w7.cell? ⟨gb231, 5, none⟩ = some (.bool false) := (blk_cell BK231.out 5).trans rfl; have hfz9_0 := blk_frozen BK231.out 0; have hfz9_1 := blk_frozen BK231.out 1; have hfz9_2 := blk_frozen BK231.out 2; have hfz9_3 := blk_frozen BK231.out 3; have hfz9_4 := blk_frozen BK231.out 4; have hfz9_5 := blk_frozen BK231.out 5; obtain ⟨Ao10, co10, eo10⟩ := Kd.R_slice HO241.out; subst eo10))
    refine bodyPost_ret (results_ct rfl _ _ gb231 33 #[.int .i64 t235, .int .i64 t236, .string t237, .string t238, .slice Ao10 t239.length co10, .bool t242] (0, 0) _ rfl (by (with_reducible repeat (first | refine blk_drewN ?_ _ | refine blk_drew ?_ | refine blk_alloc ?_ _)); refine blk_put (cs := #[.int .i64 t235, .int .i64 t236, .string t237, .string t238, .slice Ao10 t239.length co10, .bool false]) ?_ 5 _ rfl; (with_reducible repeat (first | refine blk_drewN ?_ _ | refine blk_drew ?_ | refine blk_alloc ?_ _)); refine blk_put (cs := #[.int .i64 t235, .int .i64 t236, .string t237, .string t238, .slice none 0 0, .bool false]) ?_ 4 _ rfl; (with_reducible repeat (first | refine blk_drewN ?_ _ | refine blk_drew ?_ | refine blk_alloc ?_ _)); refine blk_put (cs := #[.int .i64 t235, .int .i64 t236, .string t237, .string (⟨#[]⟩ : ByteArray), .slice none 0 0, .bool false]) ?_ 3 _ rfl; (with_reducible repeat (first | refine blk_drewN ?_ _ | refine blk_drew ?_ | refine blk_alloc ?_ _)); refine blk_put (cs := #[.int .i64 t235, .int .i64 t236, .string (⟨#[]⟩ : ByteArray), .string (⟨#[]⟩ : ByteArray), .slice none 0 0, .bool false]) ?_ 2 _ rfl; (with_reducible repeat (first | refine blk_drewN ?_ _ | refine blk_drew ?_ | refine blk_alloc ?_ _)); refine blk_put (cs := #[.int .i64 t235, .int .i64 0, .string (⟨#[]⟩ : ByteArray), .string (⟨#[]⟩ : ByteArray), .slice none 0 0, .bool false]) ?_ 1 _ rfl; (with_reducible repeat (first | refine blk_drewN ?_ _ | refine blk_drew ?_ | refine blk_alloc ?_ _)); refine blk_put (cs := #[.int .i64 0, .int .i64 0, .string (⟨#[]⟩ : ByteArray), .string (⟨#[]⟩ : ByteArray), .slice none 0 0, .bool false]) ?_ 0 _ rfl; (with_reducible repeat (first | refine blk_drewN ?_ _ | refine blk_drew ?_ | refine blk_alloc ?_ _)); exact BK231.out) Tryd.underlying33 rfl (by kernel_rfl)) rfl ?_
    exact ⟨_, by first | rfl | (simp [errW_none, errW_some] <;> rfl) | (simp [*, errW_none, errW_some] <;> rfl), by (with_reducible repeat (first | apply Kd.R_alloc | apply Kd.R_drewN | apply Kd.R_drew)); exact Kd.R_mono (Kd.R_far (p := ⟨gb231, 5, none⟩) (Kd.R_far (p := ⟨gb231, 4, none⟩) (Kd.R_far (p := ⟨gb231, 3, none⟩) (Kd.R_far (p := ⟨gb231, 2, none⟩) (Kd.R_far (p := ⟨gb231, 1, none⟩) (Kd.R_far (p := ⟨gb231, 0, none⟩) (Kd.R_types HO241.out BK231.out (by decide)) (fun _ hk => hk.2) (.int .i64 t235)) (fun _ hk => hk.2) (.int .i64 t236)) (fun _ hk => hk.2) (.string t237)) (fun _ hk => hk.2) (.string t238)) (fun _ hk => hk.2) (.slice Ao10 t239.length co10)) (fun _ hk => hk.2) (.bool t242)) (fun _ hk => trivial), by repeat (first | (with_reducible first | exact HI0.out | apply IsS46.alloc | apply IsS46.drewN | apply IsS46.drew | apply IsS46.set_0 | apply IsS46.set_1 | refine IsS46.far ?_ NB0_231.out _) | exact HI0.out), by repeat (first | (with_reducible first | exact HB.out | apply below_alloc | apply pw_below_drewN | apply below_drew1 | refine below_set ?_ (IsS46.ge HI0.out) | refine below_set ?_ GE231.out) | exact HB.out), by repeat (first | (with_reducible first | exact HK.out | apply KeepBut.set_ | apply keep_drewN | apply keep_drew | apply keep_alloc | refine keep_far ?_ GW231.out _) | exact HK.out)⟩
  · replace c3 := Bool.eq_false_iff.mpr c3
    subst c3
    have H1 : ((token_walk_string_is.f t233 t234 (⟨#[60]⟩ : ByteArray)).bind fun bt246 => (if bt246.1 = true then ((G_open.f bt246.2.1 bt246.2.2).bind fun bt249 => (some (bt249.1, bt249.2.1, bt249.2.2.1, bt249.2.2.2.1, bt249.2.2.2.2.1, bt249.2.2.2.2.2.1, bt249.2.2.2.2.2.2.1, bt249.2.2.2.2.2.2.2.1, bt249.2.2.2.2.2.2.2.2))) else ((G_upTo.f bt246.2.1 bt246.2.2 (⟨#[60]⟩ : ByteArray)).bind fun bt260 => ((G_Back.f bt260.1).bind fun bt264 => (some (3, 0, (⟨#[]⟩ : ByteArray), bt264.1, ([] : List (S35)), false, (bt264.2 == 0), bt260.2.2.1, bt260.2.2.2)))))) = some (r1, r2, r3, r4, r5, r6, r7, r8, r9) := by rw [if_neg (show ¬ (false = true) by decide)] at H; exact H
    clear H
    have H := H1
    clear H1
    replace H := Option.bind_eq_some_iff.mp H
    obtain ⟨⟨t246, t247, t248⟩, A110, H⟩ := H
    replace H : (if t246 = true then ((G_open.f t247 t248).bind fun bt249 => (some (bt249.1, bt249.2.1, bt249.2.2.1, bt249.2.2.2.1, bt249.2.2.2.2.1, bt249.2.2.2.2.2.1, bt249.2.2.2.2.2.2.1, bt249.2.2.2.2.2.2.2.1, bt249.2.2.2.2.2.2.2.2))) else ((G_upTo.f t247 t248 (⟨#[60]⟩ : ByteArray)).bind fun bt260 => ((G_Back.f bt260.1).bind fun bt264 => (some (3, 0, (⟨#[]⟩ : ByteArray), bt264.1, ([] : List (S35)), false, (bt264.2 == 0), bt260.2.2.1, bt260.2.2.2))))) = some (r1, r2, r3, r4, r5, r6, r7, r8, r9) := H
    have A11 := Aside0.mk A110
    clear A110
    by_cases c12 : t246 = true
    · subst c12
      have H1 : ((G_open.f t247 t248).bind fun bt249 => (some (bt249.1, bt249.2.1, bt249.2.2.1, bt249.2.2.2.1, bt249.2.2.2.2.1, bt249.2.2.2.2.2.1, bt249.2.2.2.2.2.2.1, bt249.2.2.2.2.2.2.2.1, bt249.2.2.2.2.2.2.2.2))) = some (r1, r2, r3, r4, r5, r6, r7, r8, r9) := by rw [if_pos rfl] at H; exact H
      clear H
      have H := H1
      clear H1
      replace H := Option.bind_eq_some_iff.mp H
      obtain ⟨⟨t249, t250, t251, t252, t253, t256, t257, t258, t259⟩, A130, H⟩ := H
      replace H : (some (t249, t250, t251, t252, t253, t256, t257, t258, t259)) = some (r1, r2, r3, r4, r5, r6, r7, r8, r9) := H
      have A13 := Aside0.mk A130
      clear A130
      simp only [Option.some.injEq, Prod.mk.injEq] at H
      obtain ⟨rfl, rfl, rfl, rfl, rfl, rfl, rfl, rfl, rfl⟩ := H
      go_enter Tryd.func17, Tryd.ntmps17
      go_wp2_with (first | ((with_reducible refine gate_dst (N := 2) rfl ?_); refine box_event ?hg (N := 2) ?hd (cs := #[.int .i64 0, .int .i64 0, .string (⟨#[]⟩ : ByteArray), .string (⟨#[]⟩ : ByteArray), .slice none 0 0, .bool false]) (t := 33) ?hr ?_; (case hd => rfl); (case hg => rfl); (case hr => first | (go_simp; done) | (go_simp; rfl)); intro gb231 hg w14 hbox hb; have n0_ := Aside0.mk (IsS46.below (by repeat (first | (with_reducible first | exact HI0.out | apply IsS46.alloc | apply IsS46.drewN | apply IsS46.drew | apply IsS46.set_0 | apply IsS46.set_1) | exact HI0.out)) hb); have n1_ := Aside0.mk (KeepBut.trans (by repeat (first | (with_reducible first | exact HK.out | apply KeepBut.set_ | apply keep_drewN | apply keep_drew | apply keep_alloc) | exact HK.out)) (KeepBut.of_below hb g none) (.inl rfl)); have n2_ := Aside0.mk (below_step (by repeat (first | (with_reducible first | exact HB.out | apply below_alloc | apply pw_below_drewN | apply below_drew1 | refine below_set ?_ (IsS46.ge HI0.out)) | exact HB.out)) hb); have n3_ := Aside0.mk (hbox); have n4_ := Aside0.mk ((by rw [hg]; exact (keep_size (w := w) (g := g) (row := none) (by repeat (first | (with_reducible first | exact HK.out | apply KeepBut.set_ | apply keep_drewN | apply keep_drew | apply keep_alloc) | exact HK.out))) : w.heap.size ≤ gb231)); have n5_ := Aside0.mk ((Nat.le_trans HW0.out (by rw [hg]; exact (keep_size (w := w) (g := g) (row := none) (by repeat (first | (with_reducible first | exact HK.out | apply KeepBut.set_ | apply keep_drewN | apply keep_drew | apply keep_alloc) | exact HK.out))) : w.heap.size ≤ gb231) : w0.heap.size ≤ gb231)); have n6_ := Aside0.mk ((by rw [hg]; exact Nat.ne_of_lt (IsS46.lt (show IsS46 w0 _ g s0_0 s0_1 from by repeat (first | (with_reducible first | exact HI0.out | apply IsS46.alloc | apply IsS46.drewN | apply IsS46.drew | apply IsS46.set_0 | apply IsS46.set_1) | exact HI0.out))) : g ≠ gb231)); have n7_ := Aside0.mk ((by rw [hg]; exact Nat.ne_of_gt (IsS46.lt (show IsS46 w0 _ g s0_0 s0_1 from by repeat (first | (with_reducible first | exact HI0.out | apply IsS46.alloc | apply IsS46.drewN | apply IsS46.drew | apply IsS46.set_0 | apply IsS46.set_1) | exact HI0.out))) : gb231 ≠ g)); clear HI0; clear HK; clear HB; have HI0 := n0_; have HK := n1_; have HB := n2_; have BK231 := n3_; have GW231 := n4_; have GE231 := n5_; have NB0_231 := n6_; have NB231_0 := n7_; clear n0_ n1_ n2_ n3_ n4_ n5_ n6_ n7_; clear hb hbox hg) | ((with_reducible refine gate_callee (f := 15) rfl ?_); refine goesL_ (some 10) rfl rfl Tryd.func15 (by kernel_rfl) rfl #[.pointer (some ⟨g, 0, none⟩), .string (⟨#[60, 47]⟩ : ByteArray)] rfl (by (try simp only [List.map_toArray, List.map_cons, List.map_nil]); first | done | rfl | (simp only [List.length_drop, List.length_take]; rfl)) ?_; (with_reducible refine (token_walk_string_is.calls g s0_0 s0_1 (⟨#[60, 47]⟩ : ByteArray) false t233 t234 w0 _ HG.out ?side1 ?side2 A2.out).mono ?_); (case side1 => repeat (first | (with_reducible first | exact HI0.out | apply IsS46.alloc | apply IsS46.drewN | apply IsS46.drew | apply IsS46.set_0 | apply IsS46.set_1 | refine IsS46.far ?_ NB0_231.out _) | exact HI0.out)); (case side2 => repeat (first | (with_reducible first | exact HB.out | apply below_alloc | apply pw_below_drewN | apply below_drew1 | refine below_set ?_ (IsS46.ge HI0.out) | refine below_set ?_ GE231.out) | exact HB.out)); rintro e w15 ⟨rfl, hi, hb, hk⟩; refine ⟨_, rfl, ?_⟩; have n0_ := Aside0.mk (KeepBut.blk hk (g' := gb231) (o := .cells #[.int .i64 0, .int .i64 0, .string (⟨#[]⟩ : ByteArray), .string (⟨#[]⟩ : ByteArray), .slice none 0 0, .bool false] 33 (0, 0)) (by (with_reducible repeat (first | refine blk_drewN ?_ _ | refine blk_drew ?_ | refine blk_alloc ?_ _)); exact BK231.out) NB231_0.out (by simp)); have n1_ := Aside0.mk (KeepBut.trans (by repeat (first | (with_reducible first | exact HK.out | apply KeepBut.set_ | apply keep_drewN | apply keep_drew | apply keep_alloc | refine keep_far ?_ GW231.out _) | exact HK.out)) hk (.inl rfl)); have n2_ := Aside0.mk (hb); have n3_ := Aside0.mk (hi); clear BK231; clear HK; clear HB; clear HI0; have BK231 := n0_; have HK := n1_; have HB := n2_; have HI0 := n3_; clear n0_ n1_ n2_ n3_; (try clear hb); (try clear hb2); (try clear hk); (try clear hi)) | ((with_reducible refine gate_callee (f := 15) rfl ?_); refine goesL_ (some 17) rfl rfl Tryd.func15 (by kernel_rfl) rfl #[.pointer (some ⟨g, 0, none⟩), .string (⟨#[60]⟩ : ByteArray)] rfl (by (try simp only [List.map_toArray, List.map_cons, List.map_nil]); first | done | rfl | (simp only [List.length_drop, List.length_take]; rfl)) ?_; (with_reducible refine (token_walk_string_is.calls g t233 t234 (⟨#[60]⟩ : ByteArray) true t247 t248 w0 _ HG.out ?side1 ?side2 A11.out).mono ?_); (case side1 => repeat (first | (with_reducible first | exact HI0.out | apply IsS46.alloc | apply IsS46.drewN | apply IsS46.drew | apply IsS46.set_0 | apply IsS46.set_1 | refine IsS46.far ?_ NB0_231.out _) | exact HI0.out)); (case side2 => repeat (first | (with_reducible first | exact HB.out | apply below_alloc | apply pw_below_drewN | apply below_drew1 | refine below_set ?_ (IsS46.ge HI0.out) | refine below_set ?_ GE231.out) | exact HB.out)); rintro e w16 ⟨rfl, hi, hb, hk⟩; refine ⟨_, rfl, ?_⟩; have n0_ := Aside0.mk (KeepBut.blk hk (g' := gb231) (o := .cells #[.int .i64 0, .int .i64 0, .string (⟨#[]⟩ : ByteArray), .string (⟨#[]⟩ : ByteArray), .slice none 0 0, .bool false] 33 (0, 0)) (by (with_reducible repeat (first | refine blk_drewN ?_ _ | refine blk_drew ?_ | refine blk_alloc ?_ _)); exact BK231.out) NB231_0.out (by simp)); have n1_ := Aside0.mk (KeepBut.trans (by repeat (first | (with_reducible first | exact HK.out | apply KeepBut.set_ | apply keep_drewN | apply keep_drew | apply keep_alloc | refine keep_far ?_ GW231.out _) | exact HK.out)) hk (.inl rfl)); have n2_ := Aside0.mk (hb); have n3_ := Aside0.mk (hi); clear BK231; clear HK; clear HB; clear HI0; have BK231 := n0_; have HK := n1_; have HB := n2_; have HI0 := n3_; clear n0_ n1_ n2_ n3_; (try clear hb); (try clear hb2); (try clear hk); (try clear hi)) | ((with_reducible refine gate_callee (f := 25) rfl ?_); refine goesL_ (some 19) rfl rfl Tryd.func25 (by kernel_rfl) rfl #[.pointer (some ⟨g, 0, none⟩)] rfl (by (try simp only [List.map_toArray, List.map_cons, List.map_nil]); first | done | rfl | (simp only [List.length_drop, List.length_take]; rfl)) ?_; (with_reducible refine (G_open.calls g t247 t248 t249 t250 t251 t252 t253 t256 t257 t258 t259 w0 _ HG.out ?side1 ?side2 A13.out).mono ?_); (case side1 => repeat (first | (with_reducible first | exact HI0.out | apply IsS46.alloc | apply IsS46.drewN | apply IsS46.drew | apply IsS46.set_0 | apply IsS46.set_1 | refine IsS46.far ?_ NB0_231.out _) | exact HI0.out)); (case side2 => repeat (first | (with_reducible first | exact HB.out | apply below_alloc | apply pw_below_drewN | apply below_drew1 | refine below_set ?_ (IsS46.ge HI0.out) | refine below_set ?_ GE231.out) | exact HB.out)); rintro e w17 ⟨v254, rfl, ho0, hi, hb, hk⟩; refine ⟨_, rfl, ?_⟩; have n0_ := Aside0.mk (KeepBut.blk hk (g' := gb231) (o := .cells #[.int .i64 0, .int .i64 0, .string (⟨#[]⟩ : ByteArray), .string (⟨#[]⟩ : ByteArray), .slice none 0 0, .bool false] 33 (0, 0)) (by (with_reducible repeat (first | refine blk_drewN ?_ _ | refine blk_drew ?_ | refine blk_alloc ?_ _)); exact BK231.out) NB231_0.out (by simp)); have n1_ := Aside0.mk (Kd.R_lower ho0 (keep_size (w := w) (g := g) (row := none) (by repeat (first | (with_reducible first | exact HK.out | apply KeepBut.set_ | apply keep_drewN | apply keep_drew | apply keep_alloc | refine keep_far ?_ GW231.out _) | exact HK.out)))); have n2_ := Aside0.mk (KeepBut.trans (by repeat (first | (with_reducible first | exact HK.out | apply KeepBut.set_ | apply keep_drewN | apply keep_drew | apply keep_alloc | refine keep_far ?_ GW231.out _) | exact HK.out)) hk (.inl rfl)); have n3_ := Aside0.mk (hb); have n4_ := Aside0.mk (hi); clear BK231; clear HK; clear HB; clear HI0; have BK231 := n0_; have HO255 := n1_; have HK := n2_; have HB := n3_; have HI0 := n4_; clear n0_ n1_ n2_ n3_ n4_; (try clear hb); (try clear hb2); (try clear hk); (try clear hi); (try clear ho0); have hnb18 := NB231_0.out; have hnc18 := NB0_231.out; have hcz19_0 : w17.cell? ⟨gb231, 0, none⟩ = some (.int .i64 0) := (blk_cell BK231.out 0).trans rfl; have hcz19_1 : w17.cell? ⟨gb231, 1, none⟩ = some (.int .i64 0) := (blk_cell BK231.out 1).trans rfl; have hcz19_2 : w17.cell? ⟨gb231, 2, none⟩ = some (.string (⟨#[]⟩ : ByteArray)) := (blk_cell BK231.out 2).trans rfl; have hcz19_3 : w17.cell? ⟨gb231, 3, none⟩ = some (.string (⟨#[]⟩ : ByteArray)) := (blk_cell BK231.out 3).trans rfl; have hcz19_4 : w17.cell? ⟨gb231, 4, none⟩ = some (.slice none 0 0) := (blk_cell BK231.out 4).trans rfl; have hcz19_5 : w17.cell? ⟨gb231, 5, none⟩ = some (.bool false) := (blk_cell BK231.out 5).trans rfl; have hfz19_0 := blk_frozen BK231.out 0; have hfz19_1 := blk_frozen BK231.out 1; have hfz19_2 := blk_frozen BK231.out 2; have hfz19_3 := blk_frozen BK231.out 3; have hfz19_4 := blk_frozen BK231.out 4; have hfz19_5 := blk_frozen BK231.out 5; obtain ⟨Ao20, co20, eo20⟩ := Kd.R_slice HO255.out; subst eo20))
      refine bodyPost_ret (results_ct rfl _ _ gb231 33 #[.int .i64 t249, .int .i64 t250, .string t251, .string t252, .slice Ao20 t253.length co20, .bool t256] (0, 0) _ rfl (by (with_reducible repeat (first | refine blk_drewN ?_ _ | refine blk_drew ?_ | refine blk_alloc ?_ _)); refine blk_put (cs := #[.int .i64 t249, .int .i64 t250, .string t251, .string t252, .slice Ao20 t253.length co20, .bool false]) ?_ 5 _ rfl; (with_reducible repeat (first | refine blk_drewN ?_ _ | refine blk_drew ?_ | refine blk_alloc ?_ _)); refine blk_put (cs := #[.int .i64 t249, .int .i64 t250, .string t251, .string t252, .slice none 0 0, .bool false]) ?_ 4 _ rfl; (with_reducible repeat (first | refine blk_drewN ?_ _ | refine blk_drew ?_ | refine blk_alloc ?_ _)); refine blk_put (cs := #[.int .i64 t249, .int .i64 t250, .string t251, .string (⟨#[]⟩ : ByteArray), .slice none 0 0, .bool false]) ?_ 3 _ rfl; (with_reducible repeat (first | refine blk_drewN ?_ _ | refine blk_drew ?_ | refine blk_alloc ?_ _)); refine blk_put (cs := #[.int .i64 t249, .int .i64 t250, .string (⟨#[]⟩ : ByteArray), .string (⟨#[]⟩ : ByteArray), .slice none 0 0, .bool false]) ?_ 2 _ rfl; (with_reducible repeat (first | refine blk_drewN ?_ _ | refine blk_drew ?_ | refine blk_alloc ?_ _)); refine blk_put (cs := #[.int .i64 t249, .int .i64 0, .string (⟨#[]⟩ : ByteArray), .string (⟨#[]⟩ : ByteArray), .slice none 0 0, .bool false]) ?_ 1 _ rfl; (with_reducible repeat (first | refine blk_drewN ?_ _ | refine blk_drew ?_ | refine blk_alloc ?_ _)); refine blk_put (cs := #[.int .i64 0, .int .i64 0, .string (⟨#[]⟩ : ByteArray), .string (⟨#[]⟩ : ByteArray), .slice none 0 0, .bool false]) ?_ 0 _ rfl; (with_reducible repeat (first | refine blk_drewN ?_ _ | refine blk_drew ?_ | refine blk_alloc ?_ _)); exact BK231.out) Tryd.underlying33 rfl (by kernel_rfl)) rfl ?_
      exact ⟨_, by first | rfl | (simp [errW_none, errW_some] <;> rfl) | (simp [*, errW_none, errW_some] <;> rfl), by (with_reducible repeat (first | apply Kd.R_alloc | apply Kd.R_drewN | apply Kd.R_drew)); exact Kd.R_mono (Kd.R_far (p := ⟨gb231, 5, none⟩) (Kd.R_far (p := ⟨gb231, 4, none⟩) (Kd.R_far (p := ⟨gb231, 3, none⟩) (Kd.R_far (p := ⟨gb231, 2, none⟩) (Kd.R_far (p := ⟨gb231, 1, none⟩) (Kd.R_far (p := ⟨gb231, 0, none⟩) (Kd.R_types HO255.out BK231.out (by decide)) (fun _ hk => hk.2) (.int .i64 t249)) (fun _ hk => hk.2) (.int .i64 t250)) (fun _ hk => hk.2) (.string t251)) (fun _ hk => hk.2) (.string t252)) (fun _ hk => hk.2) (.slice Ao20 t253.length co20)) (fun _ hk => hk.2) (.bool t256)) (fun _ hk => trivial), by repeat (first | (with_reducible first | exact HI0.out | apply IsS46.alloc | apply IsS46.drewN | apply IsS46.drew | apply IsS46.set_0 | apply IsS46.set_1 | refine IsS46.far ?_ NB0_231.out _) | exact HI0.out), by repeat (first | (with_reducible first | exact HB.out | apply below_alloc | apply pw_below_drewN | apply below_drew1 | refine below_set ?_ (IsS46.ge HI0.out) | refine below_set ?_ GE231.out) | exact HB.out), by repeat (first | (with_reducible first | exact HK.out | apply KeepBut.set_ | apply keep_drewN | apply keep_drew | apply keep_alloc | refine keep_far ?_ GW231.out _) | exact HK.out)⟩
    · replace c12 := Bool.eq_false_iff.mpr c12
      subst c12
      have H1 : ((G_upTo.f t247 t248 (⟨#[60]⟩ : ByteArray)).bind fun bt260 => ((G_Back.f bt260.1).bind fun bt264 => (some (3, 0, (⟨#[]⟩ : ByteArray), bt264.1, ([] : List (S35)), false, (bt264.2 == 0), bt260.2.2.1, bt260.2.2.2)))) = some (r1, r2, r3, r4, r5, r6, r7, r8, r9) := by rw [if_neg (show ¬ (false = true) by decide)] at H; exact H
      clear H
      have H := H1
      clear H1
      replace H := Option.bind_eq_some_iff.mp H
      obtain ⟨⟨t260, t261, t262, t263⟩, A210, H⟩ := H
      replace H : ((G_Back.f t260).bind fun bt264 => (some (3, 0, (⟨#[]⟩ : ByteArray), bt264.1, ([] : List (S35)), false, (bt264.2 == 0), t262, t263))) = some (r1, r2, r3, r4, r5, r6, r7, r8, r9) := H
      have A21 := Aside0.mk A210
      clear A210
      replace H := Option.bind_eq_some_iff.mp H
      obtain ⟨⟨t264, t265⟩, A220, H⟩ := H
      replace H : (some (3, 0, (⟨#[]⟩ : ByteArray), t264, ([] : List (S35)), false, (t265 == 0), t262, t263)) = some (r1, r2, r3, r4, r5, r6, r7, r8, r9) := H
      have A22 := Aside0.mk A220
      clear A220
      simp only [Option.some.injEq, Prod.mk.injEq] at H
      obtain ⟨rfl, rfl, rfl, rfl, rfl, rfl, rfl, rfl, rfl⟩ := H
      go_enter Tryd.func17, Tryd.ntmps17
      go_wp2_with (first | ((with_reducible refine gate_dst (N := 2) rfl ?_); refine box_event ?hg (N := 2) ?hd (cs := #[.int .i64 0, .int .i64 0, .string (⟨#[]⟩ : ByteArray), .string (⟨#[]⟩ : ByteArray), .slice none 0 0, .bool false]) (t := 33) ?hr ?_; (case hd => rfl); (case hg => rfl); (case hr => first | (go_simp; done) | (go_simp; rfl)); intro gb231 hg w23 hbox hb; have n0_ := Aside0.mk (IsS46.below (by repeat (first | (with_reducible first | exact HI0.out | apply IsS46.alloc | apply IsS46.drewN | apply IsS46.drew | apply IsS46.set_0 | apply IsS46.set_1) | exact HI0.out)) hb); have n1_ := Aside0.mk (KeepBut.trans (by repeat (first | (with_reducible first | exact HK.out | apply KeepBut.set_ | apply keep_drewN | apply keep_drew | apply keep_alloc) | exact HK.out)) (KeepBut.of_below hb g none) (.inl rfl)); have n2_ := Aside0.mk (below_step (by repeat (first | (with_reducible first | exact HB.out | apply below_alloc | apply pw_below_drewN | apply below_drew1 | refine below_set ?_ (IsS46.ge HI0.out)) | exact HB.out)) hb); have n3_ := Aside0.mk (hbox); have n4_ := Aside0.mk ((by rw [hg]; exact (keep_size (w := w) (g := g) (row := none) (by repeat (first | (with_reducible first | exact HK.out | apply KeepBut.set_ | apply keep_drewN | apply keep_drew | apply keep_alloc) | exact HK.out))) : w.heap.size ≤ gb231)); have n5_ := Aside0.mk ((Nat.le_trans HW0.out (by rw [hg]; exact (keep_size (w := w) (g := g) (row := none) (by repeat (first | (with_reducible first | exact HK.out | apply KeepBut.set_ | apply keep_drewN | apply keep_drew | apply keep_alloc) | exact HK.out))) : w.heap.size ≤ gb231) : w0.heap.size ≤ gb231)); have n6_ := Aside0.mk ((by rw [hg]; exact Nat.ne_of_lt (IsS46.lt (show IsS46 w0 _ g s0_0 s0_1 from by repeat (first | (with_reducible first | exact HI0.out | apply IsS46.alloc | apply IsS46.drewN | apply IsS46.drew | apply IsS46.set_0 | apply IsS46.set_1) | exact HI0.out))) : g ≠ gb231)); have n7_ := Aside0.mk ((by rw [hg]; exact Nat.ne_of_gt (IsS46.lt (show IsS46 w0 _ g s0_0 s0_1 from by repeat (first | (with_reducible first | exact HI0.out | apply IsS46.alloc | apply IsS46.drewN | apply IsS46.drew | apply IsS46.set_0 | apply IsS46.set_1) | exact HI0.out))) : gb231 ≠ g)); clear HI0; clear HK; clear HB; have HI0 := n0_; have HK := n1_; have HB := n2_; have BK231 := n3_; have GW231 := n4_; have GE231 := n5_; have NB0_231 := n6_; have NB231_0 := n7_; clear n0_ n1_ n2_ n3_ n4_ n5_ n6_ n7_; clear hb hbox hg) | ((with_reducible refine gate_callee (f := 15) rfl ?_); refine goesL_ (some 10) rfl rfl Tryd.func15 (by kernel_rfl) rfl #[.pointer (some ⟨g, 0, none⟩), .string (⟨#[60, 47]⟩ : ByteArray)] rfl (by (try simp only [List.map_toArray, List.map_cons, List.map_nil]); first | done | rfl | (simp only [List.length_drop, List.length_take]; rfl)) ?_; (with_reducible refine (token_walk_string_is.calls g s0_0 s0_1 (⟨#[60, 47]⟩ : ByteArray) false t233 t234 w0 _ HG.out ?side1 ?side2 A2.out).mono ?_); (case side1 => repeat (first | (with_reducible first | exact HI0.out | apply IsS46.alloc | apply IsS46.drewN | apply IsS46.drew | apply IsS46.set_0 | apply IsS46.set_1 | refine IsS46.far ?_ NB0_231.out _) | exact HI0.out)); (case side2 => repeat (first | (with_reducible first | exact HB.out | apply below_alloc | apply pw_below_drewN | apply below_drew1 | refine below_set ?_ (IsS46.ge HI0.out) | refine below_set ?_ GE231.out) | exact HB.out)); rintro e w24 ⟨rfl, hi, hb, hk⟩; refine ⟨_, rfl, ?_⟩; have n0_ := Aside0.mk (KeepBut.blk hk (g' := gb231) (o := .cells #[.int .i64 0, .int .i64 0, .string (⟨#[]⟩ : ByteArray), .string (⟨#[]⟩ : ByteArray), .slice none 0 0, .bool false] 33 (0, 0)) (by (with_reducible repeat (first | refine blk_drewN ?_ _ | refine blk_drew ?_ | refine blk_alloc ?_ _)); exact BK231.out) NB231_0.out (by simp)); have n1_ := Aside0.mk (KeepBut.trans (by repeat (first | (with_reducible first | exact HK.out | apply KeepBut.set_ | apply keep_drewN | apply keep_drew | apply keep_alloc | refine keep_far ?_ GW231.out _) | exact HK.out)) hk (.inl rfl)); have n2_ := Aside0.mk (hb); have n3_ := Aside0.mk (hi); clear BK231; clear HK; clear HB; clear HI0; have BK231 := n0_; have HK := n1_; have HB := n2_; have HI0 := n3_; clear n0_ n1_ n2_ n3_; (try clear hb); (try clear hb2); (try clear hk); (try clear hi)) | ((with_reducible refine gate_callee (f := 15) rfl ?_); refine goesL_ (some 17) rfl rfl Tryd.func15 (by kernel_rfl) rfl #[.pointer (some ⟨g, 0, none⟩), .string (⟨#[60]⟩ : ByteArray)] rfl (by (try simp only [List.map_toArray, List.map_cons, List.map_nil]); first | done | rfl | (simp only [List.length_drop, List.length_take]; rfl)) ?_; (with_reducible refine (token_walk_string_is.calls g t233 t234 (⟨#[60]⟩ : ByteArray) false t247 t248 w0 _ HG.out ?side1 ?side2 A11.out).mono ?_); (case side1 => repeat (first | (with_reducible first | exact HI0.out | apply IsS46.alloc | apply IsS46.drewN | apply IsS46.drew | apply IsS46.set_0 | apply IsS46.set_1 | refine IsS46.far ?_ NB0_231.out _) | exact HI0.out)); (case side2 => repeat (first | (with_reducible first | exact HB.out | apply below_alloc | apply pw_below_drewN | apply below_drew1 | refine below_set ?_ (IsS46.ge HI0.out) | refine below_set ?_ GE231.out) | exact HB.out)); rintro e w25 ⟨rfl, hi, hb, hk⟩; refine ⟨_, rfl, ?_⟩; have n0_ := Aside0.mk (KeepBut.blk hk (g' := gb231) (o := .cells #[.int .i64 0, .int .i64 0, .string (⟨#[]⟩ : ByteArray), .string (⟨#[]⟩ : ByteArray), .slice none 0 0, .bool false] 33 (0, 0)) (by (with_reducible repeat (first | refine blk_drewN ?_ _ | refine blk_drew ?_ | refine blk_alloc ?_ _)); exact BK231.out) NB231_0.out (by simp)); have n1_ := Aside0.mk (KeepBut.trans (by repeat (first | (with_reducible first | exact HK.out | apply KeepBut.set_ | apply keep_drewN | apply keep_drew | apply keep_alloc | refine keep_far ?_ GW231.out _) | exact HK.out)) hk (.inl rfl)); have n2_ := Aside0.mk (hb); have n3_ := Aside0.mk (hi); clear BK231; clear HK; clear HB; clear HI0; have BK231 := n0_; have HK := n1_; have HB := n2_; have HI0 := n3_; clear n0_ n1_ n2_ n3_; (try clear hb); (try clear hb2); (try clear hk); (try clear hi)) | ((with_reducible refine gate_callee (f := 26) rfl ?_); refine goesL_ (some 24) rfl rfl Tryd.func26 (by kernel_rfl) rfl #[.pointer (some ⟨g, 0, none⟩), .string (⟨#[60]⟩ : ByteArray)] rfl (by (try simp only [List.map_toArray, List.map_cons, List.map_nil]); first | done | rfl | (simp only [List.length_drop, List.length_take]; rfl)) ?_; (with_reducible refine (G_upTo.calls g t247 t248 (⟨#[60]⟩ : ByteArray) t260 t261 t262 t263 w0 _ HG.out ?side1 ?side2 A21.out).mono ?_); (case side1 => repeat (first | (with_reducible first | exact HI0.out | apply IsS46.alloc | apply IsS46.drewN | apply IsS46.drew | apply IsS46.set_0 | apply IsS46.set_1 | refine IsS46.far ?_ NB0_231.out _) | exact HI0.out)); (case side2 => repeat (first | (with_reducible first | exact HB.out | apply below_alloc | apply pw_below_drewN | apply below_drew1 | refine below_set ?_ (IsS46.ge HI0.out) | refine below_set ?_ GE231.out) | exact HB.out)); rintro e w26 ⟨rfl, hi, hb, hk⟩; refine ⟨_, rfl, ?_⟩; have n0_ := Aside0.mk (KeepBut.blk hk (g' := gb231) (o := .cells #[.int .i64 0, .int .i64 0, .string (⟨#[]⟩ : ByteArray), .string (⟨#[]⟩ : ByteArray), .slice none 0 0, .bool false] 33 (0, 0)) (by (with_reducible repeat (first | refine blk_drewN ?_ _ | refine blk_drew ?_ | refine blk_alloc ?_ _)); exact BK231.out) NB231_0.out (by simp)); have n1_ := Aside0.mk (KeepBut.trans (by repeat (first | (with_reducible first | exact HK.out | apply KeepBut.set_ | apply keep_drewN | apply keep_drew | apply keep_alloc | refine keep_far ?_ GW231.out _) | exact HK.out)) hk (.inl rfl)); have n2_ := Aside0.mk (hb); have n3_ := Aside0.mk (hi); clear BK231; clear HK; clear HB; clear HI0; have BK231 := n0_; have HK := n1_; have HB := n2_; have HI0 := n3_; clear n0_ n1_ n2_ n3_; (try clear hb); (try clear hb2); (try clear hk); (try clear hi)) | ((with_reducible refine gate_callee (f := 27) rfl ?_); refine goesL_ (some 29) rfl rfl Tryd.func27 (by kernel_rfl) rfl #[.string t260] rfl (by (try simp only [List.map_toArray, List.map_cons, List.map_nil]); first | done | rfl | (simp only [List.length_drop, List.length_take]; rfl)) ?_; (with_reducible refine (G_Back.calls t260 t264 t265 _ ?side1 A22.out).mono ?_); (case side1 => first | exact HG.out | exact Gd.drewN HG.out _ | exact Gd.drew HG.out | exact Gd.below HG.out (by repeat (first | (with_reducible first | exact HB.out | apply below_alloc | apply pw_below_drewN | apply below_drew1 | refine below_set ?_ (IsS46.ge HI0.out) | refine below_set ?_ GE231.out) | exact HB.out))); rintro e w27 ⟨rfl, hb⟩; refine ⟨_, rfl, ?_⟩; have n0_ := Aside0.mk (IsS46.below (by repeat (first | (with_reducible first | exact HI0.out | apply IsS46.alloc | apply IsS46.drewN | apply IsS46.drew | apply IsS46.set_0 | apply IsS46.set_1 | refine IsS46.far ?_ NB0_231.out _) | exact HI0.out)) hb); have n1_ := Aside0.mk (blk_below (g := gb231) (o := .cells #[.int .i64 0, .int .i64 0, .string (⟨#[]⟩ : ByteArray), .string (⟨#[]⟩ : ByteArray), .slice none 0 0, .bool false] 33 (0, 0)) (by (with_reducible repeat (first | refine blk_drewN ?_ _ | refine blk_drew ?_ | refine blk_alloc ?_ _)); exact BK231.out) hb); have n2_ := Aside0.mk (KeepBut.trans (by repeat (first | (with_reducible first | exact HK.out | apply KeepBut.set_ | apply keep_drewN | apply keep_drew | apply keep_alloc | refine keep_far ?_ GW231.out _) | exact HK.out)) (KeepBut.of_below hb g none) (.inl rfl)); have n3_ := Aside0.mk (below_step (by repeat (first | (with_reducible first | exact HB.out | apply below_alloc | apply pw_below_drewN | apply below_drew1 | refine below_set ?_ (IsS46.ge HI0.out) | refine below_set ?_ GE231.out) | exact HB.out)) hb); clear HI0; clear BK231; clear HK; clear HB; have HI0 := n0_; have BK231 := n1_; have HK := n2_; have HB := n3_; clear n0_ n1_ n2_ n3_; (try clear hb); (try clear hb2); (try clear hk); (try clear hi); have hnb28 := NB231_0.out; have hnc28 := NB0_231.out; have hcz29_0 : w27.cell? ⟨gb231, 0, none⟩ = some (.int .i64 0) := (blk_cell BK231.out 0).trans rfl; have hcz29_1 : w27.cell? ⟨gb231, 1, none⟩ = some (.int .i64 0) := (blk_cell BK231.out 1).trans rfl; have hcz29_2 : w27.cell? ⟨gb231, 2, none⟩ = some (.string (⟨#[]⟩ : ByteArray)) := (blk_cell BK231.out 2).trans rfl; have hcz29_3 : w27.cell? ⟨gb231, 3, none⟩ = some (.string (⟨#[]⟩ : ByteArray)) := (blk_cell BK231.out 3).trans rfl; have hcz29_4 : w27.cell? ⟨gb231, 4, none⟩ = some (.slice none 0 0) := (blk_cell BK231.out 4).trans rfl; have hcz29_5 : w27.cell? ⟨gb231, 5, none⟩ = some (.bool false) := (blk_cell BK231.out 5).trans rfl; have hfz29_0 := blk_frozen BK231.out 0; have hfz29_1 := blk_frozen BK231.out 1; have hfz29_2 := blk_frozen BK231.out 2; have hfz29_3 := blk_frozen BK231.out 3; have hfz29_4 := blk_frozen BK231.out 4; have hfz29_5 := blk_frozen BK231.out 5))
      refine bodyPost_ret (results_ct rfl _ _ gb231 33 #[.int .i64 3, .int .i64 0, .string (⟨#[]⟩ : ByteArray), .string t264, .slice none 0 0, .bool false] (0, 0) _ rfl (by (with_reducible repeat (first | refine blk_drewN ?_ _ | refine blk_drew ?_ | refine blk_alloc ?_ _)); refine blk_put (cs := #[.int .i64 3, .int .i64 0, .string (⟨#[]⟩ : ByteArray), .string t264, .slice none 0 0, .bool false]) ?_ 5 _ rfl; (with_reducible repeat (first | refine blk_drewN ?_ _ | refine blk_drew ?_ | refine blk_alloc ?_ _)); refine blk_put (cs := #[.int .i64 3, .int .i64 0, .string (⟨#[]⟩ : ByteArray), .string t264, .slice none 0 0, .bool false]) ?_ 4 _ rfl; (with_reducible repeat (first | refine blk_drewN ?_ _ | refine blk_drew ?_ | refine blk_alloc ?_ _)); refine blk_put (cs := #[.int .i64 3, .int .i64 0, .string (⟨#[]⟩ : ByteArray), .string (⟨#[]⟩ : ByteArray), .slice none 0 0, .bool false]) ?_ 3 _ rfl; (with_reducible repeat (first | refine blk_drewN ?_ _ | refine blk_drew ?_ | refine blk_alloc ?_ _)); refine blk_put (cs := #[.int .i64 3, .int .i64 0, .string (⟨#[]⟩ : ByteArray), .string (⟨#[]⟩ : ByteArray), .slice none 0 0, .bool false]) ?_ 2 _ rfl; (with_reducible repeat (first | refine blk_drewN ?_ _ | refine blk_drew ?_ | refine blk_alloc ?_ _)); refine blk_put (cs := #[.int .i64 3, .int .i64 0, .string (⟨#[]⟩ : ByteArray), .string (⟨#[]⟩ : ByteArray), .slice none 0 0, .bool false]) ?_ 1 _ rfl; (with_reducible repeat (first | refine blk_drewN ?_ _ | refine blk_drew ?_ | refine blk_alloc ?_ _)); refine blk_put (cs := #[.int .i64 0, .int .i64 0, .string (⟨#[]⟩ : ByteArray), .string (⟨#[]⟩ : ByteArray), .slice none 0 0, .bool false]) ?_ 0 _ rfl; (with_reducible repeat (first | refine blk_drewN ?_ _ | refine blk_drew ?_ | refine blk_alloc ?_ _)); exact BK231.out) Tryd.underlying33 rfl (by kernel_rfl)) rfl ?_
      exact ⟨_, by first | rfl | (simp [errW_none, errW_some] <;> rfl) | (simp [*, errW_none, errW_some] <;> rfl), by first | exact Kd.R_nil _ _ _ _ _ | exact Kd.N_nil _ _ _ _ _ | exact Kd.V_nil _ _ _ _ _ | exact Kd.Q_nil _ _ _ _ _ | exact Kd.S_nil _ _ _ _ _, by repeat (first | (with_reducible first | exact HI0.out | apply IsS46.alloc | apply IsS46.drewN | apply IsS46.drew | apply IsS46.set_0 | apply IsS46.set_1 | refine IsS46.far ?_ NB0_231.out _) | exact HI0.out), by repeat (first | (with_reducible first | exact HB.out | apply below_alloc | apply pw_below_drewN | apply below_drew1 | refine below_set ?_ (IsS46.ge HI0.out) | refine below_set ?_ GE231.out) | exact HB.out), by repeat (first | (with_reducible first | exact HK.out | apply KeepBut.set_ | apply keep_drewN | apply keep_drew | apply keep_alloc | refine keep_far ?_ GW231.out _) | exact HK.out)⟩

end Go.Proofs.YtfelfpjfjjgmoaaDoor.P
end
/- token.Tokens: what it answers, and what holds within it.  -/
section
set_option linter.unusedVariables false
namespace Go.Proofs.YtfelfpjfjjgmoaaDoor
open Go.RowKit Go.Shelf Go.Proofs.YtfelfpjfjjgmoaaDoorW.PrintWords Go.Proofs.YtfelfpjfjjgmoaaDoorW.PrintLast

abbrev prologL : ByteArray := ⟨#[60, 63, 120, 109, 108, 32, 118, 101, 114, 115, 105, 111, 110, 61, 39, 49, 46, 48, 39, 32, 101, 110, 99, 111, 100, 105, 110, 103, 61, 39, 85, 84, 70, 45, 56, 39, 63, 62]⟩
def tokJ : Nat → List P.S33 → ByteArray → ByteArray → Option (List P.S33 × Int × Int)
  | 0, _, _, _ => none
  | k + 1, l, s0, s1 =>
    if s1.toList = ([] : List UInt8) then some (l, 0, 0)
    else (P.token_next.f s0 s1).bind fun t =>
      if t.2.2.2.2.2.2.1 = false then some ([], wrap64 ((s0.size : Int) - (s1.size : Int)), 5)
      else if 10 < t.2.2.2.2.1.length then some ([], wrap64 ((s0.size : Int) - (s1.size : Int)), 4)
      else if 1000000000 < l.length then none
      else tokJ k (l ++ [⟨t.1, wrap64 ((s0.size : Int) - (s1.size : Int)), t.2.2.1, t.2.2.2.1, t.2.2.2.2.1, t.2.2.2.2.2.1⟩]) t.2.2.2.2.2.2.2.1 t.2.2.2.2.2.2.2.2
def G_Tokens.f (s : ByteArray) : Option (List P.S33 × Int × Int) :=
  if 20000 < s.size then some ([], 0, 4)
  else if validB s = false then some ([], 0, 3)
  else (P.token_walk_string_is.f s s prologL).bind fun r => tokJ (s.size + 2) [] r.2.1 r.2.2

/-- What holds within token.Tokens. -/
structure TokInv (w W : World) (g : Nat) (s0 s1 : ByteArray) (v : Value) (l : List P.S33) : Prop where
  hI : P.IsS46 w W g s0 s1
  hB : Below w.heap.size w W
  hR : Kd.S P.k33 33 W w.heap.size (fun k => k ≠ g) v l
/-- (*walk).at by hand: its printed text states the walk's box anew, and can't be imported beside (*walk).is. -/
theorem at_calls (g : Nat) (s0 s1 : ByteArray) (w0 w : World) (hI : P.IsS46 w0 w g s0 s1) :
    Calls Tryd.prog 16 #[.pointer (some ⟨g, 0, none⟩)] w fun e w' => e = .returned (.int .i64 (wrap64 ((s0.size : Int) - (s1.size : Int)))) ∧ Drawn0 w w' := by
  obtain ⟨hh, hge⟩ := hI
  have c0 := P.cellS46_0 hh
  have c1 := P.cellS46_1 hh
  clear hh
  go_enter Tryd.func16, Tryd.ntmps16
  go_wp2
  go_quiet (fail)
  go_wp2
  go_ret
  refine ⟨?_, ?_⟩
  · first | rfl | simp
  · first | exact Drawn0.refl _ | exact ⟨0, rfl⟩ | exact ⟨_, rfl⟩
namespace TokInv
variable {w W W' : World} {g : Nat} {s0 s1 : ByteArray} {v : Value} {l : List P.S33}
theorem below (h : TokInv w W g s0 s1 v l) (hb : Below W.heap.size W W') : TokInv w W' g s0 s1 v l := ⟨h.hI.below hb, below_step h.hB hb, Kd.S_below h.hR hb⟩
theorem call (h : TokInv w W g s0 s1 v l) {t0 t1 : ByteArray} (hi : P.IsS46 w W' g t0 t1) (hb : Below w.heap.size w W') (hk : KeepBut W W' g none) : TokInv w W' g t0 t1 v l :=
  ⟨hi, hb, Kd.S_keep h.hR hk (fun _ hk => hk)⟩
end TokInv
end Go.Proofs.YtfelfpjfjjgmoaaDoor
end
