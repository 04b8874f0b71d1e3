/- GrouperWhole returns true for every list of rows whose bulk is at most 1048576, and leaves its input as it was. Part 3 of 5. -/
import Derived.Test.YtnllgjloimoebaaDoorMWhole0
import Derived.Test.YtnllgjloimoebaaDoorMWhole1

-- By xprint.py (this session's own program over the kit's print): not trusted: Lean checks it.
namespace Go.Proofs.YtnllgjloimoebaaDoor.X
open Go.RowKit Go.Proofs.YtnllgjloimoebaaDoorW.PrintWords Go.Proofs.YtnllgjloimoebaaDoorW.PrintLast Go.Proofs.YtnllgjloimoebaaDoorW.PrintMore
attribute [local go_sem] max2_int min2_int max_two min_two max_three min_three max_four min_four   -- for this text's walks alone
set_option linter.unusedVariables false
set_option linter.unusedSimpArgs false

/-! ### api_Value: function 34 -/
def api_Value.l0 : Nat → List (S44) → List (S44) → List (S44) → Int → Int → Option (Int)
 | 0, _, _, _, _, _ => none
 | k + 1, x0, x1, x11, x12, x13 => if x13 < x12 then (if 0 ≤ x13 then (if x13 < (x11.length : Int) then (if x13 ≥ (x1.length : Int) then (some 1) else (if x13 < (x1.length : Int) then ((value_Order.f k ((rd_T44 x11 x13).f0) ((rd_T44 x11 x13).f1) ((rd_T44 x11 x13).f2) ((rd_T44 x1 x13).f0) ((rd_T44 x1 x13).f1) ((rd_T44 x1 x13).f2)).bind fun t339 => (if t339 = 0 then (api_Value.l0 k x0 x1 x11 x12 (wrap64 (x13 + 1))) else (some t339))) else (none))) else (none)) else (none)) else (if (x0.length : Int) < (x1.length : Int) then (some (-1)) else (some 0))
def api_Value.f (k : Nat) (l0 : List (S44)) (l1 : List (S44)) (a2 : Unit) : Option (Int) := api_Value.l0 k l0 l1 l0 (l0.length : Int) 0
end Go.Proofs.YtnllgjloimoebaaDoor.X

-- By xprint.py (this session's own program over the kit's print): not trusted: Lean checks it.
namespace Go.Proofs.YtnllgjloimoebaaDoor.X
open Go.RowKit Go.Proofs.YtnllgjloimoebaaDoorW.PrintWords Go.Proofs.YtnllgjloimoebaaDoorW.PrintLast Go.Proofs.YtnllgjloimoebaaDoorW.PrintMore
attribute [local go_sem] max2_int min2_int max_two min_two max_three min_three max_four min_four   -- for this text's walks alone
set_option linter.unusedVariables false
set_option linter.unusedSimpArgs false

/-! ### value_Orders: function 18 -/
def value_Orders.f (k : Nat) (l0 : List (S44)) (l1 : List (S44)) : Option (Int) := (api_Value.f k l0 l1 ()).bind fun t340 => (some t340)
end Go.Proofs.YtnllgjloimoebaaDoor.X

/- value.Order, slices.CompareFunc at rows, value.Orders: their printed walks over the stronger word. -/
namespace Go.Proofs.YtnllgjloimoebaaDoor.X.D
open Go.RowKit Go.Proofs.YtnllgjloimoebaaDoorW.PrintWords Go.Proofs.YtnllgjloimoebaaDoorW.PrintLast Go.Proofs.YtnllgjloimoebaaDoorW.PrintMore
attribute [local go_sem] max2_int min2_int max_two min_two max_three min_three max_four min_four   -- for this text's walks alone
set_option linter.unusedVariables false
set_option linter.unusedSimpArgs false

set_option maxHeartbeats 8000000 in
set_option maxRecDepth 100000 in
theorem value_Order.calls (k : Nat) (a0_0 : Int) (a0_1 : Int) (a0_2 : ByteArray) (a1_0 : Int) (a1_1 : Int) (a1_2 : ByteArray) (r : Int) (w : World) (h : value_Order.f k a0_0 a0_1 a0_2 a1_0 a1_1 a1_2 = some r) :
    Calls Tryd.prog 35 #[.agg #[.int .i64 a0_0, .int .i64 a0_1, .string a0_2], .agg #[.int .i64 a1_0, .int .i64 a1_1, .string a1_2]] w fun e w' => e = .returned (.int .i64 r) ∧ Below w.heap.size w w' := by
  have hu44 := Tryd.underlying44
  have HB := Aside0.mk (Below.refl w.heap.size w)
  have H : ((cmp_Compare_int.f a0_0 a1_0).bind fun t328 => ((cmp_Compare_int.f a0_1 a1_1).bind fun t329 => ((strings_Compare.f a0_2 a1_2).bind fun t330 => ((cmp_Or_int.f k (([t328, t329, t330] : List Int))).bind fun t334 => (some t334))))) = some r := h
  clear h
  replace H := Option.bind_eq_some_iff.mp H
  obtain ⟨t328, A30, H⟩ := H
  replace H : ((cmp_Compare_int.f a0_1 a1_1).bind fun t329 => ((strings_Compare.f a0_2 a1_2).bind fun t330 => ((cmp_Or_int.f k (([t328, t329, t330] : List Int))).bind fun t334 => (some t334)))) = some r := H
  have A3 := Aside0.mk A30
  clear A30
  replace H := Option.bind_eq_some_iff.mp H
  obtain ⟨t329, A40, H⟩ := H
  replace H : ((strings_Compare.f a0_2 a1_2).bind fun t330 => ((cmp_Or_int.f k (([t328, t329, t330] : List Int))).bind fun t334 => (some t334))) = some r := H
  have A4 := Aside0.mk A40
  clear A40
  replace H := Option.bind_eq_some_iff.mp H
  obtain ⟨t330, A50, H⟩ := H
  replace H : ((cmp_Or_int.f k (([t328, t329, t330] : List Int))).bind fun t334 => (some t334)) = some r := H
  have A5 := Aside0.mk A50
  clear A50
  obtain ⟨y331, hy331⟩ : ∃ y_ : List Int, y_ = (([t328, t329, t330] : List Int)) := ⟨_, rfl⟩
  replace H : ((cmp_Or_int.f k y331).bind fun t334 => (some t334)) = some r := by first | (rw [hy331]; with_reducible exact H) | (have H2_ := (Option.bind_some _ _).symm.trans H; rw [hy331]; with_reducible exact H2_) | (have H2_ := (Option.bind_some _ _).symm.trans H; with_reducible exact H2_) | with_reducible exact H | (rw [hy331]; exact H) | exact H
  have Ny331 := Aside0.mk hy331
  clear hy331
  replace H := Option.bind_eq_some_iff.mp H
  obtain ⟨t334, A60, H⟩ := H
  replace H : (some t334) = some r := H
  have A6 := Aside0.mk A60
  clear A60
  obtain rfl := Option.some.inj H
  go_enter Tryd.func35, Tryd.ntmps35
  try go_wp2_with (first | ((with_reducible refine gate_dst (N := 2) rfl ?_); refine box_event ?hg (N := 2) ?hd (cs := #[.int .i64 a0_0, .int .i64 a0_1, .string a0_2]) (t := 44) ?hr ?_; (case hd => rfl); (case hg => rfl); (case hr => first | (go_simp; done) | (go_simp; rfl)); intro gb326 hg w7 hbox hb; have n0_ := Aside0.mk (below_step (by repeat (first | (with_reducible first | exact HB.out | apply below_alloc | apply pw_below_drewN | apply below_drew1) | exact HB.out)) hb); have n1_ := Aside0.mk (hbox); have n2_ := Aside0.mk ((by rw [hg]; exact (below_size (by repeat (first | (with_reducible first | exact HB.out | apply below_alloc | apply pw_below_drewN | apply below_drew1) | exact HB.out))) : w.heap.size ≤ gb326)); have n3_ := Aside0.mk ((by rw [hg]; exact (below_size (by repeat (first | (with_reducible first | exact HB.out | apply below_alloc | apply pw_below_drewN | apply below_drew1) | exact HB.out))) : w.heap.size ≤ gb326)); clear HB; have HB := n0_; have BK326 := n1_; have GW326 := n2_; have GE326 := n3_; clear n0_ n1_ n2_ n3_; clear hb hbox hg) | ((with_reducible refine gate_dst (N := 3) rfl ?_); refine box_event ?hg (N := 3) ?hd (cs := #[.int .i64 a1_0, .int .i64 a1_1, .string a1_2]) (t := 44) ?hr ?_; (case hd => rfl); (case hg => rfl); (case hr => first | (go_simp; done) | (go_simp; rfl)); intro gb327 hg w8 hbox hb; have n0_ := Aside0.mk (blk_below (g := gb326) (o := .cells #[.int .i64 a0_0, .int .i64 a0_1, .string a0_2] 44 (0, 0)) (by (with_reducible repeat (first | refine blk_drewN ?_ _ | refine blk_drew ?_ | refine blk_alloc ?_ _)); exact BK326.out) hb); have n1_ := Aside0.mk (below_step (by repeat (first | (with_reducible first | exact HB.out | apply below_alloc | apply pw_below_drewN | apply below_drew1 | refine below_set ?_ GE326.out) | exact HB.out)) hb); have n2_ := Aside0.mk (hbox); have n3_ := Aside0.mk ((by rw [hg]; exact (below_size (by repeat (first | (with_reducible first | exact HB.out | apply below_alloc | apply pw_below_drewN | apply below_drew1 | refine below_set ?_ GE326.out) | exact HB.out))) : w.heap.size ≤ gb327)); have n4_ := Aside0.mk ((by rw [hg]; exact (below_size (by repeat (first | (with_reducible first | exact HB.out | apply below_alloc | apply pw_below_drewN | apply below_drew1 | refine below_set ?_ GE326.out) | exact HB.out))) : w.heap.size ≤ gb327)); have n5_ := Aside0.mk ((by rw [hg]; exact Nat.ne_of_lt (blk_lt (g := gb326) (o := .cells #[.int .i64 a0_0, .int .i64 a0_1, .string a0_2] 44 (0, 0)) (by (with_reducible repeat (first | refine blk_drewN ?_ _ | refine blk_drew ?_ | refine blk_alloc ?_ _)); exact BK326.out)) : gb326 ≠ gb327)); have n6_ := Aside0.mk ((by rw [hg]; exact Nat.ne_of_gt (blk_lt (g := gb326) (o := .cells #[.int .i64 a0_0, .int .i64 a0_1, .string a0_2] 44 (0, 0)) (by (with_reducible repeat (first | refine blk_drewN ?_ _ | refine blk_drew ?_ | refine blk_alloc ?_ _)); exact BK326.out)) : gb327 ≠ gb326)); clear BK326; clear HB; have BK326 := n0_; have HB := n1_; have BK327 := n2_; have GW327 := n3_; have GE327 := n4_; have NB326_327 := n5_; have NB327_326 := n6_; clear n0_ n1_ n2_ n3_ n4_ n5_ n6_; clear hb hbox hg))
  have n0_ := Aside0.mk (blk_drew BK326.out)
  have n1_ := Aside0.mk (blk_drew BK327.out)
  have n2_ := Aside0.mk (below_drew1 HB.out)
  clear BK326
  clear BK327
  clear HB
  have BK326 := n0_
  have BK327 := n1_
  have HB := n2_
  clear n0_ n1_ n2_
  refine start_ (n := 18) (S := fun w' => w'.cell? ⟨gb326, 0, none⟩ = some (.int .i64 a0_0) ∧ w'.cell? ⟨gb326, 1, none⟩ = some (.int .i64 a0_1) ∧ w'.cell? ⟨gb326, 2, none⟩ = some (.string a0_2) ∧ w'.cell? ⟨gb327, 0, none⟩ = some (.int .i64 a1_0) ∧ w'.cell? ⟨gb327, 1, none⟩ = some (.int .i64 a1_1) ∧ w'.cell? ⟨gb327, 2, none⟩ = some (.string a1_2)) (ds := []) #[false, false, false, false, false, false, false, false, false, false, false, false, false, false, false, false, false, false] (by kernel_rfl) rfl rfl ⟨(blk_cell BK326.out 0).trans rfl, (blk_cell BK326.out 1).trans rfl, (blk_cell BK326.out 2).trans rfl, (blk_cell BK327.out 0).trans rfl, (blk_cell BK327.out 1).trans rfl, (blk_cell BK327.out 2).trans rfl⟩ (fun hHeld => ?_); refine with_tabW value_Order.tab1 value_Order.bits1 (fun HT_ HW_ => ?_)
  generalize w8.drew = w9 at BK326 BK327 HB hHeld ⊢
  refine pure_ (i := 0) (N := some 5) (v := ?_) (a' := ?_) #[true, false, false, false, false, false, false, false, false, false, false, false, false, false, false, false, false, false] rfl rfl (any_of HT_.out (by kernel_rfl)) (fun _ _ _ h => h) (Or.inl ⟨by rfl, ?_⟩) ?_ ?_
  rotate_left
  · intro w'
    go_simp
    with_reducible rfl
  rotate_left
  · simp only [Act.put, List.setIfInBounds_toArray, List.set_cons_zero, List.set_cons_succ, i64_w, i32_w]
    rfl
  refine pure_ (i := 2) (N := some 7) (v := ?_) (a' := ?_) #[true, false, true, false, false, false, false, false, false, false, false, false, false, false, false, false, false, false] rfl rfl (any_of HT_.out (by kernel_rfl)) (fun _ _ _ h => h) (Or.inl ⟨by rfl, ?_⟩) ?_ ?_
  rotate_left
  · intro w'
    go_simp
    with_reducible rfl
  rotate_left
  · simp only [Act.put, List.setIfInBounds_toArray, List.set_cons_zero, List.set_cons_succ, i64_w, i32_w]
    rfl
  refine pure_ (i := 5) (N := some 10) (v := ?_) (a' := ?_) #[true, false, true, false, false, true, false, false, false, false, false, false, false, false, false, false, false, false] rfl rfl (any_of HT_.out (by kernel_rfl)) (fun _ _ _ h => h) (Or.inl ⟨by rfl, ?_⟩) ?_ ?_
  rotate_left
  · intro w'
    go_simp
    with_reducible rfl
  rotate_left
  · simp only [Act.put, List.setIfInBounds_toArray, List.set_cons_zero, List.set_cons_succ, i64_w, i32_w]
    rfl
  refine pure_ (i := 7) (N := some 12) (v := ?_) (a' := ?_) #[true, false, true, false, false, true, false, true, false, false, false, false, false, false, false, false, false, false] rfl rfl (any_of HT_.out (by kernel_rfl)) (fun _ _ _ h => h) (Or.inl ⟨by rfl, ?_⟩) ?_ ?_
  rotate_left
  · intro w'
    go_simp
    with_reducible rfl
  rotate_left
  · simp only [Act.put, List.setIfInBounds_toArray, List.set_cons_zero, List.set_cons_succ, i64_w, i32_w]
    rfl
  refine pure_ (i := 10) (N := some 15) (v := ?_) (a' := ?_) #[true, false, true, false, false, true, false, true, false, false, true, false, false, false, false, false, false, false] rfl rfl (any_of HT_.out (by kernel_rfl)) (fun _ _ _ h => h) (Or.inl ⟨by rfl, ?_⟩) ?_ ?_
  rotate_left
  · intro w'
    go_simp
    with_reducible rfl
  rotate_left
  · simp only [Act.put, List.setIfInBounds_toArray, List.set_cons_zero, List.set_cons_succ, i64_w, i32_w]
    rfl
  refine pure_ (i := 12) (N := some 17) (v := ?_) (a' := ?_) #[true, false, true, false, false, true, false, true, false, false, true, false, true, false, false, false, false, false] rfl rfl (any_of HT_.out (by kernel_rfl)) (fun _ _ _ h => h) (Or.inl ⟨by rfl, ?_⟩) ?_ ?_
  rotate_left
  · intro w'
    go_simp
    with_reducible rfl
  rotate_left
  · simp only [Act.put, List.setIfInBounds_toArray, List.set_cons_zero, List.set_cons_succ, i64_w, i32_w]
    rfl
  refine take_ (i := 1) (N := some 6) (v := ?_) (a' := ?_) #[true, true, true, false, false, true, false, true, false, false, true, false, true, false, false, false, false, false] rfl rfl (take_ofW HT_.out HW_.out (by kernel_rfl)) (fun _ _ _ h => h) (Or.inl ⟨by rfl, ?_⟩) hHeld ?_ ?_
  rotate_left
  · rintro w' ⟨s0, s1, s2, s3, s4, s5⟩
    go_simp
    with_reducible rfl
  rotate_left
  · simp only [Act.put, List.setIfInBounds_toArray, List.set_cons_zero, List.set_cons_succ, i64_w, i32_w]
    rfl
  refine take_ (i := 3) (N := some 8) (v := ?_) (a' := ?_) #[true, true, true, true, false, true, false, true, false, false, true, false, true, false, false, false, false, false] rfl rfl (take_ofW HT_.out HW_.out (by kernel_rfl)) (fun _ _ _ h => h) (Or.inl ⟨by rfl, ?_⟩) hHeld ?_ ?_
  rotate_left
  · rintro w' ⟨s0, s1, s2, s3, s4, s5⟩
    go_simp
    with_reducible rfl
  rotate_left
  · simp only [Act.put, List.setIfInBounds_toArray, List.set_cons_zero, List.set_cons_succ, i64_w, i32_w]
    rfl
  refine take_ (i := 6) (N := some 11) (v := ?_) (a' := ?_) #[true, true, true, true, false, true, true, true, false, false, true, false, true, false, false, false, false, false] rfl rfl (take_ofW HT_.out HW_.out (by kernel_rfl)) (fun _ _ _ h => h) (Or.inl ⟨by rfl, ?_⟩) hHeld ?_ ?_
  rotate_left
  · rintro w' ⟨s0, s1, s2, s3, s4, s5⟩
    go_simp
    with_reducible rfl
  rotate_left
  · simp only [Act.put, List.setIfInBounds_toArray, List.set_cons_zero, List.set_cons_succ, i64_w, i32_w]
    rfl
  refine take_ (i := 8) (N := some 13) (v := ?_) (a' := ?_) #[true, true, true, true, false, true, true, true, true, false, true, false, true, false, false, false, false, false] rfl rfl (take_ofW HT_.out HW_.out (by kernel_rfl)) (fun _ _ _ h => h) (Or.inl ⟨by rfl, ?_⟩) hHeld ?_ ?_
  rotate_left
  · rintro w' ⟨s0, s1, s2, s3, s4, s5⟩
    go_simp
    with_reducible rfl
  rotate_left
  · simp only [Act.put, List.setIfInBounds_toArray, List.set_cons_zero, List.set_cons_succ, i64_w, i32_w]
    rfl
  refine take_ (i := 11) (N := some 16) (v := ?_) (a' := ?_) #[true, true, true, true, false, true, true, true, true, false, true, true, true, false, false, false, false, false] rfl rfl (take_ofW HT_.out HW_.out (by kernel_rfl)) (fun _ _ _ h => h) (Or.inl ⟨by rfl, ?_⟩) hHeld ?_ ?_
  rotate_left
  · rintro w' ⟨s0, s1, s2, s3, s4, s5⟩
    go_simp
    with_reducible rfl
  rotate_left
  · simp only [Act.put, List.setIfInBounds_toArray, List.set_cons_zero, List.set_cons_succ, i64_w, i32_w]
    rfl
  refine take_ (i := 13) (N := some 18) (v := ?_) (a' := ?_) #[true, true, true, true, false, true, true, true, true, false, true, true, true, true, false, false, false, false] rfl rfl (take_ofW HT_.out HW_.out (by kernel_rfl)) (fun _ _ _ h => h) (Or.inl ⟨by rfl, ?_⟩) hHeld ?_ ?_
  rotate_left
  · rintro w' ⟨s0, s1, s2, s3, s4, s5⟩
    go_simp
    with_reducible rfl
  rotate_left
  · simp only [Act.put, List.setIfInBounds_toArray, List.set_cons_zero, List.set_cons_succ, i64_w, i32_w]
    rfl
  refine one_ (i := 4) (N := some 9) #[true, true, true, true, true, true, true, true, true, false, true, true, true, true, false, false, false, false] rfl rfl (one_of HT_.out (by kernel_rfl)) (by decide) (fun K hK => ?_)
  refine goes_ Tryd.func45 (by kernel_rfl) rfl #[.int .i64 a0_0, .int .i64 a1_0] (by rfl) rfl rfl (by (try simp only [List.map_toArray, List.map_cons, List.map_nil]); first | done | rfl | (simp only [List.length_drop, List.length_take]; rfl)) ?_
  with_reducible refine (cmp_Compare_int.calls a0_0 a1_0 t328 _ A3.out).mono ?_
  rintro e w' ⟨rfl, ⟨nd, rfl⟩⟩
  refine ⟨_, rfl, ?_⟩
  refine hK.out _ _ ⟨(blk_cell BK326.out 0).trans rfl, (blk_cell BK326.out 1).trans rfl, (blk_cell BK326.out 2).trans rfl, (blk_cell BK327.out 0).trans rfl, (blk_cell BK327.out 1).trans rfl, (blk_cell BK327.out 2).trans rfl⟩ (fun hHeld => ?_)
  clear hK K
  refine norm_ (a' := ?_) ?_ ?_
  rotate_left
  · show Act.put _ (some 9) _ = _
    simp only [Act.put, List.setIfInBounds_toArray, List.set_cons_zero, List.set_cons_succ, i64_w, i32_w]
    rfl
  refine one_ (i := 9) (N := some 14) #[true, true, true, true, true, true, true, true, true, true, true, true, true, true, false, false, false, false] rfl rfl (one_of HT_.out (by kernel_rfl)) (by decide) (fun K hK => ?_)
  refine goes_ Tryd.func45 (by kernel_rfl) rfl #[.int .i64 a0_1, .int .i64 a1_1] (by rfl) rfl rfl (by (try simp only [List.map_toArray, List.map_cons, List.map_nil]); first | done | rfl | (simp only [List.length_drop, List.length_take]; rfl)) ?_
  with_reducible refine (cmp_Compare_int.calls a0_1 a1_1 t329 _ A4.out).mono ?_
  rintro e w' ⟨rfl, ⟨nd, rfl⟩⟩
  refine ⟨_, rfl, ?_⟩
  refine hK.out _ _ ⟨(blk_cell BK326.out 0).trans rfl, (blk_cell BK326.out 1).trans rfl, (blk_cell BK326.out 2).trans rfl, (blk_cell BK327.out 0).trans rfl, (blk_cell BK327.out 1).trans rfl, (blk_cell BK327.out 2).trans rfl⟩ (fun hHeld => ?_)
  clear hK K
  refine norm_ (a' := ?_) ?_ ?_
  rotate_left
  · show Act.put _ (some 14) _ = _
    simp only [Act.put, List.setIfInBounds_toArray, List.set_cons_zero, List.set_cons_succ, i64_w, i32_w]
    rfl
  refine one_ (i := 14) (N := some 19) #[true, true, true, true, true, true, true, true, true, true, true, true, true, true, true, false, false, false] rfl rfl (one_of HT_.out (by kernel_rfl)) (by decide) (fun K hK => ?_)
  refine goes_ Tryd.func54 (by kernel_rfl) rfl #[.string a0_2, .string a1_2] (by rfl) rfl rfl (by (try simp only [List.map_toArray, List.map_cons, List.map_nil]); first | done | rfl | (simp only [List.length_drop, List.length_take]; rfl)) ?_
  with_reducible refine (strings_Compare.calls a0_2 a1_2 t330 _ A5.out).mono ?_
  rintro e w' ⟨rfl, ⟨nd, rfl⟩⟩
  refine ⟨_, rfl, ?_⟩
  refine hK.out _ _ ⟨(blk_cell BK326.out 0).trans rfl, (blk_cell BK326.out 1).trans rfl, (blk_cell BK326.out 2).trans rfl, (blk_cell BK327.out 0).trans rfl, (blk_cell BK327.out 1).trans rfl, (blk_cell BK327.out 2).trans rfl⟩ (fun hHeld => ?_)
  clear hK K
  refine norm_ (a' := ?_) ?_ ?_
  rotate_left
  · show Act.put _ (some 19) _ = _
    simp only [Act.put, List.setIfInBounds_toArray, List.set_cons_zero, List.set_cons_succ, i64_w, i32_w]
    rfl
  refine one_ (i := 15) (N := some 20) #[true, true, true, true, true, true, true, true, true, true, true, true, true, true, true, true, false, false] rfl rfl (one_of HT_.out (by kernel_rfl)) (by decide) (fun K hK => ?_)
  refine Kd.R_lit_step (Kd.int .i64) _ 3 ?hg (N := 20) ?hd (xs := ([t328, t329, t330] : List Int)) (inner := [.int .i64 t328, .int .i64 t329, .int .i64 t330]) (ok := fun _ => True) (okp := fun _ => True) ?hr ?hp (fun _ hk => hk) trivial (Below.refl _ _) (Nat.le_refl _) (by simp) ?_; (case hd => rfl); (case hg => rfl); (case hr => first | (go_simp; done) | (go_simp; rfl)); (case hp => exact (Reps.one (show Kd.M (Kd.int .i64) _ _ _ t328 [.int .i64 t328] from rfl) (Reps.one (show Kd.M (Kd.int .i64) _ _ _ t329 [.int .i64 t329] from rfl) (Reps.one (show Kd.M (Kd.int .i64) _ _ _ t330 [.int .i64 t330] from rfl) (Reps.none _ _)))))
  intro v332 w10 ho11 hb hg_ hnew_
  clear hg_ hnew_
  (first | rw [← Ny331.out] at ho11 | (simp only [Int.reduceToNat] at ho11; rw [← Ny331.out] at ho11))
  have n0_ := Aside0.mk (Kd.R_lower ho11 (below_size (by repeat (first | (with_reducible first | exact HB.out | apply below_alloc | apply pw_below_drewN | apply below_drew1 | refine below_set ?_ GE326.out | refine below_set ?_ GE327.out) | exact HB.out))))
  have n1_ := Aside0.mk (blk_below (g := gb326) (o := .cells #[.int .i64 a0_0, .int .i64 a0_1, .string a0_2] 44 (0, 0)) (by (with_reducible repeat (first | refine blk_drewN ?_ _ | refine blk_drew ?_ | refine blk_alloc ?_ _)); exact BK326.out) hb)
  have n2_ := Aside0.mk (blk_below (g := gb327) (o := .cells #[.int .i64 a1_0, .int .i64 a1_1, .string a1_2] 44 (0, 0)) (by (with_reducible repeat (first | refine blk_drewN ?_ _ | refine blk_drew ?_ | refine blk_alloc ?_ _)); exact BK327.out) hb)
  have n3_ := Aside0.mk (below_step (by repeat (first | (with_reducible first | exact HB.out | apply below_alloc | apply pw_below_drewN | apply below_drew1 | refine below_set ?_ GE326.out | refine below_set ?_ GE327.out) | exact HB.out)) hb)
  clear BK326
  clear BK327
  clear HB
  have HO333 := n0_
  have BK326 := n1_
  have BK327 := n2_
  have HB := n3_
  clear n0_ n1_ n2_ n3_
  clear hb ho11
  obtain ⟨Ao12, co12, eo12⟩ := Kd.R_slice HO333.out
  (first | subst eo12 | (injection eo12 with f1_ f2_ f3_; have f4_ := f1_.symm; have f5_ := f3_.symm; clear f1_ f2_ f3_; subst f4_; subst f5_))
  refine hK.out _ _ ⟨(blk_cell BK326.out 0).trans rfl, (blk_cell BK326.out 1).trans rfl, (blk_cell BK326.out 2).trans rfl, (blk_cell BK327.out 0).trans rfl, (blk_cell BK327.out 1).trans rfl, (blk_cell BK327.out 2).trans rfl⟩ (fun hHeld => ?_)
  clear hK K
  refine norm_ (a' := ?_) ?_ ?_
  rotate_left
  · show Act.put _ (some 20) _ = _
    simp only [Act.put, List.setIfInBounds_toArray, List.set_cons_zero, List.set_cons_succ, i64_w, i32_w]
    rfl
  refine one_ (i := 16) (N := some 21) #[true, true, true, true, true, true, true, true, true, true, true, true, true, true, true, true, true, false] rfl rfl (one_of HT_.out (by kernel_rfl)) (by decide) (fun K hK => ?_)
  refine goes_ Tryd.func44 (by kernel_rfl) rfl #[.slice Ao12 y331.length co12] (by rfl) rfl rfl (by (try simp only [List.map_toArray, List.map_cons, List.map_nil]); first | done | rfl | (simp only [List.length_drop, List.length_take]; rfl)) ?_
  with_reducible refine (cmp_Or_int.calls k _ _ y331 t334 _ ?side1 ?side2 A6.out).mono ?_
  (case side1 => repeat (first | exact (Kd.R_reads' HO333.out).2.2 | (with_reducible refine Kd.C_alloc ?_ _) | (with_reducible refine Kd.C_drewN ?_ _) | (with_reducible refine Kd.C_drew ?_)))
  (case side2 => exact (Kd.R_reads' HO333.out).2.1)
  rintro e w' ⟨rfl, ⟨nd, rfl⟩⟩
  refine ⟨_, rfl, ?_⟩
  refine hK.out _ _ ⟨(blk_cell BK326.out 0).trans rfl, (blk_cell BK326.out 1).trans rfl, (blk_cell BK326.out 2).trans rfl, (blk_cell BK327.out 0).trans rfl, (blk_cell BK327.out 1).trans rfl, (blk_cell BK327.out 2).trans rfl⟩ (fun hHeld => ?_)
  clear hK K
  refine norm_ (a' := ?_) ?_ ?_
  rotate_left
  · show Act.put _ (some 21) _ = _
    simp only [Act.put, List.setIfInBounds_toArray, List.set_cons_zero, List.set_cons_succ, i64_w, i32_w]
    rfl
  refine pure_ (i := 17) (N := some 4) (v := ?_) (a' := ?_) #[true, true, true, true, true, true, true, true, true, true, true, true, true, true, true, true, true, true] rfl rfl (any_of HT_.out (by kernel_rfl)) (fun _ _ _ h => h) (Or.inl ⟨by rfl, ?_⟩) ?_ ?_
  rotate_left
  · intro w'
    go_simp
    with_reducible rfl
  rotate_left
  · simp only [Act.put, List.setIfInBounds_toArray, List.set_cons_zero, List.set_cons_succ, i64_w, i32_w]
    rfl
  refine done_ (done_of HT_.out (by kernel_rfl)) ?_
  try go_wp2
  go_ret
  exact ⟨by first | rfl | (simp [errW_none, errW_some] <;> rfl) | (simp [*, errW_none, errW_some] <;> rfl), by repeat (first | (with_reducible first | exact HB.out | apply below_alloc | apply pw_below_drewN | apply below_drew1 | refine below_set ?_ GE326.out | refine below_set ?_ GE327.out) | exact HB.out)⟩


set_option maxHeartbeats 8000000 in
set_option maxRecDepth 100000 in
theorem api_Value.calls (k : Nat) (A0 : Option Addr) (c0 : Nat) (l0 : List (S44)) (A1 : Option Addr) (c1 : Nat) (l1 : List (S44)) (a2 : Unit) (r : Int) (w : World) (hr0 : Kd.C k44 w A0 l0.length l0) (hc0 : l0.length ≤ c0) (hr1 : Kd.C k44 w A1 l1.length l1) (hc1 : l1.length ≤ c1) (h : api_Value.f k l0 l1 a2 = some r) :
    Calls Tryd.prog 34 #[.slice A0 l0.length c0, .slice A1 l1.length c1, .func (.func 35) #[] #[]] w fun e w' => e = .returned (.int .i64 r) ∧ Below w.heap.size w w' := by
  have hu44 := Tryd.underlying44
  have HR0 := Aside0.mk hr0
  have HC0 := Aside0.mk hc0
  clear hr0 hc0
  have HR1 := Aside0.mk hr1
  have HC1 := Aside0.mk hc1
  clear hr1 hc1
  have HB := Aside0.mk (Below.refl w.heap.size w)
  have H : (api_Value.l0 k l0 l1 l0 (l0.length : Int) 0) = some r := h
  clear h
  have H' := Aside0.mk H
  clear H
  go_enter Tryd.func34, Tryd.ntmps34
  go_wp2
  go_loopg [13] k (fun kq v13 w' => ∃ (x13_1 : Int), v13 = .int .i64 x13_1 ∧ Aside0 (api_Value.l0 kq l0 l1 l0 (l0.length : Int) x13_1 = some r) ∧ Aside0 (kq ≤ k) ∧ Aside0 (Below w.heap.size w w'))
  case atStart => exact ⟨(0), (by first | rfl | (simp; done) | (simp [*]; done)), H', ⟨Nat.le_refl _⟩, ⟨by repeat (first | (with_reducible first | exact HB.out | apply below_alloc | apply pw_below_drewN | apply below_drew1) | exact HB.out)⟩⟩
  case round =>
    clear H'
    try clear c1
    try clear p2
    try clear c3
    obtain ⟨x13_1, rfl, HA, HK1, HB⟩ := hrel
    cases gk with
    | zero => exact absurd HA.out (by simp [api_Value.l0])
    | succ k1 =>
      have H := HA.out
      clear HA
      simp only [api_Value.l0] at H
      by_cases c4 : x13_1 < (l0.length : Int)
      · rw [if_pos c4] at H
        have c4b0 : decide (x13_1 < (l0.length : Int)) = true := decide_eq_true c4
        clear c4
        by_cases c5 : 0 ≤ x13_1
        · rw [if_pos c5] at H
          have c5b0 : decide (0 ≤ x13_1) = true := decide_eq_true c5
          clear c5
          by_cases c6 : x13_1 < (l0.length : Int)
          · rw [if_pos c6] at H
            have c6b0 : decide (x13_1 < (l0.length : Int)) = true := decide_eq_true c6
            clear c6
            by_cases c7 : x13_1 ≥ (l1.length : Int)
            · rw [if_pos c7] at H
              have c7b0 : decide ((l1.length : Int) ≤ x13_1) = true := decide_eq_true c7
              clear c7
              obtain rfl := Option.some.inj H
              have p335 : 0 ≤ (x13_1 : Int) := of_decide_eq_true (by first | (with_reducible assumption) | assumption)
              have q335 : x13_1 < (l0.length : Int) := of_decide_eq_true (by first | (with_reducible assumption) | assumption)
              obtain ⟨ad335, e335, hx335_0, hx335_1, hx335_2⟩ := at_T44 HR0.out x13_1 p335 q335
              cases e335
              replace hx335_0 := (HB.out.cell (World.block_lt_of_cell? w _ hx335_0)).trans hx335_0
              replace hx335_1 := (HB.out.cell (World.block_lt_of_cell? w _ hx335_1)).trans hx335_1
              replace hx335_2 := (HB.out.cell (World.block_lt_of_cell? w _ hx335_2)).trans hx335_2
              replace p335 := eq_true p335
              replace q335 := eq_true q335
              go_wp2_with (first | ((with_reducible refine gate_dst (N := 8) rfl ?_); refine box_event ?hg (N := 8) ?hd (cs := #[.int .i64 0, .int .i64 0, .string (⟨#[]⟩ : ByteArray)]) (t := 44) ?hr ?_; (case hd => rfl); (case hg => rfl); (case hr => first | (go_simp; done) | (go_simp; rfl)); intro gb336 hg w8 hbox hb; have n0_ := Aside0.mk (below_step (by repeat (first | (with_reducible first | exact HB.out | apply below_alloc | apply pw_below_drewN | apply below_drew1) | exact HB.out)) hb); have n1_ := Aside0.mk (hbox); have n2_ := Aside0.mk ((by rw [hg]; exact (below_size (by repeat (first | (with_reducible first | exact HB.out | apply below_alloc | apply pw_below_drewN | apply below_drew1) | exact HB.out))) : w.heap.size ≤ gb336)); have n3_ := Aside0.mk ((by rw [hg]; exact (below_size (by repeat (first | (with_reducible first | exact HB.out | apply below_alloc | apply pw_below_drewN | apply below_drew1) | exact HB.out))) : w.heap.size ≤ gb336)); clear HB; have HB := n0_; have BK336 := n1_; have GW336 := n2_; have GE336 := n3_; clear n0_ n1_ n2_ n3_; clear hb hbox hg; have hcz9_0 : w8.cell? ⟨gb336, 0, none⟩ = some (.int .i64 0) := (blk_cell BK336.out 0).trans rfl; have hcz9_1 : w8.cell? ⟨gb336, 1, none⟩ = some (.int .i64 0) := (blk_cell BK336.out 1).trans rfl; have hcz9_2 : w8.cell? ⟨gb336, 2, none⟩ = some (.string (⟨#[]⟩ : ByteArray)) := (blk_cell BK336.out 2).trans rfl; have hfz9_0 := blk_frozen BK336.out 0; have hfz9_1 := blk_frozen BK336.out 1; have hfz9_2 := blk_frozen BK336.out 2))
              go_ret
              exact ⟨by first | rfl | (simp [errW_none, errW_some] <;> rfl) | (simp [*, errW_none, errW_some] <;> rfl), by repeat (first | (with_reducible first | exact HB.out | apply below_alloc | apply pw_below_drewN | apply below_drew1 | refine below_set ?_ GE336.out) | exact HB.out)⟩
            · rw [if_neg c7] at H
              have c7b0 : decide ((l1.length : Int) ≤ x13_1) = false := decide_eq_false c7
              clear c7
              by_cases c10 : x13_1 < (l1.length : Int)
              · rw [if_pos c10] at H
                have c10b0 : decide (x13_1 < (l1.length : Int)) = true := decide_eq_true c10
                clear c10
                replace H := Option.bind_eq_some_iff.mp H
                obtain ⟨t339, A110, H⟩ := H
                replace H : (if t339 = 0 then (api_Value.l0 k1 l0 l1 l0 (l0.length : Int) (wrap64 (x13_1 + 1))) else (some t339)) = some r := H
                have A11 := Aside0.mk A110
                clear A110
                by_cases c12 : t339 = 0
                · rw [if_pos c12] at H
                  have c12b0 : (t339 == 0) = true := beq_iff_eq.mpr c12
                  have c12b1 : (t339 != 0) = false := bne_eq_false_iff_eq.mpr c12
                  clear c12
                  have H' := Aside0.mk H
                  clear H
                  have p335 : 0 ≤ (x13_1 : Int) := of_decide_eq_true (by first | (with_reducible assumption) | assumption)
                  have q335 : x13_1 < (l0.length : Int) := of_decide_eq_true (by first | (with_reducible assumption) | assumption)
                  obtain ⟨ad335, e335, hx335_0, hx335_1, hx335_2⟩ := at_T44 HR0.out x13_1 p335 q335
                  cases e335
                  replace hx335_0 := (HB.out.cell (World.block_lt_of_cell? w _ hx335_0)).trans hx335_0
                  replace hx335_1 := (HB.out.cell (World.block_lt_of_cell? w _ hx335_1)).trans hx335_1
                  replace hx335_2 := (HB.out.cell (World.block_lt_of_cell? w _ hx335_2)).trans hx335_2
                  replace p335 := eq_true p335
                  replace q335 := eq_true q335
                  go_wp2_with (first | ((with_reducible refine gate_dst (N := 8) rfl ?_); refine box_event ?hg (N := 8) ?hd (cs := #[.int .i64 0, .int .i64 0, .string (⟨#[]⟩ : ByteArray)]) (t := 44) ?hr ?_; (case hd => rfl); (case hg => rfl); (case hr => first | (go_simp; done) | (go_simp; rfl)); intro gb336 hg w13 hbox hb; have n0_ := Aside0.mk (below_step (by repeat (first | (with_reducible first | exact HB.out | apply below_alloc | apply pw_below_drewN | apply below_drew1) | exact HB.out)) hb); have n1_ := Aside0.mk (hbox); have n2_ := Aside0.mk ((by rw [hg]; exact (below_size (by repeat (first | (with_reducible first | exact HB.out | apply below_alloc | apply pw_below_drewN | apply below_drew1) | exact HB.out))) : w.heap.size ≤ gb336)); have n3_ := Aside0.mk ((by rw [hg]; exact (below_size (by repeat (first | (with_reducible first | exact HB.out | apply below_alloc | apply pw_below_drewN | apply below_drew1) | exact HB.out))) : w.heap.size ≤ gb336)); clear HB; have HB := n0_; have BK336 := n1_; have GW336 := n2_; have GE336 := n3_; clear n0_ n1_ n2_ n3_; clear hb hbox hg; have hcz14_0 : w13.cell? ⟨gb336, 0, none⟩ = some (.int .i64 0) := (blk_cell BK336.out 0).trans rfl; have hcz14_1 : w13.cell? ⟨gb336, 1, none⟩ = some (.int .i64 0) := (blk_cell BK336.out 1).trans rfl; have hcz14_2 : w13.cell? ⟨gb336, 2, none⟩ = some (.string (⟨#[]⟩ : ByteArray)) := (blk_cell BK336.out 2).trans rfl; have hfz14_0 := blk_frozen BK336.out 0; have hfz14_1 := blk_frozen BK336.out 1; have hfz14_2 := blk_frozen BK336.out 2; have p337 : 0 ≤ (x13_1 : Int) := of_decide_eq_true (by first | (with_reducible assumption) | assumption); have q337 : x13_1 < (l1.length : Int) := of_decide_eq_true (by first | (with_reducible assumption) | assumption); obtain ⟨ad337, e337, hx337_0, hx337_1, hx337_2⟩ := at_T44 HR1.out x13_1 p337 q337; cases e337; have hn337_0 : ad337.block ≠ gb336 := Nat.ne_of_lt (Nat.lt_of_lt_of_le (by have := World.block_lt_of_cell? _ _ hx337_0; first | rwa [add_block] at this | exact this) GW336.out); have hn337_1 : ad337.block ≠ gb336 := Nat.ne_of_lt (Nat.lt_of_lt_of_le (by have := World.block_lt_of_cell? _ _ hx337_0; first | rwa [add_block] at this | exact this) GW336.out); have hn337_2 : ad337.block ≠ gb336 := Nat.ne_of_lt (Nat.lt_of_lt_of_le (by have := World.block_lt_of_cell? _ _ hx337_0; first | rwa [add_block] at this | exact this) GW336.out); replace hx337_0 := (HB.out.cell (World.block_lt_of_cell? w _ hx337_0)).trans hx337_0; replace hx337_1 := (HB.out.cell (World.block_lt_of_cell? w _ hx337_1)).trans hx337_1; replace hx337_2 := (HB.out.cell (World.block_lt_of_cell? w _ hx337_2)).trans hx337_2; replace hx337_0 := (cell_far (p := ⟨gb336, 0, none⟩) (by first | (rw [add_block]; exact hn337_0) | (show (Addr.add _ _).block ≠ _; rw [add_block]; exact hn337_0) | exact hn337_0) (.int .i64 ((rd_T44 l0 x13_1).f0))).trans hx337_0; replace hx337_1 := (cell_far (p := ⟨gb336, 0, none⟩) (by first | (rw [add_block]; exact hn337_0) | (show (Addr.add _ _).block ≠ _; rw [add_block]; exact hn337_0) | exact hn337_0) (.int .i64 ((rd_T44 l0 x13_1).f0))).trans hx337_1; replace hx337_2 := (cell_far (p := ⟨gb336, 0, none⟩) (by first | (rw [add_block]; exact hn337_0) | (show (Addr.add _ _).block ≠ _; rw [add_block]; exact hn337_0) | exact hn337_0) (.int .i64 ((rd_T44 l0 x13_1).f0))).trans hx337_2; replace hx337_0 := (cell_far (p := ⟨gb336, 1, none⟩) (by first | (rw [add_block]; exact hn337_1) | (show (Addr.add _ _).block ≠ _; rw [add_block]; exact hn337_1) | exact hn337_1) (.int .i64 ((rd_T44 l0 x13_1).f1))).trans hx337_0; replace hx337_1 := (cell_far (p := ⟨gb336, 1, none⟩) (by first | (rw [add_block]; exact hn337_1) | (show (Addr.add _ _).block ≠ _; rw [add_block]; exact hn337_1) | exact hn337_1) (.int .i64 ((rd_T44 l0 x13_1).f1))).trans hx337_1; replace hx337_2 := (cell_far (p := ⟨gb336, 1, none⟩) (by first | (rw [add_block]; exact hn337_1) | (show (Addr.add _ _).block ≠ _; rw [add_block]; exact hn337_1) | exact hn337_1) (.int .i64 ((rd_T44 l0 x13_1).f1))).trans hx337_2; replace hx337_0 := (cell_far (p := ⟨gb336, 2, none⟩) (by first | (rw [add_block]; exact hn337_2) | (show (Addr.add _ _).block ≠ _; rw [add_block]; exact hn337_2) | exact hn337_2) (.string ((rd_T44 l0 x13_1).f2))).trans hx337_0; replace hx337_1 := (cell_far (p := ⟨gb336, 2, none⟩) (by first | (rw [add_block]; exact hn337_2) | (show (Addr.add _ _).block ≠ _; rw [add_block]; exact hn337_2) | exact hn337_2) (.string ((rd_T44 l0 x13_1).f2))).trans hx337_1; replace hx337_2 := (cell_far (p := ⟨gb336, 2, none⟩) (by first | (rw [add_block]; exact hn337_2) | (show (Addr.add _ _).block ≠ _; rw [add_block]; exact hn337_2) | exact hn337_2) (.string ((rd_T44 l0 x13_1).f2))).trans hx337_2; clear hn337_0; clear hn337_1; clear hn337_2; replace p337 := eq_true p337; replace q337 := eq_true q337) | ((with_reducible refine gate_dst (N := 9) rfl ?_); refine box_event ?hg (N := 9) ?hd (cs := #[.int .i64 0, .int .i64 0, .string (⟨#[]⟩ : ByteArray)]) (t := 44) ?hr ?_; (case hd => rfl); (case hg => rfl); (case hr => first | (go_simp; done) | (go_simp; rfl)); intro gb338 hg w15 hbox hb; have n0_ := Aside0.mk (blk_below (g := gb336) (o := .cells #[.int .i64 ((rd_T44 l0 x13_1).f0), .int .i64 ((rd_T44 l0 x13_1).f1), .string ((rd_T44 l0 x13_1).f2)] 44 (0, 0)) (by (with_reducible repeat (first | refine blk_drewN ?_ _ | refine blk_drew ?_ | refine blk_alloc ?_ _)); refine blk_put (cs := #[.int .i64 ((rd_T44 l0 x13_1).f0), .int .i64 ((rd_T44 l0 x13_1).f1), .string (⟨#[]⟩ : ByteArray)]) ?_ 2 _ rfl; (with_reducible repeat (first | refine blk_drewN ?_ _ | refine blk_drew ?_ | refine blk_alloc ?_ _)); refine blk_put (cs := #[.int .i64 ((rd_T44 l0 x13_1).f0), .int .i64 0, .string (⟨#[]⟩ : ByteArray)]) ?_ 1 _ rfl; (with_reducible repeat (first | refine blk_drewN ?_ _ | refine blk_drew ?_ | refine blk_alloc ?_ _)); refine blk_put (cs := #[.int .i64 0, .int .i64 0, .string (⟨#[]⟩ : ByteArray)]) ?_ 0 _ rfl; (with_reducible repeat (first | refine blk_drewN ?_ _ | refine blk_drew ?_ | refine blk_alloc ?_ _)); exact BK336.out) hb); have n1_ := Aside0.mk (below_step (by repeat (first | (with_reducible first | exact HB.out | apply below_alloc | apply pw_below_drewN | apply below_drew1 | refine below_set ?_ GE336.out) | exact HB.out)) hb); have n2_ := Aside0.mk (hbox); have n3_ := Aside0.mk ((by rw [hg]; exact (below_size (by repeat (first | (with_reducible first | exact HB.out | apply below_alloc | apply pw_below_drewN | apply below_drew1 | refine below_set ?_ GE336.out) | exact HB.out))) : w.heap.size ≤ gb338)); have n4_ := Aside0.mk ((by rw [hg]; exact (below_size (by repeat (first | (with_reducible first | exact HB.out | apply below_alloc | apply pw_below_drewN | apply below_drew1 | refine below_set ?_ GE336.out) | exact HB.out))) : w.heap.size ≤ gb338)); have n5_ := Aside0.mk ((by rw [hg]; exact Nat.ne_of_lt (blk_lt (g := gb336) (o := .cells #[.int .i64 ((rd_T44 l0 x13_1).f0), .int .i64 ((rd_T44 l0 x13_1).f1), .string ((rd_T44 l0 x13_1).f2)] 44 (0, 0)) (by (with_reducible repeat (first | refine blk_drewN ?_ _ | refine blk_drew ?_ | refine blk_alloc ?_ _)); refine blk_put (cs := #[.int .i64 ((rd_T44 l0 x13_1).f0), .int .i64 ((rd_T44 l0 x13_1).f1), .string (⟨#[]⟩ : ByteArray)]) ?_ 2 _ rfl; (with_reducible repeat (first | refine blk_drewN ?_ _ | refine blk_drew ?_ | refine blk_alloc ?_ _)); refine blk_put (cs := #[.int .i64 ((rd_T44 l0 x13_1).f0), .int .i64 0, .string (⟨#[]⟩ : ByteArray)]) ?_ 1 _ rfl; (with_reducible repeat (first | refine blk_drewN ?_ _ | refine blk_drew ?_ | refine blk_alloc ?_ _)); refine blk_put (cs := #[.int .i64 0, .int .i64 0, .string (⟨#[]⟩ : ByteArray)]) ?_ 0 _ rfl; (with_reducible repeat (first | refine blk_drewN ?_ _ | refine blk_drew ?_ | refine blk_alloc ?_ _)); exact BK336.out)) : gb336 ≠ gb338)); have n6_ := Aside0.mk ((by rw [hg]; exact Nat.ne_of_gt (blk_lt (g := gb336) (o := .cells #[.int .i64 ((rd_T44 l0 x13_1).f0), .int .i64 ((rd_T44 l0 x13_1).f1), .string ((rd_T44 l0 x13_1).f2)] 44 (0, 0)) (by (with_reducible repeat (first | refine blk_drewN ?_ _ | refine blk_drew ?_ | refine blk_alloc ?_ _)); refine blk_put (cs := #[.int .i64 ((rd_T44 l0 x13_1).f0), .int .i64 ((rd_T44 l0 x13_1).f1), .string (⟨#[]⟩ : ByteArray)]) ?_ 2 _ rfl; (with_reducible repeat (first | refine blk_drewN ?_ _ | refine blk_drew ?_ | refine blk_alloc ?_ _)); refine blk_put (cs := #[.int .i64 ((rd_T44 l0 x13_1).f0), .int .i64 0, .string (⟨#[]⟩ : ByteArray)]) ?_ 1 _ rfl; (with_reducible repeat (first | refine blk_drewN ?_ _ | refine blk_drew ?_ | refine blk_alloc ?_ _)); refine blk_put (cs := #[.int .i64 0, .int .i64 0, .string (⟨#[]⟩ : ByteArray)]) ?_ 0 _ rfl; (with_reducible repeat (first | refine blk_drewN ?_ _ | refine blk_drew ?_ | refine blk_alloc ?_ _)); exact BK336.out)) : gb338 ≠ gb336)); clear BK336; clear HB; have BK336 := n0_; have HB := n1_; have BK338 := n2_; have GW338 := n3_; have GE338 := n4_; have NB336_338 := n5_; have NB338_336 := n6_; clear n0_ n1_ n2_ n3_ n4_ n5_ n6_; clear hb hbox hg; have hnb16 := NB338_336.out; have hnc16 := NB336_338.out; have hcz17_0 : w15.cell? ⟨gb338, 0, none⟩ = some (.int .i64 0) := (blk_cell BK338.out 0).trans rfl; have hcz17_1 : w15.cell? ⟨gb338, 1, none⟩ = some (.int .i64 0) := (blk_cell BK338.out 1).trans rfl; have hcz17_2 : w15.cell? ⟨gb338, 2, none⟩ = some (.string (⟨#[]⟩ : ByteArray)) := (blk_cell BK338.out 2).trans rfl; have hfz17_0 := blk_frozen BK338.out 0; have hfz17_1 := blk_frozen BK338.out 1; have hfz17_2 := blk_frozen BK338.out 2; have hcz18_0 : w15.cell? ⟨gb336, 0, none⟩ = some (.int .i64 ((rd_T44 l0 x13_1).f0)) := (blk_cell BK336.out 0).trans rfl; have hcz18_1 : w15.cell? ⟨gb336, 1, none⟩ = some (.int .i64 ((rd_T44 l0 x13_1).f1)) := (blk_cell BK336.out 1).trans rfl; have hcz18_2 : w15.cell? ⟨gb336, 2, none⟩ = some (.string ((rd_T44 l0 x13_1).f2)) := (blk_cell BK336.out 2).trans rfl; have hfz18_0 := blk_frozen BK336.out 0; have hfz18_1 := blk_frozen BK336.out 1; have hfz18_2 := blk_frozen BK336.out 2) | ((with_reducible refine gate_dst (N := 29) rfl ?_); refine goesVL_ (some 29) rfl rfl Tryd.func35 (by kernel_rfl) rfl #[.agg #[.int .i64 ((rd_T44 l0 x13_1).f0), .int .i64 ((rd_T44 l0 x13_1).f1), .string ((rd_T44 l0 x13_1).f2)], .agg #[.int .i64 ((rd_T44 l1 x13_1).f0), .int .i64 ((rd_T44 l1 x13_1).f1), .string ((rd_T44 l1 x13_1).f2)]] rfl (by (try simp only [List.map_toArray, List.map_cons, List.map_nil]); first | done | rfl | (simp only [List.length_drop, List.length_take]; rfl)) ?_; (with_reducible refine (value_Order.calls k1 ((rd_T44 l0 x13_1).f0) ((rd_T44 l0 x13_1).f1) ((rd_T44 l0 x13_1).f2) ((rd_T44 l1 x13_1).f0) ((rd_T44 l1 x13_1).f1) ((rd_T44 l1 x13_1).f2) t339 _ A11.out).mono ?_); rintro e w19 ⟨rfl, hb⟩; refine ⟨_, rfl, ?_⟩; have n0_ := Aside0.mk (blk_below (g := gb336) (o := .cells #[.int .i64 ((rd_T44 l0 x13_1).f0), .int .i64 ((rd_T44 l0 x13_1).f1), .string ((rd_T44 l0 x13_1).f2)] 44 (0, 0)) (by (with_reducible repeat (first | refine blk_drewN ?_ _ | refine blk_drew ?_ | refine blk_alloc ?_ _)); refine blk_far ?_ NB336_338.out _; (with_reducible repeat (first | refine blk_drewN ?_ _ | refine blk_drew ?_ | refine blk_alloc ?_ _)); refine blk_far ?_ NB336_338.out _; (with_reducible repeat (first | refine blk_drewN ?_ _ | refine blk_drew ?_ | refine blk_alloc ?_ _)); refine blk_far ?_ NB336_338.out _; (with_reducible repeat (first | refine blk_drewN ?_ _ | refine blk_drew ?_ | refine blk_alloc ?_ _)); exact BK336.out) hb); have n1_ := Aside0.mk (blk_below (g := gb338) (o := .cells #[.int .i64 ((rd_T44 l1 x13_1).f0), .int .i64 ((rd_T44 l1 x13_1).f1), .string ((rd_T44 l1 x13_1).f2)] 44 (0, 0)) (by (with_reducible repeat (first | refine blk_drewN ?_ _ | refine blk_drew ?_ | refine blk_alloc ?_ _)); refine blk_put (cs := #[.int .i64 ((rd_T44 l1 x13_1).f0), .int .i64 ((rd_T44 l1 x13_1).f1), .string (⟨#[]⟩ : ByteArray)]) ?_ 2 _ rfl; (with_reducible repeat (first | refine blk_drewN ?_ _ | refine blk_drew ?_ | refine blk_alloc ?_ _)); refine blk_put (cs := #[.int .i64 ((rd_T44 l1 x13_1).f0), .int .i64 0, .string (⟨#[]⟩ : ByteArray)]) ?_ 1 _ rfl; (with_reducible repeat (first | refine blk_drewN ?_ _ | refine blk_drew ?_ | refine blk_alloc ?_ _)); refine blk_put (cs := #[.int .i64 0, .int .i64 0, .string (⟨#[]⟩ : ByteArray)]) ?_ 0 _ rfl; (with_reducible repeat (first | refine blk_drewN ?_ _ | refine blk_drew ?_ | refine blk_alloc ?_ _)); exact BK338.out) hb); have n2_ := Aside0.mk (below_step (by repeat (first | (with_reducible first | exact HB.out | apply below_alloc | apply pw_below_drewN | apply below_drew1 | refine below_set ?_ GE336.out | refine below_set ?_ GE338.out) | exact HB.out)) hb); clear BK336; clear BK338; clear HB; have BK336 := n0_; have BK338 := n1_; have HB := n2_; clear n0_ n1_ n2_; (try clear hb); (try clear hb2); (try clear hk); (try clear hi)))
                  go_roundg k1
                  case measure => have := HK1.out; omega
                  case rel => exact ⟨(wrap64 (x13_1 + 1)), (by first | rfl | (simp; done) | (simp [*]; done)), H', ⟨by have := HK1.out; omega⟩, ⟨by repeat (first | (with_reducible first | exact HB.out | apply below_alloc | apply pw_below_drewN | apply below_drew1 | refine below_set ?_ GE336.out | refine below_set ?_ GE338.out) | exact HB.out)⟩⟩
                · rw [if_neg c12] at H
                  have c12b0 : (t339 == 0) = false := beq_eq_false_iff_ne.mpr c12
                  have c12b1 : (t339 != 0) = true := bne_iff_ne.mpr c12
                  obtain rfl := Option.some.inj H
                  have p335 : 0 ≤ (x13_1 : Int) := of_decide_eq_true (by first | (with_reducible assumption) | assumption)
                  have q335 : x13_1 < (l0.length : Int) := of_decide_eq_true (by first | (with_reducible assumption) | assumption)
                  obtain ⟨ad335, e335, hx335_0, hx335_1, hx335_2⟩ := at_T44 HR0.out x13_1 p335 q335
                  cases e335
                  replace hx335_0 := (HB.out.cell (World.block_lt_of_cell? w _ hx335_0)).trans hx335_0
                  replace hx335_1 := (HB.out.cell (World.block_lt_of_cell? w _ hx335_1)).trans hx335_1
                  replace hx335_2 := (HB.out.cell (World.block_lt_of_cell? w _ hx335_2)).trans hx335_2
                  replace p335 := eq_true p335
                  replace q335 := eq_true q335
                  go_wp2_with (first | ((with_reducible refine gate_dst (N := 8) rfl ?_); refine box_event ?hg (N := 8) ?hd (cs := #[.int .i64 0, .int .i64 0, .string (⟨#[]⟩ : ByteArray)]) (t := 44) ?hr ?_; (case hd => rfl); (case hg => rfl); (case hr => first | (go_simp; done) | (go_simp; rfl)); intro gb336 hg w20 hbox hb; have n0_ := Aside0.mk (below_step (by repeat (first | (with_reducible first | exact HB.out | apply below_alloc | apply pw_below_drewN | apply below_drew1) | exact HB.out)) hb); have n1_ := Aside0.mk (hbox); have n2_ := Aside0.mk ((by rw [hg]; exact (below_size (by repeat (first | (with_reducible first | exact HB.out | apply below_alloc | apply pw_below_drewN | apply below_drew1) | exact HB.out))) : w.heap.size ≤ gb336)); have n3_ := Aside0.mk ((by rw [hg]; exact (below_size (by repeat (first | (with_reducible first | exact HB.out | apply below_alloc | apply pw_below_drewN | apply below_drew1) | exact HB.out))) : w.heap.size ≤ gb336)); clear HB; have HB := n0_; have BK336 := n1_; have GW336 := n2_; have GE336 := n3_; clear n0_ n1_ n2_ n3_; clear hb hbox hg; have hcz21_0 : w20.cell? ⟨gb336, 0, none⟩ = some (.int .i64 0) := (blk_cell BK336.out 0).trans rfl; have hcz21_1 : w20.cell? ⟨gb336, 1, none⟩ = some (.int .i64 0) := (blk_cell BK336.out 1).trans rfl; have hcz21_2 : w20.cell? ⟨gb336, 2, none⟩ = some (.string (⟨#[]⟩ : ByteArray)) := (blk_cell BK336.out 2).trans rfl; have hfz21_0 := blk_frozen BK336.out 0; have hfz21_1 := blk_frozen BK336.out 1; have hfz21_2 := blk_frozen BK336.out 2; have p337 : 0 ≤ (x13_1 : Int) := of_decide_eq_true (by first | (with_reducible assumption) | assumption); have q337 : x13_1 < (l1.length : Int) := of_decide_eq_true (by first | (with_reducible assumption) | assumption); obtain ⟨ad337, e337, hx337_0, hx337_1, hx337_2⟩ := at_T44 HR1.out x13_1 p337 q337; cases e337; have hn337_0 : ad337.block ≠ gb336 := Nat.ne_of_lt (Nat.lt_of_lt_of_le (by have := World.block_lt_of_cell? _ _ hx337_0; first | rwa [add_block] at this | exact this) GW336.out); have hn337_1 : ad337.block ≠ gb336 := Nat.ne_of_lt (Nat.lt_of_lt_of_le (by have := World.block_lt_of_cell? _ _ hx337_0; first | rwa [add_block] at this | exact this) GW336.out); have hn337_2 : ad337.block ≠ gb336 := Nat.ne_of_lt (Nat.lt_of_lt_of_le (by have := World.block_lt_of_cell? _ _ hx337_0; first | rwa [add_block] at this | exact this) GW336.out); replace hx337_0 := (HB.out.cell (World.block_lt_of_cell? w _ hx337_0)).trans hx337_0; replace hx337_1 := (HB.out.cell (World.block_lt_of_cell? w _ hx337_1)).trans hx337_1; replace hx337_2 := (HB.out.cell (World.block_lt_of_cell? w _ hx337_2)).trans hx337_2; replace hx337_0 := (cell_far (p := ⟨gb336, 0, none⟩) (by first | (rw [add_block]; exact hn337_0) | (show (Addr.add _ _).block ≠ _; rw [add_block]; exact hn337_0) | exact hn337_0) (.int .i64 ((rd_T44 l0 x13_1).f0))).trans hx337_0; replace hx337_1 := (cell_far (p := ⟨gb336, 0, none⟩) (by first | (rw [add_block]; exact hn337_0) | (show (Addr.add _ _).block ≠ _; rw [add_block]; exact hn337_0) | exact hn337_0) (.int .i64 ((rd_T44 l0 x13_1).f0))).trans hx337_1; replace hx337_2 := (cell_far (p := ⟨gb336, 0, none⟩) (by first | (rw [add_block]; exact hn337_0) | (show (Addr.add _ _).block ≠ _; rw [add_block]; exact hn337_0) | exact hn337_0) (.int .i64 ((rd_T44 l0 x13_1).f0))).trans hx337_2; replace hx337_0 := (cell_far (p := ⟨gb336, 1, none⟩) (by first | (rw [add_block]; exact hn337_1) | (show (Addr.add _ _).block ≠ _; rw [add_block]; exact hn337_1) | exact hn337_1) (.int .i64 ((rd_T44 l0 x13_1).f1))).trans hx337_0; replace hx337_1 := (cell_far (p := ⟨gb336, 1, none⟩) (by first | (rw [add_block]; exact hn337_1) | (show (Addr.add _ _).block ≠ _; rw [add_block]; exact hn337_1) | exact hn337_1) (.int .i64 ((rd_T44 l0 x13_1).f1))).trans hx337_1; replace hx337_2 := (cell_far (p := ⟨gb336, 1, none⟩) (by first | (rw [add_block]; exact hn337_1) | (show (Addr.add _ _).block ≠ _; rw [add_block]; exact hn337_1) | exact hn337_1) (.int .i64 ((rd_T44 l0 x13_1).f1))).trans hx337_2; replace hx337_0 := (cell_far (p := ⟨gb336, 2, none⟩) (by first | (rw [add_block]; exact hn337_2) | (show (Addr.add _ _).block ≠ _; rw [add_block]; exact hn337_2) | exact hn337_2) (.string ((rd_T44 l0 x13_1).f2))).trans hx337_0; replace hx337_1 := (cell_far (p := ⟨gb336, 2, none⟩) (by first | (rw [add_block]; exact hn337_2) | (show (Addr.add _ _).block ≠ _; rw [add_block]; exact hn337_2) | exact hn337_2) (.string ((rd_T44 l0 x13_1).f2))).trans hx337_1; replace hx337_2 := (cell_far (p := ⟨gb336, 2, none⟩) (by first | (rw [add_block]; exact hn337_2) | (show (Addr.add _ _).block ≠ _; rw [add_block]; exact hn337_2) | exact hn337_2) (.string ((rd_T44 l0 x13_1).f2))).trans hx337_2; clear hn337_0; clear hn337_1; clear hn337_2; replace p337 := eq_true p337; replace q337 := eq_true q337) | ((with_reducible refine gate_dst (N := 9) rfl ?_); refine box_event ?hg (N := 9) ?hd (cs := #[.int .i64 0, .int .i64 0, .string (⟨#[]⟩ : ByteArray)]) (t := 44) ?hr ?_; (case hd => rfl); (case hg => rfl); (case hr => first | (go_simp; done) | (go_simp; rfl)); intro gb338 hg w22 hbox hb; have n0_ := Aside0.mk (blk_below (g := gb336) (o := .cells #[.int .i64 ((rd_T44 l0 x13_1).f0), .int .i64 ((rd_T44 l0 x13_1).f1), .string ((rd_T44 l0 x13_1).f2)] 44 (0, 0)) (by (with_reducible repeat (first | refine blk_drewN ?_ _ | refine blk_drew ?_ | refine blk_alloc ?_ _)); refine blk_put (cs := #[.int .i64 ((rd_T44 l0 x13_1).f0), .int .i64 ((rd_T44 l0 x13_1).f1), .string (⟨#[]⟩ : ByteArray)]) ?_ 2 _ rfl; (with_reducible repeat (first | refine blk_drewN ?_ _ | refine blk_drew ?_ | refine blk_alloc ?_ _)); refine blk_put (cs := #[.int .i64 ((rd_T44 l0 x13_1).f0), .int .i64 0, .string (⟨#[]⟩ : ByteArray)]) ?_ 1 _ rfl; (with_reducible repeat (first | refine blk_drewN ?_ _ | refine blk_drew ?_ | refine blk_alloc ?_ _)); refine blk_put (cs := #[.int .i64 0, .int .i64 0, .string (⟨#[]⟩ : ByteArray)]) ?_ 0 _ rfl; (with_reducible repeat (first | refine blk_drewN ?_ _ | refine blk_drew ?_ | refine blk_alloc ?_ _)); exact BK336.out) hb); have n1_ := Aside0.mk (below_step (by repeat (first | (with_reducible first | exact HB.out | apply below_alloc | apply pw_below_drewN | apply below_drew1 | refine below_set ?_ GE336.out) | exact HB.out)) hb); have n2_ := Aside0.mk (hbox); have n3_ := Aside0.mk ((by rw [hg]; exact (below_size (by repeat (first | (with_reducible first | exact HB.out | apply below_alloc | apply pw_below_drewN | apply below_drew1 | refine below_set ?_ GE336.out) | exact HB.out))) : w.heap.size ≤ gb338)); have n4_ := Aside0.mk ((by rw [hg]; exact (below_size (by repeat (first | (with_reducible first | exact HB.out | apply below_alloc | apply pw_below_drewN | apply below_drew1 | refine below_set ?_ GE336.out) | exact HB.out))) : w.heap.size ≤ gb338)); have n5_ := Aside0.mk ((by rw [hg]; exact Nat.ne_of_lt (blk_lt (g := gb336) (o := .cells #[.int .i64 ((rd_T44 l0 x13_1).f0), .int .i64 ((rd_T44 l0 x13_1).f1), .string ((rd_T44 l0 x13_1).f2)] 44 (0, 0)) (by (with_reducible repeat (first | refine blk_drewN ?_ _ | refine blk_drew ?_ | refine blk_alloc ?_ _)); refine blk_put (cs := #[.int .i64 ((rd_T44 l0 x13_1).f0), .int .i64 ((rd_T44 l0 x13_1).f1), .string (⟨#[]⟩ : ByteArray)]) ?_ 2 _ rfl; (with_reducible repeat (first | refine blk_drewN ?_ _ | refine blk_drew ?_ | refine blk_alloc ?_ _)); refine blk_put (cs := #[.int .i64 ((rd_T44 l0 x13_1).f0), .int .i64 0, .string (⟨#[]⟩ : ByteArray)]) ?_ 1 _ rfl; (with_reducible repeat (first | refine blk_drewN ?_ _ | refine blk_drew ?_ | refine blk_alloc ?_ _)); refine blk_put (cs := #[.int .i64 0, .int .i64 0, .string (⟨#[]⟩ : ByteArray)]) ?_ 0 _ rfl; (with_reducible repeat (first | refine blk_drewN ?_ _ | refine blk_drew ?_ | refine blk_alloc ?_ _)); exact BK336.out)) : gb336 ≠ gb338)); have n6_ := Aside0.mk ((by rw [hg]; exact Nat.ne_of_gt (blk_lt (g := gb336) (o := .cells #[.int .i64 ((rd_T44 l0 x13_1).f0), .int .i64 ((rd_T44 l0 x13_1).f1), .string ((rd_T44 l0 x13_1).f2)] 44 (0, 0)) (by (with_reducible repeat (first | refine blk_drewN ?_ _ | refine blk_drew ?_ | refine blk_alloc ?_ _)); refine blk_put (cs := #[.int .i64 ((rd_T44 l0 x13_1).f0), .int .i64 ((rd_T44 l0 x13_1).f1), .string (⟨#[]⟩ : ByteArray)]) ?_ 2 _ rfl; (with_reducible repeat (first | refine blk_drewN ?_ _ | refine blk_drew ?_ | refine blk_alloc ?_ _)); refine blk_put (cs := #[.int .i64 ((rd_T44 l0 x13_1).f0), .int .i64 0, .string (⟨#[]⟩ : ByteArray)]) ?_ 1 _ rfl; (with_reducible repeat (first | refine blk_drewN ?_ _ | refine blk_drew ?_ | refine blk_alloc ?_ _)); refine blk_put (cs := #[.int .i64 0, .int .i64 0, .string (⟨#[]⟩ : ByteArray)]) ?_ 0 _ rfl; (with_reducible repeat (first | refine blk_drewN ?_ _ | refine blk_drew ?_ | refine blk_alloc ?_ _)); exact BK336.out)) : gb338 ≠ gb336)); clear BK336; clear HB; have BK336 := n0_; have HB := n1_; have BK338 := n2_; have GW338 := n3_; have GE338 := n4_; have NB336_338 := n5_; have NB338_336 := n6_; clear n0_ n1_ n2_ n3_ n4_ n5_ n6_; clear hb hbox hg; have hnb23 := NB338_336.out; have hnc23 := NB336_338.out; have hcz24_0 : w22.cell? ⟨gb338, 0, none⟩ = some (.int .i64 0) := (blk_cell BK338.out 0).trans rfl; have hcz24_1 : w22.cell? ⟨gb338, 1, none⟩ = some (.int .i64 0) := (blk_cell BK338.out 1).trans rfl; have hcz24_2 : w22.cell? ⟨gb338, 2, none⟩ = some (.string (⟨#[]⟩ : ByteArray)) := (blk_cell BK338.out 2).trans rfl; have hfz24_0 := blk_frozen BK338.out 0; have hfz24_1 := blk_frozen BK338.out 1; have hfz24_2 := blk_frozen BK338.out 2; have hcz25_0 : w22.cell? ⟨gb336, 0, none⟩ = some (.int .i64 ((rd_T44 l0 x13_1).f0)) := (blk_cell BK336.out 0).trans rfl; have hcz25_1 : w22.cell? ⟨gb336, 1, none⟩ = some (.int .i64 ((rd_T44 l0 x13_1).f1)) := (blk_cell BK336.out 1).trans rfl; have hcz25_2 : w22.cell? ⟨gb336, 2, none⟩ = some (.string ((rd_T44 l0 x13_1).f2)) := (blk_cell BK336.out 2).trans rfl; have hfz25_0 := blk_frozen BK336.out 0; have hfz25_1 := blk_frozen BK336.out 1; have hfz25_2 := blk_frozen BK336.out 2) | ((with_reducible refine gate_dst (N := 29) rfl ?_); refine goesVL_ (some 29) rfl rfl Tryd.func35 (by kernel_rfl) rfl #[.agg #[.int .i64 ((rd_T44 l0 x13_1).f0), .int .i64 ((rd_T44 l0 x13_1).f1), .string ((rd_T44 l0 x13_1).f2)], .agg #[.int .i64 ((rd_T44 l1 x13_1).f0), .int .i64 ((rd_T44 l1 x13_1).f1), .string ((rd_T44 l1 x13_1).f2)]] rfl (by (try simp only [List.map_toArray, List.map_cons, List.map_nil]); first | done | rfl | (simp only [List.length_drop, List.length_take]; rfl)) ?_; (with_reducible refine (value_Order.calls k1 ((rd_T44 l0 x13_1).f0) ((rd_T44 l0 x13_1).f1) ((rd_T44 l0 x13_1).f2) ((rd_T44 l1 x13_1).f0) ((rd_T44 l1 x13_1).f1) ((rd_T44 l1 x13_1).f2) t339 _ A11.out).mono ?_); rintro e w26 ⟨rfl, hb⟩; refine ⟨_, rfl, ?_⟩; have n0_ := Aside0.mk (blk_below (g := gb336) (o := .cells #[.int .i64 ((rd_T44 l0 x13_1).f0), .int .i64 ((rd_T44 l0 x13_1).f1), .string ((rd_T44 l0 x13_1).f2)] 44 (0, 0)) (by (with_reducible repeat (first | refine blk_drewN ?_ _ | refine blk_drew ?_ | refine blk_alloc ?_ _)); refine blk_far ?_ NB336_338.out _; (with_reducible repeat (first | refine blk_drewN ?_ _ | refine blk_drew ?_ | refine blk_alloc ?_ _)); refine blk_far ?_ NB336_338.out _; (with_reducible repeat (first | refine blk_drewN ?_ _ | refine blk_drew ?_ | refine blk_alloc ?_ _)); refine blk_far ?_ NB336_338.out _; (with_reducible repeat (first | refine blk_drewN ?_ _ | refine blk_drew ?_ | refine blk_alloc ?_ _)); exact BK336.out) hb); have n1_ := Aside0.mk (blk_below (g := gb338) (o := .cells #[.int .i64 ((rd_T44 l1 x13_1).f0), .int .i64 ((rd_T44 l1 x13_1).f1), .string ((rd_T44 l1 x13_1).f2)] 44 (0, 0)) (by (with_reducible repeat (first | refine blk_drewN ?_ _ | refine blk_drew ?_ | refine blk_alloc ?_ _)); refine blk_put (cs := #[.int .i64 ((rd_T44 l1 x13_1).f0), .int .i64 ((rd_T44 l1 x13_1).f1), .string (⟨#[]⟩ : ByteArray)]) ?_ 2 _ rfl; (with_reducible repeat (first | refine blk_drewN ?_ _ | refine blk_drew ?_ | refine blk_alloc ?_ _)); refine blk_put (cs := #[.int .i64 ((rd_T44 l1 x13_1).f0), .int .i64 0, .string (⟨#[]⟩ : ByteArray)]) ?_ 1 _ rfl; (with_reducible repeat (first | refine blk_drewN ?_ _ | refine blk_drew ?_ | refine blk_alloc ?_ _)); refine blk_put (cs := #[.int .i64 0, .int .i64 0, .string (⟨#[]⟩ : ByteArray)]) ?_ 0 _ rfl; (with_reducible repeat (first | refine blk_drewN ?_ _ | refine blk_drew ?_ | refine blk_alloc ?_ _)); exact BK338.out) hb); have n2_ := Aside0.mk (below_step (by repeat (first | (with_reducible first | exact HB.out | apply below_alloc | apply pw_below_drewN | apply below_drew1 | refine below_set ?_ GE336.out | refine below_set ?_ GE338.out) | exact HB.out)) hb); clear BK336; clear BK338; clear HB; have BK336 := n0_; have BK338 := n1_; have HB := n2_; clear n0_ n1_ n2_; (try clear hb); (try clear hb2); (try clear hk); (try clear hi)))
                  go_ret
                  exact ⟨by first | rfl | (simp [errW_none, errW_some] <;> rfl) | (simp [*, errW_none, errW_some] <;> rfl), by repeat (first | (with_reducible first | exact HB.out | apply below_alloc | apply pw_below_drewN | apply below_drew1 | refine below_set ?_ GE336.out | refine below_set ?_ GE338.out) | exact HB.out)⟩
              · rw [if_neg c10] at H
                exact absurd H (by simp)
          · rw [if_neg c6] at H
            exact absurd H (by simp)
        · rw [if_neg c5] at H
          exact absurd H (by simp)
      · rw [if_neg c4] at H
        have c4b0 : decide (x13_1 < (l0.length : Int)) = false := decide_eq_false c4
        clear c4
        by_cases c27 : (l0.length : Int) < (l1.length : Int)
        · rw [if_pos c27] at H
          have c27b0 : decide ((l0.length : Int) < (l1.length : Int)) = true := decide_eq_true c27
          have c27b1 : decide (l0.length < l1.length) = true := decide_eq_true (Int.ofNat_lt.mp c27)
          clear c27
          obtain rfl := Option.some.inj H
          go_wp2
          go_ret
          exact ⟨by first | rfl | (simp [errW_none, errW_some] <;> rfl) | (simp [*, errW_none, errW_some] <;> rfl), by repeat (first | (with_reducible first | exact HB.out | apply below_alloc | apply pw_below_drewN | apply below_drew1) | exact HB.out)⟩
        · rw [if_neg c27] at H
          have c27b0 : decide ((l0.length : Int) < (l1.length : Int)) = false := decide_eq_false c27
          have c27b1 : decide (l0.length < l1.length) = false := decide_eq_false (fun h => c27 (Int.ofNat_lt.mpr h))
          clear c27
          obtain rfl := Option.some.inj H
          go_wp2
          go_ret
          exact ⟨by first | rfl | (simp [errW_none, errW_some] <;> rfl) | (simp [*, errW_none, errW_some] <;> rfl), by repeat (first | (with_reducible first | exact HB.out | apply below_alloc | apply pw_below_drewN | apply below_drew1) | exact HB.out)⟩


set_option maxHeartbeats 8000000 in
set_option maxRecDepth 100000 in
theorem value_Orders.calls (k : Nat) (A0 : Option Addr) (c0 : Nat) (l0 : List (S44)) (A1 : Option Addr) (c1 : Nat) (l1 : List (S44)) (r : Int) (w : World) (hr0 : Kd.C k44 w A0 l0.length l0) (hc0 : l0.length ≤ c0) (hr1 : Kd.C k44 w A1 l1.length l1) (hc1 : l1.length ≤ c1) (h : value_Orders.f k l0 l1 = some r) :
    Calls Tryd.prog 18 #[.slice A0 l0.length c0, .slice A1 l1.length c1] w fun e w' => e = .returned (.int .i64 r) ∧ Below w.heap.size w w' := by
  have HR0 := Aside0.mk hr0
  have HC0 := Aside0.mk hc0
  clear hr0 hc0
  have HR1 := Aside0.mk hr1
  have HC1 := Aside0.mk hc1
  clear hr1 hc1
  have HB := Aside0.mk (Below.refl w.heap.size w)
  have H : ((api_Value.f k l0 l1 ()).bind fun t340 => (some t340)) = some r := h
  clear h
  replace H := Option.bind_eq_some_iff.mp H
  obtain ⟨t340, A30, H⟩ := H
  replace H : (some t340) = some r := H
  have A3 := Aside0.mk A30
  clear A30
  obtain rfl := Option.some.inj H
  go_enter Tryd.func18, Tryd.ntmps18
  go_wp2_with (first | ((with_reducible refine gate_callee (f := 34) rfl ?_); refine goesL_ (some 7) rfl rfl Tryd.func34 (by kernel_rfl) rfl #[.slice A0 l0.length c0, .slice A1 l1.length c1, .func (.func 35) #[] #[]] rfl (by (try simp only [List.map_toArray, List.map_cons, List.map_nil]); first | done | rfl | (simp only [List.length_drop, List.length_take]; rfl)) ?_; (with_reducible refine (api_Value.calls k _ _ l0 _ _ l1 () t340 _ ?side1 ?side2 ?side3 ?side4 A3.out).mono ?_); (case side1 => repeat (first | exact HR0.out | (with_reducible refine Kd.C_alloc ?_ _) | (with_reducible refine Kd.C_drewN ?_ _) | (with_reducible refine Kd.C_drew ?_))); (case side2 => exact HC0.out); (case side3 => repeat (first | exact HR1.out | (with_reducible refine Kd.C_alloc ?_ _) | (with_reducible refine Kd.C_drewN ?_ _) | (with_reducible refine Kd.C_drew ?_))); (case side4 => exact HC1.out); rintro e w4 ⟨rfl, hb⟩; refine ⟨_, rfl, ?_⟩; have n0_ := Aside0.mk (below_step (by repeat (first | (with_reducible first | exact HB.out | apply below_alloc | apply pw_below_drewN | apply below_drew1) | exact HB.out)) hb); clear HB; have HB := n0_; clear n0_; (try clear hb); (try clear hb2); (try clear hk); (try clear hi)))
  go_ret
  exact ⟨by first | rfl | (simp [errW_none, errW_some] <;> rfl) | (simp [*, errW_none, errW_some] <;> rfl), by repeat (first | (with_reducible first | exact HB.out | apply below_alloc | apply pw_below_drewN | apply below_drew1) | exact HB.out)⟩


end Go.Proofs.YtnllgjloimoebaaDoor.X.D

namespace Go.Proofs.YtnllgjloimoebaaDoor.X
open Go.RowKit Go.Proofs.YtnllgjloimoebaaDoorW.PrintWords
theorem value_Orders.calls (k : Nat) (A0 : Option Addr) (c0 : Nat) (l0 : List (S44)) (A1 : Option Addr) (c1 : Nat) (l1 : List (S44)) (r : Int) (w : World) (hr0 : Kd.C k44 w A0 l0.length l0) (hc0 : l0.length ≤ c0) (hr1 : Kd.C k44 w A1 l1.length l1) (hc1 : l1.length ≤ c1) (h : value_Orders.f k l0 l1 = some r) :
    Calls Tryd.prog 18 #[.slice A0 l0.length c0, .slice A1 l1.length c1] w fun e w' => e = .returned (.int .i64 r) ∧ Below w.heap.size w w' :=
  (X.D.value_Orders.calls k A0 c0 l0 A1 c1 l1 r w hr0 hc0 hr1 hc1 h).mono fun _ _ h => ⟨h.1, h.2.b⟩
end Go.Proofs.YtnllgjloimoebaaDoor.X

/- grouper.Sorted's own function: two groups by the keys of their first. -/
set_option linter.unusedVariables false
set_option linter.unusedSimpArgs false
namespace Go.Proofs.YtnllgjloimoebaaDoor.X
open Go.RowKit Go.Proofs.YtnllgjloimoebaaDoorW.PrintWords Go.Proofs.YtnllgjloimoebaaDoorW.PrintLast Go.Proofs.YtnllgjloimoebaaDoorW.PrintMore

set_option maxHeartbeats 4000000 in
set_option maxRecDepth 100000 in
theorem sorted1_calls (k bx : Nat) (A0 : Option Addr) (c0 : Nat) (l0 : List (List S44)) (Aa : Option Addr) (ca : Nat) (a : List Int) (Ab : Option Addr) (cb : Nat) (b : List Int) (p q r : Int) (W : World)
    (hbox : W.cell? ⟨bx, 0, none⟩ = some (.slice A0 l0.length c0)) (hC : Kd.C (Kd.slice 44 k44) W A0 l0.length l0) (ha : Kd.C (Kd.int .i64) W Aa a.length a) (hb : Kd.C (Kd.int .i64) W Ab b.length b)
    (hpa : 0 < a.length) (hpb : 0 < b.length) (hp : rd a 0 = p) (hq : rd b 0 = q) (p0 : 0 ≤ p) (p1 : p < (l0.length : Int)) (q0 : 0 ≤ q) (q1 : q < (l0.length : Int)) (hf : value_Orders.f k (rd_L4 l0 p) (rd_L4 l0 q) = some r) :
    Calls Tryd.prog 32 #[.slice Aa a.length ca, .slice Ab b.length cb, .pointer (some ⟨bx, 0, none⟩)] W fun e w' => e = .returned (.int .i64 r) ∧ X.D.Below W.heap.size W w' := by
  obtain ⟨ada, e, hxa⟩ := Kd.at_int ha 0 (by omega) (by omega)
  subst e
  obtain ⟨adb, e, hxb⟩ := Kd.at_int hb 0 (by omega) (by omega)
  subst e
  rw [show ((0 : Int)).toNat = 0 from rfl, Addr.add_zero'] at hxa hxb
  rw [hp] at hxa
  rw [hq] at hxb
  obtain ⟨ad, A1, c1, e, hx1, hl1, hi1⟩ := at_L4 hC p p0 p1
  subst e
  obtain ⟨ad', A2, c2, e, hx2, hl2, hi2⟩ := at_L4 hC q q0 q1
  injection e with e
  subst e
  have HI1 := Aside0.mk hi1
  have HI2 := Aside0.mk hi2
  have HL1 := Aside0.mk hl1
  have HL2 := Aside0.mk hl2
  have HF := Aside0.mk hf
  have HP := Aside0.mk hp
  have HQ := Aside0.mk hq
  clear hi1 hi2 hl1 hl2 hf hC ha hb hp hq
  go_enter Tryd.func32, Tryd.ntmps32
  go_wp2
  refine start_ (n := 14) (S := fun w' => w'.cell? ⟨bx, 0, none⟩ = some (.slice (some ad) l0.length c0) ∧ w'.cell? ada = some (.int .i64 p) ∧ w'.cell? adb = some (.int .i64 q) ∧ w'.cell? (ad.add p.toNat) = some (.slice A1 (rd_L4 l0 p).length c1) ∧ w'.cell? (ad.add q.toNat) = some (.slice A2 (rd_L4 l0 q).length c2)) (ds := [12]) #[false, false, false, false, false, false, false, false, false, false, false, false, false, false] (by kernel_rfl) rfl rfl ⟨hbox, hxa, hxb, hx1, hx2⟩ (fun hHeld => ?_)
  refine take_ (i := 0) (N := some 6) (v := ?_) (a' := ?_) #[true, false, false, false, false, false, false, false, false, false, false, false, false, false] rfl rfl (by kernel_rfl) (fun _ _ _ h => h) (Or.inl ⟨by rfl, ?_⟩) hHeld ?_ ?_
  rotate_left
  · rintro w' ⟨s0, s1, s2, s3, s4⟩
    go_simp
    all_goals with_reducible rfl
  rotate_left
  · simp only [Act.put, List.setIfInBounds_toArray, List.set_cons_zero, List.set_cons_succ, i64_w, i32_w]
    rfl
  refine pure_ (i := 1) (N := some 7) (v := ?_) (a' := ?_) #[true, true, false, false, false, false, false, false, false, false, false, false, false, false] rfl rfl (by kernel_rfl) (fun _ _ _ h => h) (Or.inl ⟨by rfl, ?_⟩) ?_ ?_
  rotate_left
  · intro w'
    go_simp
    all_goals with_reducible rfl
  rotate_left
  · simp only [Act.put, List.setIfInBounds_toArray, List.set_cons_zero, List.set_cons_succ, i64_w, i32_w]
    rfl
  refine take_ (i := 6) (N := some 12) (v := ?_) (a' := ?_) #[true, true, false, false, false, false, true, false, false, false, false, false, false, false] rfl rfl (by kernel_rfl) (fun _ _ _ h => h) (Or.inl ⟨by rfl, ?_⟩) hHeld ?_ ?_
  rotate_left
  · rintro w' ⟨s0, s1, s2, s3, s4⟩
    go_simp
    all_goals with_reducible rfl
  rotate_left
  · simp only [Act.put, List.setIfInBounds_toArray, List.set_cons_zero, List.set_cons_succ, i64_w, i32_w]
    rfl
  refine pure_ (i := 7) (N := some 13) (v := ?_) (a' := ?_) #[true, true, false, false, false, false, true, true, false, false, false, false, false, false] rfl rfl (by kernel_rfl) (fun _ _ _ h => h) (Or.inl ⟨by rfl, ?_⟩) ?_ ?_
  rotate_left
  · intro w'
    go_simp
    all_goals with_reducible rfl
  rotate_left
  · simp only [Act.put, List.setIfInBounds_toArray, List.set_cons_zero, List.set_cons_succ, i64_w, i32_w]
    rfl
  refine pure_ (i := 2) (N := some 8) (v := ?_) (a' := ?_) #[true, true, true, false, false, false, true, true, false, false, false, false, false, false] rfl rfl (by kernel_rfl) (fun _ _ _ h => h) (Or.inl ⟨by rfl, ?_⟩) ?_ ?_
  rotate_left
  · intro w'
    go_simp
    all_goals with_reducible rfl
  rotate_left
  · simp only [Act.put, List.setIfInBounds_toArray, List.set_cons_zero, List.set_cons_succ, i64_w, i32_w]
    rfl
  refine pure_ (i := 8) (N := some 14) (v := ?_) (a' := ?_) #[true, true, true, false, false, false, true, true, true, false, false, false, false, false] rfl rfl (by kernel_rfl) (fun _ _ _ h => h) (Or.inl ⟨by rfl, ?_⟩) ?_ ?_
  rotate_left
  · intro w'
    go_simp
    all_goals with_reducible rfl
  rotate_left
  · simp only [Act.put, List.setIfInBounds_toArray, List.set_cons_zero, List.set_cons_succ, i64_w, i32_w]
    rfl
  refine take_ (i := 3) (N := some 9) (v := ?_) (a' := ?_) #[true, true, true, true, false, false, true, true, true, false, false, false, false, false] rfl rfl (by kernel_rfl) (fun _ _ _ h => h) (Or.inl ⟨by rfl, ?_⟩) hHeld ?_ ?_
  rotate_left
  · rintro w' ⟨s0, s1, s2, s3, s4⟩
    go_simp
    all_goals with_reducible rfl
  rotate_left
  · simp only [Act.put, List.setIfInBounds_toArray, List.set_cons_zero, List.set_cons_succ, i64_w, i32_w]
    rfl
  refine take_ (i := 9) (N := some 15) (v := ?_) (a' := ?_) #[true, true, true, true, false, false, true, true, true, true, false, false, false, false] rfl rfl (by kernel_rfl) (fun _ _ _ h => h) (Or.inl ⟨by rfl, ?_⟩) hHeld ?_ ?_
  rotate_left
  · rintro w' ⟨s0, s1, s2, s3, s4⟩
    go_simp
    all_goals with_reducible rfl
  rotate_left
  · simp only [Act.put, List.setIfInBounds_toArray, List.set_cons_zero, List.set_cons_succ, i64_w, i32_w]
    rfl
  refine pure_ (i := 4) (N := some 10) (v := ?_) (a' := ?_) #[true, true, true, true, true, false, true, true, true, true, false, false, false, false] rfl rfl (by kernel_rfl) (fun _ _ _ h => h) (Or.inl ⟨by rfl, ?_⟩) ?_ ?_
  rotate_left
  · intro w'
    go_simp
    all_goals with_reducible rfl
  rotate_left
  · simp only [Act.put, List.setIfInBounds_toArray, List.set_cons_zero, List.set_cons_succ, i64_w, i32_w]
    rfl
  refine pure_ (i := 10) (N := some 16) (v := ?_) (a' := ?_) #[true, true, true, true, true, false, true, true, true, true, true, false, false, false] rfl rfl (by kernel_rfl) (fun _ _ _ h => h) (Or.inl ⟨by rfl, ?_⟩) ?_ ?_
  rotate_left
  · intro w'
    go_simp
    all_goals with_reducible rfl
  rotate_left
  · simp only [Act.put, List.setIfInBounds_toArray, List.set_cons_zero, List.set_cons_succ, i64_w, i32_w]
    rfl
  refine take_ (i := 5) (N := some 11) (v := ?_) (a' := ?_) #[true, true, true, true, true, true, true, true, true, true, true, false, false, false] rfl rfl (by kernel_rfl) (fun _ _ _ h => h) (Or.inl ⟨by rfl, ?_⟩) hHeld ?_ ?_
  rotate_left
  · rintro w' ⟨s0, s1, s2, s3, s4⟩
    go_simp
    all_goals with_reducible rfl
  rotate_left
  · simp only [Act.put, List.setIfInBounds_toArray, List.set_cons_zero, List.set_cons_succ, i64_w, i32_w]
    rfl
  refine take_ (i := 11) (N := some 17) (v := ?_) (a' := ?_) #[true, true, true, true, true, true, true, true, true, true, true, true, false, false] rfl rfl (by kernel_rfl) (fun _ _ _ h => h) (Or.inl ⟨by rfl, ?_⟩) hHeld ?_ ?_
  rotate_left
  · rintro w' ⟨s0, s1, s2, s3, s4⟩
    go_simp
    all_goals with_reducible rfl
  rotate_left
  · simp only [Act.put, List.setIfInBounds_toArray, List.set_cons_zero, List.set_cons_succ, i64_w, i32_w]
    rfl
  refine last_ (i := 12) (N := some 18) #[true, true, true, true, true, true, true, true, true, true, true, true, true, false] rfl rfl (by kernel_rfl) (by decide) (fun K hK => ?_)
  refine goes_ Tryd.func18 (by kernel_rfl) rfl #[.slice A1 (rd_L4 l0 p).length c1, .slice A2 (rd_L4 l0 q).length c2] (by rfl) rfl rfl (by (try simp only [List.map_toArray, List.map_cons, List.map_nil]); first | done | rfl) ?_
  with_reducible refine (X.D.value_Orders.calls k A1 c1 (rd_L4 l0 p) A2 c2 (rd_L4 l0 q) r _ ?_ HL1.out ?_ HL2.out HF.out).mono ?_
  · exact HI1.out
  · exact HI2.out
  rintro e w15 ⟨rfl, hb⟩
  refine ⟨_, rfl, ?_⟩
  refine hK.out _ _ ?_
  clear hK K
  refine norm_ (a' := ?_) ?_ ?_
  rotate_left
  · show Act.put _ (some 18) _ = _
    simp only [Act.put, List.setIfInBounds_toArray, List.set_cons_zero, List.set_cons_succ, i64_w, i32_w]
    rfl
  refine pure_ (i := 13) (N := some 5) (v := ?_) (a' := ?_) #[true, true, true, true, true, true, true, true, true, true, true, true, true, true] rfl rfl (by kernel_rfl) (fun _ _ _ h => h) (Or.inl ⟨by rfl, ?_⟩) ?_ ?_
  rotate_left
  · intro w'
    go_simp
    all_goals with_reducible rfl
  rotate_left
  · simp only [Act.put, List.setIfInBounds_toArray, List.set_cons_zero, List.set_cons_succ, i64_w, i32_w]
    rfl
  refine done_ (by kernel_rfl) ?_
  go_wp2
  go_ret
  exact ⟨rfl, (X.D.below_drew1 (X.D.Below.refl _ W)).trans hb⟩
end Go.Proofs.YtnllgjloimoebaaDoor.X

/- The order of rows, in plain Lean: one order of values and of rows, which both texts (the program's, the document's) compute; that it is a total order. -/
set_option linter.unusedVariables false
set_option linter.unusedSimpArgs false
namespace Go.Proofs.YtnllgjloimoebaaDoor.X
open Go.RowKit Go.Proofs.YtnllgjloimoebaaDoorW.PrintWords

/-! ### from some fuel on -/
def Ev {α : Type} (f : Nat → Option α) (v : α) : Prop := ∃ k0, ∀ k, k0 ≤ k → f k = some v
theorem Ev.const {α : Type} (v : α) : Ev (fun _ => some v) v := ⟨0, fun _ _ => rfl⟩
theorem Ev.of {α : Type} {f : Nat → Option α} {v : α} (h : ∀ k, f k = some v) : Ev f v := ⟨0, fun k _ => h k⟩
theorem Ev.bind {α β : Type} {f : Nat → Option α} {g : Nat → α → Option β} {v : α} {u : β} (h : Ev f v) (h2 : Ev (fun k => g k v) u) : Ev (fun k => (f k).bind (g k)) u := by
  obtain ⟨a, ha⟩ := h
  obtain ⟨b, hb⟩ := h2
  exact ⟨max a b, fun k hk => by show (f k).bind (g k) = some u; rw [ha k (by omega)]; exact hb k (by omega)⟩
theorem Ev.succ {α : Type} {f g : Nat → Option α} {v : α} (h : Ev g v) (hs : ∀ k, f (k + 1) = g k) : Ev f v := by
  obtain ⟨a, ha⟩ := h
  refine ⟨a + 1, fun k hk => ?_⟩
  obtain ⟨k', rfl⟩ : ∃ k', k = k' + 1 := ⟨k - 1, by omega⟩
  rw [hs, ha k' (by omega)]
theorem Ev.congr {α : Type} {f g : Nat → Option α} {v : α} (h : Ev g v) (hs : ∀ k, f k = g k) : Ev f v := by
  obtain ⟨a, ha⟩ := h
  exact ⟨a, fun k hk => (hs k).trans (ha k hk)⟩
theorem Ev.uniq {α : Type} {f : Nat → Option α} {u v : α} (h : Ev f u) (h2 : Ev f v) : u = v := by
  obtain ⟨a, ha⟩ := h
  obtain ⟨b, hb⟩ := h2
  have := (ha (max a b) (by omega)).symm.trans (hb (max a b) (by omega))
  exact Option.some.inj this
theorem w64 (i : Nat) (h : i < 4611686018427387904) : wrap64 ((i : Int) + 1) = ((i + 1 : Nat) : Int) := by unfold wrap64; omega

/-! ### the order -/
def icmp (a b : Int) : Int := if a < b then -1 else if a > b then 1 else 0
def vcmp (x y : S44) : Int := if icmp x.f0 y.f0 = 0 then (if icmp x.f1 y.f1 = 0 then Lib.compareBytes x.f2.data.toList y.f2.data.toList else icmp x.f1 y.f1) else icmp x.f0 y.f0
def rcmp : List S44 → List S44 → Int
  | [], [] => 0
  | [], _ :: _ => -1
  | _ :: _, [] => 1
  | x :: a, y :: b => if vcmp x y = 0 then rcmp a b else vcmp x y

theorem icmp_zero {a b : Int} : icmp a b = 0 ↔ a = b := by
  unfold icmp
  split
  · constructor <;> intro h <;> omega
  · split
    · constructor <;> intro h <;> omega
    · constructor
      · intro; omega
      · intro; rfl
theorem icmp_neg (a b : Int) : icmp b a = - icmp a b := by
  unfold icmp
  repeat' split
  all_goals omega
theorem icmp_lt {a b : Int} : icmp a b < 0 ↔ a < b := by
  unfold icmp
  repeat' split
  all_goals constructor <;> intro <;> omega
theorem cb_zero : ∀ {a b : List UInt8}, Lib.compareBytes a b = 0 ↔ a = b
  | [], [] => by simp [Lib.compareBytes]
  | [], _ :: _ => by simp [Lib.compareBytes]
  | _ :: _, [] => by simp [Lib.compareBytes]
  | x :: a, y :: b => by
    unfold Lib.compareBytes
    split
    · rename_i h
      constructor
      · intro h; cases h
      · intro h2; injection h2 with h2; subst h2; exact absurd h (UInt8.lt_irrefl _)
    · split
      · rename_i h
        constructor
        · intro h; cases h
        · intro h2; injection h2 with h2; subst h2; exact absurd h (UInt8.lt_irrefl _)
      · rename_i h1 h2
        have : x = y := UInt8.le_antisymm (UInt8.not_lt.1 h2) (UInt8.not_lt.1 h1)
        subst this
        rw [cb_zero]
        simp
theorem cb_neg : ∀ (a b : List UInt8), Lib.compareBytes b a = - Lib.compareBytes a b
  | [], [] => by simp [Lib.compareBytes]
  | [], _ :: _ => by simp [Lib.compareBytes]
  | _ :: _, [] => by simp [Lib.compareBytes]
  | x :: a, y :: b => by
    unfold Lib.compareBytes
    by_cases h1 : x < y
    · have h2 : ¬ y < x := fun h => UInt8.lt_irrefl _ (UInt8.lt_trans h1 h)
      rw [if_neg h2, if_pos h1, if_pos h1]; rfl
    · by_cases h2 : y < x
      · rw [if_pos h2, if_neg h1, if_pos h2]
      · rw [if_neg h2, if_neg h1, if_neg h1, if_neg h2]; exact cb_neg a b
theorem cb_trans : ∀ {a b c : List UInt8}, Lib.compareBytes a b < 0 → Lib.compareBytes b c < 0 → Lib.compareBytes a c < 0
  | [], [], _, h, _ => by simp [Lib.compareBytes] at h
  | _ :: _, [], _, h, _ => by simp [Lib.compareBytes] at h
  | _, _ :: _, [], _, h => by simp [Lib.compareBytes] at h
  | [], _ :: _, _ :: _, _, _ => by simp [Lib.compareBytes]
  | x :: a, y :: b, z :: c, h1, h2 => by
    unfold Lib.compareBytes at *
    by_cases hxy : x < y
    · by_cases hyz : y < z
      · rw [if_pos (UInt8.lt_trans hxy hyz)]; omega
      · by_cases hzy : z < y
        · rw [if_neg hyz, if_pos hzy] at h2; omega
        · have : y = z := UInt8.le_antisymm (UInt8.not_lt.1 hzy) (UInt8.not_lt.1 hyz)
          subst this
          rw [if_pos hxy]; omega
    · by_cases hyx : y < x
      · rw [if_neg hxy, if_pos hyx] at h1; omega
      · have : x = y := UInt8.le_antisymm (UInt8.not_lt.1 hyx) (UInt8.not_lt.1 hxy)
        subst this
        by_cases hyz : x < z
        · rw [if_pos hyz]; omega
        · by_cases hzy : z < x
          · rw [if_neg hyz, if_pos hzy] at h2; omega
          · rw [if_neg hyz, if_neg hzy] at h2 ⊢
            rw [if_neg hxy, if_neg hyx] at h1
            exact cb_trans h1 h2

theorem S44_ext {x y : S44} (h0 : x.f0 = y.f0) (h1 : x.f1 = y.f1) (h2 : x.f2.data.toList = y.f2.data.toList) : x = y := by
  obtain ⟨a, b, ⟨⟨c⟩⟩⟩ := x
  obtain ⟨a', b', ⟨⟨c'⟩⟩⟩ := y
  simp only at h0 h1 h2
  subst h0; subst h1; subst h2
  rfl
theorem vcmp_zero {x y : S44} : vcmp x y = 0 ↔ x = y := by
  unfold vcmp
  constructor
  · intro h
    by_cases h0 : icmp x.f0 y.f0 = 0
    · rw [if_pos h0] at h
      by_cases h1 : icmp x.f1 y.f1 = 0
      · rw [if_pos h1] at h
        exact S44_ext (icmp_zero.1 h0) (icmp_zero.1 h1) (cb_zero.1 h)
      · rw [if_neg h1] at h; exact absurd h h1
    · rw [if_neg h0] at h; exact absurd h h0
  · intro h
    subst h
    rw [if_pos (icmp_zero.2 rfl), if_pos (icmp_zero.2 rfl)]
    exact cb_zero.2 rfl
theorem vcmp_neg (x y : S44) : vcmp y x = - vcmp x y := by
  unfold vcmp
  rw [icmp_neg x.f0 y.f0, icmp_neg x.f1 y.f1, cb_neg x.f2.data.toList y.f2.data.toList]
  by_cases h0 : icmp x.f0 y.f0 = 0
  · rw [if_pos h0, if_pos (by omega)]
    by_cases h1 : icmp x.f1 y.f1 = 0
    · rw [if_pos h1, if_pos (by omega)]
    · rw [if_neg h1, if_neg (by omega)]
  · rw [if_neg h0, if_neg (by omega)]
theorem vcmp_trans {x y z : S44} (h1 : vcmp x y < 0) (h2 : vcmp y z < 0) : vcmp x z < 0 := by
  unfold vcmp at *
  by_cases a0 : icmp x.f0 y.f0 = 0
  · rw [if_pos a0] at h1
    have e := icmp_zero.1 a0
    rw [e]
    by_cases b0 : icmp y.f0 z.f0 = 0
    · rw [if_pos b0] at h2 ⊢
      by_cases a1 : icmp x.f1 y.f1 = 0
      · rw [if_pos a1] at h1
        have e1 := icmp_zero.1 a1
        rw [e1]
        by_cases b1 : icmp y.f1 z.f1 = 0
        · rw [if_pos b1] at h2 ⊢
          exact cb_trans h1 h2
        · rw [if_neg b1] at h2 ⊢
          exact h2
      · rw [if_neg a1] at h1
        by_cases b1 : icmp y.f1 z.f1 = 0
        · rw [← icmp_zero.1 b1, if_neg a1]; exact h1
        · rw [if_neg b1] at h2
          have := icmp_lt.1 h1
          have := icmp_lt.1 h2
          have h3 : icmp x.f1 z.f1 < 0 := icmp_lt.2 (by omega)
          rw [if_neg (by omega)]; exact h3
    · rw [if_neg b0] at h2 ⊢; exact h2
  · rw [if_neg a0] at h1
    by_cases b0 : icmp y.f0 z.f0 = 0
    · rw [← icmp_zero.1 b0, if_neg a0]; exact h1
    · rw [if_neg b0] at h2
      have := icmp_lt.1 h1
      have := icmp_lt.1 h2
      have h3 : icmp x.f0 z.f0 < 0 := icmp_lt.2 (by omega)
      rw [if_neg (by omega)]; exact h3
theorem rcmp_zero : ∀ {a b : List S44}, rcmp a b = 0 ↔ a = b
  | [], [] => by simp [rcmp]
  | [], _ :: _ => by simp [rcmp]
  | _ :: _, [] => by simp [rcmp]
  | x :: a, y :: b => by
    unfold rcmp
    by_cases h : vcmp x y = 0
    · rw [if_pos h, rcmp_zero, vcmp_zero.1 h]; simp
    · rw [if_neg h]
      constructor
      · intro h2; exact absurd h2 h
      · intro h2; injection h2 with h2; exact absurd (vcmp_zero.2 h2) h
theorem rcmp_self (a : List S44) : rcmp a a = 0 := rcmp_zero.2 rfl
theorem rcmp_neg : ∀ (a b : List S44), rcmp b a = - rcmp a b
  | [], [] => by simp [rcmp]
  | [], _ :: _ => by simp [rcmp]
  | _ :: _, [] => by simp [rcmp]
  | x :: a, y :: b => by
    unfold rcmp
    rw [vcmp_neg x y]
    by_cases h : vcmp x y = 0
    · rw [if_pos h, if_pos (by omega)]; exact rcmp_neg a b
    · rw [if_neg h, if_neg (by omega)]
theorem rcmp_trans : ∀ {a b c : List S44}, rcmp a b < 0 → rcmp b c < 0 → rcmp a c < 0
  | [], [], _, h, _ => by simp [rcmp] at h
  | _ :: _, [], _, h, _ => by simp [rcmp] at h
  | _, _ :: _, [], _, h => by simp [rcmp] at h
  | [], _ :: _, _ :: _, _, _ => by simp [rcmp]
  | x :: a, y :: b, z :: c, h1, h2 => by
    unfold rcmp at *
    by_cases hxy : vcmp x y = 0
    · rw [if_pos hxy] at h1
      have e := vcmp_zero.1 hxy
      subst e
      by_cases hyz : vcmp x z = 0
      · rw [if_pos hyz] at h2 ⊢
        exact rcmp_trans h1 h2
      · rw [if_neg hyz] at h2 ⊢
        exact h2
    · rw [if_neg hxy] at h1
      by_cases hyz : vcmp y z = 0
      · have e := vcmp_zero.1 hyz
        subst e
        rw [if_neg hxy]; exact h1
      · rw [if_neg hyz] at h2
        have := vcmp_trans h1 h2
        rw [if_neg (by omega)]; exact this
theorem rcmp_ntrans {a b c : List S44} (h1 : ¬ rcmp a b < 0) (h2 : ¬ rcmp b c < 0) : ¬ rcmp a c < 0 := by
  intro h
  have e1 := rcmp_neg a b
  have e2 := rcmp_neg b c
  have e3 := rcmp_neg a c
  by_cases h3 : rcmp a b = 0
  · rw [rcmp_zero.1 h3] at h; exact h2 h
  · have h4 : rcmp b a < 0 := by omega
    exact h2 (rcmp_trans h4 h)

/-! ### what the texts compute -/
theorem cmpI (a b : Int) : cmp_Compare_int.f a b = some (icmp a b) := by
  unfold cmp_Compare_int.f cmp_isNaN_int.f icmp
  simp
  repeat' split
  all_goals rfl
theorem ref_ints (a b : Int) : tabellionref03_ints.f a b = some (icmp a b) := by
  unfold tabellionref03_ints.f icmp
  repeat' split
  all_goals first | rfl | omega
theorem or3 (a b c : Int) : Ev (fun k => cmp_Or_int.f k [a, b, c]) (if a = 0 then (if b = 0 then c else b) else a) := by
  refine ⟨5, fun k hk => ?_⟩
  obtain ⟨k', rfl⟩ : ∃ k', k = k' + 5 := ⟨k - 5, by omega⟩
  unfold cmp_Or_int.f
  have w1 : wrap64 1 = 1 := by unfold wrap64; omega
  have w2 : wrap64 2 = 2 := by unfold wrap64; omega
  have w3 : wrap64 3 = 3 := by unfold wrap64; omega
  by_cases ha : a = 0
  · by_cases hb : b = 0
    · by_cases hc : c = 0
      · simp [cmp_Or_int.l0, rd, w1, w2, w3, ha, hb, hc]
      · simp [cmp_Or_int.l0, rd, w1, w2, w3, ha, hb, hc]
    · simp [cmp_Or_int.l0, rd, w1, w2, w3, ha, hb]
  · simp [cmp_Or_int.l0, rd, w1, w2, w3, ha]
theorem vorder (x y : S44) : Ev (fun k => value_Order.f k x.f0 x.f1 x.f2 y.f0 y.f1 y.f2) (vcmp x y) := by
  unfold value_Order.f
  refine Ev.bind (v := icmp x.f0 y.f0) (Ev.of fun _ => cmpI _ _) ?_
  refine Ev.bind (v := icmp x.f1 y.f1) (Ev.of fun _ => cmpI _ _) ?_
  refine Ev.bind (v := Lib.compareBytes x.f2.data.toList y.f2.data.toList) (Ev.of fun _ => rfl) ?_
  refine Ev.bind (or3 _ _ _) ?_
  exact Ev.const _

theorem getD_T44 (l : List S44) (i : Nat) : rd_T44 l (i : Int) = l.getD i z44 := by unfold rd_T44; rw [Int.toNat_natCast]
theorem drop_getD {α : Type} (l : List α) (z : α) (i : Nat) (h : i < l.length) : l.drop i = l.getD i z :: l.drop (i + 1) := by
  rw [List.drop_eq_getElem_cons h, List.getD_eq_getElem?_getD, List.getElem?_eq_getElem h]; rfl
theorem rcmp_stop {a b : List S44} (h : a = [] ∨ b = []) : rcmp a b = icmp a.length b.length := by
  rcases h with rfl | rfl
  · cases b with
    | nil => rfl
    | cons y b => unfold rcmp icmp; rw [if_pos (by simp; try omega)]
  · cases a with
    | nil => rfl
    | cons y b => unfold rcmp icmp; rw [if_neg (by simp; try omega), if_pos (by simp; try omega)]

theorem orders_loop (a b : List S44) (ha : a.length < 4611686018427387904) : ∀ (n i : Nat), a.length - i = n → i ≤ a.length → i ≤ b.length →
    Ev (fun k => api_Value.l0 k a b a (a.length : Int) (i : Int)) (rcmp (a.drop i) (b.drop i))
  | n, i, hn, hi, hib => by
    refine Ev.succ ?_ (fun k => by rw [api_Value.l0])
    by_cases h1 : i < a.length
    · refine Ev.congr ?_ (fun k => by rw [if_pos (by omega : (i : Int) < (a.length : Int)), if_pos (by omega : (0 : Int) ≤ (i : Int)), if_pos (by omega : (i : Int) < (a.length : Int))])
      by_cases h2 : i < b.length
      · refine Ev.congr ?_ (fun k => by rw [if_neg (by omega : ¬ (i : Int) ≥ (b.length : Int)), if_pos (by omega : (i : Int) < (b.length : Int)), getD_T44, getD_T44])
        refine Ev.bind (vorder (a.getD i z44) (b.getD i z44)) ?_
        rw [drop_getD a z44 i h1, drop_getD b z44 i h2]
        unfold rcmp
        by_cases h3 : vcmp (a.getD i z44) (b.getD i z44) = 0
        · rw [if_pos h3]
          refine Ev.congr ?_ (fun k => by rw [if_pos h3, w64 i (by omega)])
          match n, hn with
          | n + 1, hn => exact orders_loop a b ha n (i + 1) (by omega) (by omega) (by omega)
          | 0, hn => omega
        · rw [if_neg h3]
          exact Ev.congr (Ev.const _) (fun k => by rw [if_neg h3])
      · rw [drop_getD a z44 i h1, List.drop_eq_nil_of_le (by omega : b.length ≤ i)]
        exact Ev.congr (Ev.const 1) (fun k => by rw [if_pos (by omega : (i : Int) ≥ (b.length : Int))])
    · have e : i = a.length := by omega
      rw [List.drop_eq_nil_of_le (by omega : a.length ≤ i)]
      refine Ev.congr ?_ (fun k => by rw [if_neg (by omega : ¬ (i : Int) < (a.length : Int))])
      by_cases h2 : a.length < b.length
      · rw [drop_getD b z44 i (by omega)]
        exact Ev.congr (Ev.const (-1)) (fun k => by rw [if_pos (by omega : (a.length : Int) < (b.length : Int))])
      · rw [List.drop_eq_nil_of_le (by omega : b.length ≤ i)]
        exact Ev.congr (Ev.const 0) (fun k => by rw [if_neg (by omega : ¬ (a.length : Int) < (b.length : Int))])
theorem orders_ev (a b : List S44) (ha : a.length < 4611686018427387904) : Ev (fun k => value_Orders.f k a b) (rcmp a b) := by
  unfold value_Orders.f api_Value.f
  exact Ev.bind (orders_loop a b ha _ 0 rfl (Nat.zero_le _) (Nat.zero_le _)) (Ev.const _)

/-! ### the document's -/
theorem bt_getD (s : ByteArray) (i : Nat) (h : i < s.size) : bt s (i : Int) = ((s.data.toList.getD i 0).toNat : Int) := by
  unfold bt
  rw [dif_pos (by rw [Int.toNat_natCast]; exact h)]
  rw [List.getD_eq_getElem?_getD, List.getElem?_eq_getElem (by simpa using h)]
  simp only [Int.toNat_natCast]
  rfl
theorem u8_lt (x y : UInt8) : x < y ↔ ((x.toNat : Nat) : Int) < ((y.toNat : Nat) : Int) := by
  rw [UInt8.lt_iff_toNat_lt]; omega
theorem cb_stop {a b : List UInt8} (h : a = [] ∨ b = []) : Lib.compareBytes a b = icmp a.length b.length := by
  rcases h with rfl | rfl
  · cases b with
    | nil => rfl
    | cons y b => unfold Lib.compareBytes icmp; rw [if_pos (by simp; try omega)]
  · cases a with
    | nil => rfl
    | cons y b => unfold Lib.compareBytes icmp; rw [if_neg (by simp; try omega), if_pos (by simp; try omega)]
theorem texts_loop (a b : ByteArray) (ha : a.size < 4611686018427387904) : ∀ (n i : Nat), a.size - i = n → i ≤ a.size → i ≤ b.size →
    Ev (fun k => tabellionref03_texts.l0 k a b (i : Int)) (Lib.compareBytes (a.data.toList.drop i) (b.data.toList.drop i))
  | n, i, hn, hi, hib => by
    have sa : a.data.toList.length = a.size := Array.length_toList
    have sb : b.data.toList.length = b.size := Array.length_toList
    have stop : ¬ (i < a.size ∧ i < b.size) → Ev (fun k => tabellionref03_texts.j1 k a b (i : Int) false) (Lib.compareBytes (a.data.toList.drop i) (b.data.toList.drop i)) := fun h => by
      refine Ev.succ ?_ (fun k => by rw [tabellionref03_texts.j1])
      refine Ev.congr ?_ (fun k => by rw [if_neg (by simp)])
      have e : Lib.compareBytes (a.data.toList.drop i) (b.data.toList.drop i) = icmp (a.size : Int) (b.size : Int) := by
        rw [cb_stop (by
          by_cases h1 : i < a.size
          · exact .inr (List.drop_eq_nil_of_le (by omega))
          · exact .inl (List.drop_eq_nil_of_le (by omega)))]
        rw [List.length_drop, List.length_drop, sa, sb]
        unfold icmp
        repeat' split
        all_goals omega
      rw [e]
      exact Ev.bind (Ev.of fun _ => ref_ints _ _) (Ev.const _)
    refine Ev.succ ?_ (fun k => by rw [tabellionref03_texts.l0])
    by_cases h1 : i < a.size
    · refine Ev.congr ?_ (fun k => by rw [if_pos (by omega : (i : Int) < (a.size : Int))])
      by_cases h2 : i < b.size
      · refine Ev.congr ?_ (fun k => by rw [decide_eq_true (by omega : (i : Int) < (b.size : Int))])
        refine Ev.succ ?_ (fun k => by rw [tabellionref03_texts.j1])
        refine Ev.congr ?_ (fun k => by rw [if_pos rfl, if_pos (by omega : (0 : Int) ≤ (i : Int)), if_pos (by omega : (i : Int) < (a.size : Int)), if_pos (by omega : (i : Int) < (b.size : Int)), bt_getD a i h1, bt_getD b i h2])
        rw [drop_getD a.data.toList 0 i (by omega), drop_getD b.data.toList 0 i (by omega)]
        unfold Lib.compareBytes
        generalize hx : a.data.toList.getD i 0 = x
        generalize hy : b.data.toList.getD i 0 = y
        have hxl := x.toNat_lt
        have hyl := y.toNat_lt
        by_cases h3 : x = y
        · subst h3
          refine Ev.congr ?_ (fun k => by rw [if_pos rfl, w64 i (by omega)])
          rw [if_neg (UInt8.lt_irrefl _), if_neg (UInt8.lt_irrefl _)]
          match n, hn with
          | n + 1, hn => exact texts_loop a b ha n (i + 1) (by omega) (by omega) (by omega)
          | 0, hn => omega
        · have h4 : ¬ ((x.toNat : Nat) : Int) = ((y.toNat : Nat) : Int) := fun h => h3 (UInt8.toNat_inj.1 (by omega))
          refine Ev.congr ?_ (fun k => by rw [if_neg h4, show wrap64 ((x.toNat : Nat) : Int) = ((x.toNat : Nat) : Int) from by unfold wrap64; omega, show wrap64 ((y.toNat : Nat) : Int) = ((y.toNat : Nat) : Int) from by unfold wrap64; omega])
          have e : (if x < y then (-1 : Int) else if y < x then 1 else Lib.compareBytes (a.data.toList.drop (i + 1)) (b.data.toList.drop (i + 1))) = icmp ((x.toNat : Nat) : Int) ((y.toNat : Nat) : Int) := by
            unfold icmp
            by_cases h5 : x < y
            · rw [if_pos h5, if_pos ((u8_lt x y).1 h5)]
            · have h6 : ¬ ((x.toNat : Nat) : Int) < ((y.toNat : Nat) : Int) := fun h => h5 ((u8_lt x y).2 h)
              have h7 : ((y.toNat : Nat) : Int) < ((x.toNat : Nat) : Int) := by omega
              rw [if_neg h5, if_pos ((u8_lt y x).2 h7), if_neg h6, if_pos h7]
          rw [e]
          exact Ev.bind (Ev.of fun _ => ref_ints _ _) (Ev.const _)
      · refine Ev.congr (stop (fun h => h2 h.2)) (fun k => by rw [decide_eq_false (by omega : ¬ (i : Int) < (b.size : Int))])
    · refine Ev.congr (stop (fun h => h1 h.1)) (fun k => by rw [if_neg (by omega : ¬ (i : Int) < (a.size : Int))])
theorem texts_ev (a b : ByteArray) (ha : a.size < 4611686018427387904) : Ev (fun k => tabellionref03_texts.f k a b) (Lib.compareBytes a.data.toList b.data.toList) :=
  texts_loop a b ha _ 0 rfl (Nat.zero_le _) (Nat.zero_le _)
theorem rorder (x y : S44) (hx : x.f2.size < 4611686018427387904) : Ev (fun k => tabellionref03_Order.f k x.f0 x.f1 x.f2 y.f0 y.f1 y.f2) (vcmp x y) := by
  unfold tabellionref03_Order.f vcmp
  by_cases h0 : x.f0 = y.f0
  · rw [if_pos (icmp_zero.2 h0)]
    refine Ev.congr ?_ (fun k => by rw [if_pos h0])
    by_cases h1 : x.f1 = y.f1
    · rw [if_pos (icmp_zero.2 h1)]
      refine Ev.congr ?_ (fun k => by rw [if_pos h1])
      exact Ev.bind (texts_ev _ _ hx) (Ev.const _)
    · rw [if_neg (fun h => h1 (icmp_zero.1 h))]
      refine Ev.congr ?_ (fun k => by rw [if_neg h1])
      exact Ev.bind (Ev.of fun _ => ref_ints _ _) (Ev.const _)
  · rw [if_neg (fun h => h0 (icmp_zero.1 h))]
    refine Ev.congr ?_ (fun k => by rw [if_neg h0])
    exact Ev.bind (Ev.of fun _ => ref_ints _ _) (Ev.const _)
def short (a : List S44) : Prop := a.length < 4611686018427387904 ∧ ∀ x ∈ a, x.f2.size < 4611686018427387904
theorem rorders_loop (a b : List S44) (ha : short a) : ∀ (n i : Nat), a.length - i = n → i ≤ a.length → i ≤ b.length →
    Ev (fun k => tabellionref03_Orders.l0 k a b (i : Int)) (rcmp (a.drop i) (b.drop i))
  | n, i, hn, hi, hib => by
    have stop : ¬ (i < a.length ∧ i < b.length) → Ev (fun k => tabellionref03_Orders.j1 k a b (i : Int) false) (rcmp (a.drop i) (b.drop i)) := fun h => by
      refine Ev.succ ?_ (fun k => by rw [tabellionref03_Orders.j1])
      refine Ev.congr ?_ (fun k => by rw [if_neg (by simp)])
      have e : rcmp (a.drop i) (b.drop i) = icmp (a.length : Int) (b.length : Int) := by
        rw [rcmp_stop (by
          by_cases h1 : i < a.length
          · exact .inr (List.drop_eq_nil_of_le (by omega))
          · exact .inl (List.drop_eq_nil_of_le (by omega)))]
        rw [List.length_drop, List.length_drop]
        unfold icmp
        repeat' split
        all_goals omega
      rw [e]
      exact Ev.bind (Ev.of fun _ => ref_ints _ _) (Ev.const _)
    refine Ev.succ ?_ (fun k => by rw [tabellionref03_Orders.l0])
    by_cases h1 : i < a.length
    · refine Ev.congr ?_ (fun k => by rw [if_pos (by omega : (i : Int) < (a.length : Int))])
      by_cases h2 : i < b.length
      · have hm : a.getD i z44 ∈ a := by rw [List.getD_eq_getElem?_getD, List.getElem?_eq_getElem h1]; simp
        have hv := rorder (a.getD i z44) (b.getD i z44) (ha.2 _ hm)
        refine Ev.congr ?_ (fun k => by rw [decide_eq_true (by omega : (i : Int) < (b.length : Int))])
        refine Ev.succ ?_ (fun k => by rw [tabellionref03_Orders.j1])
        refine Ev.congr ?_ (fun k => by rw [if_pos rfl, if_pos (by omega : (0 : Int) ≤ (i : Int)), if_pos (by omega : (i : Int) < (a.length : Int)), if_pos (by omega : (i : Int) < (b.length : Int)), getD_T44, getD_T44])
        refine Ev.bind hv ?_
        rw [drop_getD a z44 i h1, drop_getD b z44 i h2]
        unfold rcmp
        by_cases h3 : vcmp (a.getD i z44) (b.getD i z44) = 0
        · rw [if_pos h3]
          refine Ev.congr ?_ (fun k => by rw [if_pos h3, w64 i (by have := ha.1; omega)])
          match n, hn with
          | n + 1, hn => exact rorders_loop a b ha n (i + 1) (by omega) (by omega) (by omega)
          | 0, hn => omega
        · rw [if_neg h3]
          refine Ev.congr ?_ (fun k => by rw [if_neg h3])
          exact Ev.bind hv (Ev.const _)
      · refine Ev.congr (stop (fun h => h2 h.2)) (fun k => by rw [decide_eq_false (by omega : ¬ (i : Int) < (b.length : Int))])
    · refine Ev.congr (stop (fun h => h1 h.1)) (fun k => by rw [if_neg (by omega : ¬ (i : Int) < (a.length : Int))])
theorem rorders_ev (a b : List S44) (ha : short a) : Ev (fun k => tabellionref03_Orders.f k a b) (rcmp a b) :=
  rorders_loop a b ha _ 0 rfl (Nat.zero_le _) (Nat.zero_le _)
end Go.Proofs.YtnllgjloimoebaaDoor.X

/- Rows with one key are one row. -/
set_option linter.unusedVariables false
set_option linter.unusedSimpArgs false
namespace Go.Proofs.YtnllgjloimoebaaDoor.X
open Go.RowKit Go.Proofs.YtnllgjloimoebaaDoorW.PrintWords

def num (l : List UInt8) : Nat := l.foldl (fun a c => a * 10 + (c.toNat - 48)) 0
theorem num_snoc (l : List UInt8) (c : UInt8) : num (l ++ [c]) = num l * 10 + (c.toNat - 48) := by unfold num; rw [List.foldl_append]; rfl
theorem ofNat_toNat (n : Nat) (h : n < 256) : (UInt8.ofNat n).toNat = n := by
  rw [UInt8.toNat_ofNat']; omega
theorem num_dec (u : Nat) : num (Lib.decDigits u) = u := by
  induction u using Nat.strongRecOn with
  | ind u ih =>
    unfold Lib.decDigits
    split
    · rename_i h
      show 0 * 10 + ((UInt8.ofNat (48 + u)).toNat - 48) = u
      rw [ofNat_toNat _ (by omega)]; omega
    · rename_i h
      rw [num_snoc, ih (u / 10) (by omega), ofNat_toNat _ (by omega)]; omega
theorem dec_digit (u : Nat) : ∀ c ∈ Lib.decDigits u, 48 ≤ c.toNat ∧ c.toNat ≤ 57 := by
  induction u using Nat.strongRecOn with
  | ind u ih =>
    intro c hc
    unfold Lib.decDigits at hc
    split at hc
    · rw [List.mem_singleton] at hc
      subst hc
      rw [ofNat_toNat _ (by omega)]; omega
    · rcases List.mem_append.1 hc with hc | hc
      · exact ih (u / 10) (by omega) c hc
      · rw [List.mem_singleton] at hc
        subst hc
        rw [ofNat_toNat _ (by omega)]; omega
theorem dec_inj {u v : Nat} (h : Lib.decDigits u = Lib.decDigits v) : u = v := by rw [← num_dec u, h, num_dec]
theorem itoa_inj {a b : Int} (h : Lib.itoa a = Lib.itoa b) : a = b := by
  unfold Lib.itoa at h
  have hd : ∀ (u : Nat) (l : List UInt8), Lib.decDigits u ≠ 45 :: l := fun u l e => by
    have := dec_digit u 45 (by rw [e]; simp)
    simp at this
  split at h
  · split at h
    · injection h with _ h
      have := dec_inj h
      omega
    · exact absurd h.symm (hd _ _)
  · split at h
    · exact absurd h (hd _ _)
    · have := dec_inj h
      omega
theorem itoa_no (a : Int) : (32 : UInt8) ∉ Lib.itoa a := by
  intro h
  unfold Lib.itoa at h
  split at h
  · rcases List.mem_cons.1 h with h | h
    · exact absurd h (by decide)
    · have := dec_digit _ _ h
      simp at this
  · have := dec_digit _ _ h
    simp at this
theorem split32 : ∀ {a b s t : List UInt8}, (32 : UInt8) ∉ a → (32 : UInt8) ∉ b → a ++ 32 :: s = b ++ 32 :: t → a = b ∧ s = t
  | [], [], _, _, _, _, h => by simpa using h
  | [], y :: b, _, _, _, hb, h => by
    injection h with h _
    exact absurd (by rw [h]; simp) hb
  | x :: a, [], _, _, ha, _, h => by
    injection h with h _
    exact absurd (by rw [h]; simp) ha
  | x :: a, y :: b, s, t, ha, hb, h => by
    injection h with h1 h2
    have := split32 (fun h => ha (List.mem_cons_of_mem _ h)) (fun h => hb (List.mem_cons_of_mem _ h)) h2
    exact ⟨by rw [h1, this.1], this.2⟩
theorem vtext_inj {x y : S44} {s t : List UInt8} (h : vtext x ++ s = vtext y ++ t) : x = y ∧ s = t := by
  unfold vtext at h
  simp only [List.append_assoc, List.cons_append, List.nil_append] at h
  obtain ⟨h0, h⟩ := split32 (itoa_no _) (itoa_no _) h
  obtain ⟨h1, h⟩ := split32 (itoa_no _) (itoa_no _) h
  obtain ⟨h2, h⟩ := split32 (itoa_no _) (itoa_no _) h
  have hs := itoa_inj h2
  have ha : x.f2.data.toList.length = x.f2.size := Array.length_toList
  have hb : y.f2.data.toList.length = y.f2.size := Array.length_toList
  obtain ⟨h3, h4⟩ := List.append_inj h (by omega)
  exact ⟨S44_ext (itoa_inj h0) (itoa_inj h1) h3, h4⟩
theorem ktext_inj : ∀ {a b : List S44}, a.length = b.length → ktext a = ktext b → a = b
  | [], [], _, _ => rfl
  | [], _ :: _, h, _ => by simp at h
  | _ :: _, [], h, _ => by simp at h
  | x :: a, y :: b, hl, h => by
    unfold ktext at h
    rw [List.flatMap_cons, List.flatMap_cons] at h
    obtain ⟨h1, h2⟩ := vtext_inj h
    rw [h1, ktext_inj (by simpa using hl) h2]
theorem keyT_inj {a b : List S44} (h : keyT a = keyT b) : a = b := by
  unfold keyT at h
  injection h with h1 h2
  exact ktext_inj h1 h2
theorem keyT_iff {a b : List S44} : keyT a = keyT b ↔ a = b := ⟨keyT_inj, fun h => by rw [h]⟩
end Go.Proofs.YtnllgjloimoebaaDoor.X

/- The groups are the document's: by one key, as they come first. -/
set_option linter.unusedVariables false
set_option linter.unusedSimpArgs false
namespace Go.Proofs.YtnllgjloimoebaaDoor.X
open Go.RowKit Go.Proofs.YtnllgjloimoebaaDoorW.PrintWords

/-- the row that a group stands for -/
def head (l : List (List S44)) (x : List Int) : List S44 := rd_L4 l (rd x 0)
structure GInv (l : List (List S44)) (k : Nat) (s : List (List Int) × (Nat × List UInt8 → Option Int)) : Prop where
  len : s.1.length ≤ k
  ne : ∀ x ∈ s.1, x ≠ []
  mem : ∀ x ∈ s.1, ∀ p ∈ x, 0 ≤ p ∧ p < (k : Int)
  one : ∀ j, j < s.1.length → s.2 (keyT (head l (s.1.getD j []))) = some (j : Int)
  lt : ∀ t g, s.2 t = some g → 0 ≤ g ∧ g < (s.1.length : Int) ∧ keyT (head l (s.1.getD g.toNat [])) = t
  lens : ∀ x ∈ s.1, x.length ≤ k

theorem getD_mem {α : Type} (l : List α) (z : α) (i : Nat) (h : i < l.length) : l.getD i z ∈ l := by
  rw [List.getD_eq_getElem?_getD, List.getElem?_eq_getElem h]; simp
theorem getD_set_eq {α : Type} (l : List α) (z v : α) (i : Nat) (h : i < l.length) : (l.set i v).getD i z = v := by
  rw [List.getD_eq_getElem?_getD, List.getElem?_set_self h]; rfl
theorem getD_set_ne {α : Type} (l : List α) (z v : α) (i j : Nat) (h : i ≠ j) : (l.set i v).getD j z = l.getD j z := by
  rw [List.getD_eq_getElem?_getD, List.getElem?_set_ne h, ← List.getD_eq_getElem?_getD]
theorem getD_append_lt {α : Type} (l m : List α) (z : α) (i : Nat) (h : i < l.length) : (l ++ m).getD i z = l.getD i z := by
  rw [List.getD_eq_getElem?_getD, List.getElem?_append_left h, ← List.getD_eq_getElem?_getD]
theorem getD_append_eq {α : Type} (l : List α) (x z : α) : (l ++ [x]).getD l.length z = x := by
  rw [List.getD_eq_getElem?_getD, List.getElem?_append_right (Nat.le_refl _)]; simp
theorem head_app (l : List (List S44)) {x : List Int} (h : x ≠ []) (i : Int) : head l (x ++ [i]) = head l x := by
  cases x with
  | nil => exact absurd rfl h
  | cons a x => rfl

theorem GInv.zero (l : List (List S44)) : GInv l 0 ([], fun _ => none) :=
  ⟨by simp, by simp, by simp, by simp, fun t g h => by simp at h, by simp⟩
theorem gput_none {s : List (List Int) × (Nat × List UInt8 → Option Int)} {r : List S44} {i : Int} (h : s.2 (keyT r) = none) : gput s r i = (s.1 ++ [[i]], putG s.2 (keyT r) s.1.length) := by
  unfold gput
  rw [h]
  simp only
  congr 1
  rw [getD_append_eq, List.nil_append]
  rw [List.set_append_right _ _ (Nat.le_refl _)]
  simp
theorem gput_some {s : List (List Int) × (Nat × List UInt8 → Option Int)} {r : List S44} {i g : Int} (h : s.2 (keyT r) = some g) : gput s r i = (s.1.set g.toNat (s.1.getD g.toNat [] ++ [i]), s.2) := by
  unfold gput
  rw [h]
theorem GInv.step {l : List (List S44)} {k : Nat} {s : List (List Int) × (Nat × List UInt8 → Option Int)} (I : GInv l k s) : GInv l (k + 1) (gput s (l.getD k []) k) := by
  cases hf : s.2 (keyT (l.getD k [])) with
  | none =>
    rw [gput_none hf]
    have hh : head l [(k : Int)] = l.getD k [] := by unfold head rd_L4 rd; simp
    refine ⟨?_, ?_, ?_, ?_, ?_, ?_⟩
    · have := I.len; simp; omega
    · intro x hx
      rcases List.mem_append.1 hx with hx | hx
      · exact I.ne x hx
      · rw [List.mem_singleton.1 hx]; simp
    · intro x hx p hp
      rcases List.mem_append.1 hx with hx | hx
      · have := I.mem x hx p hp; omega
      · rw [List.mem_singleton.1 hx] at hp
        rw [List.mem_singleton.1 hp]; omega
    · intro j hj
      show putG s.2 _ _ _ = _
      unfold putG
      rw [List.length_append, List.length_singleton] at hj
      by_cases h : j < s.1.length
      · rw [getD_append_lt _ _ _ _ h]
        have h1 := I.one j h
        rw [if_neg (fun e => by rw [e, hf] at h1; cases h1)]
        exact h1
      · have e : j = s.1.length := by omega
        subst e
        rw [getD_append_eq, hh, if_pos rfl]
    · intro t g h
      change putG s.2 _ _ _ = _ at h
      unfold putG at h
      show _ ∧ g < ((s.1 ++ [[(k : Int)]]).length : Int) ∧ keyT (head l ((s.1 ++ [[(k : Int)]]).getD g.toNat [])) = t
      rw [List.length_append, List.length_singleton]
      split at h
      · rename_i ht
        injection h with h
        subst h
        rw [Int.toNat_natCast, getD_append_eq, hh]
        exact ⟨by omega, by omega, ht.symm⟩
      · have h1 := I.lt t g h
        rw [getD_append_lt _ _ _ _ (by omega)]
        exact ⟨h1.1, by omega, h1.2.2⟩
    · intro x hx
      rcases List.mem_append.1 hx with hx | hx
      · have := I.lens x hx; omega
      · rw [List.mem_singleton.1 hx]; simp
  | some g =>
    rw [gput_some hf]
    obtain ⟨h0, h1, h2⟩ := I.lt _ _ hf
    have hgl : g.toNat < s.1.length := by omega
    have hm := getD_mem s.1 [] g.toNat hgl
    have hne := I.ne _ hm
    refine ⟨by have := I.len; simp; omega, ?_, ?_, ?_, ?_, ?_⟩
    · intro x hx
      rcases List.mem_or_eq_of_mem_set hx with hx | rfl
      · exact I.ne x hx
      · simp
    · intro x hx p hp
      rcases List.mem_or_eq_of_mem_set hx with hx | rfl
      · have := I.mem x hx p hp; omega
      · rcases List.mem_append.1 hp with hp | hp
        · have := I.mem _ hm p hp; omega
        · rw [List.mem_singleton.1 hp]; omega
    · intro j hj
      simp only [List.length_set] at hj
      show s.2 (keyT (head l ((s.1.set g.toNat _).getD j []))) = _
      by_cases h : g.toNat = j
      · subst h
        rw [getD_set_eq _ _ _ _ hgl, head_app l hne]
        exact I.one _ hgl
      · rw [getD_set_ne _ _ _ _ _ h]
        exact I.one j hj
    · intro t g' h
      have h3 := I.lt t g' h
      show _ ∧ g' < ((s.1.set g.toNat _).length : Int) ∧ keyT (head l ((s.1.set g.toNat _).getD g'.toNat [])) = t
      rw [List.length_set]
      refine ⟨h3.1, h3.2.1, ?_⟩
      by_cases e : g.toNat = g'.toNat
      · rw [← e, getD_set_eq _ _ _ _ hgl, head_app l hne, e]; exact h3.2.2
      · rw [getD_set_ne _ _ _ _ _ e]; exact h3.2.2
    · intro x hx
      rcases List.mem_or_eq_of_mem_set hx with hx | rfl
      · have := I.lens x hx; omega
      · have := I.lens _ hm
        rw [List.length_append, List.length_singleton]; omega
theorem GInv.at (l : List (List S44)) : ∀ k, GInv l k (gAfter l k)
  | 0 => GInv.zero l
  | k + 1 => (GInv.at l k).step

/-! ### the document's loops -/
def shorts (l : List (List S44)) : Prop := l.length ≤ 1099511627776 ∧ ∀ r ∈ l, short r
theorem shorts_rd {l : List (List S44)} (h : shorts l) (i : Int) : short (rd_L4 l i) := by
  unfold rd_L4
  by_cases hi : i.toNat < l.length
  · exact h.2 _ (getD_mem _ _ _ hi)
  · rw [List.getD_eq_getElem?_getD, List.getElem?_eq_none (by omega)]
    exact ⟨by simp, by simp⟩
theorem rd_mem {x : List Int} (h : x ≠ []) : rd x 0 ∈ x := by
  cases x with
  | nil => exact absurd rfl h
  | cons a x => simp [rd]

theorem grp_l1 {l : List (List S44)} (hl : shorts l) (i : Nat) (hi : i < l.length) {s : List (List Int) × (Nat × List UInt8 → Option Int)} (I : GInv l i s) (v : List (List Int))
    (hv : Ev (fun k => tabellionref33_Groups.l0 k l (gput s (l.getD i []) i).1 ((i + 1 : Nat) : Int)) v) :
    ∀ (n j : Nat), s.1.length - j = n → j ≤ s.1.length → (∀ j', j' < j → rcmp (head l (s.1.getD j' [])) (l.getD i []) ≠ 0) →
      Ev (fun k => tabellionref33_Groups.l1 k l s.1 (i : Int) (j : Int)) v
  | n, j, hn, hj, hno => by
    have hlen := I.len
    have hl1 := hl.1
    refine Ev.succ ?_ (fun k => by rw [tabellionref33_Groups.l1])
    have hrow : rd_L4 l (i : Int) = l.getD i [] := by unfold rd_L4; rw [Int.toNat_natCast]
    by_cases h1 : j < s.1.length
    · have hx : rd_L1 s.1 (j : Int) = s.1.getD j [] := by unfold rd_L1; rw [Int.toNat_natCast]
      have hm := getD_mem s.1 [] j h1
      have hne := I.ne _ hm
      have hp := I.mem _ hm _ (rd_mem hne)
      have hpos : 0 < (s.1.getD j []).length := List.length_pos_iff.2 hne
      have hll := I.lens _ hm
      refine Ev.congr ?_ (fun k => by rw [if_pos (by omega : (j : Int) < (s.1.length : Int)), if_pos (by omega : (0 : Int) ≤ (j : Int)), hx, if_pos (by omega : (0 : Int) < ((s.1.getD j []).length : Int)), if_pos hp.1, if_pos (by omega : rd (s.1.getD j []) 0 < (l.length : Int)), if_pos (by omega : (0 : Int) ≤ (i : Int)), if_pos (by omega : (i : Int) < (l.length : Int)), hrow])
      refine Ev.bind (rorders_ev _ _ (shorts_rd hl _)) ?_
      by_cases h2 : rcmp (head l (s.1.getD j [])) (l.getD i []) = 0
      · refine Ev.congr ?_ (fun k => by rw [if_pos (show rcmp (rd_L4 l (rd (s.1.getD j []) 0)) (l.getD i []) = 0 from h2), if_neg (by omega : ¬ (j : Int) = (s.1.length : Int)), if_pos (by omega : (s.1.getD j []).length < 17592186044416), w64 i (by omega)])
        have hf : s.2 (keyT (l.getD i [])) = some (j : Int) := by rw [← rcmp_zero.1 h2]; exact I.one j h1
        rw [gput_some hf] at hv
        exact hv
      · refine Ev.congr ?_ (fun k => by rw [if_neg (show ¬ rcmp (rd_L4 l (rd (s.1.getD j []) 0)) (l.getD i []) = 0 from h2), w64 j (by omega)])
        match n, hn with
        | n + 1, hn => exact grp_l1 hl i hi I v hv n (j + 1) (by omega) (by omega) (fun j' hj' => by
            by_cases e : j' = j
            · rw [e]; exact h2
            · exact hno j' (by omega))
        | 0, hn => omega
    · have e : j = s.1.length := by omega
      subst e
      have hf : s.2 (keyT (l.getD i [])) = none := by
        cases hf : s.2 (keyT (l.getD i [])) with
        | none => rfl
        | some g =>
          obtain ⟨h0, h2, h3⟩ := I.lt _ _ hf
          exact absurd (rcmp_zero.2 (keyT_inj h3)) (hno g.toNat (by omega))
      refine Ev.congr ?_ (fun k => by rw [if_neg (by omega : ¬ (s.1.length : Int) < (s.1.length : Int)), if_pos rfl, if_pos (by omega : s.1.length < 5864062014805)])
      refine Ev.bind (v := s.1 ++ [([] : List Int)]) (Ev.const _) ?_
      have hx : rd_L1 (s.1 ++ [([] : List Int)]) (s.1.length : Int) = [] := by unfold rd_L1; rw [Int.toNat_natCast, getD_append_eq]
      refine Ev.congr ?_ (fun k => by rw [if_pos (by omega : (0 : Int) ≤ (s.1.length : Int)), if_pos (by rw [List.length_append, List.length_singleton]; omega : (s.1.length : Int) < ((s.1 ++ [([] : List Int)]).length : Int)), hx, if_pos (by simp : ([] : List Int).length < 17592186044416), w64 i (by omega)])
      have h4 : gput s (l.getD i []) i = ((s.1 ++ [[]]).set s.1.length ((s.1 ++ [[]]).getD s.1.length [] ++ [(i : Int)]), putG s.2 (keyT (l.getD i [])) s.1.length) := by unfold gput; rw [hf]
      rw [h4] at hv
      simp only [getD_append_eq] at hv
      exact hv
theorem grp_l0 {l : List (List S44)} (hl : shorts l) : ∀ (n i : Nat), l.length - i = n → i ≤ l.length →
    Ev (fun k => tabellionref33_Groups.l0 k l (gAfter l i).1 (i : Int)) (groupsP l)
  | n, i, hn, hi => by
    refine Ev.succ ?_ (fun k => by rw [tabellionref33_Groups.l0])
    by_cases h1 : i < l.length
    · refine Ev.congr ?_ (fun k => by rw [if_pos (by omega : (i : Int) < (l.length : Int))])
      match n, hn with
      | n + 1, hn =>
        exact grp_l1 hl i h1 (GInv.at l i) _ (grp_l0 hl n (i + 1) (by omega) (by omega)) _ 0 rfl (Nat.zero_le _) (fun j' h => by omega)
      | 0, hn => omega
    · have e : i = l.length := by omega
      subst e
      exact Ev.congr (Ev.const _) (fun k => by rw [if_neg (by omega : ¬ (l.length : Int) < (l.length : Int))]; rfl)
theorem refGroups_ev {l : List (List S44)} (hl : shorts l) : Ev (fun k => tabellionref33_Groups.f k l) (groupsP l) :=
  grp_l0 hl _ 0 rfl (Nat.zero_le _)

/-! ### the same lists -/
theorem lists_l1 (a : List (List Int)) (j : Nat) (hj : j < a.length) (hb : (a.getD j []).length < 4611686018427387904) (v : Bool) (hv : Ev (fun k => tabellionref33_Lists.l0 k a a (wrap64 ((j : Int) + 1))) v) :
    ∀ (n i : Nat), (a.getD j []).length - i = n → i ≤ (a.getD j []).length → Ev (fun k => tabellionref33_Lists.l1 k a a (j : Int) (i : Int)) v
  | n, i, hn, hi => by
    have hx : rd_L1 a (j : Int) = a.getD j [] := by unfold rd_L1; rw [Int.toNat_natCast]
    refine Ev.succ ?_ (fun k => by rw [tabellionref33_Lists.l1, hx, if_pos (by omega : (0 : Int) ≤ (j : Int)), if_pos (by omega : (j : Int) < (a.length : Int))])
    by_cases h1 : i < (a.getD j []).length
    · refine Ev.congr ?_ (fun k => by rw [if_pos (by omega : (i : Int) < ((a.getD j []).length : Int)), if_pos (by omega : (0 : Int) ≤ (i : Int)), if_pos (by omega : (j : Int) < (a.length : Int)), if_pos (by omega : (i : Int) < ((a.getD j []).length : Int)), if_pos rfl, w64 i (by omega)])
      match n, hn with
      | n + 1, hn => exact lists_l1 a j hj hb v hv n (i + 1) (by omega) (by omega)
      | 0, hn => omega
    · exact Ev.congr hv (fun k => by rw [if_neg (by omega : ¬ (i : Int) < ((a.getD j []).length : Int))])
theorem lists_l0 (a : List (List Int)) (ha : a.length < 4611686018427387904) (hb : ∀ x ∈ a, x.length < 4611686018427387904) : ∀ (n j : Nat), a.length - j = n → j ≤ a.length →
    Ev (fun k => tabellionref33_Lists.l0 k a a (j : Int)) true
  | n, j, hn, hj => by
    have hx : rd_L1 a (j : Int) = a.getD j [] := by unfold rd_L1; rw [Int.toNat_natCast]
    refine Ev.succ ?_ (fun k => by rw [tabellionref33_Lists.l0])
    by_cases h1 : j < a.length
    · refine Ev.congr ?_ (fun k => by rw [if_pos (by omega : (j : Int) < (a.length : Int)), decide_eq_true (by omega : (j : Int) < (a.length : Int))])
      refine Ev.succ ?_ (fun k => by rw [tabellionref33_Lists.j1, if_pos rfl, if_pos (by omega : (0 : Int) ≤ (j : Int)), if_pos (by omega : (j : Int) < (a.length : Int)), if_pos (by omega : (j : Int) < (a.length : Int)), if_pos rfl])
      refine lists_l1 a j h1 (hb _ (getD_mem _ _ _ h1)) true ?_ _ 0 rfl (Nat.zero_le _)
      refine Ev.congr ?_ (fun k => by rw [w64 j (by omega)])
      match n, hn with
      | n + 1, hn => exact lists_l0 a ha hb n (j + 1) (by omega) (by omega)
      | 0, hn => omega
    · refine Ev.congr ?_ (fun k => by rw [if_neg (by omega : ¬ (j : Int) < (a.length : Int))])
      refine Ev.succ ?_ (fun k => by rw [tabellionref33_Lists.j1, if_neg (by simp)])
      exact Ev.congr (Ev.const true) (fun k => by simp)
theorem lists_ev (a : List (List Int)) (ha : a.length < 4611686018427387904) (hb : ∀ x ∈ a, x.length < 4611686018427387904) : Ev (fun k => tabellionref33_Lists.f k a a) true :=
  lists_l0 a ha hb _ 0 rfl (Nat.zero_le _)
end Go.Proofs.YtnllgjloimoebaaDoor.X

/- grouper.Sorted: the groups, by their keys. -/
set_option linter.unusedVariables false
set_option linter.unusedSimpArgs false
namespace Go.Proofs.YtnllgjloimoebaaDoor.X
open Go.RowKit Go.Sort Go.Proofs.YtnllgjloimoebaaDoorW.PrintWords Go.Proofs.YtnllgjloimoebaaDoorW.PrintLast Go.Proofs.YtnllgjloimoebaaDoorW.PrintMore

def gcmp (l : List (List S44)) (a b : List Int) : Int := rcmp (head l a) (head l b)
def sortedP (l : List (List S44)) : List (List Int) := (groupsP l).mergeSort (fun a b => !decide (gcmp l b a < 0))
def grouper_Sorted.f (l : List (List S44)) : Option (List (List Int)) := if l.all keyable && decide (l.length ≤ 1099511627776) then some (sortedP l) else none

theorem keyable_short {r : List S44} (h : keyable r = true) : short r := by
  have h1 := keyable_len h
  unfold keyable at h
  rw [Bool.and_eq_true] at h
  have h2 := rowOK_of h.1
  exact ⟨by omega, fun x hx => by have := (h2.2 x hx).2.2; omega⟩

section
variable (l : List (List S44)) (m : Nat)
/-- the order of places in the groups' list -/
def icf (i j : Fin (m + 1)) : Int := gcmp l ((groupsP l).getD i.val []) ((groupsP l).getD j.val [])
theorem icf_swo : SWO (ltOf (icf l m)) := by
  refine ⟨fun x => ?_, fun x y z h1 h2 => ?_, fun x y z h1 h2 => ?_⟩
  · unfold ltOf icf gcmp
    rw [rcmp_self]; rfl
  · unfold ltOf icf gcmp at *
    rw [decide_eq_true_eq] at *
    exact rcmp_trans h1 h2
  · unfold ltOf icf gcmp at *
    rw [decide_eq_false_iff_not] at *
    exact rcmp_ntrans h1 h2
theorem icf_tot (hm : (groupsP l).length = m + 1) (x y : Fin (m + 1)) (h1 : ltOf (icf l m) x y = false) (h2 : ltOf (icf l m) y x = false) : x = y := by
  unfold ltOf icf gcmp at *
  rw [decide_eq_false_iff_not] at *
  have e := rcmp_neg (head l ((groupsP l).getD x.val [])) (head l ((groupsP l).getD y.val []))
  have e2 := rcmp_zero.1 (by omega : rcmp (head l ((groupsP l).getD x.val [])) (head l ((groupsP l).getD y.val [])) = 0)
  have I := GInv.at l l.length
  have a := I.one x.val (by have := x.2; show x.val < (groupsP l).length; omega)
  have b := I.one y.val (by have := y.2; show y.val < (groupsP l).length; omega)
  change (gAfter l l.length).2 (keyT (head l ((groupsP l).getD x.val []))) = _ at a
  change (gAfter l l.length).2 (keyT (head l ((groupsP l).getD y.val []))) = _ at b
  rw [e2, b] at a
  injection a with a
  exact Fin.ext (by omega)
theorem icf_sorted (hm : (groupsP l).length = m + 1) : ((List.finRange (m + 1)).mergeSort (fun x y => !(ltOf (icf l m)) y x)).map (fun i => (groupsP l).getD i.val []) = sortedP l := by
  unfold sortedP
  rw [List.map_mergeSort (r := fun x y => !ltOf (icf l m) y x) (f := fun i : Fin (m + 1) => (groupsP l).getD i.val []) (s := fun a b => !decide (gcmp l b a < 0)) (fun a _ b _ => rfl)]
  congr 1
  apply List.ext_getElem
  · simp [hm]
  · intro i h1 h2
    simp [List.getD_eq_getElem?_getD, List.getElem?_eq_getElem h2]
end

theorem sorted_cmp (A0 : Option Addr) (c0 : Nat) (l0 : List (List (S44))) (w w1 : World) (g m : Nat) (inn : Fin (m + 1) → Value) (hall : shorts l0)
    (hC : Kd.C (Kd.slice 44 k44) w A0 l0.length l0) (hbx : w1.heap[w.heap.size]? = some (.cells #[.slice A0 l0.length c0] 22 (0, 0))) (hb : Below w.heap.size w w1) (hg : w.heap.size + 1 ≤ g) (hm : (groupsP l0).length = m + 1)
    (hM : ∀ i : Fin (m + 1), (Kd.slice 3 (Kd.int .i64)).M w1 (w.heap.size + 1) (fun k => True ∧ k ≠ g) ((groupsP l0).getD i.val []) [inn i]) :
    CmpLays1 Tryd.prog 32 #[.pointer (some ⟨w.heap.size, 0, none⟩)] inn (icf l0 m) g 0 (m + 1) w1 := by
  intro q os dk hs x y
  have hBW : Below w.heap.size w (sortWorld inn w1 g 0 q dk os) := sw_below hb (by omega)
  have hbx2 : (sortWorld inn w1 g 0 q dk os).heap[w.heap.size]? = some (.cells #[.slice A0 l0.length c0] 22 (0, 0)) := (sw_other _ (blk_lt hbx) (by omega)).trans hbx
  have hMW : ∀ i : Fin (m + 1), ∃ A c, inn i = .slice A ((groupsP l0).getD i.val []).length c ∧ Kd.C (Kd.int .i64) (sortWorld inn w1 g 0 q dk os) A ((groupsP l0).getD i.val []).length ((groupsP l0).getD i.val []) := fun i => by
    have h4 := (Kd.slice 3 (Kd.int .i64)).M_move (w1 := sortWorld inn w1 g 0 q dk os) (ok := fun k => (True ∧ k ≠ g) ∧ k < w1.heap.size) (fun k hk => sw_other k hk.2 hk.1.2) ((Kd.slice 3 (Kd.int .i64)).M_mono (fun k hk => ⟨hk.1, hk.2.2.1⟩) ((Kd.slice 3 (Kd.int .i64)).M_bound (hM i)))
    obtain ⟨v, e, hR⟩ := h4
    injection e with e
    obtain ⟨A, c, e2, _, hC2⟩ := Kd.R_reads hR
    exact ⟨A, c, e.trans e2, hC2⟩
  obtain ⟨Aa, ca, ea, hCa⟩ := hMW x
  obtain ⟨Ab, cb, eb, hCb⟩ := hMW y
  have I := GInv.at l0 l0.length
  have hin : ∀ i : Fin (m + 1), (groupsP l0).getD i.val [] ≠ [] ∧ 0 ≤ rd ((groupsP l0).getD i.val []) 0 ∧ rd ((groupsP l0).getD i.val []) 0 < (l0.length : Int) := fun i => by
    have h1 : (groupsP l0).getD i.val [] ∈ groupsP l0 := getD_mem _ _ _ (by have := i.2; omega)
    have h2 := I.ne _ h1
    exact ⟨h2, I.mem _ h1 _ (rd_mem h2)⟩
  obtain ⟨k, hk⟩ := orders_ev (head l0 ((groupsP l0).getD x.val [])) (head l0 ((groupsP l0).getD y.val [])) (shorts_rd hall _).1
  show Calls Tryd.prog 32 #[inn x, inn y, .pointer (some ⟨w.heap.size, 0, none⟩)] _ _
  rw [ea, eb]
  refine (sorted1_calls k w.heap.size A0 c0 l0 Aa ca _ Ab cb _ _ _ (icf l0 m x y) _ ((blk_cell hbx2 0).trans rfl) (Kd.C_below hC hBW) hCa hCb (List.length_pos_iff.2 (hin x).1) (List.length_pos_iff.2 (hin y).1) rfl rfl (hin x).2.1 (hin x).2.2 (hin y).2.1 (hin y).2.2 (hk k (Nat.le_refl _))).mono ?_
  rintro e w' ⟨rfl, hb'⟩
  exact ⟨rfl, hb'.grows⟩

set_option maxHeartbeats 4000000 in
set_option maxRecDepth 100000 in
theorem grouper_Sorted.calls (A0 : Option Addr) (c0 : Nat) (l0 : List (List (S44))) (r : List (List Int)) (w : World) (hr0 : Kd.C (Kd.slice 44 k44) w A0 l0.length l0) (hc0 : l0.length ≤ c0) (h : grouper_Sorted.f l0 = some r) (htab : Tab w) :
    Calls Tryd.prog 13 #[.slice A0 l0.length c0] w fun e w' => ∃ v0_ : Value, e = .returned (v0_) ∧ Kd.S (Kd.slice 3 (Kd.int .i64)) 30 w' w.heap.size (fun _ => True) v0_ r ∧ Below w.heap.size w w' := by
  have HR0 := Aside0.mk hr0
  have HC0 := Aside0.mk hc0
  have HT := Aside0.mk htab
  clear hr0 hc0 htab
  unfold grouper_Sorted.f at h
  split at h
  case isFalse => cases h
  rename_i hall
  have HF : Aside0 (grouper_Groups.f l0 = some (groupsP l0)) := ⟨by unfold grouper_Groups.f; rw [if_pos hall]⟩
  rw [Bool.and_eq_true, decide_eq_true_eq, List.all_eq_true] at hall
  have HALL := Aside0.mk hall
  clear hall
  have h := Option.some.inj h
  have HRES := Aside0.mk h
  clear h
  go_enter Tryd.func13, Tryd.ntmps13
  have HTB : Aside0 (Tab (w.alloc (.cells #[.slice A0 l0.length c0] 22))) := ⟨tab_of HT.out (below_alloc (Below.refl _ _) _)⟩
  have HRB : Aside0 (Kd.C (Kd.slice 44 k44) (w.alloc (.cells #[.slice A0 l0.length c0] 22)) A0 l0.length l0) := ⟨Kd.C_alloc HR0.out _⟩
  go_wp2_with (go_at_call 11; refine (grouper_Groups.calls A0 c0 l0 (groupsP l0) _ HRB.out HC0.out HF.out HTB.out).mono ?_)
  rintro e w1 ⟨v1, rfl, ho, hb⟩
  have hbx : (w.alloc (.cells #[.slice A0 l0.length c0] 22)).heap[w.heap.size]? = some (.cells #[.slice A0 l0.length c0] 22 (0, 0)) := blk_new _ _
  have HBX := Aside0.mk (blk_below hbx hb)
  have HB : Aside0 (Below w.heap.size w w1) := ⟨below_step (below_alloc (Below.refl _ _) _) hb⟩
  have hsz : (w.alloc (.cells #[.slice A0 l0.length c0] 22)).heap.size = w.heap.size + 1 := by simp
  rw [hsz] at ho
  have HO := Aside0.mk ho
  clear hbx ho hb hsz HRB HTB
  obtain ⟨A1, c1, e1⟩ := Kd.S_slice HO.out
  subst e1
  have hlen : (groupsP l0).length ≤ 1099511627776 := Nat.le_trans (gAfter_ok l0 l0.length).1 HALL.out.2
  cases hm : (groupsP l0).length with
  | zero =>
    have hnil : groupsP l0 = [] := List.eq_nil_of_length_eq_zero hm
    have hr : r = [] := by rw [← HRES.out]; unfold sortedP; rw [hnil]; exact List.mergeSort_nil
    have HO2 : Aside0 (Kd.S (Kd.slice 3 (Kd.int .i64)) 30 w1 w.heap.size (fun _ => True) (.slice A1 0 c1) r) := ⟨by
      have := Kd.S_lower HO.out (Nat.le_succ _)
      rw [hm] at this
      rw [hr, ← hnil]
      exact this⟩
    go_wp2_with (go_at_call 31; refine (Tryd.slices_SortFunc_none_f31 (α := Fin 1) A1 c1 _ _).mono ?_; rintro e w2 ⟨rfl, rfl⟩)
    go_ret
    exact ⟨_, rfl, HO2.out, HB.out⟩
  | succ m =>
    obtain ⟨g, cap, e2, hg0, hg1, _⟩ := Kd.S_form HO.out (by omega)
    injection e2 with e2 _ e3
    subst e2
    subst e3
    obtain ⟨inn, h1, hH, hglt, hgb, hn, hM, hfin⟩ := sort_row (d := Kd.slice 3 (Kd.int .i64)) rfl [] HO.out hm
    have hsh : shorts l0 := ⟨HALL.out.2, fun r hr => keyable_short (HALL.out.1 r hr)⟩
    have hcmp := sorted_cmp A0 c0 l0 w w1 g m inn hsh HR0.out HBX.out HB.out hgb hm hM
    have eg : ∀ args w, (callFunc 32 args).run Tryd.prog w = .ok (.enter 32 args) w := enters_of Tryd.func32 (by kernel_rfl) rfl
    have hds : (List.finRange (m + 1)).toArray.size = m + 1 := by simp
    have hS := Tryd.slices_SortFunc_total_f31 inn h1 (icf l0 m) (icf_swo l0 m) 32 #[.pointer (some ⟨w.heap.size, 0, none⟩)] g 0 c1 (List.finRange (m + 1)).toArray w1 eg (by rw [hds]; exact hcmp) hH hglt (by rw [hds]; omega) (icf_tot l0 m hm)
    rw [hds] at hS
    have HS := Aside0.mk hS
    have HFIN := Aside0.mk hfin
    clear hcmp hS hH hM hfin
    go_wp2_with (go_at_call 31; refine HS.out.mono ?_; rintro e w2 ⟨rfl, q, os, rfl⟩)
    go_ret
    refine ⟨_, rfl, ?_, sw_below HB.out (by omega)⟩
    have h5 := HFIN.out q _ os (List.mergeSort_perm (List.finRange (m + 1)) (fun x y => !(ltOf (icf l0 m)) y x))
    rw [icf_sorted l0 m hm, HRES.out, hm] at h5
    exact Kd.S_lower h5 (Nat.le_succ _)
end Go.Proofs.YtnllgjloimoebaaDoor.X

-- By xprint.py (this session's own program over the kit's print): not trusted: Lean checks it.
namespace Go.Proofs.YtnllgjloimoebaaDoor.X
open Go.RowKit Go.Proofs.YtnllgjloimoebaaDoorW.PrintWords Go.Proofs.YtnllgjloimoebaaDoorW.PrintLast Go.Proofs.YtnllgjloimoebaaDoorW.PrintMore
attribute [local go_sem] max2_int min2_int max_two min_two max_three min_three max_four min_four   -- for this text's walks alone
set_option linter.unusedVariables false
set_option linter.unusedSimpArgs false

/-! ### tabellionlaw33_awake: function 9 -/
def tabellionlaw33_awake.f (k : Nat)  : Option (Bool) := (value_Num.f 5).bind fun bt109 => ((value_Num.f 5).bind fun bt118 => ((value_Num.f 1).bind fun bt127 => ((some (([(([(⟨bt109.1, bt109.2.1, bt109.2.2⟩ : S44)] : List (S44))), (([(⟨0, 0, (⟨#[]⟩ : ByteArray)⟩ : S44)] : List (S44))), (([(⟨bt118.1, bt118.2.1, bt118.2.2⟩ : S44)] : List (S44))), (([(⟨0, 0, (⟨#[]⟩ : ByteArray)⟩ : S44)] : List (S44))), (([(⟨bt127.1, bt127.2.1, bt127.2.2⟩ : S44)] : List (S44)))] : List (List (S44))) : List (List (S44)))).bind fun y133 => ((grouper_Groups.f y133).bind fun t136 => ((tabellionref33_Lists.f k t136 (([(([0, 2] : List Int)), (([1, 3] : List Int)), (([4] : List Int))] : List (List Int)))).bind fun t151 => (if t151 = true then ((grouper_Sorted.f y133).bind fun t152 => ((tabellionref33_Lists.f k t152 (([(([1, 3] : List Int)), (([4] : List Int)), (([0, 2] : List Int))] : List (List Int)))).bind fun t167 => (if t167 = true then ((grouper_Distinct.f y133).bind fun t168 => (some ((t168.length : Int) == 3))) else (some false)))) else (some false)))))))
set_option maxHeartbeats 8000000 in
set_option maxRecDepth 100000 in
theorem tabellionlaw33_awake.calls (k : Nat)  (r : Bool) (w : World) (h : tabellionlaw33_awake.f k  = some r) (htab : Tab w) (hrt : r = true) :
  Calls Tryd.prog 9 #[] w fun e w' => e = .returned (.bool r) ∧ Below w.heap.size w w' := by
 have HRT := Aside0.mk hrt
 clear hrt
 have HTAB := Aside0.mk htab
 clear htab
 have hu44 := Tryd.underlying44
 have HB := Aside0.mk (Below.refl w.heap.size w)
 have H : ((value_Num.f 5).bind fun bt109 => ((value_Num.f 5).bind fun bt118 => ((value_Num.f 1).bind fun bt127 => ((some (([(([(⟨bt109.1, bt109.2.1, bt109.2.2⟩ : S44)] : List (S44))), (([(⟨0, 0, (⟨#[]⟩ : ByteArray)⟩ : S44)] : List (S44))), (([(⟨bt118.1, bt118.2.1, bt118.2.2⟩ : S44)] : List (S44))), (([(⟨0, 0, (⟨#[]⟩ : ByteArray)⟩ : S44)] : List (S44))), (([(⟨bt127.1, bt127.2.1, bt127.2.2⟩ : S44)] : List (S44)))] : List (List (S44))) : List (List (S44)))).bind fun y133 => ((grouper_Groups.f y133).bind fun t136 => ((tabellionref33_Lists.f k t136 (([(([0, 2] : List Int)), (([1, 3] : List Int)), (([4] : List Int))] : List (List Int)))).bind fun t151 => (if t151 = true then ((grouper_Sorted.f y133).bind fun t152 => ((tabellionref33_Lists.f k t152 (([(([1, 3] : List Int)), (([4] : List Int)), (([0, 2] : List Int))] : List (List Int)))).bind fun t167 => (if t167 = true then ((grouper_Distinct.f y133).bind fun t168 => (some ((t168.length : Int) == 3))) else (some false)))) else (some false)))))))) = some r := h
 clear h
 replace H := Option.bind_eq_some_iff.mp H
 obtain ⟨⟨t109, t110, t111⟩, A10, H⟩ := H
 replace H : ((value_Num.f 5).bind fun bt118 => ((value_Num.f 1).bind fun bt127 => ((some (([(([(⟨t109, t110, t111⟩ : S44)] : List (S44))), (([(⟨0, 0, (⟨#[]⟩ : ByteArray)⟩ : S44)] : List (S44))), (([(⟨bt118.1, bt118.2.1, bt118.2.2⟩ : S44)] : List (S44))), (([(⟨0, 0, (⟨#[]⟩ : ByteArray)⟩ : S44)] : List (S44))), (([(⟨bt127.1, bt127.2.1, bt127.2.2⟩ : S44)] : List (S44)))] : List (List (S44))) : List (List (S44)))).bind fun y133 => ((grouper_Groups.f y133).bind fun t136 => ((tabellionref33_Lists.f k t136 (([(([0, 2] : List Int)), (([1, 3] : List Int)), (([4] : List Int))] : List (List Int)))).bind fun t151 => (if t151 = true then ((grouper_Sorted.f y133).bind fun t152 => ((tabellionref33_Lists.f k t152 (([(([1, 3] : List Int)), (([4] : List Int)), (([0, 2] : List Int))] : List (List Int)))).bind fun t167 => (if t167 = true then ((grouper_Distinct.f y133).bind fun t168 => (some ((t168.length : Int) == 3))) else (some false)))) else (some false))))))) = some r := H
 have A1 := Aside0.mk A10
 clear A10
 obtain ⟨y112, hy112⟩ : ∃ y_ : List (S44), y_ = (([(⟨t109, t110, t111⟩ : S44)] : List (S44))) := ⟨_, rfl⟩
 replace H : ((value_Num.f 5).bind fun bt118 => ((value_Num.f 1).bind fun bt127 => ((some (([y112, (([(⟨0, 0, (⟨#[]⟩ : ByteArray)⟩ : S44)] : List (S44))), (([(⟨bt118.1, bt118.2.1, bt118.2.2⟩ : S44)] : List (S44))), (([(⟨0, 0, (⟨#[]⟩ : ByteArray)⟩ : S44)] : List (S44))), (([(⟨bt127.1, bt127.2.1, bt127.2.2⟩ : S44)] : List (S44)))] : List (List (S44))) : List (List (S44)))).bind fun y133 => ((grouper_Groups.f y133).bind fun t136 => ((tabellionref33_Lists.f k t136 (([(([0, 2] : List Int)), (([1, 3] : List Int)), (([4] : List Int))] : List (List Int)))).bind fun t151 => (if t151 = true then ((grouper_Sorted.f y133).bind fun t152 => ((tabellionref33_Lists.f k t152 (([(([1, 3] : List Int)), (([4] : List Int)), (([0, 2] : List Int))] : List (List Int)))).bind fun t167 => (if t167 = true then ((grouper_Distinct.f y133).bind fun t168 => (some ((t168.length : Int) == 3))) else (some false)))) else (some false))))))) = some r := by first | (rw [hy112]; with_reducible exact H) | (have H2_ := (Option.bind_some _ _).symm.trans H; rw [hy112]; with_reducible exact H2_) | (have H2_ := (Option.bind_some _ _).symm.trans H; with_reducible exact H2_) | with_reducible exact H | (rw [hy112]; exact H) | exact H
 have Ny112 := Aside0.mk hy112
 clear hy112
 obtain ⟨y115, hy115⟩ : ∃ y_ : List (S44), y_ = (([(⟨0, 0, (⟨#[]⟩ : ByteArray)⟩ : S44)] : List (S44))) := ⟨_, rfl⟩
 replace H : ((value_Num.f 5).bind fun bt118 => ((value_Num.f 1).bind fun bt127 => ((some (([y112, y115, (([(⟨bt118.1, bt118.2.1, bt118.2.2⟩ : S44)] : List (S44))), (([(⟨0, 0, (⟨#[]⟩ : ByteArray)⟩ : S44)] : List (S44))), (([(⟨bt127.1, bt127.2.1, bt127.2.2⟩ : S44)] : List (S44)))] : List (List (S44))) : List (List (S44)))).bind fun y133 => ((grouper_Groups.f y133).bind fun t136 => ((tabellionref33_Lists.f k t136 (([(([0, 2] : List Int)), (([1, 3] : List Int)), (([4] : List Int))] : List (List Int)))).bind fun t151 => (if t151 = true then ((grouper_Sorted.f y133).bind fun t152 => ((tabellionref33_Lists.f k t152 (([(([1, 3] : List Int)), (([4] : List Int)), (([0, 2] : List Int))] : List (List Int)))).bind fun t167 => (if t167 = true then ((grouper_Distinct.f y133).bind fun t168 => (some ((t168.length : Int) == 3))) else (some false)))) else (some false))))))) = some r := by first | (rw [hy115]; with_reducible exact H) | (have H2_ := (Option.bind_some _ _).symm.trans H; rw [hy115]; with_reducible exact H2_) | (have H2_ := (Option.bind_some _ _).symm.trans H; with_reducible exact H2_) | with_reducible exact H | (rw [hy115]; exact H) | exact H
 have Ny115 := Aside0.mk hy115
 clear hy115
 replace H := Option.bind_eq_some_iff.mp H
 obtain ⟨⟨t118, t119, t120⟩, A20, H⟩ := H
 replace H : ((value_Num.f 1).bind fun bt127 => ((some (([y112, y115, (([(⟨t118, t119, t120⟩ : S44)] : List (S44))), (([(⟨0, 0, (⟨#[]⟩ : ByteArray)⟩ : S44)] : List (S44))), (([(⟨bt127.1, bt127.2.1, bt127.2.2⟩ : S44)] : List (S44)))] : List (List (S44))) : List (List (S44)))).bind fun y133 => ((grouper_Groups.f y133).bind fun t136 => ((tabellionref33_Lists.f k t136 (([(([0, 2] : List Int)), (([1, 3] : List Int)), (([4] : List Int))] : List (List Int)))).bind fun t151 => (if t151 = true then ((grouper_Sorted.f y133).bind fun t152 => ((tabellionref33_Lists.f k t152 (([(([1, 3] : List Int)), (([4] : List Int)), (([0, 2] : List Int))] : List (List Int)))).bind fun t167 => (if t167 = true then ((grouper_Distinct.f y133).bind fun t168 => (some ((t168.length : Int) == 3))) else (some false)))) else (some false)))))) = some r := H
 have A2 := Aside0.mk A20
 clear A20
 obtain ⟨y121, hy121⟩ : ∃ y_ : List (S44), y_ = (([(⟨t118, t119, t120⟩ : S44)] : List (S44))) := ⟨_, rfl⟩
 replace H : ((value_Num.f 1).bind fun bt127 => ((some (([y112, y115, y121, (([(⟨0, 0, (⟨#[]⟩ : ByteArray)⟩ : S44)] : List (S44))), (([(⟨bt127.1, bt127.2.1, bt127.2.2⟩ : S44)] : List (S44)))] : List (List (S44))) : List (List (S44)))).bind fun y133 => ((grouper_Groups.f y133).bind fun t136 => ((tabellionref33_Lists.f k t136 (([(([0, 2] : List Int)), (([1, 3] : List Int)), (([4] : List Int))] : List (List Int)))).bind fun t151 => (if t151 = true then ((grouper_Sorted.f y133).bind fun t152 => ((tabellionref33_Lists.f k t152 (([(([1, 3] : List Int)), (([4] : List Int)), (([0, 2] : List Int))] : List (List Int)))).bind fun t167 => (if t167 = true then ((grouper_Distinct.f y133).bind fun t168 => (some ((t168.length : Int) == 3))) else (some false)))) else (some false)))))) = some r := by first | (rw [hy121]; with_reducible exact H) | (have H2_ := (Option.bind_some _ _).symm.trans H; rw [hy121]; with_reducible exact H2_) | (have H2_ := (Option.bind_some _ _).symm.trans H; with_reducible exact H2_) | with_reducible exact H | (rw [hy121]; exact H) | exact H
 have Ny121 := Aside0.mk hy121
 clear hy121
 obtain ⟨y124, hy124⟩ : ∃ y_ : List (S44), y_ = (([(⟨0, 0, (⟨#[]⟩ : ByteArray)⟩ : S44)] : List (S44))) := ⟨_, rfl⟩
 replace H : ((value_Num.f 1).bind fun bt127 => ((some (([y112, y115, y121, y124, (([(⟨bt127.1, bt127.2.1, bt127.2.2⟩ : S44)] : List (S44)))] : List (List (S44))) : List (List (S44)))).bind fun y133 => ((grouper_Groups.f y133).bind fun t136 => ((tabellionref33_Lists.f k t136 (([(([0, 2] : List Int)), (([1, 3] : List Int)), (([4] : List Int))] : List (List Int)))).bind fun t151 => (if t151 = true then ((grouper_Sorted.f y133).bind fun t152 => ((tabellionref33_Lists.f k t152 (([(([1, 3] : List Int)), (([4] : List Int)), (([0, 2] : List Int))] : List (List Int)))).bind fun t167 => (if t167 = true then ((grouper_Distinct.f y133).bind fun t168 => (some ((t168.length : Int) == 3))) else (some false)))) else (some false)))))) = some r := by first | (rw [hy124]; with_reducible exact H) | (have H2_ := (Option.bind_some _ _).symm.trans H; rw [hy124]; with_reducible exact H2_) | (have H2_ := (Option.bind_some _ _).symm.trans H; with_reducible exact H2_) | with_reducible exact H | (rw [hy124]; exact H) | exact H
 have Ny124 := Aside0.mk hy124
 clear hy124
 replace H := Option.bind_eq_some_iff.mp H
 obtain ⟨⟨t127, t128, t129⟩, A30, H⟩ := H
 replace H : ((some (([y112, y115, y121, y124, (([(⟨t127, t128, t129⟩ : S44)] : List (S44)))] : List (List (S44))) : List (List (S44)))).bind fun y133 => ((grouper_Groups.f y133).bind fun t136 => ((tabellionref33_Lists.f k t136 (([(([0, 2] : List Int)), (([1, 3] : List Int)), (([4] : List Int))] : List (List Int)))).bind fun t151 => (if t151 = true then ((grouper_Sorted.f y133).bind fun t152 => ((tabellionref33_Lists.f k t152 (([(([1, 3] : List Int)), (([4] : List Int)), (([0, 2] : List Int))] : List (List Int)))).bind fun t167 => (if t167 = true then ((grouper_Distinct.f y133).bind fun t168 => (some ((t168.length : Int) == 3))) else (some false)))) else (some false))))) = some r := H
 have A3 := Aside0.mk A30
 clear A30
 obtain ⟨y130, hy130⟩ : ∃ y_ : List (S44), y_ = (([(⟨t127, t128, t129⟩ : S44)] : List (S44))) := ⟨_, rfl⟩
 replace H : ((some (([y112, y115, y121, y124, y130] : List (List (S44))) : List (List (S44)))).bind fun y133 => ((grouper_Groups.f y133).bind fun t136 => ((tabellionref33_Lists.f k t136 (([(([0, 2] : List Int)), (([1, 3] : List Int)), (([4] : List Int))] : List (List Int)))).bind fun t151 => (if t151 = true then ((grouper_Sorted.f y133).bind fun t152 => ((tabellionref33_Lists.f k t152 (([(([1, 3] : List Int)), (([4] : List Int)), (([0, 2] : List Int))] : List (List Int)))).bind fun t167 => (if t167 = true then ((grouper_Distinct.f y133).bind fun t168 => (some ((t168.length : Int) == 3))) else (some false)))) else (some false))))) = some r := by first | (rw [hy130]; with_reducible exact H) | (have H2_ := (Option.bind_some _ _).symm.trans H; rw [hy130]; with_reducible exact H2_) | (have H2_ := (Option.bind_some _ _).symm.trans H; with_reducible exact H2_) | with_reducible exact H | (rw [hy130]; exact H) | exact H
 have Ny130 := Aside0.mk hy130
 clear hy130
 obtain ⟨y133, hy133⟩ : ∃ y_ : List (List (S44)), y_ = (([y112, y115, y121, y124, y130] : List (List (S44)))) := ⟨_, rfl⟩
 replace H : ((grouper_Groups.f y133).bind fun t136 => ((tabellionref33_Lists.f k t136 (([(([0, 2] : List Int)), (([1, 3] : List Int)), (([4] : List Int))] : List (List Int)))).bind fun t151 => (if t151 = true then ((grouper_Sorted.f y133).bind fun t152 => ((tabellionref33_Lists.f k t152 (([(([1, 3] : List Int)), (([4] : List Int)), (([0, 2] : List Int))] : List (List Int)))).bind fun t167 => (if t167 = true then ((grouper_Distinct.f y133).bind fun t168 => (some ((t168.length : Int) == 3))) else (some false)))) else (some false)))) = some r := by first | (rw [hy133]; with_reducible exact H) | (have H2_ := (Option.bind_some _ _).symm.trans H; rw [hy133]; with_reducible exact H2_) | (have H2_ := (Option.bind_some _ _).symm.trans H; with_reducible exact H2_) | with_reducible exact H | (rw [hy133]; exact H) | exact H
 have Ny133 := Aside0.mk hy133
 clear hy133
 replace H := Option.bind_eq_some_iff.mp H
 obtain ⟨t136, A40, H⟩ := H
 replace H : ((tabellionref33_Lists.f k t136 (([(([0, 2] : List Int)), (([1, 3] : List Int)), (([4] : List Int))] : List (List Int)))).bind fun t151 => (if t151 = true then ((grouper_Sorted.f y133).bind fun t152 => ((tabellionref33_Lists.f k t152 (([(([1, 3] : List Int)), (([4] : List Int)), (([0, 2] : List Int))] : List (List Int)))).bind fun t167 => (if t167 = true then ((grouper_Distinct.f y133).bind fun t168 => (some ((t168.length : Int) == 3))) else (some false)))) else (some false))) = some r := H
 have A4 := Aside0.mk A40
 clear A40
 obtain ⟨y139, hy139⟩ : ∃ y_ : List Int, y_ = (([0, 2] : List Int)) := ⟨_, rfl⟩
 replace H : ((tabellionref33_Lists.f k t136 (([y139, (([1, 3] : List Int)), (([4] : List Int))] : List (List Int)))).bind fun t151 => (if t151 = true then ((grouper_Sorted.f y133).bind fun t152 => ((tabellionref33_Lists.f k t152 (([(([1, 3] : List Int)), (([4] : List Int)), (([0, 2] : List Int))] : List (List Int)))).bind fun t167 => (if t167 = true then ((grouper_Distinct.f y133).bind fun t168 => (some ((t168.length : Int) == 3))) else (some false)))) else (some false))) = some r := by first | (rw [hy139]; with_reducible exact H) | (have H2_ := (Option.bind_some _ _).symm.trans H; rw [hy139]; with_reducible exact H2_) | (have H2_ := (Option.bind_some _ _).symm.trans H; with_reducible exact H2_) | with_reducible exact H | (rw [hy139]; exact H) | exact H
 have Ny139 := Aside0.mk hy139
 clear hy139
 obtain ⟨y142, hy142⟩ : ∃ y_ : List Int, y_ = (([1, 3] : List Int)) := ⟨_, rfl⟩
 replace H : ((tabellionref33_Lists.f k t136 (([y139, y142, (([4] : List Int))] : List (List Int)))).bind fun t151 => (if t151 = true then ((grouper_Sorted.f y133).bind fun t152 => ((tabellionref33_Lists.f k t152 (([(([1, 3] : List Int)), (([4] : List Int)), (([0, 2] : List Int))] : List (List Int)))).bind fun t167 => (if t167 = true then ((grouper_Distinct.f y133).bind fun t168 => (some ((t168.length : Int) == 3))) else (some false)))) else (some false))) = some r := by first | (rw [hy142]; with_reducible exact H) | (have H2_ := (Option.bind_some _ _).symm.trans H; rw [hy142]; with_reducible exact H2_) | (have H2_ := (Option.bind_some _ _).symm.trans H; with_reducible exact H2_) | with_reducible exact H | (rw [hy142]; exact H) | exact H
 have Ny142 := Aside0.mk hy142
 clear hy142
 obtain ⟨y145, hy145⟩ : ∃ y_ : List Int, y_ = (([4] : List Int)) := ⟨_, rfl⟩
 replace H : ((tabellionref33_Lists.f k t136 (([y139, y142, y145] : List (List Int)))).bind fun t151 => (if t151 = true then ((grouper_Sorted.f y133).bind fun t152 => ((tabellionref33_Lists.f k t152 (([(([1, 3] : List Int)), (([4] : List Int)), (([0, 2] : List Int))] : List (List Int)))).bind fun t167 => (if t167 = true then ((grouper_Distinct.f y133).bind fun t168 => (some ((t168.length : Int) == 3))) else (some false)))) else (some false))) = some r := by first | (rw [hy145]; with_reducible exact H) | (have H2_ := (Option.bind_some _ _).symm.trans H; rw [hy145]; with_reducible exact H2_) | (have H2_ := (Option.bind_some _ _).symm.trans H; with_reducible exact H2_) | with_reducible exact H | (rw [hy145]; exact H) | exact H
 have Ny145 := Aside0.mk hy145
 clear hy145
 obtain ⟨y148, hy148⟩ : ∃ y_ : List (List Int), y_ = (([y139, y142, y145] : List (List Int))) := ⟨_, rfl⟩
 replace H : ((tabellionref33_Lists.f k t136 y148).bind fun t151 => (if t151 = true then ((grouper_Sorted.f y133).bind fun t152 => ((tabellionref33_Lists.f k t152 (([(([1, 3] : List Int)), (([4] : List Int)), (([0, 2] : List Int))] : List (List Int)))).bind fun t167 => (if t167 = true then ((grouper_Distinct.f y133).bind fun t168 => (some ((t168.length : Int) == 3))) else (some false)))) else (some false))) = some r := by first | (rw [hy148]; with_reducible exact H) | (have H2_ := (Option.bind_some _ _).symm.trans H; rw [hy148]; with_reducible exact H2_) | (have H2_ := (Option.bind_some _ _).symm.trans H; with_reducible exact H2_) | with_reducible exact H | (rw [hy148]; exact H) | exact H
 have Ny148 := Aside0.mk hy148
 clear hy148
 replace H := Option.bind_eq_some_iff.mp H
 obtain ⟨t151, A50, H⟩ := H
 replace H : (if t151 = true then ((grouper_Sorted.f y133).bind fun t152 => ((tabellionref33_Lists.f k t152 (([(([1, 3] : List Int)), (([4] : List Int)), (([0, 2] : List Int))] : List (List Int)))).bind fun t167 => (if t167 = true then ((grouper_Distinct.f y133).bind fun t168 => (some ((t168.length : Int) == 3))) else (some false)))) else (some false)) = some r := H
 have A5 := Aside0.mk A50
 clear A50
 by_cases c6 : t151 = true
 ·
  subst c6
  have H1 : ((grouper_Sorted.f y133).bind fun t152 => ((tabellionref33_Lists.f k t152 (([(([1, 3] : List Int)), (([4] : List Int)), (([0, 2] : List Int))] : List (List Int)))).bind fun t167 => (if t167 = true then ((grouper_Distinct.f y133).bind fun t168 => (some ((t168.length : Int) == 3))) else (some false)))) = some r := by rw [if_pos rfl] at H; exact H
  clear H
  have H := H1
  clear H1
  replace H := Option.bind_eq_some_iff.mp H
  obtain ⟨t152, A70, H⟩ := H
  replace H : ((tabellionref33_Lists.f k t152 (([(([1, 3] : List Int)), (([4] : List Int)), (([0, 2] : List Int))] : List (List Int)))).bind fun t167 => (if t167 = true then ((grouper_Distinct.f y133).bind fun t168 => (some ((t168.length : Int) == 3))) else (some false))) = some r := H
  have A7 := Aside0.mk A70
  clear A70
  obtain ⟨y155, hy155⟩ : ∃ y_ : List Int, y_ = (([1, 3] : List Int)) := ⟨_, rfl⟩
  replace H : ((tabellionref33_Lists.f k t152 (([y155, (([4] : List Int)), (([0, 2] : List Int))] : List (List Int)))).bind fun t167 => (if t167 = true then ((grouper_Distinct.f y133).bind fun t168 => (some ((t168.length : Int) == 3))) else (some false))) = some r := by first | (rw [hy155]; with_reducible exact H) | (have H2_ := (Option.bind_some _ _).symm.trans H; rw [hy155]; with_reducible exact H2_) | (have H2_ := (Option.bind_some _ _).symm.trans H; with_reducible exact H2_) | with_reducible exact H | (rw [hy155]; exact H) | exact H
  have Ny155 := Aside0.mk hy155
  clear hy155
  obtain ⟨y158, hy158⟩ : ∃ y_ : List Int, y_ = (([4] : List Int)) := ⟨_, rfl⟩
  replace H : ((tabellionref33_Lists.f k t152 (([y155, y158, (([0, 2] : List Int))] : List (List Int)))).bind fun t167 => (if t167 = true then ((grouper_Distinct.f y133).bind fun t168 => (some ((t168.length : Int) == 3))) else (some false))) = some r := by first | (rw [hy158]; with_reducible exact H) | (have H2_ := (Option.bind_some _ _).symm.trans H; rw [hy158]; with_reducible exact H2_) | (have H2_ := (Option.bind_some _ _).symm.trans H; with_reducible exact H2_) | with_reducible exact H | (rw [hy158]; exact H) | exact H
  have Ny158 := Aside0.mk hy158
  clear hy158
  obtain ⟨y161, hy161⟩ : ∃ y_ : List Int, y_ = (([0, 2] : List Int)) := ⟨_, rfl⟩
  replace H : ((tabellionref33_Lists.f k t152 (([y155, y158, y161] : List (List Int)))).bind fun t167 => (if t167 = true then ((grouper_Distinct.f y133).bind fun t168 => (some ((t168.length : Int) == 3))) else (some false))) = some r := by first | (rw [hy161]; with_reducible exact H) | (have H2_ := (Option.bind_some _ _).symm.trans H; rw [hy161]; with_reducible exact H2_) | (have H2_ := (Option.bind_some _ _).symm.trans H; with_reducible exact H2_) | with_reducible exact H | (rw [hy161]; exact H) | exact H
  have Ny161 := Aside0.mk hy161
  clear hy161
  obtain ⟨y164, hy164⟩ : ∃ y_ : List (List Int), y_ = (([y155, y158, y161] : List (List Int))) := ⟨_, rfl⟩
  replace H : ((tabellionref33_Lists.f k t152 y164).bind fun t167 => (if t167 = true then ((grouper_Distinct.f y133).bind fun t168 => (some ((t168.length : Int) == 3))) else (some false))) = some r := by first | (rw [hy164]; with_reducible exact H) | (have H2_ := (Option.bind_some _ _).symm.trans H; rw [hy164]; with_reducible exact H2_) | (have H2_ := (Option.bind_some _ _).symm.trans H; with_reducible exact H2_) | with_reducible exact H | (rw [hy164]; exact H) | exact H
  have Ny164 := Aside0.mk hy164
  clear hy164
  replace H := Option.bind_eq_some_iff.mp H
  obtain ⟨t167, A80, H⟩ := H
  replace H : (if t167 = true then ((grouper_Distinct.f y133).bind fun t168 => (some ((t168.length : Int) == 3))) else (some false)) = some r := H
  have A8 := Aside0.mk A80
  clear A80
  by_cases c9 : t167 = true
  ·
   subst c9
   have H1 : ((grouper_Distinct.f y133).bind fun t168 => (some ((t168.length : Int) == 3))) = some r := by rw [if_pos rfl] at H; exact H
   clear H
   have H := H1
   clear H1
   replace H := Option.bind_eq_some_iff.mp H
   obtain ⟨t168, A100, H⟩ := H
   replace H : (some ((t168.length : Int) == 3)) = some r := H
   have A10 := Aside0.mk A100
   clear A100
   obtain rfl := Option.some.inj H
   go_enter Tryd.func9, Tryd.ntmps9
   go_wp2_with (first | ((with_reducible refine gate_callee (f := 28) rfl ?_); refine goesL_ (some 2) rfl rfl Tryd.func28 (by kernel_rfl) rfl #[.int .i64 5] rfl (by (try simp only [List.map_toArray, List.map_cons, List.map_nil]); first | done | rfl | (simp only [List.length_drop, List.length_take]; rfl)) ?_; (with_reducible refine (value_Num.calls 5 t109 t110 t111 _ A1.out).mono ?_); rintro e w11 ⟨rfl, hb⟩; refine ⟨_, rfl, ?_⟩; have n0_ := Aside0.mk (below_step (by repeat (first | (with_reducible first | exact HB.out | apply below_alloc | apply pw_below_drewN | apply below_drew1) | exact HB.out)) hb); clear HB; have HB := n0_; clear n0_; (try clear hb); (try clear hb2); (try clear hk); (try clear hi)) | ((with_reducible refine gate_dst (N := 3) rfl ?_); (try (refine gate_guard (by rfl) ?_; dsimp only)); refine Kd.R_lit k44 _ 44 ?hg (N := 3) ?hd (xs := ([(⟨t109, t110, t111⟩ : S44)] : List (S44))) (inner := [.int .i64 t109, .int .i64 t110, .string t111]) (ok := fun _ => True) (okp := fun _ => True) ?hr ?hp (fun _ hk => hk) trivial (Below.refl _ _) (Nat.le_refl _) (by simp) ?_; (case hd => rfl); (case hg => rfl); (case hr => first | (go_simp; done) | (go_simp; rfl)); (case hp => exact (Reps.c3 (show Kd.M k44 _ _ _ (⟨t109, t110, t111⟩ : S44) [.int .i64 t109, .int .i64 t110, .string t111] from (k44_mkM _ _ _ (⟨t109, t110, t111⟩ : S44) )) (Reps.none _ _))); intro v113 w12 ho13 hb hg_ hnew_; clear hg_ hnew_; (first | rw [← Ny112.out] at ho13 | (simp only [Int.reduceToNat] at ho13; rw [← Ny112.out] at ho13)); have n0_ := Aside0.mk (Kd.R_lower ho13 (below_size (by repeat (first | (with_reducible first | exact HB.out | apply below_alloc | apply pw_below_drewN | apply below_drew1) | exact HB.out)))); have n1_ := Aside0.mk (below_step (by repeat (first | (with_reducible first | exact HB.out | apply below_alloc | apply pw_below_drewN | apply below_drew1) | exact HB.out)) hb); clear HB; have HO114 := n0_; have HB := n1_; clear n0_ n1_; clear hb ho13) | ((with_reducible refine gate_dst (N := 5) rfl ?_); (try (refine gate_guard (by rfl) ?_; dsimp only)); refine Kd.R_lit k44 _ 44 ?hg (N := 5) ?hd (xs := ([(⟨0, 0, (⟨#[]⟩ : ByteArray)⟩ : S44)] : List (S44))) (inner := [.int .i64 0, .int .i64 0, .string (⟨#[]⟩ : ByteArray)]) (ok := fun _ => True) (okp := fun _ => True) ?hr ?hp (fun _ hk => hk) trivial (Below.refl _ _) (Nat.le_refl _) (by simp) ?_; (case hd => rfl); (case hg => rfl); (case hr => first | (go_simp; done) | (go_simp; rfl)); (case hp => exact (Reps.c3 (show Kd.M k44 _ _ _ (⟨0, 0, (⟨#[]⟩ : ByteArray)⟩ : S44) [.int .i64 0, .int .i64 0, .string (⟨#[]⟩ : ByteArray)] from (k44_mkM _ _ _ (⟨0, 0, (⟨#[]⟩ : ByteArray)⟩ : S44) )) (Reps.none _ _))); intro v116 w14 ho15 hb hg_ hnew_; clear hg_ hnew_; (first | rw [← Ny115.out] at ho15 | (simp only [Int.reduceToNat] at ho15; rw [← Ny115.out] at ho15)); have n0_ := Aside0.mk (Kd.R_elder' (by (with_reducible repeat (first | apply Kd.R_alloc | apply Kd.R_drewN | apply Kd.R_drew)); exact HO114.out) (Kd.R_base ho15) hb); have n1_ := Aside0.mk (Kd.R_lower (Kd.R_new' ho15 (Kd.R_lt (by (with_reducible repeat (first | apply Kd.R_alloc | apply Kd.R_drewN | apply Kd.R_drew)); exact HO114.out))) (below_size (by repeat (first | (with_reducible first | exact HB.out | apply below_alloc | apply pw_below_drewN | apply below_drew1) | exact HB.out)))); have n2_ := Aside0.mk (below_step (by repeat (first | (with_reducible first | exact HB.out | apply below_alloc | apply pw_below_drewN | apply below_drew1) | exact HB.out)) hb); clear HO114; clear HB; have HO114 := n0_; have HO117 := n1_; have HB := n2_; clear n0_ n1_ n2_; clear hb ho15) | ((with_reducible refine gate_callee (f := 28) rfl ?_); refine goesL_ (some 6) rfl rfl Tryd.func28 (by kernel_rfl) rfl #[.int .i64 5] rfl (by (try simp only [List.map_toArray, List.map_cons, List.map_nil]); first | done | rfl | (simp only [List.length_drop, List.length_take]; rfl)) ?_; (with_reducible refine (value_Num.calls 5 t118 t119 t120 _ A2.out).mono ?_); rintro e w16 ⟨rfl, hb⟩; refine ⟨_, rfl, ?_⟩; have n0_ := Aside0.mk (Kd.R_below (by (with_reducible repeat (first | apply Kd.R_alloc | apply Kd.R_drewN | apply Kd.R_drew)); exact HO114.out) hb); have n1_ := Aside0.mk (Kd.R_below (by (with_reducible repeat (first | apply Kd.R_alloc | apply Kd.R_drewN | apply Kd.R_drew)); exact HO117.out) hb); have n2_ := Aside0.mk (below_step (by repeat (first | (with_reducible first | exact HB.out | apply below_alloc | apply pw_below_drewN | apply below_drew1) | exact HB.out)) hb); clear HO114; clear HO117; clear HB; have HO114 := n0_; have HO117 := n1_; have HB := n2_; clear n0_ n1_ n2_; (try clear hb); (try clear hb2); (try clear hk); (try clear hi)) | ((with_reducible refine gate_dst (N := 7) rfl ?_); (try (refine gate_guard (by rfl) ?_; dsimp only)); refine Kd.R_lit k44 _ 44 ?hg (N := 7) ?hd (xs := ([(⟨t118, t119, t120⟩ : S44)] : List (S44))) (inner := [.int .i64 t118, .int .i64 t119, .string t120]) (ok := fun _ => True) (okp := fun _ => True) ?hr ?hp (fun _ hk => hk) trivial (Below.refl _ _) (Nat.le_refl _) (by simp) ?_; (case hd => rfl); (case hg => rfl); (case hr => first | (go_simp; done) | (go_simp; rfl)); (case hp => exact (Reps.c3 (show Kd.M k44 _ _ _ (⟨t118, t119, t120⟩ : S44) [.int .i64 t118, .int .i64 t119, .string t120] from (k44_mkM _ _ _ (⟨t118, t119, t120⟩ : S44) )) (Reps.none _ _))); intro v122 w17 ho18 hb hg_ hnew_; clear hg_ hnew_; (first | rw [← Ny121.out] at ho18 | (simp only [Int.reduceToNat] at ho18; rw [← Ny121.out] at ho18)); have n0_ := Aside0.mk (Kd.R_elder' (by (with_reducible repeat (first | apply Kd.R_alloc | apply Kd.R_drewN | apply Kd.R_drew)); exact HO114.out) (Kd.R_base ho18) hb); have n1_ := Aside0.mk (Kd.R_elder' (by (with_reducible repeat (first | apply Kd.R_alloc | apply Kd.R_drewN | apply Kd.R_drew)); exact HO117.out) (Kd.R_base ho18) hb); have n2_ := Aside0.mk (Kd.R_lower (Kd.R_new' (Kd.R_new' ho18 (Kd.R_lt (by (with_reducible repeat (first | apply Kd.R_alloc | apply Kd.R_drewN | apply Kd.R_drew)); exact HO114.out))) (Kd.R_lt (by (with_reducible repeat (first | apply Kd.R_alloc | apply Kd.R_drewN | apply Kd.R_drew)); exact HO117.out))) (below_size (by repeat (first | (with_reducible first | exact HB.out | apply below_alloc | apply pw_below_drewN | apply below_drew1) | exact HB.out)))); have n3_ := Aside0.mk (below_step (by repeat (first | (with_reducible first | exact HB.out | apply below_alloc | apply pw_below_drewN | apply below_drew1) | exact HB.out)) hb); clear HO114; clear HO117; clear HB; have HO114 := n0_; have HO117 := n1_; have HO123 := n2_; have HB := n3_; clear n0_ n1_ n2_ n3_; clear hb ho18) | ((with_reducible refine gate_dst (N := 9) rfl ?_); (try (refine gate_guard (by rfl) ?_; dsimp only)); refine Kd.R_lit k44 _ 44 ?hg (N := 9) ?hd (xs := ([(⟨0, 0, (⟨#[]⟩ : ByteArray)⟩ : S44)] : List (S44))) (inner := [.int .i64 0, .int .i64 0, .string (⟨#[]⟩ : ByteArray)]) (ok := fun _ => True) (okp := fun _ => True) ?hr ?hp (fun _ hk => hk) trivial (Below.refl _ _) (Nat.le_refl _) (by simp) ?_; (case hd => rfl); (case hg => rfl); (case hr => first | (go_simp; done) | (go_simp; rfl)); (case hp => exact (Reps.c3 (show Kd.M k44 _ _ _ (⟨0, 0, (⟨#[]⟩ : ByteArray)⟩ : S44) [.int .i64 0, .int .i64 0, .string (⟨#[]⟩ : ByteArray)] from (k44_mkM _ _ _ (⟨0, 0, (⟨#[]⟩ : ByteArray)⟩ : S44) )) (Reps.none _ _))); intro v125 w19 ho20 hb hg_ hnew_; clear hg_ hnew_; (first | rw [← Ny124.out] at ho20 | (simp only [Int.reduceToNat] at ho20; rw [← Ny124.out] at ho20)); have n0_ := Aside0.mk (Kd.R_elder' (by (with_reducible repeat (first | apply Kd.R_alloc | apply Kd.R_drewN | apply Kd.R_drew)); exact HO114.out) (Kd.R_base ho20) hb); have n1_ := Aside0.mk (Kd.R_elder' (by (with_reducible repeat (first | apply Kd.R_alloc | apply Kd.R_drewN | apply Kd.R_drew)); exact HO117.out) (Kd.R_base ho20) hb); have n2_ := Aside0.mk (Kd.R_elder' (by (with_reducible repeat (first | apply Kd.R_alloc | apply Kd.R_drewN | apply Kd.R_drew)); exact HO123.out) (Kd.R_base ho20) hb); have n3_ := Aside0.mk (Kd.R_lower (Kd.R_new' (Kd.R_new' (Kd.R_new' ho20 (Kd.R_lt (by (with_reducible repeat (first | apply Kd.R_alloc | apply Kd.R_drewN | apply Kd.R_drew)); exact HO114.out))) (Kd.R_lt (by (with_reducible repeat (first | apply Kd.R_alloc | apply Kd.R_drewN | apply Kd.R_drew)); exact HO117.out))) (Kd.R_lt (by (with_reducible repeat (first | apply Kd.R_alloc | apply Kd.R_drewN | apply Kd.R_drew)); exact HO123.out))) (below_size (by repeat (first | (with_reducible first | exact HB.out | apply below_alloc | apply pw_below_drewN | apply below_drew1) | exact HB.out)))); have n4_ := Aside0.mk (below_step (by repeat (first | (with_reducible first | exact HB.out | apply below_alloc | apply pw_below_drewN | apply below_drew1) | exact HB.out)) hb); clear HO114; clear HO117; clear HO123; clear HB; have HO114 := n0_; have HO117 := n1_; have HO123 := n2_; have HO126 := n3_; have HB := n4_; clear n0_ n1_ n2_ n3_ n4_; clear hb ho20) | ((with_reducible refine gate_callee (f := 28) rfl ?_); refine goesL_ (some 10) rfl rfl Tryd.func28 (by kernel_rfl) rfl #[.int .i64 1] rfl (by (try simp only [List.map_toArray, List.map_cons, List.map_nil]); first | done | rfl | (simp only [List.length_drop, List.length_take]; rfl)) ?_; (with_reducible refine (value_Num.calls 1 t127 t128 t129 _ A3.out).mono ?_); rintro e w21 ⟨rfl, hb⟩; refine ⟨_, rfl, ?_⟩; have n0_ := Aside0.mk (Kd.R_below (by (with_reducible repeat (first | apply Kd.R_alloc | apply Kd.R_drewN | apply Kd.R_drew)); exact HO114.out) hb); have n1_ := Aside0.mk (Kd.R_below (by (with_reducible repeat (first | apply Kd.R_alloc | apply Kd.R_drewN | apply Kd.R_drew)); exact HO117.out) hb); have n2_ := Aside0.mk (Kd.R_below (by (with_reducible repeat (first | apply Kd.R_alloc | apply Kd.R_drewN | apply Kd.R_drew)); exact HO123.out) hb); have n3_ := Aside0.mk (Kd.R_below (by (with_reducible repeat (first | apply Kd.R_alloc | apply Kd.R_drewN | apply Kd.R_drew)); exact HO126.out) hb); have n4_ := Aside0.mk (below_step (by repeat (first | (with_reducible first | exact HB.out | apply below_alloc | apply pw_below_drewN | apply below_drew1) | exact HB.out)) hb); clear HO114; clear HO117; clear HO123; clear HO126; clear HB; have HO114 := n0_; have HO117 := n1_; have HO123 := n2_; have HO126 := n3_; have HB := n4_; clear n0_ n1_ n2_ n3_ n4_; (try clear hb); (try clear hb2); (try clear hk); (try clear hi)) | ((with_reducible refine gate_dst (N := 11) rfl ?_); (try (refine gate_guard (by rfl) ?_; dsimp only)); refine Kd.R_lit k44 _ 44 ?hg (N := 11) ?hd (xs := ([(⟨t127, t128, t129⟩ : S44)] : List (S44))) (inner := [.int .i64 t127, .int .i64 t128, .string t129]) (ok := fun _ => True) (okp := fun _ => True) ?hr ?hp (fun _ hk => hk) trivial (Below.refl _ _) (Nat.le_refl _) (by simp) ?_; (case hd => rfl); (case hg => rfl); (case hr => first | (go_simp; done) | (go_simp; rfl)); (case hp => exact (Reps.c3 (show Kd.M k44 _ _ _ (⟨t127, t128, t129⟩ : S44) [.int .i64 t127, .int .i64 t128, .string t129] from (k44_mkM _ _ _ (⟨t127, t128, t129⟩ : S44) )) (Reps.none _ _))); intro v131 w22 ho23 hb hg_ hnew_; clear hg_ hnew_; (first | rw [← Ny130.out] at ho23 | (simp only [Int.reduceToNat] at ho23; rw [← Ny130.out] at ho23)); have n0_ := Aside0.mk (Kd.R_elder' (by (with_reducible repeat (first | apply Kd.R_alloc | apply Kd.R_drewN | apply Kd.R_drew)); exact HO114.out) (Kd.R_base ho23) hb); have n1_ := Aside0.mk (Kd.R_elder' (by (with_reducible repeat (first | apply Kd.R_alloc | apply Kd.R_drewN | apply Kd.R_drew)); exact HO117.out) (Kd.R_base ho23) hb); have n2_ := Aside0.mk (Kd.R_elder' (by (with_reducible repeat (first | apply Kd.R_alloc | apply Kd.R_drewN | apply Kd.R_drew)); exact HO123.out) (Kd.R_base ho23) hb); have n3_ := Aside0.mk (Kd.R_elder' (by (with_reducible repeat (first | apply Kd.R_alloc | apply Kd.R_drewN | apply Kd.R_drew)); exact HO126.out) (Kd.R_base ho23) hb); have n4_ := Aside0.mk (Kd.R_lower (Kd.R_new' (Kd.R_new' (Kd.R_new' (Kd.R_new' ho23 (Kd.R_lt (by (with_reducible repeat (first | apply Kd.R_alloc | apply Kd.R_drewN | apply Kd.R_drew)); exact HO114.out))) (Kd.R_lt (by (with_reducible repeat (first | apply Kd.R_alloc | apply Kd.R_drewN | apply Kd.R_drew)); exact HO117.out))) (Kd.R_lt (by (with_reducible repeat (first | apply Kd.R_alloc | apply Kd.R_drewN | apply Kd.R_drew)); exact HO123.out))) (Kd.R_lt (by (with_reducible repeat (first | apply Kd.R_alloc | apply Kd.R_drewN | apply Kd.R_drew)); exact HO126.out))) (below_size (by repeat (first | (with_reducible first | exact HB.out | apply below_alloc | apply pw_below_drewN | apply below_drew1) | exact HB.out)))); have n5_ := Aside0.mk (below_step (by repeat (first | (with_reducible first | exact HB.out | apply below_alloc | apply pw_below_drewN | apply below_drew1) | exact HB.out)) hb); clear HO114; clear HO117; clear HO123; clear HO126; clear HB; have HO114 := n0_; have HO117 := n1_; have HO123 := n2_; have HO126 := n3_; have HO132 := n4_; have HB := n5_; clear n0_ n1_ n2_ n3_ n4_ n5_; clear hb ho23; obtain ⟨Ao24, co24, eo24⟩ := Kd.R_slice HO114.out; subst eo24; obtain ⟨Ao25, co25, eo25⟩ := Kd.R_slice HO117.out; subst eo25; obtain ⟨Ao26, co26, eo26⟩ := Kd.R_slice HO123.out; subst eo26; obtain ⟨Ao27, co27, eo27⟩ := Kd.R_slice HO126.out; subst eo27; obtain ⟨Ao28, co28, eo28⟩ := Kd.R_slice HO132.out; subst eo28) | ((with_reducible refine gate_dst (N := 12) rfl ?_); (try (refine gate_guard (by rfl) ?_; dsimp only)); refine Kd.N_lit (Kd.slice 44 k44) _ 33 ?hg (N' := 12) ?hd (xs := ([y112, y115, y121, y124, y130] : List (List (S44)))) (inner := [.slice Ao24 y112.length co24, .slice Ao25 y115.length co25, .slice Ao26 y121.length co26, .slice Ao27 y124.length co27, .slice Ao28 y130.length co28]) (ok := (fun _ => True)) (okp := (fun _ => True)) ?hr ?hp (fun _ hk => hk) ((show ∀ k_, w22.heap.size ≤ k_ → (fun _ => True) k_ from fun k_ hk => trivial) _ (Nat.le_refl _)) (Below.refl _ _) (Nat.le_refl _) (by simp) ?_; (case hd => rfl); (case hg => rfl); (case hr => first | (go_simp; done) | (go_simp; rfl)); (case hp => exact (Reps.one (show Kd.FK (Kd.slice 44 k44) _ _ y112 [.slice Ao24 y112.length co24] from (Kd.FK_slice_mk (Kd.R_reads' (Kd.R_mono (ok' := (fun _ => True)) (HO114.out) (fun k_ hk => trivial))).2.1 (Kd.R_F (Kd.R_mono (ok' := (fun _ => True)) (HO114.out) (fun k_ hk => trivial))))) (Reps.one (show Kd.FK (Kd.slice 44 k44) _ _ y115 [.slice Ao25 y115.length co25] from (Kd.FK_slice_mk (Kd.R_reads' (Kd.R_mono (ok' := (fun _ => True)) (HO117.out) (fun k_ hk => trivial))).2.1 (Kd.R_F (Kd.R_mono (ok' := (fun _ => True)) (HO117.out) (fun k_ hk => trivial))))) (Reps.one (show Kd.FK (Kd.slice 44 k44) _ _ y121 [.slice Ao26 y121.length co26] from (Kd.FK_slice_mk (Kd.R_reads' (Kd.R_mono (ok' := (fun _ => True)) (HO123.out) (fun k_ hk => trivial))).2.1 (Kd.R_F (Kd.R_mono (ok' := (fun _ => True)) (HO123.out) (fun k_ hk => trivial))))) (Reps.one (show Kd.FK (Kd.slice 44 k44) _ _ y124 [.slice Ao27 y124.length co27] from (Kd.FK_slice_mk (Kd.R_reads' (Kd.R_mono (ok' := (fun _ => True)) (HO126.out) (fun k_ hk => trivial))).2.1 (Kd.R_F (Kd.R_mono (ok' := (fun _ => True)) (HO126.out) (fun k_ hk => trivial))))) (Reps.one (show Kd.FK (Kd.slice 44 k44) _ _ y130 [.slice Ao28 y130.length co28] from (Kd.FK_slice_mk (Kd.R_reads' (Kd.R_mono (ok' := (fun _ => True)) (HO132.out) (fun k_ hk => trivial))).2.1 (Kd.R_F (Kd.R_mono (ok' := (fun _ => True)) (HO132.out) (fun k_ hk => trivial))))) (Reps.none _ _))))))); intro v134 w29 ho30 hb hg_ hnew_; clear hg_ hnew_; (first | rw [← Ny133.out] at ho30 | (simp only [Int.reduceToNat] at ho30; rw [← Ny133.out] at ho30)); have n0_ := Aside0.mk (Kd.N_lower ho30 (below_size (by repeat (first | (with_reducible first | exact HB.out | apply below_alloc | apply pw_below_drewN | apply below_drew1) | exact HB.out)))); have n1_ := Aside0.mk (below_step (by repeat (first | (with_reducible first | exact HB.out | apply below_alloc | apply pw_below_drewN | apply below_drew1) | exact HB.out)) hb); clear HB; clear HO114; clear HO117; clear HO123; clear HO126; clear HO132; have HO135 := n0_; have HB := n1_; clear n0_ n1_; clear hb ho30; obtain ⟨Ao31, co31, eo31⟩ := Kd.N_slice HO135.out; subst eo31) | ((with_reducible refine gate_callee (f := 11) rfl ?_); refine goesL_ (some 14) rfl rfl Tryd.func11 (by kernel_rfl) rfl #[.slice Ao31 y133.length co31] rfl (by (try simp only [List.map_toArray, List.map_cons, List.map_nil]); first | done | rfl | (simp only [List.length_drop, List.length_take]; rfl)) ?_; (with_reducible refine (grouper_Groups.calls _ _ y133 t136 _ ?side1 ?side2 A4.out ?tab).mono ?_); (case tab => exact (tab_of HTAB.out (by repeat (first | (with_reducible first | exact HB.out | apply below_alloc | apply pw_below_drewN | apply below_drew1) | exact HB.out)))); (case side1 => repeat (first | exact (Kd.N_reads' HO135.out).2.2 | (with_reducible refine Kd.C_alloc ?_ _) | (with_reducible refine Kd.C_drewN ?_ _) | (with_reducible refine Kd.C_drew ?_))); (case side2 => exact (Kd.N_reads' HO135.out).2.1); rintro e w32 ⟨v137, rfl, ho0, hb⟩; refine ⟨_, rfl, ?_⟩; have n0_ := Aside0.mk (Kd.N_elder' (by (with_reducible repeat (first | apply Kd.N_alloc | apply Kd.N_drewN | apply Kd.N_drew)); exact HO135.out) (Kd.S_base ho0) hb); have n1_ := Aside0.mk (Kd.N_lower (Kd.N_mono (ok' := fun k_ => some k_ ≠ (.slice Ao31 y133.length co31 : Value).ownBlock) (Kd.S_N (Kd.S_bound ho0)) (fun k_ hk_ => (Kd.fresh' (Kd.N_lt (by (with_reducible repeat (first | apply Kd.N_alloc | apply Kd.N_drewN | apply Kd.N_drew)); exact HO135.out)) k_ hk_.2.1))) (below_size (by repeat (first | (with_reducible first | exact HB.out | apply below_alloc | apply pw_below_drewN | apply below_drew1) | exact HB.out)))); have n2_ := Aside0.mk (below_step (by repeat (first | (with_reducible first | exact HB.out | apply below_alloc | apply pw_below_drewN | apply below_drew1) | exact HB.out)) hb); clear HO135; clear HB; have HO135 := n0_; have HO138 := n1_; have HB := n2_; clear n0_ n1_ n2_; (try clear hb); (try clear hb2); (try clear hk); (try clear hi); (try clear ho0)) | ((with_reducible refine gate_dst (N := 15) rfl ?_); (try (refine gate_guard (by rfl) ?_; dsimp only)); refine Kd.R_lit (Kd.int .i64) _ 3 ?hg (N := 15) ?hd (xs := ([0, 2] : List Int)) (inner := [.int .i64 0, .int .i64 2]) (ok := fun _ => True) (okp := fun _ => True) ?hr ?hp (fun _ hk => hk) trivial (Below.refl _ _) (Nat.le_refl _) (by simp) ?_; (case hd => rfl); (case hg => rfl); (case hr => first | (go_simp; done) | (go_simp; rfl)); (case hp => exact (Reps.one (show Kd.M (Kd.int .i64) _ _ _ 0 [.int .i64 0] from rfl) (Reps.one (show Kd.M (Kd.int .i64) _ _ _ 2 [.int .i64 2] from rfl) (Reps.none _ _)))); intro v140 w33 ho34 hb hg_ hnew_; clear hg_ hnew_; (first | rw [← Ny139.out] at ho34 | (simp only [Int.reduceToNat] at ho34; rw [← Ny139.out] at ho34)); have n0_ := Aside0.mk (Kd.N_elder' (by (with_reducible repeat (first | apply Kd.N_alloc | apply Kd.N_drewN | apply Kd.N_drew)); exact HO135.out) (Kd.R_base ho34) hb); have n1_ := Aside0.mk (Kd.N_elder' (by (with_reducible repeat (first | apply Kd.N_alloc | apply Kd.N_drewN | apply Kd.N_drew)); exact HO138.out) (Kd.R_base ho34) hb); have n2_ := Aside0.mk (Kd.R_lower ho34 (below_size (by repeat (first | (with_reducible first | exact HB.out | apply below_alloc | apply pw_below_drewN | apply below_drew1) | exact HB.out)))); have n3_ := Aside0.mk (below_step (by repeat (first | (with_reducible first | exact HB.out | apply below_alloc | apply pw_below_drewN | apply below_drew1) | exact HB.out)) hb); clear HO135; clear HO138; clear HB; have HO135 := n0_; have HO138 := n1_; have HO141 := n2_; have HB := n3_; clear n0_ n1_ n2_ n3_; clear hb ho34) | ((with_reducible refine gate_dst (N := 16) rfl ?_); (try (refine gate_guard (by rfl) ?_; dsimp only)); refine Kd.R_lit (Kd.int .i64) _ 3 ?hg (N := 16) ?hd (xs := ([1, 3] : List Int)) (inner := [.int .i64 1, .int .i64 3]) (ok := fun _ => True) (okp := fun _ => True) ?hr ?hp (fun _ hk => hk) trivial (Below.refl _ _) (Nat.le_refl _) (by simp) ?_; (case hd => rfl); (case hg => rfl); (case hr => first | (go_simp; done) | (go_simp; rfl)); (case hp => exact (Reps.one (show Kd.M (Kd.int .i64) _ _ _ 1 [.int .i64 1] from rfl) (Reps.one (show Kd.M (Kd.int .i64) _ _ _ 3 [.int .i64 3] from rfl) (Reps.none _ _)))); intro v143 w35 ho36 hb hg_ hnew_; clear hg_ hnew_; (first | rw [← Ny142.out] at ho36 | (simp only [Int.reduceToNat] at ho36; rw [← Ny142.out] at ho36)); have n0_ := Aside0.mk (Kd.N_elder' (by (with_reducible repeat (first | apply Kd.N_alloc | apply Kd.N_drewN | apply Kd.N_drew)); exact HO135.out) (Kd.R_base ho36) hb); have n1_ := Aside0.mk (Kd.N_elder' (by (with_reducible repeat (first | apply Kd.N_alloc | apply Kd.N_drewN | apply Kd.N_drew)); exact HO138.out) (Kd.R_base ho36) hb); have n2_ := Aside0.mk (Kd.R_elder' (by (with_reducible repeat (first | apply Kd.R_alloc | apply Kd.R_drewN | apply Kd.R_drew)); exact HO141.out) (Kd.R_base ho36) hb); have n3_ := Aside0.mk (Kd.R_lower (Kd.R_new' ho36 (Kd.R_lt (by (with_reducible repeat (first | apply Kd.R_alloc | apply Kd.R_drewN | apply Kd.R_drew)); exact HO141.out))) (below_size (by repeat (first | (with_reducible first | exact HB.out | apply below_alloc | apply pw_below_drewN | apply below_drew1) | exact HB.out)))); have n4_ := Aside0.mk (below_step (by repeat (first | (with_reducible first | exact HB.out | apply below_alloc | apply pw_below_drewN | apply below_drew1) | exact HB.out)) hb); clear HO135; clear HO138; clear HO141; clear HB; have HO135 := n0_; have HO138 := n1_; have HO141 := n2_; have HO144 := n3_; have HB := n4_; clear n0_ n1_ n2_ n3_ n4_; clear hb ho36) | ((with_reducible refine gate_dst (N := 17) rfl ?_); (try (refine gate_guard (by rfl) ?_; dsimp only)); refine Kd.R_lit (Kd.int .i64) _ 3 ?hg (N := 17) ?hd (xs := ([4] : List Int)) (inner := [.int .i64 4]) (ok := fun _ => True) (okp := fun _ => True) ?hr ?hp (fun _ hk => hk) trivial (Below.refl _ _) (Nat.le_refl _) (by simp) ?_; (case hd => rfl); (case hg => rfl); (case hr => first | (go_simp; done) | (go_simp; rfl)); (case hp => exact (Reps.one (show Kd.M (Kd.int .i64) _ _ _ 4 [.int .i64 4] from rfl) (Reps.none _ _))); intro v146 w37 ho38 hb hg_ hnew_; clear hg_ hnew_; (first | rw [← Ny145.out] at ho38 | (simp only [Int.reduceToNat] at ho38; rw [← Ny145.out] at ho38)); have n0_ := Aside0.mk (Kd.N_elder' (by (with_reducible repeat (first | apply Kd.N_alloc | apply Kd.N_drewN | apply Kd.N_drew)); exact HO135.out) (Kd.R_base ho38) hb); have n1_ := Aside0.mk (Kd.N_elder' (by (with_reducible repeat (first | apply Kd.N_alloc | apply Kd.N_drewN | apply Kd.N_drew)); exact HO138.out) (Kd.R_base ho38) hb); have n2_ := Aside0.mk (Kd.R_elder' (by (with_reducible repeat (first | apply Kd.R_alloc | apply Kd.R_drewN | apply Kd.R_drew)); exact HO141.out) (Kd.R_base ho38) hb); have n3_ := Aside0.mk (Kd.R_elder' (by (with_reducible repeat (first | apply Kd.R_alloc | apply Kd.R_drewN | apply Kd.R_drew)); exact HO144.out) (Kd.R_base ho38) hb); have n4_ := Aside0.mk (Kd.R_lower (Kd.R_new' (Kd.R_new' ho38 (Kd.R_lt (by (with_reducible repeat (first | apply Kd.R_alloc | apply Kd.R_drewN | apply Kd.R_drew)); exact HO141.out))) (Kd.R_lt (by (with_reducible repeat (first | apply Kd.R_alloc | apply Kd.R_drewN | apply Kd.R_drew)); exact HO144.out))) (below_size (by repeat (first | (with_reducible first | exact HB.out | apply below_alloc | apply pw_below_drewN | apply below_drew1) | exact HB.out)))); have n5_ := Aside0.mk (below_step (by repeat (first | (with_reducible first | exact HB.out | apply below_alloc | apply pw_below_drewN | apply below_drew1) | exact HB.out)) hb); clear HO135; clear HO138; clear HO141; clear HO144; clear HB; have HO135 := n0_; have HO138 := n1_; have HO141 := n2_; have HO144 := n3_; have HO147 := n4_; have HB := n5_; clear n0_ n1_ n2_ n3_ n4_ n5_; clear hb ho38; obtain ⟨Ao39, co39, eo39⟩ := Kd.R_slice HO141.out; subst eo39; obtain ⟨Ao40, co40, eo40⟩ := Kd.R_slice HO144.out; subst eo40; obtain ⟨Ao41, co41, eo41⟩ := Kd.R_slice HO147.out; subst eo41) | ((with_reducible refine gate_dst (N := 18) rfl ?_); (try (refine gate_guard (by rfl) ?_; dsimp only)); refine Kd.N_lit (Kd.slice 3 (Kd.int .i64)) _ 30 ?hg (N' := 18) ?hd (xs := ([y139, y142, y145] : List (List Int))) (inner := [.slice Ao39 y139.length co39, .slice Ao40 y142.length co40, .slice Ao41 y145.length co41]) (ok := (fun k_ => some k_ ≠ (.slice Ao31 y133.length co31 : Value).ownBlock ∧ some k_ ≠ (v137 : Value).ownBlock)) (okp := (fun k_ => some k_ ≠ (.slice Ao31 y133.length co31 : Value).ownBlock ∧ some k_ ≠ (v137 : Value).ownBlock)) ?hr ?hp (fun _ hk => hk) ((show ∀ k_, w37.heap.size ≤ k_ → (fun k_ => some k_ ≠ (.slice Ao31 y133.length co31 : Value).ownBlock ∧ some k_ ≠ (v137 : Value).ownBlock) k_ from fun k_ hk => ⟨Kd.fresh' (Kd.N_lt (by (with_reducible repeat (first | apply Kd.N_alloc | apply Kd.N_drewN | apply Kd.N_drew)); exact HO135.out)) k_ hk, Kd.fresh' (Kd.N_lt (by (with_reducible repeat (first | apply Kd.N_alloc | apply Kd.N_drewN | apply Kd.N_drew)); exact HO138.out)) k_ hk⟩) _ (Nat.le_refl _)) (Below.refl _ _) (Nat.le_refl _) (by simp) ?_; (case hd => rfl); (case hg => rfl); (case hr => first | (go_simp; done) | (go_simp; rfl)); (case hp => exact (Reps.one (show Kd.FK (Kd.slice 3 (Kd.int .i64)) _ _ y139 [.slice Ao39 y139.length co39] from (Kd.FK_slice_mk (Kd.R_reads' (Kd.R_mono (ok' := (fun k_ => some k_ ≠ (.slice Ao31 y133.length co31 : Value).ownBlock ∧ some k_ ≠ (v137 : Value).ownBlock)) (Kd.R_apart' (Kd.R_apart' (HO141.out) (Kd.N_typed HO135.out) (by decide)) (Kd.N_typed HO138.out) (by decide)) (fun k_ hk => ⟨hk.1.2, hk.2⟩))).2.1 (Kd.R_F (Kd.R_mono (ok' := (fun k_ => some k_ ≠ (.slice Ao31 y133.length co31 : Value).ownBlock ∧ some k_ ≠ (v137 : Value).ownBlock)) (Kd.R_apart' (Kd.R_apart' (HO141.out) (Kd.N_typed HO135.out) (by decide)) (Kd.N_typed HO138.out) (by decide)) (fun k_ hk => ⟨hk.1.2, hk.2⟩))))) (Reps.one (show Kd.FK (Kd.slice 3 (Kd.int .i64)) _ _ y142 [.slice Ao40 y142.length co40] from (Kd.FK_slice_mk (Kd.R_reads' (Kd.R_mono (ok' := (fun k_ => some k_ ≠ (.slice Ao31 y133.length co31 : Value).ownBlock ∧ some k_ ≠ (v137 : Value).ownBlock)) (Kd.R_apart' (Kd.R_apart' (HO144.out) (Kd.N_typed HO135.out) (by decide)) (Kd.N_typed HO138.out) (by decide)) (fun k_ hk => ⟨hk.1.2, hk.2⟩))).2.1 (Kd.R_F (Kd.R_mono (ok' := (fun k_ => some k_ ≠ (.slice Ao31 y133.length co31 : Value).ownBlock ∧ some k_ ≠ (v137 : Value).ownBlock)) (Kd.R_apart' (Kd.R_apart' (HO144.out) (Kd.N_typed HO135.out) (by decide)) (Kd.N_typed HO138.out) (by decide)) (fun k_ hk => ⟨hk.1.2, hk.2⟩))))) (Reps.one (show Kd.FK (Kd.slice 3 (Kd.int .i64)) _ _ y145 [.slice Ao41 y145.length co41] from (Kd.FK_slice_mk (Kd.R_reads' (Kd.R_mono (ok' := (fun k_ => some k_ ≠ (.slice Ao31 y133.length co31 : Value).ownBlock ∧ some k_ ≠ (v137 : Value).ownBlock)) (Kd.R_apart' (Kd.R_apart' (HO147.out) (Kd.N_typed HO135.out) (by decide)) (Kd.N_typed HO138.out) (by decide)) (fun k_ hk => ⟨hk.1.2, hk.2⟩))).2.1 (Kd.R_F (Kd.R_mono (ok' := (fun k_ => some k_ ≠ (.slice Ao31 y133.length co31 : Value).ownBlock ∧ some k_ ≠ (v137 : Value).ownBlock)) (Kd.R_apart' (Kd.R_apart' (HO147.out) (Kd.N_typed HO135.out) (by decide)) (Kd.N_typed HO138.out) (by decide)) (fun k_ hk => ⟨hk.1.2, hk.2⟩))))) (Reps.none _ _))))); intro v149 w42 ho43 hb hg_ hnew_; clear hg_ hnew_; (first | rw [← Ny148.out] at ho43 | (simp only [Int.reduceToNat] at ho43; rw [← Ny148.out] at ho43)); have n0_ := Aside0.mk (Kd.N_elder' (by (with_reducible repeat (first | apply Kd.N_alloc | apply Kd.N_drewN | apply Kd.N_drew)); exact HO135.out) (Kd.N_base ho43) hb); have n1_ := Aside0.mk (Kd.N_elder' (by (with_reducible repeat (first | apply Kd.N_alloc | apply Kd.N_drewN | apply Kd.N_drew)); exact HO138.out) (Kd.N_base ho43) hb); have n2_ := Aside0.mk (Kd.N_lower ho43 (below_size (by repeat (first | (with_reducible first | exact HB.out | apply below_alloc | apply pw_below_drewN | apply below_drew1) | exact HB.out)))); have n3_ := Aside0.mk (below_step (by repeat (first | (with_reducible first | exact HB.out | apply below_alloc | apply pw_below_drewN | apply below_drew1) | exact HB.out)) hb); clear HO135; clear HO138; clear HB; clear HO141; clear HO144; clear HO147; have HO135 := n0_; have HO138 := n1_; have HO150 := n2_; have HB := n3_; clear n0_ n1_ n2_ n3_; clear hb ho43; obtain ⟨Ao44, co44, eo44⟩ := Kd.N_slice HO138.out; subst eo44; obtain ⟨Ao45, co45, eo45⟩ := Kd.N_slice HO150.out; subst eo45) | ((with_reducible refine gate_callee (f := 10) rfl ?_); refine goesL_ (some 19) rfl rfl Tryd.func10 (by kernel_rfl) rfl #[.slice Ao44 t136.length co44, .slice Ao45 y148.length co45] rfl (by (try simp only [List.map_toArray, List.map_cons, List.map_nil]); first | done | rfl | (simp only [List.length_drop, List.length_take]; rfl)) ?_; (with_reducible refine (tabellionref33_Lists.calls k _ _ t136 _ _ y148 true _ ?side1 ?side2 ?side3 ?side4 A5.out).mono ?_); (case side1 => repeat (first | exact (Kd.N_reads' HO138.out).2.2 | (with_reducible refine Kd.C_alloc ?_ _) | (with_reducible refine Kd.C_drewN ?_ _) | (with_reducible refine Kd.C_drew ?_))); (case side2 => exact (Kd.N_reads' HO138.out).2.1); (case side3 => repeat (first | exact (Kd.N_reads' HO150.out).2.2 | (with_reducible refine Kd.C_alloc ?_ _) | (with_reducible refine Kd.C_drewN ?_ _) | (with_reducible refine Kd.C_drew ?_))); (case side4 => exact (Kd.N_reads' HO150.out).2.1); rintro e w' ⟨rfl, ⟨nd, rfl⟩⟩; refine ⟨_, rfl, ?_⟩) | (go_at_call 13; (with_reducible refine (grouper_Sorted.calls _ _ y133 t152 _ ?side1 ?side2 A7.out ?tab).mono ?_); (case tab => exact (tab_of HTAB.out (by repeat (first | (with_reducible first | exact HB.out | apply below_alloc | apply pw_below_drewN | apply below_drew1) | exact HB.out)))); (case side1 => repeat (first | exact (Kd.N_reads' HO135.out).2.2 | (with_reducible refine Kd.C_alloc ?_ _) | (with_reducible refine Kd.C_drewN ?_ _) | (with_reducible refine Kd.C_drew ?_))); (case side2 => exact (Kd.N_reads' HO135.out).2.1); rintro e w46 ⟨v153, rfl, ho0, hb⟩; have n0_ := Aside0.mk (Kd.N_elder' (by (with_reducible repeat (first | apply Kd.N_alloc | apply Kd.N_drewN | apply Kd.N_drew)); exact HO135.out) (Kd.S_base ho0) hb); have n1_ := Aside0.mk (Kd.N_elder' (by (with_reducible repeat (first | apply Kd.N_alloc | apply Kd.N_drewN | apply Kd.N_drew)); exact HO138.out) (Kd.S_base ho0) hb); have n2_ := Aside0.mk (Kd.N_elder' (by (with_reducible repeat (first | apply Kd.N_alloc | apply Kd.N_drewN | apply Kd.N_drew)); exact HO150.out) (Kd.S_base ho0) hb); have n3_ := Aside0.mk (Kd.N_lower (Kd.N_mono (ok' := fun k_ => some k_ ≠ (.slice Ao31 y133.length co31 : Value).ownBlock ∧ some k_ ≠ (.slice Ao44 t136.length co44 : Value).ownBlock ∧ some k_ ≠ (.slice Ao45 y148.length co45 : Value).ownBlock) (Kd.S_N (Kd.S_bound ho0)) (fun k_ hk_ => ⟨(Kd.fresh' (Kd.N_lt (by (with_reducible repeat (first | apply Kd.N_alloc | apply Kd.N_drewN | apply Kd.N_drew)); exact HO135.out)) k_ hk_.2.1), (Kd.fresh' (Kd.N_lt (by (with_reducible repeat (first | apply Kd.N_alloc | apply Kd.N_drewN | apply Kd.N_drew)); exact HO138.out)) k_ hk_.2.1), (Kd.fresh' (Kd.N_lt (by (with_reducible repeat (first | apply Kd.N_alloc | apply Kd.N_drewN | apply Kd.N_drew)); exact HO150.out)) k_ hk_.2.1)⟩)) (below_size (by repeat (first | (with_reducible first | exact HB.out | apply below_alloc | apply pw_below_drewN | apply below_drew1) | exact HB.out)))); have n4_ := Aside0.mk (below_step (by repeat (first | (with_reducible first | exact HB.out | apply below_alloc | apply pw_below_drewN | apply below_drew1) | exact HB.out)) hb); clear HO135; clear HO138; clear HO150; clear HB; have HO135 := n0_; have HO138 := n1_; have HO150 := n2_; have HO154 := n3_; have HB := n4_; clear n0_ n1_ n2_ n3_ n4_; (try clear hb); (try clear hb2); (try clear hk); (try clear hi); (try clear ho0)) | ((with_reducible refine gate_dst (N := 23) rfl ?_); (try (refine gate_guard (by rfl) ?_; dsimp only)); refine Kd.R_lit (Kd.int .i64) _ 3 ?hg (N := 23) ?hd (xs := ([1, 3] : List Int)) (inner := [.int .i64 1, .int .i64 3]) (ok := fun _ => True) (okp := fun _ => True) ?hr ?hp (fun _ hk => hk) trivial (Below.refl _ _) (Nat.le_refl _) (by simp) ?_; (case hd => rfl); (case hg => rfl); (case hr => first | (go_simp; done) | (go_simp; rfl)); (case hp => exact (Reps.one (show Kd.M (Kd.int .i64) _ _ _ 1 [.int .i64 1] from rfl) (Reps.one (show Kd.M (Kd.int .i64) _ _ _ 3 [.int .i64 3] from rfl) (Reps.none _ _)))); intro v156 w47 ho48 hb hg_ hnew_; clear hg_ hnew_; (first | rw [← Ny155.out] at ho48 | (simp only [Int.reduceToNat] at ho48; rw [← Ny155.out] at ho48)); have n0_ := Aside0.mk (Kd.N_elder' (by (with_reducible repeat (first | apply Kd.N_alloc | apply Kd.N_drewN | apply Kd.N_drew)); exact HO135.out) (Kd.R_base ho48) hb); have n1_ := Aside0.mk (Kd.N_elder' (by (with_reducible repeat (first | apply Kd.N_alloc | apply Kd.N_drewN | apply Kd.N_drew)); exact HO138.out) (Kd.R_base ho48) hb); have n2_ := Aside0.mk (Kd.N_elder' (by (with_reducible repeat (first | apply Kd.N_alloc | apply Kd.N_drewN | apply Kd.N_drew)); exact HO150.out) (Kd.R_base ho48) hb); have n3_ := Aside0.mk (Kd.N_elder' (by (with_reducible repeat (first | apply Kd.N_alloc | apply Kd.N_drewN | apply Kd.N_drew)); exact HO154.out) (Kd.R_base ho48) hb); have n4_ := Aside0.mk (Kd.R_lower ho48 (below_size (by repeat (first | (with_reducible first | exact HB.out | apply below_alloc | apply pw_below_drewN | apply below_drew1) | exact HB.out)))); have n5_ := Aside0.mk (below_step (by repeat (first | (with_reducible first | exact HB.out | apply below_alloc | apply pw_below_drewN | apply below_drew1) | exact HB.out)) hb); clear HO135; clear HO138; clear HO150; clear HO154; clear HB; have HO135 := n0_; have HO138 := n1_; have HO150 := n2_; have HO154 := n3_; have HO157 := n4_; have HB := n5_; clear n0_ n1_ n2_ n3_ n4_ n5_; clear hb ho48) | ((with_reducible refine gate_dst (N := 24) rfl ?_); (try (refine gate_guard (by rfl) ?_; dsimp only)); refine Kd.R_lit (Kd.int .i64) _ 3 ?hg (N := 24) ?hd (xs := ([4] : List Int)) (inner := [.int .i64 4]) (ok := fun _ => True) (okp := fun _ => True) ?hr ?hp (fun _ hk => hk) trivial (Below.refl _ _) (Nat.le_refl _) (by simp) ?_; (case hd => rfl); (case hg => rfl); (case hr => first | (go_simp; done) | (go_simp; rfl)); (case hp => exact (Reps.one (show Kd.M (Kd.int .i64) _ _ _ 4 [.int .i64 4] from rfl) (Reps.none _ _))); intro v159 w49 ho50 hb hg_ hnew_; clear hg_ hnew_; (first | rw [← Ny158.out] at ho50 | (simp only [Int.reduceToNat] at ho50; rw [← Ny158.out] at ho50)); have n0_ := Aside0.mk (Kd.N_elder' (by (with_reducible repeat (first | apply Kd.N_alloc | apply Kd.N_drewN | apply Kd.N_drew)); exact HO135.out) (Kd.R_base ho50) hb); have n1_ := Aside0.mk (Kd.N_elder' (by (with_reducible repeat (first | apply Kd.N_alloc | apply Kd.N_drewN | apply Kd.N_drew)); exact HO138.out) (Kd.R_base ho50) hb); have n2_ := Aside0.mk (Kd.N_elder' (by (with_reducible repeat (first | apply Kd.N_alloc | apply Kd.N_drewN | apply Kd.N_drew)); exact HO150.out) (Kd.R_base ho50) hb); have n3_ := Aside0.mk (Kd.N_elder' (by (with_reducible repeat (first | apply Kd.N_alloc | apply Kd.N_drewN | apply Kd.N_drew)); exact HO154.out) (Kd.R_base ho50) hb); have n4_ := Aside0.mk (Kd.R_elder' (by (with_reducible repeat (first | apply Kd.R_alloc | apply Kd.R_drewN | apply Kd.R_drew)); exact HO157.out) (Kd.R_base ho50) hb); have n5_ := Aside0.mk (Kd.R_lower (Kd.R_new' ho50 (Kd.R_lt (by (with_reducible repeat (first | apply Kd.R_alloc | apply Kd.R_drewN | apply Kd.R_drew)); exact HO157.out))) (below_size (by repeat (first | (with_reducible first | exact HB.out | apply below_alloc | apply pw_below_drewN | apply below_drew1) | exact HB.out)))); have n6_ := Aside0.mk (below_step (by repeat (first | (with_reducible first | exact HB.out | apply below_alloc | apply pw_below_drewN | apply below_drew1) | exact HB.out)) hb); clear HO135; clear HO138; clear HO150; clear HO154; clear HO157; clear HB; have HO135 := n0_; have HO138 := n1_; have HO150 := n2_; have HO154 := n3_; have HO157 := n4_; have HO160 := n5_; have HB := n6_; clear n0_ n1_ n2_ n3_ n4_ n5_ n6_; clear hb ho50) | ((with_reducible refine gate_dst (N := 25) rfl ?_); (try (refine gate_guard (by rfl) ?_; dsimp only)); refine Kd.R_lit (Kd.int .i64) _ 3 ?hg (N := 25) ?hd (xs := ([0, 2] : List Int)) (inner := [.int .i64 0, .int .i64 2]) (ok := fun _ => True) (okp := fun _ => True) ?hr ?hp (fun _ hk => hk) trivial (Below.refl _ _) (Nat.le_refl _) (by simp) ?_; (case hd => rfl); (case hg => rfl); (case hr => first | (go_simp; done) | (go_simp; rfl)); (case hp => exact (Reps.one (show Kd.M (Kd.int .i64) _ _ _ 0 [.int .i64 0] from rfl) (Reps.one (show Kd.M (Kd.int .i64) _ _ _ 2 [.int .i64 2] from rfl) (Reps.none _ _)))); intro v162 w51 ho52 hb hg_ hnew_; clear hg_ hnew_; (first | rw [← Ny161.out] at ho52 | (simp only [Int.reduceToNat] at ho52; rw [← Ny161.out] at ho52)); have n0_ := Aside0.mk (Kd.N_elder' (by (with_reducible repeat (first | apply Kd.N_alloc | apply Kd.N_drewN | apply Kd.N_drew)); exact HO135.out) (Kd.R_base ho52) hb); have n1_ := Aside0.mk (Kd.N_elder' (by (with_reducible repeat (first | apply Kd.N_alloc | apply Kd.N_drewN | apply Kd.N_drew)); exact HO138.out) (Kd.R_base ho52) hb); have n2_ := Aside0.mk (Kd.N_elder' (by (with_reducible repeat (first | apply Kd.N_alloc | apply Kd.N_drewN | apply Kd.N_drew)); exact HO150.out) (Kd.R_base ho52) hb); have n3_ := Aside0.mk (Kd.N_elder' (by (with_reducible repeat (first | apply Kd.N_alloc | apply Kd.N_drewN | apply Kd.N_drew)); exact HO154.out) (Kd.R_base ho52) hb); have n4_ := Aside0.mk (Kd.R_elder' (by (with_reducible repeat (first | apply Kd.R_alloc | apply Kd.R_drewN | apply Kd.R_drew)); exact HO157.out) (Kd.R_base ho52) hb); have n5_ := Aside0.mk (Kd.R_elder' (by (with_reducible repeat (first | apply Kd.R_alloc | apply Kd.R_drewN | apply Kd.R_drew)); exact HO160.out) (Kd.R_base ho52) hb); have n6_ := Aside0.mk (Kd.R_lower (Kd.R_new' (Kd.R_new' ho52 (Kd.R_lt (by (with_reducible repeat (first | apply Kd.R_alloc | apply Kd.R_drewN | apply Kd.R_drew)); exact HO157.out))) (Kd.R_lt (by (with_reducible repeat (first | apply Kd.R_alloc | apply Kd.R_drewN | apply Kd.R_drew)); exact HO160.out))) (below_size (by repeat (first | (with_reducible first | exact HB.out | apply below_alloc | apply pw_below_drewN | apply below_drew1) | exact HB.out)))); have n7_ := Aside0.mk (below_step (by repeat (first | (with_reducible first | exact HB.out | apply below_alloc | apply pw_below_drewN | apply below_drew1) | exact HB.out)) hb); clear HO135; clear HO138; clear HO150; clear HO154; clear HO157; clear HO160; clear HB; have HO135 := n0_; have HO138 := n1_; have HO150 := n2_; have HO154 := n3_; have HO157 := n4_; have HO160 := n5_; have HO163 := n6_; have HB := n7_; clear n0_ n1_ n2_ n3_ n4_ n5_ n6_ n7_; clear hb ho52; obtain ⟨Ao53, co53, eo53⟩ := Kd.R_slice HO157.out; subst eo53; obtain ⟨Ao54, co54, eo54⟩ := Kd.R_slice HO160.out; subst eo54; obtain ⟨Ao55, co55, eo55⟩ := Kd.R_slice HO163.out; subst eo55) | ((with_reducible refine gate_dst (N := 26) rfl ?_); (try (refine gate_guard (by rfl) ?_; dsimp only)); refine Kd.N_lit (Kd.slice 3 (Kd.int .i64)) _ 30 ?hg (N' := 26) ?hd (xs := ([y155, y158, y161] : List (List Int))) (inner := [.slice Ao53 y155.length co53, .slice Ao54 y158.length co54, .slice Ao55 y161.length co55]) (ok := (fun k_ => some k_ ≠ (.slice Ao31 y133.length co31 : Value).ownBlock ∧ some k_ ≠ (.slice Ao44 t136.length co44 : Value).ownBlock ∧ some k_ ≠ (.slice Ao45 y148.length co45 : Value).ownBlock ∧ some k_ ≠ (v153 : Value).ownBlock)) (okp := (fun k_ => some k_ ≠ (.slice Ao31 y133.length co31 : Value).ownBlock ∧ some k_ ≠ (.slice Ao44 t136.length co44 : Value).ownBlock ∧ some k_ ≠ (.slice Ao45 y148.length co45 : Value).ownBlock ∧ some k_ ≠ (v153 : Value).ownBlock)) ?hr ?hp (fun _ hk => hk) ((show ∀ k_, w51.heap.size ≤ k_ → (fun k_ => some k_ ≠ (.slice Ao31 y133.length co31 : Value).ownBlock ∧ some k_ ≠ (.slice Ao44 t136.length co44 : Value).ownBlock ∧ some k_ ≠ (.slice Ao45 y148.length co45 : Value).ownBlock ∧ some k_ ≠ (v153 : Value).ownBlock) k_ from fun k_ hk => ⟨Kd.fresh' (Kd.N_lt (by (with_reducible repeat (first | apply Kd.N_alloc | apply Kd.N_drewN | apply Kd.N_drew)); exact HO135.out)) k_ hk, Kd.fresh' (Kd.N_lt (by (with_reducible repeat (first | apply Kd.N_alloc | apply Kd.N_drewN | apply Kd.N_drew)); exact HO138.out)) k_ hk, Kd.fresh' (Kd.N_lt (by (with_reducible repeat (first | apply Kd.N_alloc | apply Kd.N_drewN | apply Kd.N_drew)); exact HO150.out)) k_ hk, Kd.fresh' (Kd.N_lt (by (with_reducible repeat (first | apply Kd.N_alloc | apply Kd.N_drewN | apply Kd.N_drew)); exact HO154.out)) k_ hk⟩) _ (Nat.le_refl _)) (Below.refl _ _) (Nat.le_refl _) (by simp) ?_; (case hd => rfl); (case hg => rfl); (case hr => first | (go_simp; done) | (go_simp; rfl)); (case hp => exact (Reps.one (show Kd.FK (Kd.slice 3 (Kd.int .i64)) _ _ y155 [.slice Ao53 y155.length co53] from (Kd.FK_slice_mk (Kd.R_reads' (Kd.R_mono (ok' := (fun k_ => some k_ ≠ (.slice Ao31 y133.length co31 : Value).ownBlock ∧ some k_ ≠ (.slice Ao44 t136.length co44 : Value).ownBlock ∧ some k_ ≠ (.slice Ao45 y148.length co45 : Value).ownBlock ∧ some k_ ≠ (v153 : Value).ownBlock)) (Kd.R_apart' (Kd.R_apart' (Kd.R_apart' (Kd.R_apart' (HO157.out) (Kd.N_typed HO135.out) (by decide)) (Kd.N_typed HO138.out) (by decide)) (Kd.N_typed HO150.out) (by decide)) (Kd.N_typed HO154.out) (by decide)) (fun k_ hk => ⟨hk.1.1.1.2, ⟨hk.1.1.2, ⟨hk.1.2, hk.2⟩⟩⟩))).2.1 (Kd.R_F (Kd.R_mono (ok' := (fun k_ => some k_ ≠ (.slice Ao31 y133.length co31 : Value).ownBlock ∧ some k_ ≠ (.slice Ao44 t136.length co44 : Value).ownBlock ∧ some k_ ≠ (.slice Ao45 y148.length co45 : Value).ownBlock ∧ some k_ ≠ (v153 : Value).ownBlock)) (Kd.R_apart' (Kd.R_apart' (Kd.R_apart' (Kd.R_apart' (HO157.out) (Kd.N_typed HO135.out) (by decide)) (Kd.N_typed HO138.out) (by decide)) (Kd.N_typed HO150.out) (by decide)) (Kd.N_typed HO154.out) (by decide)) (fun k_ hk => ⟨hk.1.1.1.2, ⟨hk.1.1.2, ⟨hk.1.2, hk.2⟩⟩⟩))))) (Reps.one (show Kd.FK (Kd.slice 3 (Kd.int .i64)) _ _ y158 [.slice Ao54 y158.length co54] from (Kd.FK_slice_mk (Kd.R_reads' (Kd.R_mono (ok' := (fun k_ => some k_ ≠ (.slice Ao31 y133.length co31 : Value).ownBlock ∧ some k_ ≠ (.slice Ao44 t136.length co44 : Value).ownBlock ∧ some k_ ≠ (.slice Ao45 y148.length co45 : Value).ownBlock ∧ some k_ ≠ (v153 : Value).ownBlock)) (Kd.R_apart' (Kd.R_apart' (Kd.R_apart' (Kd.R_apart' (HO160.out) (Kd.N_typed HO135.out) (by decide)) (Kd.N_typed HO138.out) (by decide)) (Kd.N_typed HO150.out) (by decide)) (Kd.N_typed HO154.out) (by decide)) (fun k_ hk => ⟨hk.1.1.1.2, ⟨hk.1.1.2, ⟨hk.1.2, hk.2⟩⟩⟩))).2.1 (Kd.R_F (Kd.R_mono (ok' := (fun k_ => some k_ ≠ (.slice Ao31 y133.length co31 : Value).ownBlock ∧ some k_ ≠ (.slice Ao44 t136.length co44 : Value).ownBlock ∧ some k_ ≠ (.slice Ao45 y148.length co45 : Value).ownBlock ∧ some k_ ≠ (v153 : Value).ownBlock)) (Kd.R_apart' (Kd.R_apart' (Kd.R_apart' (Kd.R_apart' (HO160.out) (Kd.N_typed HO135.out) (by decide)) (Kd.N_typed HO138.out) (by decide)) (Kd.N_typed HO150.out) (by decide)) (Kd.N_typed HO154.out) (by decide)) (fun k_ hk => ⟨hk.1.1.1.2, ⟨hk.1.1.2, ⟨hk.1.2, hk.2⟩⟩⟩))))) (Reps.one (show Kd.FK (Kd.slice 3 (Kd.int .i64)) _ _ y161 [.slice Ao55 y161.length co55] from (Kd.FK_slice_mk (Kd.R_reads' (Kd.R_mono (ok' := (fun k_ => some k_ ≠ (.slice Ao31 y133.length co31 : Value).ownBlock ∧ some k_ ≠ (.slice Ao44 t136.length co44 : Value).ownBlock ∧ some k_ ≠ (.slice Ao45 y148.length co45 : Value).ownBlock ∧ some k_ ≠ (v153 : Value).ownBlock)) (Kd.R_apart' (Kd.R_apart' (Kd.R_apart' (Kd.R_apart' (HO163.out) (Kd.N_typed HO135.out) (by decide)) (Kd.N_typed HO138.out) (by decide)) (Kd.N_typed HO150.out) (by decide)) (Kd.N_typed HO154.out) (by decide)) (fun k_ hk => ⟨hk.1.1.1.2, ⟨hk.1.1.2, ⟨hk.1.2, hk.2⟩⟩⟩))).2.1 (Kd.R_F (Kd.R_mono (ok' := (fun k_ => some k_ ≠ (.slice Ao31 y133.length co31 : Value).ownBlock ∧ some k_ ≠ (.slice Ao44 t136.length co44 : Value).ownBlock ∧ some k_ ≠ (.slice Ao45 y148.length co45 : Value).ownBlock ∧ some k_ ≠ (v153 : Value).ownBlock)) (Kd.R_apart' (Kd.R_apart' (Kd.R_apart' (Kd.R_apart' (HO163.out) (Kd.N_typed HO135.out) (by decide)) (Kd.N_typed HO138.out) (by decide)) (Kd.N_typed HO150.out) (by decide)) (Kd.N_typed HO154.out) (by decide)) (fun k_ hk => ⟨hk.1.1.1.2, ⟨hk.1.1.2, ⟨hk.1.2, hk.2⟩⟩⟩))))) (Reps.none _ _))))); intro v165 w56 ho57 hb hg_ hnew_; clear hg_ hnew_; (first | rw [← Ny164.out] at ho57 | (simp only [Int.reduceToNat] at ho57; rw [← Ny164.out] at ho57)); have n0_ := Aside0.mk (Kd.N_elder' (by (with_reducible repeat (first | apply Kd.N_alloc | apply Kd.N_drewN | apply Kd.N_drew)); exact HO135.out) (Kd.N_base ho57) hb); have n1_ := Aside0.mk (Kd.N_elder' (by (with_reducible repeat (first | apply Kd.N_alloc | apply Kd.N_drewN | apply Kd.N_drew)); exact HO138.out) (Kd.N_base ho57) hb); have n2_ := Aside0.mk (Kd.N_elder' (by (with_reducible repeat (first | apply Kd.N_alloc | apply Kd.N_drewN | apply Kd.N_drew)); exact HO150.out) (Kd.N_base ho57) hb); have n3_ := Aside0.mk (Kd.N_elder' (by (with_reducible repeat (first | apply Kd.N_alloc | apply Kd.N_drewN | apply Kd.N_drew)); exact HO154.out) (Kd.N_base ho57) hb); have n4_ := Aside0.mk (Kd.N_lower ho57 (below_size (by repeat (first | (with_reducible first | exact HB.out | apply below_alloc | apply pw_below_drewN | apply below_drew1) | exact HB.out)))); have n5_ := Aside0.mk (below_step (by repeat (first | (with_reducible first | exact HB.out | apply below_alloc | apply pw_below_drewN | apply below_drew1) | exact HB.out)) hb); clear HO135; clear HO138; clear HO150; clear HO154; clear HB; clear HO157; clear HO160; clear HO163; have HO135 := n0_; have HO138 := n1_; have HO150 := n2_; have HO154 := n3_; have HO166 := n4_; have HB := n5_; clear n0_ n1_ n2_ n3_ n4_ n5_; clear hb ho57; obtain ⟨Ao58, co58, eo58⟩ := Kd.N_slice HO154.out; subst eo58; obtain ⟨Ao59, co59, eo59⟩ := Kd.N_slice HO166.out; subst eo59) | (go_at_call 10; (with_reducible refine (tabellionref33_Lists.calls k _ _ t152 _ _ y164 true _ ?side1 ?side2 ?side3 ?side4 A8.out).mono ?_); (case side1 => repeat (first | exact (Kd.N_reads' HO154.out).2.2 | (with_reducible refine Kd.C_alloc ?_ _) | (with_reducible refine Kd.C_drewN ?_ _) | (with_reducible refine Kd.C_drew ?_))); (case side2 => exact (Kd.N_reads' HO154.out).2.1); (case side3 => repeat (first | exact (Kd.N_reads' HO166.out).2.2 | (with_reducible refine Kd.C_alloc ?_ _) | (with_reducible refine Kd.C_drewN ?_ _) | (with_reducible refine Kd.C_drew ?_))); (case side4 => exact (Kd.N_reads' HO166.out).2.1); rintro e w' ⟨rfl, ⟨nd, rfl⟩⟩) | (go_at_call 16; (with_reducible refine (grouper_Distinct.calls _ _ y133 t168 _ ?side1 ?side2 A10.out ?tab).mono ?_); (case tab => exact (tab_of HTAB.out (by repeat (first | (with_reducible first | exact HB.out | apply below_alloc | apply pw_below_drewN | apply below_drew1) | exact HB.out)))); (case side1 => repeat (first | exact (Kd.N_reads' HO135.out).2.2 | (with_reducible refine Kd.C_alloc ?_ _) | (with_reducible refine Kd.C_drewN ?_ _) | (with_reducible refine Kd.C_drew ?_))); (case side2 => exact (Kd.N_reads' HO135.out).2.1); rintro e w60 ⟨v169, rfl, ho0, hb⟩; have n0_ := Aside0.mk (Kd.N_elder' (by (with_reducible repeat (first | apply Kd.N_alloc | apply Kd.N_drewN | apply Kd.N_drew)); exact HO135.out) (Kd.S_base ho0) hb); have n1_ := Aside0.mk (Kd.N_elder' (by (with_reducible repeat (first | apply Kd.N_alloc | apply Kd.N_drewN | apply Kd.N_drew)); exact HO138.out) (Kd.S_base ho0) hb); have n2_ := Aside0.mk (Kd.N_elder' (by (with_reducible repeat (first | apply Kd.N_alloc | apply Kd.N_drewN | apply Kd.N_drew)); exact HO150.out) (Kd.S_base ho0) hb); have n3_ := Aside0.mk (Kd.N_elder' (by (with_reducible repeat (first | apply Kd.N_alloc | apply Kd.N_drewN | apply Kd.N_drew)); exact HO154.out) (Kd.S_base ho0) hb); have n4_ := Aside0.mk (Kd.N_elder' (by (with_reducible repeat (first | apply Kd.N_alloc | apply Kd.N_drewN | apply Kd.N_drew)); exact HO166.out) (Kd.S_base ho0) hb); have n5_ := Aside0.mk (Kd.N_lower (Kd.N_mono (ok' := fun k_ => some k_ ≠ (.slice Ao31 y133.length co31 : Value).ownBlock ∧ some k_ ≠ (.slice Ao44 t136.length co44 : Value).ownBlock ∧ some k_ ≠ (.slice Ao45 y148.length co45 : Value).ownBlock ∧ some k_ ≠ (.slice Ao58 t152.length co58 : Value).ownBlock ∧ some k_ ≠ (.slice Ao59 y164.length co59 : Value).ownBlock) (Kd.S_N (Kd.S_bound ho0)) (fun k_ hk_ => ⟨(Kd.fresh' (Kd.N_lt (by (with_reducible repeat (first | apply Kd.N_alloc | apply Kd.N_drewN | apply Kd.N_drew)); exact HO135.out)) k_ hk_.2.1), (Kd.fresh' (Kd.N_lt (by (with_reducible repeat (first | apply Kd.N_alloc | apply Kd.N_drewN | apply Kd.N_drew)); exact HO138.out)) k_ hk_.2.1), (Kd.fresh' (Kd.N_lt (by (with_reducible repeat (first | apply Kd.N_alloc | apply Kd.N_drewN | apply Kd.N_drew)); exact HO150.out)) k_ hk_.2.1), (Kd.fresh' (Kd.N_lt (by (with_reducible repeat (first | apply Kd.N_alloc | apply Kd.N_drewN | apply Kd.N_drew)); exact HO154.out)) k_ hk_.2.1), (Kd.fresh' (Kd.N_lt (by (with_reducible repeat (first | apply Kd.N_alloc | apply Kd.N_drewN | apply Kd.N_drew)); exact HO166.out)) k_ hk_.2.1)⟩)) (below_size (by repeat (first | (with_reducible first | exact HB.out | apply below_alloc | apply pw_below_drewN | apply below_drew1) | exact HB.out)))); have n6_ := Aside0.mk (below_step (by repeat (first | (with_reducible first | exact HB.out | apply below_alloc | apply pw_below_drewN | apply below_drew1) | exact HB.out)) hb); clear HO135; clear HO138; clear HO150; clear HO154; clear HO166; clear HB; have HO135 := n0_; have HO138 := n1_; have HO150 := n2_; have HO154 := n3_; have HO166 := n4_; have HO170 := n5_; have HB := n6_; clear n0_ n1_ n2_ n3_ n4_ n5_ n6_; (try clear hb); (try clear hb2); (try clear hk); (try clear hi); (try clear ho0); obtain ⟨Ao61, co61, eo61⟩ := Kd.N_slice HO170.out; subst eo61))
   go_ret
   exact ⟨by first | rfl | (simp [errW_none, errW_some] <;> rfl) | (simp [*, errW_none, errW_some] <;> rfl), by repeat (first | (with_reducible first | exact HB.out | apply below_alloc | apply pw_below_drewN | apply below_drew1) | exact HB.out)⟩
  ·
   replace c9 := Bool.eq_false_iff.mpr c9
   subst c9
   have H1 : (some false) = some r := by rw [if_neg (show ¬ (false = true) by decide)] at H; exact H
   exact absurd H1 (by rw [HRT.out]; simp)
 ·
  replace c6 := Bool.eq_false_iff.mpr c6
  subst c6
  have H1 : (some false) = some r := by rw [if_neg (show ¬ (false = true) by decide)] at H; exact H
  exact absurd H1 (by rw [HRT.out]; simp)

end Go.Proofs.YtnllgjloimoebaaDoor.X
