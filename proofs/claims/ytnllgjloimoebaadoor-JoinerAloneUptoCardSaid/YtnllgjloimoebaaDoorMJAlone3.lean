/- The unmatched numbers are as the reference says; of two lists' own pairs they are exactly the indices that match nothing; for arguments of bulk at most 1048576. Part 4 of 5. -/
import Derived.Test.YtnllgjloimoebaaDoorMJAlone0
import Derived.Test.YtnllgjloimoebaaDoorMJAlone1
import Derived.Test.YtnllgjloimoebaaDoorMJAlone2

-- By xprint.py (this session's own program over the kit's print): not trusted: Lean checks it.
namespace Go.Proofs.YtnllgjloimoebaaDoor.X
open Go.RowKit Go.Proofs.YtnllgjloimoebaaDoorW.PrintWords Go.Proofs.YtnllgjloimoebaaDoorW.PrintLast Go.Proofs.YtnllgjloimoebaaDoorW.PrintMore
attribute [local go_sem] max2_int min2_int max_two min_two max_three min_three max_four min_four   -- for this text's walks alone
set_option linter.unusedVariables false
set_option linter.unusedSimpArgs false

/-! ### joiner_run: function 41 -/
def joiner_run.l0 : Nat → List (List (S44)) → List Int → Int → Int → Option (Int)
 | 0, _, _, _, _ => none
 | k + 1, x0, x1, x2, x7 => if (wrap64 (x2 + x7)) < (x1.length : Int) then (if 0 ≤ x2 then (if x2 < (x1.length : Int) then (if 0 ≤ (rd x1 x2) then (if (rd x1 x2) < (x0.length : Int) then (if 0 ≤ (wrap64 (x2 + x7)) then (if 0 ≤ (rd x1 (wrap64 (x2 + x7))) then (if (rd x1 (wrap64 (x2 + x7))) < (x0.length : Int) then ((value_Orders.f k (rd_L4 x0 (rd x1 x2)) (rd_L4 x0 (rd x1 (wrap64 (x2 + x7))))).bind fun t573 => (if t573 = 0 then (joiner_run.l0 k x0 x1 x2 (wrap64 (x7 + 1))) else (some x7))) else (none)) else (none)) else (none)) else (none)) else (none)) else (none)) else (none)) else (some x7)
def joiner_run.f (k : Nat) (l0 : List (List (S44))) (l1 : List Int) (a2 : Int) : Option (Int) := joiner_run.l0 k l0 l1 a2 1
def joiner_run.T2 : Bool × List (List Nat × List Nat) := (true, [([], []), ([], []), ([0, 1], [0, 1]), ([], []), ([3], [3]), ([2, 4], [2, 4]), ([5], [5]), ([6], [6]), ([6], [6]), ([6], [6]), ([8, 9, 6], [6, 8, 9]), ([10, 6], [6, 10]), ([7, 11, 6], [6, 7, 11]), ([12, 6], [6, 12]), ([6], [6]), ([6], [6]), ([6], [6]), ([6], [6]), ([16, 17, 6], [6, 16, 17]), ([15, 18, 6], [6, 15, 18]), ([19, 6], [6, 19]), ([14, 20, 6], [6, 14, 20]), ([21, 6], [6, 21]), ([13, 22, 6, 6], [6, 13, 22]), ([23, 6], [6, 23]), ([6, 24], [6, 24])])
def joiner_run.B2 : List Nat := [0, 0, 3, 0, 8, 31, 63, 127, 127, 127, 895, 1919, 4095, 8191, 127, 127, 127, 127, 196735, 491647, 1015935, 2080895, 4178047, 8388607, 16777215, 33554431]
theorem joiner_run.tab2 : rtab .any (opsOf Tryd.f41 2) = joiner_run.T2 := by kernel_rfl
theorem joiner_run.bits2 : waitsOk joiner_run.T2.2 joiner_run.B2 = true := by kernel_rfl
set_option maxHeartbeats 8000000 in
set_option maxRecDepth 100000 in
theorem joiner_run.calls (k : Nat) (A0 : Option Addr) (c0 : Nat) (l0 : List (List (S44))) (A1 : Option Addr) (c1 : Nat) (l1 : List Int) (a2 : Int) (r : Int) (w : World) (hr0 : Kd.C (Kd.slice 44 k44) w A0 l0.length l0) (hc0 : l0.length ≤ c0) (hr1 : Kd.C (Kd.int .i64) w A1 l1.length l1) (hc1 : l1.length ≤ c1) (h : joiner_run.f k l0 l1 a2 = some r) :
  Calls Tryd.prog 41 #[.slice A0 l0.length c0, .slice A1 l1.length c1, .int .i64 a2] w fun e w' => e = .returned (.int .i64 r) ∧ Below w.heap.size w w' := by
 have HR0 := Aside0.mk hr0
 have HC0 := Aside0.mk hc0
 clear hr0 hc0
 have HR1 := Aside0.mk hr1
 have HC1 := Aside0.mk hc1
 clear hr1 hc1
 have HB := Aside0.mk (Below.refl w.heap.size w)
 have H : (joiner_run.l0 k l0 l1 a2 1) = some r := h
 clear h
 have H' := Aside0.mk H
 clear H
 go_enter Tryd.func41, Tryd.ntmps41
 go_wp2
 go_loopg [7] k (fun kq v7 w' => ∃ (x7_1 : Int), v7 = .int .i64 x7_1 ∧ Aside0 (joiner_run.l0 kq l0 l1 a2 x7_1 = some r) ∧ Aside0 (kq ≤ k) ∧ Aside0 (Below w.heap.size w w'))
 case atStart => exact ⟨(1), (by first | rfl | (simp; done) | (simp [*]; done)), H', ⟨Nat.le_refl _⟩, ⟨by repeat (first | (with_reducible first | exact HB.out | apply below_alloc | apply pw_below_drewN | apply below_drew1) | exact HB.out)⟩⟩
 case round =>
  clear H'
  try clear c1
  try clear p2
  obtain ⟨x7_1, rfl, HA, HK1, HB⟩ := hrel
  cases gk with
  | zero => exact absurd HA.out (by simp [joiner_run.l0])
  | succ k1 =>
   have H := HA.out
   clear HA
   simp only [joiner_run.l0] at H
   by_cases c4 : (wrap64 (a2 + x7_1)) < (l1.length : Int)
   ·
    rw [if_pos c4] at H
    have c4b0 : decide ((wrap64 (a2 + x7_1)) < (l1.length : Int)) = true := decide_eq_true c4
    clear c4
    by_cases c5 : 0 ≤ a2
    ·
     rw [if_pos c5] at H
     have c5b0 : decide (0 ≤ a2) = true := decide_eq_true c5
     clear c5
     by_cases c6 : a2 < (l1.length : Int)
     ·
      rw [if_pos c6] at H
      have c6b0 : decide (a2 < (l1.length : Int)) = true := decide_eq_true c6
      clear c6
      by_cases c7 : 0 ≤ (rd l1 a2)
      ·
       rw [if_pos c7] at H
       have c7b0 : decide (0 ≤ (rd l1 a2)) = true := decide_eq_true c7
       clear c7
       by_cases c8 : (rd l1 a2) < (l0.length : Int)
       ·
        rw [if_pos c8] at H
        have c8b0 : decide ((rd l1 a2) < (l0.length : Int)) = true := decide_eq_true c8
        clear c8
        obtain ⟨ji9, hji9⟩ : ∃ j_ : Int, (wrap64 (a2 + x7_1)) = j_ := ⟨_, rfl⟩
        replace H : (if 0 ≤ (ji9) then (if 0 ≤ (rd l1 (ji9)) then (if (rd l1 (ji9)) < (l0.length : Int) then ((value_Orders.f k1 (rd_L4 l0 (rd l1 a2)) (rd_L4 l0 (rd l1 (ji9)))).bind fun t573 => (if t573 = 0 then (joiner_run.l0 k1 l0 l1 a2 (wrap64 (x7_1 + 1))) else (some x7_1))) else (none)) else (none)) else (none)) = some r := by first | (rw [hji9] at H; exact H) | (simp only [hji9] at H ⊢; exact H)
        (try rw [hji9] at c4b0)
        have hji9w : (IntKind.i64.wrap (a2 + x7_1)) = ji9 := (i64_w _).trans hji9
        by_cases c10 : 0 ≤ (ji9)
        ·
         rw [if_pos c10] at H
         have c10b0 : decide (0 ≤ (ji9)) = true := decide_eq_true c10
         clear c10
         by_cases c11 : 0 ≤ (rd l1 (ji9))
         ·
          rw [if_pos c11] at H
          have c11b0 : decide (0 ≤ (rd l1 (ji9))) = true := decide_eq_true c11
          clear c11
          by_cases c12 : (rd l1 (ji9)) < (l0.length : Int)
          ·
           rw [if_pos c12] at H
           have c12b0 : decide ((rd l1 (ji9)) < (l0.length : Int)) = true := decide_eq_true c12
           clear c12
           replace H := Option.bind_eq_some_iff.mp H
           obtain ⟨t573, A130, H⟩ := H
           replace H : (if t573 = 0 then (joiner_run.l0 k1 l0 l1 a2 (wrap64 (x7_1 + 1))) else (some x7_1)) = some r := H
           have A13 := Aside0.mk A130
           clear A130
           by_cases c14 : t573 = 0
           ·
            rw [if_pos c14] at H
            have c14b0 : (t573 == 0) = true := beq_iff_eq.mpr c14
            have c14b1 : (t573 != 0) = false := bne_eq_false_iff_eq.mpr c14
            clear c14
            have H' := Aside0.mk H
            clear H
            try go_wp2
            have n0_ := Aside0.mk (below_drew1 HB.out)
            clear HB
            have HB := n0_
            clear n0_
            have p569 : 0 ≤ (a2 : Int) := of_decide_eq_true (by first | (with_reducible assumption) | assumption)
            have q569 : a2 < (l1.length : Int) := of_decide_eq_true (by first | (with_reducible assumption) | assumption)
            obtain ⟨ad569, e569, hx569_0⟩ := Kd.at_int HR1.out a2 p569 q569
            have hw569_0 := hx569_0
            cases e569
            replace hx569_0 := (HB.out.cell (World.block_lt_of_cell? w _ hx569_0)).trans hx569_0
            replace p569 := eq_true p569
            replace q569 := eq_true q569
            have p570 : 0 ≤ ((rd l1 a2) : Int) := of_decide_eq_true (by first | (with_reducible assumption) | assumption)
            have q570 : (rd l1 a2) < (l0.length : Int) := of_decide_eq_true (by first | (with_reducible assumption) | assumption)
            obtain ⟨ad570, A570_0, c570_0, e570, hx570_0, hl570_0, hi570_0⟩ := at_L4 HR0.out (rd l1 a2) p570 q570
            have hw570_0 := hx570_0
            cases e570
            replace hx570_0 := (HB.out.cell (World.block_lt_of_cell? w _ hx570_0)).trans hx570_0
            have HR570_0 := Aside0.mk hi570_0
            have HC570_0 := Aside0.mk hl570_0
            clear hi570_0 hl570_0
            replace p570 := eq_true p570
            replace q570 := eq_true q570
            have p571 : 0 ≤ ((ji9) : Int) := of_decide_eq_true (by first | (with_reducible assumption) | assumption)
            have q571 : (ji9) < (l1.length : Int) := of_decide_eq_true (by first | (with_reducible assumption) | assumption)
            obtain ⟨ad571, e571, hx571_0⟩ := Kd.at_int HR1.out (ji9) p571 q571
            have hw571_0 := hx571_0
            obtain rfl : ad569 = ad571 := (by injection e571)
            replace hx571_0 := (HB.out.cell (World.block_lt_of_cell? w _ hx571_0)).trans hx571_0
            replace p571 := eq_true p571
            replace q571 := eq_true q571
            have p572 : 0 ≤ ((rd l1 (ji9)) : Int) := of_decide_eq_true (by first | (with_reducible assumption) | assumption)
            have q572 : (rd l1 (ji9)) < (l0.length : Int) := of_decide_eq_true (by first | (with_reducible assumption) | assumption)
            obtain ⟨ad572, A572_0, c572_0, e572, hx572_0, hl572_0, hi572_0⟩ := at_L4 HR0.out (rd l1 (ji9)) p572 q572
            have hw572_0 := hx572_0
            obtain rfl : ad570 = ad572 := (by injection e572)
            replace hx572_0 := (HB.out.cell (World.block_lt_of_cell? w _ hx572_0)).trans hx572_0
            have HR572_0 := Aside0.mk hi572_0
            have HC572_0 := Aside0.mk hl572_0
            clear hi572_0 hl572_0
            replace p572 := eq_true p572
            replace q572 := eq_true q572
            refine start_ (n := 26) (S := fun w' => w'.cell? (ad569.add (a2).toNat) = some (.int .i64 (rd l1 a2)) ∧ w'.cell? (ad570.add ((rd l1 a2)).toNat) = some (.slice A570_0 (rd_L4 l0 (rd l1 a2)).length c570_0) ∧ w'.cell? (ad569.add ((ji9)).toNat) = some (.int .i64 (rd l1 (ji9))) ∧ w'.cell? (ad570.add ((rd l1 (ji9))).toNat) = some (.slice A572_0 (rd_L4 l0 (rd l1 (ji9))).length c572_0)) (ds := []) #[false, false, false, false, false, false, false, false, false, false, false, false, false, false, false, false, false, false, false, false, false, false, false, false, false, false] (by kernel_rfl) rfl rfl ⟨((HB.out.cell (World.block_lt_of_cell? w _ hw569_0)).trans hw569_0), ((HB.out.cell (World.block_lt_of_cell? w _ hw570_0)).trans hw570_0), ((HB.out.cell (World.block_lt_of_cell? w _ hw571_0)).trans hw571_0), ((HB.out.cell (World.block_lt_of_cell? w _ hw572_0)).trans hw572_0)⟩ (fun hHeld => ?_); refine with_tabW joiner_run.tab2 joiner_run.bits2 (fun HT_ HW_ => ?_)
            generalize wr.drew = w15 at HB HR570_0 HR572_0 hx569_0 hx570_0 hx571_0 hx572_0 hHeld ⊢
            refine pure_ (i := 0) (N := some 8) (v := ?_) (a' := ?_) #[true, false, false, false, false, false, false, false, false, false, false, false, false, false, false, false, false, false, false, false, false, false, false, false, false, false] rfl rfl (any_of HT_.out (by kernel_rfl)) (fun _ _ _ h => h) (Or.inl ⟨by rfl, ?_⟩) ?_ ?_
            rotate_left
            ·
             intro w'
             go_simp
             with_reducible rfl
            rotate_left
            ·
             simp only [Act.put, List.setIfInBounds_toArray, List.set_cons_zero, List.set_cons_succ, i64_w, i32_w]
             rfl
            refine pure_ (i := 1) (N := some 9) (v := ?_) (a' := ?_) #[true, true, false, false, false, false, false, false, false, false, false, false, false, false, false, false, false, false, false, false, false, false, false, false, false, false] rfl rfl (any_of HT_.out (by kernel_rfl)) (fun _ _ _ h => h) (Or.inl ⟨by rfl, ?_⟩) ?_ ?_
            rotate_left
            ·
             intro w'
             go_simp
             with_reducible rfl
            rotate_left
            ·
             simp only [Act.put, List.setIfInBounds_toArray, List.set_cons_zero, List.set_cons_succ, i64_w, i32_w]
             rfl
            refine pure_ (i := 2) (N := some 10) (v := ?_) (a' := ?_) #[true, true, true, false, false, false, false, false, false, false, false, false, false, false, false, false, false, false, false, false, false, false, false, false, false, false] rfl rfl (any_of HT_.out (by kernel_rfl)) (fun _ _ _ h => h) (Or.inl ⟨by rfl, ?_⟩) ?_ ?_
            rotate_left
            ·
             intro w'
             go_simp
             with_reducible rfl
            rotate_left
            ·
             simp only [Act.put, List.setIfInBounds_toArray, List.set_cons_zero, List.set_cons_succ, i64_w, i32_w]
             rfl
            refine pure_ (i := 3) (N := some 11) (v := ?_) (a' := ?_) #[true, true, true, true, false, false, false, false, false, false, false, false, false, false, false, false, false, false, false, false, false, false, false, false, false, false] rfl rfl (any_of HT_.out (by kernel_rfl)) (fun _ _ _ h => h) (Or.inl ⟨by rfl, ?_⟩) ?_ ?_
            rotate_left
            ·
             intro w'
             go_simp
             with_reducible rfl
            rotate_left
            ·
             simp only [Act.put, List.setIfInBounds_toArray, List.set_cons_zero, List.set_cons_succ, i64_w, i32_w]
             rfl
            refine pure_ (i := 4) (N := some 12) (v := ?_) (a' := ?_) #[true, true, true, true, true, false, false, false, false, false, false, false, false, false, false, false, false, false, false, false, false, false, false, false, false, false] rfl rfl (any_of HT_.out (by kernel_rfl)) (fun _ _ _ h => h) (Or.inl ⟨by rfl, ?_⟩) ?_ ?_
            rotate_left
            ·
             intro w'
             go_simp
             with_reducible rfl
            rotate_left
            ·
             simp only [Act.put, List.setIfInBounds_toArray, List.set_cons_zero, List.set_cons_succ, i64_w, i32_w]
             rfl
            refine pure_ (i := 5) (N := some 13) (v := ?_) (a' := ?_) #[true, true, true, true, true, true, false, false, false, false, false, false, false, false, false, false, false, false, false, false, false, false, false, false, false, false] rfl rfl (any_of HT_.out (by kernel_rfl)) (fun _ _ _ h => h) (Or.inl ⟨by rfl, ?_⟩) ?_ ?_
            rotate_left
            ·
             intro w'
             go_simp
             with_reducible rfl
            rotate_left
            ·
             simp only [Act.put, List.setIfInBounds_toArray, List.set_cons_zero, List.set_cons_succ, i64_w, i32_w]
             rfl
            refine pure_ (i := 6) (N := some 14) (v := ?_) (a' := ?_) #[true, true, true, true, true, true, true, false, false, false, false, false, false, false, false, false, false, false, false, false, false, false, false, false, false, false] rfl rfl (any_of HT_.out (by kernel_rfl)) (fun _ _ _ h => h) (Or.inl ⟨by rfl, ?_⟩) ?_ ?_
            rotate_left
            ·
             intro w'
             go_simp
             with_reducible rfl
            rotate_left
            ·
             simp only [Act.put, List.setIfInBounds_toArray, List.set_cons_zero, List.set_cons_succ, i64_w, i32_w]
             rfl
            refine pure_ (i := 7) (N := some 15) (v := ?_) (a' := ?_) #[true, true, true, true, true, true, true, true, false, false, false, false, false, false, false, false, false, false, false, false, false, false, false, false, false, false] rfl rfl (any_of HT_.out (by kernel_rfl)) (fun _ _ _ h => h) (Or.inl ⟨by rfl, ?_⟩) ?_ ?_
            rotate_left
            ·
             intro w'
             go_simp
             with_reducible rfl
            rotate_left
            ·
             simp only [Act.put, List.setIfInBounds_toArray, List.set_cons_zero, List.set_cons_succ, i64_w, i32_w]
             rfl
            refine pure_ (i := 8) (N := some 16) (v := ?_) (a' := ?_) #[true, true, true, true, true, true, true, true, true, false, false, false, false, false, false, false, false, false, false, false, false, false, false, false, false, false] rfl rfl (any_of HT_.out (by kernel_rfl)) (fun _ _ _ h => h) (Or.inl ⟨by rfl, ?_⟩) ?_ ?_
            rotate_left
            ·
             intro w'
             go_simp
             with_reducible rfl
            rotate_left
            ·
             simp only [Act.put, List.setIfInBounds_toArray, List.set_cons_zero, List.set_cons_succ, i64_w, i32_w]
             rfl
            refine pure_ (i := 9) (N := some 17) (v := ?_) (a' := ?_) #[true, true, true, true, true, true, true, true, true, true, false, false, false, false, false, false, false, false, false, false, false, false, false, false, false, false] rfl rfl (any_of HT_.out (by kernel_rfl)) (fun _ _ _ h => h) (Or.inl ⟨by rfl, ?_⟩) ?_ ?_
            rotate_left
            ·
             intro w'
             go_simp
             with_reducible rfl
            rotate_left
            ·
             simp only [Act.put, List.setIfInBounds_toArray, List.set_cons_zero, List.set_cons_succ, i64_w, i32_w]
             rfl
            refine pure_ (i := 10) (N := some 18) (v := ?_) (a' := ?_) #[true, true, true, true, true, true, true, true, true, true, true, false, false, false, false, false, false, false, false, false, false, false, false, false, false, false] rfl rfl (any_of HT_.out (by kernel_rfl)) (fun _ _ _ h => h) (Or.inl ⟨by rfl, ?_⟩) ?_ ?_
            rotate_left
            ·
             intro w'
             go_simp
             with_reducible rfl
            rotate_left
            ·
             simp only [Act.put, List.setIfInBounds_toArray, List.set_cons_zero, List.set_cons_succ, i64_w, i32_w]
             rfl
            refine pure_ (i := 14) (N := some 22) (v := ?_) (a' := ?_) #[true, true, true, true, true, true, true, true, true, true, true, false, false, false, true, false, false, false, false, false, false, false, false, false, false, false] rfl rfl (any_of HT_.out (by kernel_rfl)) (fun _ _ _ h => h) (Or.inl ⟨by rfl, ?_⟩) ?_ ?_
            rotate_left
            ·
             intro w'
             go_simp
             with_reducible rfl
            rotate_left
            ·
             simp only [Act.put, List.setIfInBounds_toArray, List.set_cons_zero, List.set_cons_succ, i64_w, i32_w]
             rfl
            refine pure_ (i := 15) (N := some 23) (v := ?_) (a' := ?_) #[true, true, true, true, true, true, true, true, true, true, true, false, false, false, true, true, false, false, false, false, false, false, false, false, false, false] rfl rfl (any_of HT_.out (by kernel_rfl)) (fun _ _ _ h => h) (Or.inl ⟨by rfl, ?_⟩) ?_ ?_
            rotate_left
            ·
             intro w'
             go_simp
             with_reducible rfl
            rotate_left
            ·
             simp only [Act.put, List.setIfInBounds_toArray, List.set_cons_zero, List.set_cons_succ, i64_w, i32_w]
             rfl
            refine pure_ (i := 16) (N := some 24) (v := ?_) (a' := ?_) #[true, true, true, true, true, true, true, true, true, true, true, false, false, false, true, true, true, false, false, false, false, false, false, false, false, false] rfl rfl (any_of HT_.out (by kernel_rfl)) (fun _ _ _ h => h) (Or.inl ⟨by rfl, ?_⟩) ?_ ?_
            rotate_left
            ·
             intro w'
             go_simp
             with_reducible rfl
            rotate_left
            ·
             simp only [Act.put, List.setIfInBounds_toArray, List.set_cons_zero, List.set_cons_succ, i64_w, i32_w]
             rfl
            refine pure_ (i := 17) (N := some 25) (v := ?_) (a' := ?_) #[true, true, true, true, true, true, true, true, true, true, true, false, false, false, true, true, true, true, false, false, false, false, false, false, false, false] rfl rfl (any_of HT_.out (by kernel_rfl)) (fun _ _ _ h => h) (Or.inl ⟨by rfl, ?_⟩) ?_ ?_
            rotate_left
            ·
             intro w'
             go_simp
             with_reducible rfl
            rotate_left
            ·
             simp only [Act.put, List.setIfInBounds_toArray, List.set_cons_zero, List.set_cons_succ, i64_w, i32_w]
             rfl
            refine pure_ (i := 18) (N := some 26) (v := ?_) (a' := ?_) #[true, true, true, true, true, true, true, true, true, true, true, false, false, false, true, true, true, true, true, false, false, false, false, false, false, false] rfl rfl (any_of HT_.out (by kernel_rfl)) (fun _ _ _ h => h) (Or.inl ⟨by rfl, ?_⟩) ?_ ?_
            rotate_left
            ·
             intro w'
             go_simp
             with_reducible rfl
            rotate_left
            ·
             simp only [Act.put, List.setIfInBounds_toArray, List.set_cons_zero, List.set_cons_succ, i64_w, i32_w]
             rfl
            refine pure_ (i := 19) (N := some 27) (v := ?_) (a' := ?_) #[true, true, true, true, true, true, true, true, true, true, true, false, false, false, true, true, true, true, true, true, false, false, false, false, false, false] rfl rfl (any_of HT_.out (by kernel_rfl)) (fun _ _ _ h => h) (Or.inl ⟨by rfl, ?_⟩) ?_ ?_
            rotate_left
            ·
             intro w'
             go_simp
             with_reducible rfl
            rotate_left
            ·
             simp only [Act.put, List.setIfInBounds_toArray, List.set_cons_zero, List.set_cons_succ, i64_w, i32_w]
             rfl
            refine take_ (i := 11) (N := some 19) (v := ?_) (a' := ?_) #[true, true, true, true, true, true, true, true, true, true, true, true, false, false, true, true, true, true, true, true, false, false, false, false, false, false] rfl rfl (take_ofW HT_.out HW_.out (by kernel_rfl)) (fun _ _ _ h => h) (Or.inl ⟨by rfl, ?_⟩) hHeld ?_ ?_
            rotate_left
            ·
             rintro w' ⟨s0, s1, s2, s3⟩
             go_simp
             with_reducible rfl
            rotate_left
            ·
             simp only [Act.put, List.setIfInBounds_toArray, List.set_cons_zero, List.set_cons_succ, i64_w, i32_w]
             rfl
            refine pure_ (i := 12) (N := some 20) (v := ?_) (a' := ?_) #[true, true, true, true, true, true, true, true, true, true, true, true, true, false, true, true, true, true, true, true, false, false, false, false, false, false] rfl rfl (any_of HT_.out (by kernel_rfl)) (fun _ _ _ h => h) (Or.inl ⟨by rfl, ?_⟩) ?_ ?_
            rotate_left
            ·
             intro w'
             go_simp
             with_reducible rfl
            rotate_left
            ·
             simp only [Act.put, List.setIfInBounds_toArray, List.set_cons_zero, List.set_cons_succ, i64_w, i32_w]
             rfl
            refine take_ (i := 13) (N := some 21) (v := ?_) (a' := ?_) #[true, true, true, true, true, true, true, true, true, true, true, true, true, true, true, true, true, true, true, true, false, false, false, false, false, false] rfl rfl (take_ofW HT_.out HW_.out (by kernel_rfl)) (fun _ _ _ h => h) (Or.inl ⟨by rfl, ?_⟩) hHeld ?_ ?_
            rotate_left
            ·
             rintro w' ⟨s0, s1, s2, s3⟩
             go_simp
             with_reducible rfl
            rotate_left
            ·
             simp only [Act.put, List.setIfInBounds_toArray, List.set_cons_zero, List.set_cons_succ, i64_w, i32_w]
             rfl
            refine take_ (i := 20) (N := some 28) (v := ?_) (a' := ?_) #[true, true, true, true, true, true, true, true, true, true, true, true, true, true, true, true, true, true, true, true, true, false, false, false, false, false] rfl rfl (take_ofW HT_.out HW_.out (by kernel_rfl)) (fun _ _ _ h => h) (Or.inl ⟨by rfl, ?_⟩) hHeld ?_ ?_
            rotate_left
            ·
             rintro w' ⟨s0, s1, s2, s3⟩
             go_simp
             with_reducible rfl
            rotate_left
            ·
             simp only [Act.put, List.setIfInBounds_toArray, List.set_cons_zero, List.set_cons_succ, i64_w, i32_w]
             rfl
            refine pure_ (i := 21) (N := some 29) (v := ?_) (a' := ?_) #[true, true, true, true, true, true, true, true, true, true, true, true, true, true, true, true, true, true, true, true, true, true, false, false, false, false] rfl rfl (any_of HT_.out (by kernel_rfl)) (fun _ _ _ h => h) (Or.inl ⟨by rfl, ?_⟩) ?_ ?_
            rotate_left
            ·
             intro w'
             go_simp
             with_reducible rfl
            rotate_left
            ·
             simp only [Act.put, List.setIfInBounds_toArray, List.set_cons_zero, List.set_cons_succ, i64_w, i32_w]
             rfl
            refine take_ (i := 22) (N := some 30) (v := ?_) (a' := ?_) #[true, true, true, true, true, true, true, true, true, true, true, true, true, true, true, true, true, true, true, true, true, true, true, false, false, false] rfl rfl (take_ofW HT_.out HW_.out (by kernel_rfl)) (fun _ _ _ h => h) (Or.inl ⟨by rfl, ?_⟩) hHeld ?_ ?_
            rotate_left
            ·
             rintro w' ⟨s0, s1, s2, s3⟩
             go_simp
             with_reducible rfl
            rotate_left
            ·
             simp only [Act.put, List.setIfInBounds_toArray, List.set_cons_zero, List.set_cons_succ, i64_w, i32_w]
             rfl
            refine one_ (i := 23) (N := some 31) #[true, true, true, true, true, true, true, true, true, true, true, true, true, true, true, true, true, true, true, true, true, true, true, true, false, false] rfl rfl (one_of HT_.out (by kernel_rfl)) (by decide) (fun K hK => ?_)
            refine goes_ Tryd.func18 (by kernel_rfl) rfl #[.slice A570_0 (rd_L4 l0 (rd l1 a2)).length c570_0, .slice A572_0 (rd_L4 l0 (rd l1 (ji9))).length c572_0] (by rfl) rfl rfl (by (try simp only [List.map_toArray, List.map_cons, List.map_nil]); first | done | (simp only [hji9]; rfl) | rfl | (simp only [List.length_drop, List.length_take]; rfl)) ?_
            with_reducible refine (value_Orders.calls k1 _ _ (rd_L4 l0 (rd l1 a2)) _ _ (rd_L4 l0 (rd l1 (ji9))) t573 _ ?side1 ?side2 ?side3 ?side4 A13.out).mono ?_
            (case side1 => repeat (first | exact (Kd.C_below HR570_0.out HB.out) | (with_reducible refine Kd.C_alloc ?_ _) | (with_reducible refine Kd.C_drewN ?_ _) | (with_reducible refine Kd.C_drew ?_)))
            (case side2 => exact HC570_0.out)
            (case side3 => repeat (first | exact (Kd.C_below HR572_0.out HB.out) | (with_reducible refine Kd.C_alloc ?_ _) | (with_reducible refine Kd.C_drewN ?_ _) | (with_reducible refine Kd.C_drew ?_)))
            (case side4 => exact HC572_0.out)
            rintro e w16 ⟨rfl, hb⟩
            refine ⟨_, rfl, ?_⟩
            have n0_ := Aside0.mk (below_step (by repeat (first | (with_reducible first | exact HB.out | apply below_alloc | apply pw_below_drewN | apply below_drew1) | exact HB.out)) hb)
            clear HB
            have HB := n0_
            clear n0_
            (try clear hb)
            (try clear hb2)
            (try clear hk)
            (try clear hi)
            refine hK.out _ _ ⟨((HB.out.cell (World.block_lt_of_cell? w _ hw569_0)).trans hw569_0), ((HB.out.cell (World.block_lt_of_cell? w _ hw570_0)).trans hw570_0), ((HB.out.cell (World.block_lt_of_cell? w _ hw571_0)).trans hw571_0), ((HB.out.cell (World.block_lt_of_cell? w _ hw572_0)).trans hw572_0)⟩ (fun hHeld => ?_)
            clear hK K
            refine norm_ (a' := ?_) ?_ ?_
            rotate_left
            ·
             show Act.put _ (some 31) _ = _
             simp only [Act.put, List.setIfInBounds_toArray, List.set_cons_zero, List.set_cons_succ, i64_w, i32_w]
             rfl
            refine pure_ (i := 24) (N := some 32) (v := ?_) (a' := ?_) #[true, true, true, true, true, true, true, true, true, true, true, true, true, true, true, true, true, true, true, true, true, true, true, true, true, false] rfl rfl (any_of HT_.out (by kernel_rfl)) (fun _ _ _ h => h) (Or.inl ⟨by rfl, ?_⟩) ?_ ?_
            rotate_left
            ·
             intro w'
             go_simp
             with_reducible rfl
            rotate_left
            ·
             simp only [Act.put, List.setIfInBounds_toArray, List.set_cons_zero, List.set_cons_succ, i64_w, i32_w]
             rfl
            refine pure_ (i := 25) (N := some 33) (v := ?_) (a' := ?_) #[true, true, true, true, true, true, true, true, true, true, true, true, true, true, true, true, true, true, true, true, true, true, true, true, true, true] rfl rfl (any_of HT_.out (by kernel_rfl)) (fun _ _ _ h => h) (Or.inl ⟨by rfl, ?_⟩) ?_ ?_
            rotate_left
            ·
             intro w'
             go_simp
             with_reducible rfl
            rotate_left
            ·
             simp only [Act.put, List.setIfInBounds_toArray, List.set_cons_zero, List.set_cons_succ, i64_w, i32_w]
             rfl
            refine done_ (done_of HT_.out (by kernel_rfl)) ?_
            try go_wp2
            go_roundg k1
            case measure => have := HK1.out; omega
            case rel => exact ⟨(wrap64 (x7_1 + 1)), (by first | rfl | (simp; done) | (simp [*]; done)), H', ⟨by have := HK1.out; omega⟩, ⟨by repeat (first | (with_reducible first | exact HB.out | apply below_alloc | apply pw_below_drewN | apply below_drew1) | exact HB.out)⟩⟩
           ·
            rw [if_neg c14] at H
            have c14b0 : (t573 == 0) = false := beq_eq_false_iff_ne.mpr c14
            have c14b1 : (t573 != 0) = true := bne_iff_ne.mpr c14
            obtain rfl := Option.some.inj H
            try go_wp2
            have n0_ := Aside0.mk (below_drew1 HB.out)
            clear HB
            have HB := n0_
            clear n0_
            have p569 : 0 ≤ (a2 : Int) := of_decide_eq_true (by first | (with_reducible assumption) | assumption)
            have q569 : a2 < (l1.length : Int) := of_decide_eq_true (by first | (with_reducible assumption) | assumption)
            obtain ⟨ad569, e569, hx569_0⟩ := Kd.at_int HR1.out a2 p569 q569
            have hw569_0 := hx569_0
            cases e569
            replace hx569_0 := (HB.out.cell (World.block_lt_of_cell? w _ hx569_0)).trans hx569_0
            replace p569 := eq_true p569
            replace q569 := eq_true q569
            have p570 : 0 ≤ ((rd l1 a2) : Int) := of_decide_eq_true (by first | (with_reducible assumption) | assumption)
            have q570 : (rd l1 a2) < (l0.length : Int) := of_decide_eq_true (by first | (with_reducible assumption) | assumption)
            obtain ⟨ad570, A570_0, c570_0, e570, hx570_0, hl570_0, hi570_0⟩ := at_L4 HR0.out (rd l1 a2) p570 q570
            have hw570_0 := hx570_0
            cases e570
            replace hx570_0 := (HB.out.cell (World.block_lt_of_cell? w _ hx570_0)).trans hx570_0
            have HR570_0 := Aside0.mk hi570_0
            have HC570_0 := Aside0.mk hl570_0
            clear hi570_0 hl570_0
            replace p570 := eq_true p570
            replace q570 := eq_true q570
            have p571 : 0 ≤ ((ji9) : Int) := of_decide_eq_true (by first | (with_reducible assumption) | assumption)
            have q571 : (ji9) < (l1.length : Int) := of_decide_eq_true (by first | (with_reducible assumption) | assumption)
            obtain ⟨ad571, e571, hx571_0⟩ := Kd.at_int HR1.out (ji9) p571 q571
            have hw571_0 := hx571_0
            obtain rfl : ad569 = ad571 := (by injection e571)
            replace hx571_0 := (HB.out.cell (World.block_lt_of_cell? w _ hx571_0)).trans hx571_0
            replace p571 := eq_true p571
            replace q571 := eq_true q571
            have p572 : 0 ≤ ((rd l1 (ji9)) : Int) := of_decide_eq_true (by first | (with_reducible assumption) | assumption)
            have q572 : (rd l1 (ji9)) < (l0.length : Int) := of_decide_eq_true (by first | (with_reducible assumption) | assumption)
            obtain ⟨ad572, A572_0, c572_0, e572, hx572_0, hl572_0, hi572_0⟩ := at_L4 HR0.out (rd l1 (ji9)) p572 q572
            have hw572_0 := hx572_0
            obtain rfl : ad570 = ad572 := (by injection e572)
            replace hx572_0 := (HB.out.cell (World.block_lt_of_cell? w _ hx572_0)).trans hx572_0
            have HR572_0 := Aside0.mk hi572_0
            have HC572_0 := Aside0.mk hl572_0
            clear hi572_0 hl572_0
            replace p572 := eq_true p572
            replace q572 := eq_true q572
            refine start_ (n := 26) (S := fun w' => w'.cell? (ad569.add (a2).toNat) = some (.int .i64 (rd l1 a2)) ∧ w'.cell? (ad570.add ((rd l1 a2)).toNat) = some (.slice A570_0 (rd_L4 l0 (rd l1 a2)).length c570_0) ∧ w'.cell? (ad569.add ((ji9)).toNat) = some (.int .i64 (rd l1 (ji9))) ∧ w'.cell? (ad570.add ((rd l1 (ji9))).toNat) = some (.slice A572_0 (rd_L4 l0 (rd l1 (ji9))).length c572_0)) (ds := []) #[false, false, false, false, false, false, false, false, false, false, false, false, false, false, false, false, false, false, false, false, false, false, false, false, false, false] (by kernel_rfl) rfl rfl ⟨((HB.out.cell (World.block_lt_of_cell? w _ hw569_0)).trans hw569_0), ((HB.out.cell (World.block_lt_of_cell? w _ hw570_0)).trans hw570_0), ((HB.out.cell (World.block_lt_of_cell? w _ hw571_0)).trans hw571_0), ((HB.out.cell (World.block_lt_of_cell? w _ hw572_0)).trans hw572_0)⟩ (fun hHeld => ?_); refine with_tabW joiner_run.tab2 joiner_run.bits2 (fun HT_ HW_ => ?_)
            generalize wr.drew = w17 at HB HR570_0 HR572_0 hx569_0 hx570_0 hx571_0 hx572_0 hHeld ⊢
            refine pure_ (i := 0) (N := some 8) (v := ?_) (a' := ?_) #[true, false, false, false, false, false, false, false, false, false, false, false, false, false, false, false, false, false, false, false, false, false, false, false, false, false] rfl rfl (any_of HT_.out (by kernel_rfl)) (fun _ _ _ h => h) (Or.inl ⟨by rfl, ?_⟩) ?_ ?_
            rotate_left
            ·
             intro w'
             go_simp
             with_reducible rfl
            rotate_left
            ·
             simp only [Act.put, List.setIfInBounds_toArray, List.set_cons_zero, List.set_cons_succ, i64_w, i32_w]
             rfl
            refine pure_ (i := 1) (N := some 9) (v := ?_) (a' := ?_) #[true, true, false, false, false, false, false, false, false, false, false, false, false, false, false, false, false, false, false, false, false, false, false, false, false, false] rfl rfl (any_of HT_.out (by kernel_rfl)) (fun _ _ _ h => h) (Or.inl ⟨by rfl, ?_⟩) ?_ ?_
            rotate_left
            ·
             intro w'
             go_simp
             with_reducible rfl
            rotate_left
            ·
             simp only [Act.put, List.setIfInBounds_toArray, List.set_cons_zero, List.set_cons_succ, i64_w, i32_w]
             rfl
            refine pure_ (i := 2) (N := some 10) (v := ?_) (a' := ?_) #[true, true, true, false, false, false, false, false, false, false, false, false, false, false, false, false, false, false, false, false, false, false, false, false, false, false] rfl rfl (any_of HT_.out (by kernel_rfl)) (fun _ _ _ h => h) (Or.inl ⟨by rfl, ?_⟩) ?_ ?_
            rotate_left
            ·
             intro w'
             go_simp
             with_reducible rfl
            rotate_left
            ·
             simp only [Act.put, List.setIfInBounds_toArray, List.set_cons_zero, List.set_cons_succ, i64_w, i32_w]
             rfl
            refine pure_ (i := 3) (N := some 11) (v := ?_) (a' := ?_) #[true, true, true, true, false, false, false, false, false, false, false, false, false, false, false, false, false, false, false, false, false, false, false, false, false, false] rfl rfl (any_of HT_.out (by kernel_rfl)) (fun _ _ _ h => h) (Or.inl ⟨by rfl, ?_⟩) ?_ ?_
            rotate_left
            ·
             intro w'
             go_simp
             with_reducible rfl
            rotate_left
            ·
             simp only [Act.put, List.setIfInBounds_toArray, List.set_cons_zero, List.set_cons_succ, i64_w, i32_w]
             rfl
            refine pure_ (i := 4) (N := some 12) (v := ?_) (a' := ?_) #[true, true, true, true, true, false, false, false, false, false, false, false, false, false, false, false, false, false, false, false, false, false, false, false, false, false] rfl rfl (any_of HT_.out (by kernel_rfl)) (fun _ _ _ h => h) (Or.inl ⟨by rfl, ?_⟩) ?_ ?_
            rotate_left
            ·
             intro w'
             go_simp
             with_reducible rfl
            rotate_left
            ·
             simp only [Act.put, List.setIfInBounds_toArray, List.set_cons_zero, List.set_cons_succ, i64_w, i32_w]
             rfl
            refine pure_ (i := 5) (N := some 13) (v := ?_) (a' := ?_) #[true, true, true, true, true, true, false, false, false, false, false, false, false, false, false, false, false, false, false, false, false, false, false, false, false, false] rfl rfl (any_of HT_.out (by kernel_rfl)) (fun _ _ _ h => h) (Or.inl ⟨by rfl, ?_⟩) ?_ ?_
            rotate_left
            ·
             intro w'
             go_simp
             with_reducible rfl
            rotate_left
            ·
             simp only [Act.put, List.setIfInBounds_toArray, List.set_cons_zero, List.set_cons_succ, i64_w, i32_w]
             rfl
            refine pure_ (i := 6) (N := some 14) (v := ?_) (a' := ?_) #[true, true, true, true, true, true, true, false, false, false, false, false, false, false, false, false, false, false, false, false, false, false, false, false, false, false] rfl rfl (any_of HT_.out (by kernel_rfl)) (fun _ _ _ h => h) (Or.inl ⟨by rfl, ?_⟩) ?_ ?_
            rotate_left
            ·
             intro w'
             go_simp
             with_reducible rfl
            rotate_left
            ·
             simp only [Act.put, List.setIfInBounds_toArray, List.set_cons_zero, List.set_cons_succ, i64_w, i32_w]
             rfl
            refine pure_ (i := 7) (N := some 15) (v := ?_) (a' := ?_) #[true, true, true, true, true, true, true, true, false, false, false, false, false, false, false, false, false, false, false, false, false, false, false, false, false, false] rfl rfl (any_of HT_.out (by kernel_rfl)) (fun _ _ _ h => h) (Or.inl ⟨by rfl, ?_⟩) ?_ ?_
            rotate_left
            ·
             intro w'
             go_simp
             with_reducible rfl
            rotate_left
            ·
             simp only [Act.put, List.setIfInBounds_toArray, List.set_cons_zero, List.set_cons_succ, i64_w, i32_w]
             rfl
            refine pure_ (i := 8) (N := some 16) (v := ?_) (a' := ?_) #[true, true, true, true, true, true, true, true, true, false, false, false, false, false, false, false, false, false, false, false, false, false, false, false, false, false] rfl rfl (any_of HT_.out (by kernel_rfl)) (fun _ _ _ h => h) (Or.inl ⟨by rfl, ?_⟩) ?_ ?_
            rotate_left
            ·
             intro w'
             go_simp
             with_reducible rfl
            rotate_left
            ·
             simp only [Act.put, List.setIfInBounds_toArray, List.set_cons_zero, List.set_cons_succ, i64_w, i32_w]
             rfl
            refine pure_ (i := 9) (N := some 17) (v := ?_) (a' := ?_) #[true, true, true, true, true, true, true, true, true, true, false, false, false, false, false, false, false, false, false, false, false, false, false, false, false, false] rfl rfl (any_of HT_.out (by kernel_rfl)) (fun _ _ _ h => h) (Or.inl ⟨by rfl, ?_⟩) ?_ ?_
            rotate_left
            ·
             intro w'
             go_simp
             with_reducible rfl
            rotate_left
            ·
             simp only [Act.put, List.setIfInBounds_toArray, List.set_cons_zero, List.set_cons_succ, i64_w, i32_w]
             rfl
            refine pure_ (i := 10) (N := some 18) (v := ?_) (a' := ?_) #[true, true, true, true, true, true, true, true, true, true, true, false, false, false, false, false, false, false, false, false, false, false, false, false, false, false] rfl rfl (any_of HT_.out (by kernel_rfl)) (fun _ _ _ h => h) (Or.inl ⟨by rfl, ?_⟩) ?_ ?_
            rotate_left
            ·
             intro w'
             go_simp
             with_reducible rfl
            rotate_left
            ·
             simp only [Act.put, List.setIfInBounds_toArray, List.set_cons_zero, List.set_cons_succ, i64_w, i32_w]
             rfl
            refine pure_ (i := 14) (N := some 22) (v := ?_) (a' := ?_) #[true, true, true, true, true, true, true, true, true, true, true, false, false, false, true, false, false, false, false, false, false, false, false, false, false, false] rfl rfl (any_of HT_.out (by kernel_rfl)) (fun _ _ _ h => h) (Or.inl ⟨by rfl, ?_⟩) ?_ ?_
            rotate_left
            ·
             intro w'
             go_simp
             with_reducible rfl
            rotate_left
            ·
             simp only [Act.put, List.setIfInBounds_toArray, List.set_cons_zero, List.set_cons_succ, i64_w, i32_w]
             rfl
            refine pure_ (i := 15) (N := some 23) (v := ?_) (a' := ?_) #[true, true, true, true, true, true, true, true, true, true, true, false, false, false, true, true, false, false, false, false, false, false, false, false, false, false] rfl rfl (any_of HT_.out (by kernel_rfl)) (fun _ _ _ h => h) (Or.inl ⟨by rfl, ?_⟩) ?_ ?_
            rotate_left
            ·
             intro w'
             go_simp
             with_reducible rfl
            rotate_left
            ·
             simp only [Act.put, List.setIfInBounds_toArray, List.set_cons_zero, List.set_cons_succ, i64_w, i32_w]
             rfl
            refine pure_ (i := 16) (N := some 24) (v := ?_) (a' := ?_) #[true, true, true, true, true, true, true, true, true, true, true, false, false, false, true, true, true, false, false, false, false, false, false, false, false, false] rfl rfl (any_of HT_.out (by kernel_rfl)) (fun _ _ _ h => h) (Or.inl ⟨by rfl, ?_⟩) ?_ ?_
            rotate_left
            ·
             intro w'
             go_simp
             with_reducible rfl
            rotate_left
            ·
             simp only [Act.put, List.setIfInBounds_toArray, List.set_cons_zero, List.set_cons_succ, i64_w, i32_w]
             rfl
            refine pure_ (i := 17) (N := some 25) (v := ?_) (a' := ?_) #[true, true, true, true, true, true, true, true, true, true, true, false, false, false, true, true, true, true, false, false, false, false, false, false, false, false] rfl rfl (any_of HT_.out (by kernel_rfl)) (fun _ _ _ h => h) (Or.inl ⟨by rfl, ?_⟩) ?_ ?_
            rotate_left
            ·
             intro w'
             go_simp
             with_reducible rfl
            rotate_left
            ·
             simp only [Act.put, List.setIfInBounds_toArray, List.set_cons_zero, List.set_cons_succ, i64_w, i32_w]
             rfl
            refine pure_ (i := 18) (N := some 26) (v := ?_) (a' := ?_) #[true, true, true, true, true, true, true, true, true, true, true, false, false, false, true, true, true, true, true, false, false, false, false, false, false, false] rfl rfl (any_of HT_.out (by kernel_rfl)) (fun _ _ _ h => h) (Or.inl ⟨by rfl, ?_⟩) ?_ ?_
            rotate_left
            ·
             intro w'
             go_simp
             with_reducible rfl
            rotate_left
            ·
             simp only [Act.put, List.setIfInBounds_toArray, List.set_cons_zero, List.set_cons_succ, i64_w, i32_w]
             rfl
            refine pure_ (i := 19) (N := some 27) (v := ?_) (a' := ?_) #[true, true, true, true, true, true, true, true, true, true, true, false, false, false, true, true, true, true, true, true, false, false, false, false, false, false] rfl rfl (any_of HT_.out (by kernel_rfl)) (fun _ _ _ h => h) (Or.inl ⟨by rfl, ?_⟩) ?_ ?_
            rotate_left
            ·
             intro w'
             go_simp
             with_reducible rfl
            rotate_left
            ·
             simp only [Act.put, List.setIfInBounds_toArray, List.set_cons_zero, List.set_cons_succ, i64_w, i32_w]
             rfl
            refine take_ (i := 11) (N := some 19) (v := ?_) (a' := ?_) #[true, true, true, true, true, true, true, true, true, true, true, true, false, false, true, true, true, true, true, true, false, false, false, false, false, false] rfl rfl (take_ofW HT_.out HW_.out (by kernel_rfl)) (fun _ _ _ h => h) (Or.inl ⟨by rfl, ?_⟩) hHeld ?_ ?_
            rotate_left
            ·
             rintro w' ⟨s0, s1, s2, s3⟩
             go_simp
             with_reducible rfl
            rotate_left
            ·
             simp only [Act.put, List.setIfInBounds_toArray, List.set_cons_zero, List.set_cons_succ, i64_w, i32_w]
             rfl
            refine pure_ (i := 12) (N := some 20) (v := ?_) (a' := ?_) #[true, true, true, true, true, true, true, true, true, true, true, true, true, false, true, true, true, true, true, true, false, false, false, false, false, false] rfl rfl (any_of HT_.out (by kernel_rfl)) (fun _ _ _ h => h) (Or.inl ⟨by rfl, ?_⟩) ?_ ?_
            rotate_left
            ·
             intro w'
             go_simp
             with_reducible rfl
            rotate_left
            ·
             simp only [Act.put, List.setIfInBounds_toArray, List.set_cons_zero, List.set_cons_succ, i64_w, i32_w]
             rfl
            refine take_ (i := 13) (N := some 21) (v := ?_) (a' := ?_) #[true, true, true, true, true, true, true, true, true, true, true, true, true, true, true, true, true, true, true, true, false, false, false, false, false, false] rfl rfl (take_ofW HT_.out HW_.out (by kernel_rfl)) (fun _ _ _ h => h) (Or.inl ⟨by rfl, ?_⟩) hHeld ?_ ?_
            rotate_left
            ·
             rintro w' ⟨s0, s1, s2, s3⟩
             go_simp
             with_reducible rfl
            rotate_left
            ·
             simp only [Act.put, List.setIfInBounds_toArray, List.set_cons_zero, List.set_cons_succ, i64_w, i32_w]
             rfl
            refine take_ (i := 20) (N := some 28) (v := ?_) (a' := ?_) #[true, true, true, true, true, true, true, true, true, true, true, true, true, true, true, true, true, true, true, true, true, false, false, false, false, false] rfl rfl (take_ofW HT_.out HW_.out (by kernel_rfl)) (fun _ _ _ h => h) (Or.inl ⟨by rfl, ?_⟩) hHeld ?_ ?_
            rotate_left
            ·
             rintro w' ⟨s0, s1, s2, s3⟩
             go_simp
             with_reducible rfl
            rotate_left
            ·
             simp only [Act.put, List.setIfInBounds_toArray, List.set_cons_zero, List.set_cons_succ, i64_w, i32_w]
             rfl
            refine pure_ (i := 21) (N := some 29) (v := ?_) (a' := ?_) #[true, true, true, true, true, true, true, true, true, true, true, true, true, true, true, true, true, true, true, true, true, true, false, false, false, false] rfl rfl (any_of HT_.out (by kernel_rfl)) (fun _ _ _ h => h) (Or.inl ⟨by rfl, ?_⟩) ?_ ?_
            rotate_left
            ·
             intro w'
             go_simp
             with_reducible rfl
            rotate_left
            ·
             simp only [Act.put, List.setIfInBounds_toArray, List.set_cons_zero, List.set_cons_succ, i64_w, i32_w]
             rfl
            refine take_ (i := 22) (N := some 30) (v := ?_) (a' := ?_) #[true, true, true, true, true, true, true, true, true, true, true, true, true, true, true, true, true, true, true, true, true, true, true, false, false, false] rfl rfl (take_ofW HT_.out HW_.out (by kernel_rfl)) (fun _ _ _ h => h) (Or.inl ⟨by rfl, ?_⟩) hHeld ?_ ?_
            rotate_left
            ·
             rintro w' ⟨s0, s1, s2, s3⟩
             go_simp
             with_reducible rfl
            rotate_left
            ·
             simp only [Act.put, List.setIfInBounds_toArray, List.set_cons_zero, List.set_cons_succ, i64_w, i32_w]
             rfl
            refine one_ (i := 23) (N := some 31) #[true, true, true, true, true, true, true, true, true, true, true, true, true, true, true, true, true, true, true, true, true, true, true, true, false, false] rfl rfl (one_of HT_.out (by kernel_rfl)) (by decide) (fun K hK => ?_)
            refine goes_ Tryd.func18 (by kernel_rfl) rfl #[.slice A570_0 (rd_L4 l0 (rd l1 a2)).length c570_0, .slice A572_0 (rd_L4 l0 (rd l1 (ji9))).length c572_0] (by rfl) rfl rfl (by (try simp only [List.map_toArray, List.map_cons, List.map_nil]); first | done | (simp only [hji9]; rfl) | rfl | (simp only [List.length_drop, List.length_take]; rfl)) ?_
            with_reducible refine (value_Orders.calls k1 _ _ (rd_L4 l0 (rd l1 a2)) _ _ (rd_L4 l0 (rd l1 (ji9))) t573 _ ?side1 ?side2 ?side3 ?side4 A13.out).mono ?_
            (case side1 => repeat (first | exact (Kd.C_below HR570_0.out HB.out) | (with_reducible refine Kd.C_alloc ?_ _) | (with_reducible refine Kd.C_drewN ?_ _) | (with_reducible refine Kd.C_drew ?_)))
            (case side2 => exact HC570_0.out)
            (case side3 => repeat (first | exact (Kd.C_below HR572_0.out HB.out) | (with_reducible refine Kd.C_alloc ?_ _) | (with_reducible refine Kd.C_drewN ?_ _) | (with_reducible refine Kd.C_drew ?_)))
            (case side4 => exact HC572_0.out)
            rintro e w18 ⟨rfl, hb⟩
            refine ⟨_, rfl, ?_⟩
            have n0_ := Aside0.mk (below_step (by repeat (first | (with_reducible first | exact HB.out | apply below_alloc | apply pw_below_drewN | apply below_drew1) | exact HB.out)) hb)
            clear HB
            have HB := n0_
            clear n0_
            (try clear hb)
            (try clear hb2)
            (try clear hk)
            (try clear hi)
            refine hK.out _ _ ⟨((HB.out.cell (World.block_lt_of_cell? w _ hw569_0)).trans hw569_0), ((HB.out.cell (World.block_lt_of_cell? w _ hw570_0)).trans hw570_0), ((HB.out.cell (World.block_lt_of_cell? w _ hw571_0)).trans hw571_0), ((HB.out.cell (World.block_lt_of_cell? w _ hw572_0)).trans hw572_0)⟩ (fun hHeld => ?_)
            clear hK K
            refine norm_ (a' := ?_) ?_ ?_
            rotate_left
            ·
             show Act.put _ (some 31) _ = _
             simp only [Act.put, List.setIfInBounds_toArray, List.set_cons_zero, List.set_cons_succ, i64_w, i32_w]
             rfl
            refine pure_ (i := 24) (N := some 32) (v := ?_) (a' := ?_) #[true, true, true, true, true, true, true, true, true, true, true, true, true, true, true, true, true, true, true, true, true, true, true, true, true, false] rfl rfl (any_of HT_.out (by kernel_rfl)) (fun _ _ _ h => h) (Or.inl ⟨by rfl, ?_⟩) ?_ ?_
            rotate_left
            ·
             intro w'
             go_simp
             with_reducible rfl
            rotate_left
            ·
             simp only [Act.put, List.setIfInBounds_toArray, List.set_cons_zero, List.set_cons_succ, i64_w, i32_w]
             rfl
            refine pure_ (i := 25) (N := some 33) (v := ?_) (a' := ?_) #[true, true, true, true, true, true, true, true, true, true, true, true, true, true, true, true, true, true, true, true, true, true, true, true, true, true] rfl rfl (any_of HT_.out (by kernel_rfl)) (fun _ _ _ h => h) (Or.inl ⟨by rfl, ?_⟩) ?_ ?_
            rotate_left
            ·
             intro w'
             go_simp
             with_reducible rfl
            rotate_left
            ·
             simp only [Act.put, List.setIfInBounds_toArray, List.set_cons_zero, List.set_cons_succ, i64_w, i32_w]
             rfl
            refine done_ (done_of HT_.out (by kernel_rfl)) ?_
            try go_wp2
            go_ret
            exact ⟨by first | rfl | (simp [errW_none, errW_some] <;> rfl) | (simp only [← hji9]; first | rfl | (simp [errW_none, errW_some] <;> rfl)) | (simp [*, errW_none, errW_some] <;> rfl), by repeat (first | (with_reducible first | exact HB.out | apply below_alloc | apply pw_below_drewN | apply below_drew1) | exact HB.out)⟩
          ·
           rw [if_neg c12] at H
           exact absurd H (by simp)
         ·
          rw [if_neg c11] at H
          exact absurd H (by simp)
        ·
         rw [if_neg c10] at H
         exact absurd H (by simp)
       ·
        rw [if_neg c8] at H
        exact absurd H (by simp)
      ·
       rw [if_neg c7] at H
       exact absurd H (by simp)
     ·
      rw [if_neg c6] at H
      exact absurd H (by simp)
    ·
     rw [if_neg c5] at H
     exact absurd H (by simp)
   ·
    rw [if_neg c4] at H
    have c4b0 : decide ((wrap64 (a2 + x7_1)) < (l1.length : Int)) = false := decide_eq_false c4
    clear c4
    obtain rfl := Option.some.inj H
    try go_wp2
    have n0_ := Aside0.mk (below_drew1 HB.out)
    clear HB
    have HB := n0_
    clear n0_
    refine start_ (n := 26) (S := fun w' => True) (ds := []) #[false, false, false, false, false, false, false, false, false, false, false, false, false, false, false, false, false, false, false, false, false, false, false, false, false, false] (by kernel_rfl) rfl rfl trivial (fun hHeld => ?_); refine with_tabW joiner_run.tab2 joiner_run.bits2 (fun HT_ HW_ => ?_)
    generalize wr.drew = w19 at HB hHeld ⊢
    refine pure_ (i := 0) (N := some 8) (v := ?_) (a' := ?_) #[true, false, false, false, false, false, false, false, false, false, false, false, false, false, false, false, false, false, false, false, false, false, false, false, false, false] rfl rfl (any_of HT_.out (by kernel_rfl)) (fun _ _ _ h => h) (Or.inl ⟨by rfl, ?_⟩) ?_ ?_
    rotate_left
    ·
     intro w'
     go_simp
     with_reducible rfl
    rotate_left
    ·
     simp only [Act.put, List.setIfInBounds_toArray, List.set_cons_zero, List.set_cons_succ, i64_w, i32_w]
     rfl
    refine pure_ (i := 1) (N := some 9) (v := ?_) (a' := ?_) #[true, true, false, false, false, false, false, false, false, false, false, false, false, false, false, false, false, false, false, false, false, false, false, false, false, false] rfl rfl (any_of HT_.out (by kernel_rfl)) (fun _ _ _ h => h) (Or.inl ⟨by rfl, ?_⟩) ?_ ?_
    rotate_left
    ·
     intro w'
     go_simp
     with_reducible rfl
    rotate_left
    ·
     simp only [Act.put, List.setIfInBounds_toArray, List.set_cons_zero, List.set_cons_succ, i64_w, i32_w]
     rfl
    refine pure_ (i := 2) (N := some 10) (v := ?_) (a' := ?_) #[true, true, true, false, false, false, false, false, false, false, false, false, false, false, false, false, false, false, false, false, false, false, false, false, false, false] rfl rfl (any_of HT_.out (by kernel_rfl)) (fun _ _ _ h => h) (Or.inl ⟨by rfl, ?_⟩) ?_ ?_
    rotate_left
    ·
     intro w'
     go_simp
     with_reducible rfl
    rotate_left
    ·
     simp only [Act.put, List.setIfInBounds_toArray, List.set_cons_zero, List.set_cons_succ, i64_w, i32_w]
     rfl
    refine pure_ (i := 3) (N := some 11) (v := ?_) (a' := ?_) #[true, true, true, true, false, false, false, false, false, false, false, false, false, false, false, false, false, false, false, false, false, false, false, false, false, false] rfl rfl (any_of HT_.out (by kernel_rfl)) (fun _ _ _ h => h) (Or.inl ⟨by rfl, ?_⟩) ?_ ?_
    rotate_left
    ·
     intro w'
     go_simp
     with_reducible rfl
    rotate_left
    ·
     simp only [Act.put, List.setIfInBounds_toArray, List.set_cons_zero, List.set_cons_succ, i64_w, i32_w]
     rfl
    refine pure_ (i := 4) (N := some 12) (v := ?_) (a' := ?_) #[true, true, true, true, true, false, false, false, false, false, false, false, false, false, false, false, false, false, false, false, false, false, false, false, false, false] rfl rfl (any_of HT_.out (by kernel_rfl)) (fun _ _ _ h => h) (Or.inl ⟨by rfl, ?_⟩) ?_ ?_
    rotate_left
    ·
     intro w'
     go_simp
     with_reducible rfl
    rotate_left
    ·
     simp only [Act.put, List.setIfInBounds_toArray, List.set_cons_zero, List.set_cons_succ, i64_w, i32_w]
     rfl
    refine pure_ (i := 5) (N := some 13) (v := ?_) (a' := ?_) #[true, true, true, true, true, true, false, false, false, false, false, false, false, false, false, false, false, false, false, false, false, false, false, false, false, false] rfl rfl (any_of HT_.out (by kernel_rfl)) (fun _ _ _ h => h) (Or.inl ⟨by rfl, ?_⟩) ?_ ?_
    rotate_left
    ·
     intro w'
     go_simp
     with_reducible rfl
    rotate_left
    ·
     simp only [Act.put, List.setIfInBounds_toArray, List.set_cons_zero, List.set_cons_succ, i64_w, i32_w]
     rfl
    refine pure_ (i := 6) (N := some 14) (v := ?_) (a' := ?_) #[true, true, true, true, true, true, true, false, false, false, false, false, false, false, false, false, false, false, false, false, false, false, false, false, false, false] rfl rfl (any_of HT_.out (by kernel_rfl)) (fun _ _ _ h => h) (Or.inl ⟨by rfl, ?_⟩) ?_ ?_
    rotate_left
    ·
     intro w'
     go_simp
     with_reducible rfl
    rotate_left
    ·
     simp only [Act.put, List.setIfInBounds_toArray, List.set_cons_zero, List.set_cons_succ, i64_w, i32_w]
     rfl
    refine pure_ (i := 7) (N := some 15) (v := undef) (a' := ?_) #[true, true, true, true, true, true, true, true, false, false, false, false, false, false, false, false, false, false, false, false, false, false, false, false, false, false] rfl rfl (any_of HT_.out (by kernel_rfl)) (fun _ _ _ h => h) (Or.inr ⟨by rfl, rfl⟩) ?_ ?_
    rotate_left
    ·
     simp only [Act.put, List.setIfInBounds_toArray, List.set_cons_zero, List.set_cons_succ, i64_w, i32_w]
     rfl
    refine pure_ (i := 8) (N := some 16) (v := undef) (a' := ?_) #[true, true, true, true, true, true, true, true, true, false, false, false, false, false, false, false, false, false, false, false, false, false, false, false, false, false] rfl rfl (any_of HT_.out (by kernel_rfl)) (fun _ _ _ h => h) (Or.inr ⟨by rfl, rfl⟩) ?_ ?_
    rotate_left
    ·
     simp only [Act.put, List.setIfInBounds_toArray, List.set_cons_zero, List.set_cons_succ, i64_w, i32_w]
     rfl
    refine pure_ (i := 9) (N := some 17) (v := undef) (a' := ?_) #[true, true, true, true, true, true, true, true, true, true, false, false, false, false, false, false, false, false, false, false, false, false, false, false, false, false] rfl rfl (any_of HT_.out (by kernel_rfl)) (fun _ _ _ h => h) (Or.inr ⟨by rfl, rfl⟩) ?_ ?_
    rotate_left
    ·
     simp only [Act.put, List.setIfInBounds_toArray, List.set_cons_zero, List.set_cons_succ, i64_w, i32_w]
     rfl
    refine pure_ (i := 10) (N := some 18) (v := undef) (a' := ?_) #[true, true, true, true, true, true, true, true, true, true, true, false, false, false, false, false, false, false, false, false, false, false, false, false, false, false] rfl rfl (any_of HT_.out (by kernel_rfl)) (fun _ _ _ h => h) (Or.inr ⟨by rfl, rfl⟩) ?_ ?_
    rotate_left
    ·
     simp only [Act.put, List.setIfInBounds_toArray, List.set_cons_zero, List.set_cons_succ, i64_w, i32_w]
     rfl
    refine pure_ (i := 11) (N := some 19) (v := undef) (a' := ?_) #[true, true, true, true, true, true, true, true, true, true, true, true, false, false, false, false, false, false, false, false, false, false, false, false, false, false] rfl rfl (any_of HT_.out (by kernel_rfl)) (fun _ _ _ h => h) (Or.inr ⟨by rfl, rfl⟩) ?_ ?_
    rotate_left
    ·
     simp only [Act.put, List.setIfInBounds_toArray, List.set_cons_zero, List.set_cons_succ, i64_w, i32_w]
     rfl
    refine pure_ (i := 12) (N := some 20) (v := undef) (a' := ?_) #[true, true, true, true, true, true, true, true, true, true, true, true, true, false, false, false, false, false, false, false, false, false, false, false, false, false] rfl rfl (any_of HT_.out (by kernel_rfl)) (fun _ _ _ h => h) (Or.inr ⟨by rfl, rfl⟩) ?_ ?_
    rotate_left
    ·
     simp only [Act.put, List.setIfInBounds_toArray, List.set_cons_zero, List.set_cons_succ, i64_w, i32_w]
     rfl
    refine pure_ (i := 13) (N := some 21) (v := undef) (a' := ?_) #[true, true, true, true, true, true, true, true, true, true, true, true, true, true, false, false, false, false, false, false, false, false, false, false, false, false] rfl rfl (any_of HT_.out (by kernel_rfl)) (fun _ _ _ h => h) (Or.inr ⟨by rfl, rfl⟩) ?_ ?_
    rotate_left
    ·
     simp only [Act.put, List.setIfInBounds_toArray, List.set_cons_zero, List.set_cons_succ, i64_w, i32_w]
     rfl
    refine pure_ (i := 14) (N := some 22) (v := undef) (a' := ?_) #[true, true, true, true, true, true, true, true, true, true, true, true, true, true, true, false, false, false, false, false, false, false, false, false, false, false] rfl rfl (any_of HT_.out (by kernel_rfl)) (fun _ _ _ h => h) (Or.inr ⟨by rfl, rfl⟩) ?_ ?_
    rotate_left
    ·
     simp only [Act.put, List.setIfInBounds_toArray, List.set_cons_zero, List.set_cons_succ, i64_w, i32_w]
     rfl
    refine pure_ (i := 15) (N := some 23) (v := undef) (a' := ?_) #[true, true, true, true, true, true, true, true, true, true, true, true, true, true, true, true, false, false, false, false, false, false, false, false, false, false] rfl rfl (any_of HT_.out (by kernel_rfl)) (fun _ _ _ h => h) (Or.inr ⟨by rfl, rfl⟩) ?_ ?_
    rotate_left
    ·
     simp only [Act.put, List.setIfInBounds_toArray, List.set_cons_zero, List.set_cons_succ, i64_w, i32_w]
     rfl
    refine pure_ (i := 16) (N := some 24) (v := undef) (a' := ?_) #[true, true, true, true, true, true, true, true, true, true, true, true, true, true, true, true, true, false, false, false, false, false, false, false, false, false] rfl rfl (any_of HT_.out (by kernel_rfl)) (fun _ _ _ h => h) (Or.inr ⟨by rfl, rfl⟩) ?_ ?_
    rotate_left
    ·
     simp only [Act.put, List.setIfInBounds_toArray, List.set_cons_zero, List.set_cons_succ, i64_w, i32_w]
     rfl
    refine pure_ (i := 17) (N := some 25) (v := undef) (a' := ?_) #[true, true, true, true, true, true, true, true, true, true, true, true, true, true, true, true, true, true, false, false, false, false, false, false, false, false] rfl rfl (any_of HT_.out (by kernel_rfl)) (fun _ _ _ h => h) (Or.inr ⟨by rfl, rfl⟩) ?_ ?_
    rotate_left
    ·
     simp only [Act.put, List.setIfInBounds_toArray, List.set_cons_zero, List.set_cons_succ, i64_w, i32_w]
     rfl
    refine pure_ (i := 18) (N := some 26) (v := undef) (a' := ?_) #[true, true, true, true, true, true, true, true, true, true, true, true, true, true, true, true, true, true, true, false, false, false, false, false, false, false] rfl rfl (any_of HT_.out (by kernel_rfl)) (fun _ _ _ h => h) (Or.inr ⟨by rfl, rfl⟩) ?_ ?_
    rotate_left
    ·
     simp only [Act.put, List.setIfInBounds_toArray, List.set_cons_zero, List.set_cons_succ, i64_w, i32_w]
     rfl
    refine pure_ (i := 19) (N := some 27) (v := undef) (a' := ?_) #[true, true, true, true, true, true, true, true, true, true, true, true, true, true, true, true, true, true, true, true, false, false, false, false, false, false] rfl rfl (any_of HT_.out (by kernel_rfl)) (fun _ _ _ h => h) (Or.inr ⟨by rfl, rfl⟩) ?_ ?_
    rotate_left
    ·
     simp only [Act.put, List.setIfInBounds_toArray, List.set_cons_zero, List.set_cons_succ, i64_w, i32_w]
     rfl
    refine pure_ (i := 20) (N := some 28) (v := undef) (a' := ?_) #[true, true, true, true, true, true, true, true, true, true, true, true, true, true, true, true, true, true, true, true, true, false, false, false, false, false] rfl rfl (any_of HT_.out (by kernel_rfl)) (fun _ _ _ h => h) (Or.inr ⟨by rfl, rfl⟩) ?_ ?_
    rotate_left
    ·
     simp only [Act.put, List.setIfInBounds_toArray, List.set_cons_zero, List.set_cons_succ, i64_w, i32_w]
     rfl
    refine pure_ (i := 21) (N := some 29) (v := undef) (a' := ?_) #[true, true, true, true, true, true, true, true, true, true, true, true, true, true, true, true, true, true, true, true, true, true, false, false, false, false] rfl rfl (any_of HT_.out (by kernel_rfl)) (fun _ _ _ h => h) (Or.inr ⟨by rfl, rfl⟩) ?_ ?_
    rotate_left
    ·
     simp only [Act.put, List.setIfInBounds_toArray, List.set_cons_zero, List.set_cons_succ, i64_w, i32_w]
     rfl
    refine pure_ (i := 22) (N := some 30) (v := undef) (a' := ?_) #[true, true, true, true, true, true, true, true, true, true, true, true, true, true, true, true, true, true, true, true, true, true, true, false, false, false] rfl rfl (any_of HT_.out (by kernel_rfl)) (fun _ _ _ h => h) (Or.inr ⟨by rfl, rfl⟩) ?_ ?_
    rotate_left
    ·
     simp only [Act.put, List.setIfInBounds_toArray, List.set_cons_zero, List.set_cons_succ, i64_w, i32_w]
     rfl
    refine pure_ (i := 23) (N := some 31) (v := undef) (a' := ?_) #[true, true, true, true, true, true, true, true, true, true, true, true, true, true, true, true, true, true, true, true, true, true, true, true, false, false] rfl rfl (any_of HT_.out (by kernel_rfl)) (fun _ _ _ h => h) (Or.inr ⟨by rfl, rfl⟩) ?_ ?_
    rotate_left
    ·
     simp only [Act.put, List.setIfInBounds_toArray, List.set_cons_zero, List.set_cons_succ, i64_w, i32_w]
     rfl
    refine pure_ (i := 24) (N := some 32) (v := undef) (a' := ?_) #[true, true, true, true, true, true, true, true, true, true, true, true, true, true, true, true, true, true, true, true, true, true, true, true, true, false] rfl rfl (any_of HT_.out (by kernel_rfl)) (fun _ _ _ h => h) (Or.inr ⟨by rfl, rfl⟩) ?_ ?_
    rotate_left
    ·
     simp only [Act.put, List.setIfInBounds_toArray, List.set_cons_zero, List.set_cons_succ, i64_w, i32_w]
     rfl
    refine pure_ (i := 25) (N := some 33) (v := ?_) (a' := ?_) #[true, true, true, true, true, true, true, true, true, true, true, true, true, true, true, true, true, true, true, true, true, true, true, true, true, true] rfl rfl (any_of HT_.out (by kernel_rfl)) (fun _ _ _ h => h) (Or.inl ⟨by rfl, ?_⟩) ?_ ?_
    rotate_left
    ·
     intro w'
     go_simp
     with_reducible rfl
    rotate_left
    ·
     simp only [Act.put, List.setIfInBounds_toArray, List.set_cons_zero, List.set_cons_succ, i64_w, i32_w]
     rfl
    refine done_ (done_of HT_.out (by kernel_rfl)) ?_
    try go_wp2
    go_ret
    exact ⟨by first | rfl | (simp [errW_none, errW_some] <;> rfl) | (simp [*, errW_none, errW_some] <;> rfl), by repeat (first | (with_reducible first | exact HB.out | apply below_alloc | apply pw_below_drewN | apply below_drew1) | exact HB.out)⟩

end Go.Proofs.YtnllgjloimoebaaDoor.X

/- joiner.Merge in plain Lean: runs of one key, the walk along both sides. -/
set_option linter.unusedVariables false
set_option linter.unusedSimpArgs false
namespace Go.Proofs.YtnllgjloimoebaaDoor.X
open Go.RowKit Go.Proofs.YtnllgjloimoebaaDoorW.PrintWords Go.Proofs.YtnllgjloimoebaaDoorW.PrintLast Go.Proofs.YtnllgjloimoebaaDoorW.PrintMore

theorem nn_add (i x : Nat) : (0 : Int) ≤ (i : Int) + (x : Int) := by omega
theorem toNat_add (i x : Nat) : ((i : Int) + (x : Int)).toNat = i + x := by omega
/-- how many places from one on have one key -/
def runN (l : List (List S44)) (a : List Int) (i : Nat) : Nat := 1 + ((a.drop (i + 1)).takeWhile fun p => rcmp (rd_L4 l (rd a (i : Int))) (rd_L4 l p) == 0).length
theorem runN_le (l : List (List S44)) (a : List Int) (i : Nat) (h : i < a.length) : i + runN l a i ≤ a.length := by
  unfold runN
  have h1 := (List.takeWhile_sublist (l := a.drop (i + 1)) (p := fun p => rcmp (rd_L4 l (rd a (i : Int))) (rd_L4 l p) == 0)).length_le
  rw [List.length_drop] at h1
  omega
theorem run_loop (l : List (List S44)) (hl : shorts l) (a : List Int) (ha : ∀ p ∈ a, 0 ≤ p ∧ p < (l.length : Int)) (hal : a.length ≤ 1099511627776) (i : Nat) (hi : i < a.length) : ∀ (n j : Nat), a.length - (i + j) = n → 1 ≤ j → i + j ≤ a.length →
    Ev (fun k => joiner_run.l0 k l a (i : Int) (j : Int)) (((j + ((a.drop (i + j)).takeWhile fun p => rcmp (rd_L4 l (rd a (i : Int))) (rd_L4 l p) == 0).length : Nat)) : Int)
  | n, j, hn, hj, hij => by
    have hw : wrap64 ((i : Int) + (j : Int)) = ((i + j : Nat) : Int) := by unfold wrap64; omega
    have hri := ha (rd a (i : Int)) (by unfold rd; rw [Int.toNat_natCast]; exact getD_mem _ _ _ hi)
    refine Ev.succ ?_ (fun k => by rw [joiner_run.l0, hw])
    by_cases h1 : i + j < a.length
    · have hrj := ha (rd a ((i + j : Nat) : Int)) (by unfold rd; rw [Int.toNat_natCast]; exact getD_mem _ _ _ h1)
      have hd : a.drop (i + j) = rd a ((i + j : Nat) : Int) :: a.drop (i + (j + 1)) := by
        rw [drop_getD a 0 (i + j) h1]
        unfold rd
        rw [Int.toNat_natCast]
        rfl
      refine Ev.congr ?_ (fun k => by rw [if_pos (by omega : ((i + j : Nat) : Int) < (a.length : Int)), if_pos (by omega : (0 : Int) ≤ (i : Int)), if_pos (by omega : (i : Int) < (a.length : Int)), if_pos hri.1, if_pos hri.2, if_pos (by omega : (0 : Int) ≤ ((i + j : Nat) : Int)), if_pos hrj.1, if_pos hrj.2])
      refine Ev.bind (orders_ev _ _ (shorts_rd hl _).1) ?_
      rw [hd]
      by_cases h2 : rcmp (rd_L4 l (rd a (i : Int))) (rd_L4 l (rd a ((i + j : Nat) : Int))) = 0
      · rw [List.takeWhile_cons_of_pos (by simpa using h2)]
        refine Ev.congr ?_ (fun k => by rw [if_pos h2, w64 j (by omega)])
        match n, hn with
        | n + 1, hn =>
          have h3 := run_loop l hl a ha hal i hi n (j + 1) (by omega) (by omega) (by omega)
          rw [List.length_cons]
          rw [show j + (((a.drop (i + (j + 1))).takeWhile fun p => rcmp (rd_L4 l (rd a (i : Int))) (rd_L4 l p) == 0).length + 1) = (j + 1) + ((a.drop (i + (j + 1))).takeWhile fun p => rcmp (rd_L4 l (rd a (i : Int))) (rd_L4 l p) == 0).length by omega]
          exact h3
        | 0, hn => omega
      · rw [List.takeWhile_cons_of_neg (by simpa using h2)]
        exact Ev.congr (Ev.const _) (fun k => by rw [if_neg h2]; rfl)
    · rw [List.drop_eq_nil_of_le (by omega : a.length ≤ i + j)]
      exact Ev.congr (Ev.const _) (fun k => by rw [if_neg (by omega : ¬ ((i + j : Nat) : Int) < (a.length : Int))]; rfl)
theorem run_ev (l : List (List S44)) (hl : shorts l) (a : List Int) (ha : ∀ p ∈ a, 0 ≤ p ∧ p < (l.length : Int)) (hal : a.length ≤ 1099511627776) (i : Nat) (hi : i < a.length) : Ev (fun k => joiner_run.f k l a (i : Int)) ((runN l a i : Nat) : Int) :=
  run_loop l hl a ha hal i hi _ 1 rfl (Nat.le_refl _) (by omega)

/-- the pairs of one place with some -/
def rowP (p : Int) (b : List Int) (k y : Nat) : List S40 := ((b.drop k).take y).map fun q => ⟨p, q⟩
def crossP (a b : List Int) (i k n : Nat) : Nat → List S40
  | 0 => []
  | x + 1 => crossP a b i k n x ++ rowP (rd a ((i + x : Nat) : Int)) b k n
theorem rowP_len (p : Int) (b : List Int) (k y : Nat) : (rowP p b k y).length ≤ y := by
  unfold rowP
  rw [List.length_map, List.length_take]; omega
theorem crossP_len (a b : List Int) (i k n : Nat) : ∀ x, (crossP a b i k n x).length ≤ x * n
  | 0 => by simp [crossP]
  | x + 1 => by
    have h1 := crossP_len a b i k n x
    have h2 := rowP_len (rd a ((i + x : Nat) : Int)) b k n
    unfold crossP
    rw [List.length_append, Nat.succ_mul]; omega
theorem rowP_succ (p : Int) (b : List Int) (k y : Nat) (h : k + y < b.length) : rowP p b k (y + 1) = rowP p b k y ++ [⟨p, rd b ((k + y : Nat) : Int)⟩] := by
  unfold rowP
  rw [List.take_succ_eq_append_getElem (by rw [List.length_drop]; omega), List.map_append]
  congr 1
  simp only [List.map_cons, List.map_nil, List.getElem_drop]
  unfold rd
  rw [Int.toNat_natCast, List.getD_eq_getElem?_getD, List.getElem?_eq_getElem h]
  rfl

/-- the walk along both sides -/
def mergeGo (l r : List (List S44)) (a b : List Int) : Nat → Nat → Nat → List S40 → List S40
  | 0, _, _, o => o
  | f + 1, i, k, o =>
    if i < a.length ∧ k < b.length then
      mergeGo l r a b f (if rcmp (rd_L4 l (rd a (i : Int))) (rd_L4 r (rd b (k : Int))) ≤ 0 then i + runN l a i else i) (if rcmp (rd_L4 l (rd a (i : Int))) (rd_L4 r (rd b (k : Int))) ≥ 0 then k + runN r b k else k)
        (if rcmp (rd_L4 l (rd a (i : Int))) (rd_L4 r (rd b (k : Int))) = 0 then o ++ crossP a b i k (runN r b k) (runN l a i) else o)
    else o
def mergeP (l r : List (List S44)) : List S40 := (mergeGo l r (rankedP l) (rankedP r) ((rankedP l).length + (rankedP r).length) 0 0 []).mergeSort (fun x y => !decide (pcmp y x < 0))
def joiner_Merge.f (l r : List (List S44)) : Option (List S40) := if (l.all keyable && r.all keyable) && (decide (l.length ≤ 1048576) && decide (r.length ≤ 1048576)) then some (mergeP l r) else none
theorem ranked_perm (l : List (List S44)) : (rankedP l).Perm (wholesTo l l.length) := List.mergeSort_perm _ _
theorem ranked_in (l : List (List S44)) : ∀ p ∈ rankedP l, 0 ≤ p ∧ p < (l.length : Int) := fun p hp => wholesTo_in l l.length p ((ranked_perm l).mem_iff.1 hp)
theorem ranked_len (l : List (List S44)) : (rankedP l).length ≤ l.length := by rw [(ranked_perm l).length_eq]; exact wholesTo_len l l.length
theorem shorts_of {l : List (List S44)} (h1 : ∀ r ∈ l, keyable r = true) (h2 : l.length ≤ 1099511627776) : shorts l := ⟨h2, fun r hr => by
  have h3 := keyable_len (h1 r hr)
  have h4 := h1 r hr
  unfold keyable at h4
  rw [Bool.and_eq_true] at h4
  have h5 := rowOK_of h4.1
  exact ⟨by omega, fun x hx => by have := (h5.2 x hx).2.2; omega⟩⟩

theorem len_one {L i M : Nat} (h : L ≤ i * M) (hM : M = 1048576) (hi : i ≤ 1048576) : L ≤ 1099511627776 :=
  Nat.le_trans h (Nat.le_trans (Nat.mul_le_mul hi (Nat.le_of_eq hM)) (by decide))
theorem len_two {o c : List S40} {i M x n : Nat} (h : o.length ≤ i * M) (hc : c.length ≤ x * n) (hM : M = 1048576) (hi : i ≤ 1048576) (hx : x ≤ 1048576) (hn : n ≤ 1048576) : (o ++ c).length ≤ 3000000000000 := by
  have h1 := len_one h hM hi
  have h2 : c.length ≤ 1099511627776 := Nat.le_trans hc (Nat.le_trans (Nat.mul_le_mul hx hn) (by decide))
  rw [List.length_append]
  clear h hc hM hi hx hn
  omega
theorem len_next {o c : List S40} {i M x n : Nat} (h : o.length ≤ i * M) (hc : c.length ≤ x * n) (hM : M = 1048576) (hn : n ≤ 1048576) : (o ++ c).length ≤ (i + x) * M := by
  rw [List.length_append, Nat.add_mul]
  exact Nat.add_le_add h (Nat.le_trans hc (Nat.mul_le_mul_left x (by rw [hM]; exact hn)))
theorem le_of_sum {x n B : Nat} (h : x ≤ n) (hB : n ≤ B) : x ≤ B := Nat.le_trans h hB
theorem len_three {o r : List S40} {y : Nat} (h : o.length ≤ 3000000000000) (hr : r.length ≤ y) (hy : y ≤ 1048576) : (o ++ r).length ≤ 3000002000000 := by
  rw [List.length_append]; omega
theorem wrap_add {i x n : Nat} (h : i + x < n) (hn : n ≤ 1048576) : wrap64 ((i : Int) + (x : Int)) = ((i + x : Nat) : Int) := by unfold wrap64; omega
end Go.Proofs.YtnllgjloimoebaaDoor.X

/- joiner.Merge: both sides by their keys, side by side; the pairs in order at the end. -/
set_option linter.unusedVariables false
set_option linter.unusedSimpArgs false
namespace Go.Proofs.YtnllgjloimoebaaDoor.X
open Go.RowKit Go.Proofs.YtnllgjloimoebaaDoorW.PrintWords Go.Proofs.YtnllgjloimoebaaDoorW.PrintLast Go.Proofs.YtnllgjloimoebaaDoorW.PrintMore

set_option maxHeartbeats 16000000 in
set_option maxRecDepth 100000 in
theorem joiner_Merge.calls (A0 : Option Addr) (c0 : Nat) (l0 : List (List (S44))) (A1 : Option Addr) (c1 : Nat) (l1 : List (List (S44))) (res : List S40) (w : World) (hr0 : Kd.C (Kd.slice 44 k44) w A0 l0.length l0) (hc0 : l0.length ≤ c0) (hr1 : Kd.C (Kd.slice 44 k44) w A1 l1.length l1) (hc1 : l1.length ≤ c1) (h : joiner_Merge.f l0 l1 = some res) :
    Calls Tryd.prog 24 #[.slice A0 l0.length c0, .slice A1 l1.length c1] w fun e w' => ∃ v0_ : Value, e = .returned (v0_) ∧ Kd.R k40 40 w' w.heap.size (fun _ => True) v0_ res ∧ Below w.heap.size w w' := by
  have HR0 := Aside0.mk hr0
  have HC0 := Aside0.mk hc0
  have HR1 := Aside0.mk hr1
  have HC1 := Aside0.mk hc1
  clear hr0 hc0 hr1 hc1
  unfold joiner_Merge.f at h
  split at h
  case isFalse => cases h
  rename_i hall
  rw [Bool.and_eq_true, Bool.and_eq_true, Bool.and_eq_true, decide_eq_true_eq, decide_eq_true_eq, List.all_eq_true, List.all_eq_true] at hall
  have HL0 : Aside0 (l0.length ≤ 1048576) := ⟨hall.2.1⟩
  have HL1 : Aside0 (l1.length ≤ 1048576) := ⟨hall.2.2⟩
  have HSH0 : Aside0 (shorts l0) := ⟨shorts_of hall.1.1 (by have := hall.2.1; omega)⟩
  have HSH1 : Aside0 (shorts l1) := ⟨shorts_of hall.1.2 (by have := hall.2.2; omega)⟩
  have HFA : Aside0 (joiner_ranked.f l0 = some (rankedP l0)) := ⟨by unfold joiner_ranked.f; rw [if_pos (by rw [Bool.and_eq_true, decide_eq_true_eq, List.all_eq_true]; exact ⟨hall.1.1, by have := hall.2.1; omega⟩)]⟩
  have HFB : Aside0 (joiner_ranked.f l1 = some (rankedP l1)) := ⟨by unfold joiner_ranked.f; rw [if_pos (by rw [Bool.and_eq_true, decide_eq_true_eq, List.all_eq_true]; exact ⟨hall.1.2, by have := hall.2.2; omega⟩)]⟩
  clear hall
  have h := Option.some.inj h
  unfold mergeP at h
  have HRES := Aside0.mk h
  clear h
  go_enter Tryd.func24, Tryd.ntmps24
  go_wp2_with (first | (go_at_call 40; (with_reducible refine (joiner_ranked.calls A0 c0 l0 (rankedP l0) _ HR0.out HC0.out HFA.out).mono ?_); rintro e wa ⟨va, rfl, ho, hb⟩; have HVA := Aside0.mk ho; have HB := Aside0.mk hb; clear ho hb) | (go_at_call 40; (with_reducible refine (joiner_ranked.calls A1 c1 l1 (rankedP l1) _ (Kd.C_below HR1.out HB.out) HC1.out HFB.out).mono ?_); rintro e wb ⟨vb, rfl, ho, hb⟩; have HVB := Aside0.mk (Kd.R_lower ho (below_size HB.out)); have n0_ := Aside0.mk (Kd.R_below HVA.out hb); have n1_ := Aside0.mk (below_step HB.out hb); clear HVA HB ho hb; have HVA := n0_; have HB := n1_; clear n0_ n1_))
  obtain ⟨a, ha⟩ : ∃ a, a = rankedP l0 := ⟨_, rfl⟩
  obtain ⟨b, hb⟩ : ∃ b, b = rankedP l1 := ⟨_, rfl⟩
  have HAIN : Aside0 (∀ p ∈ a, 0 ≤ p ∧ p < (l0.length : Int)) := ⟨by rw [ha]; exact ranked_in l0⟩
  have HBIN : Aside0 (∀ p ∈ b, 0 ≤ p ∧ p < (l1.length : Int)) := ⟨by rw [hb]; exact ranked_in l1⟩
  have HAL : Aside0 (a.length ≤ 1048576) := ⟨by rw [ha]; have := ranked_len l0; have := HL0.out; omega⟩
  have HBL : Aside0 (b.length ≤ 1048576) := ⟨by rw [hb]; have := ranked_len l1; have := HL1.out; omega⟩
  rw [← ha] at HVA HRES
  rw [← hb] at HVB HRES
  clear ha hb HFA HFB
  obtain ⟨Aa, ca, ea⟩ := Kd.R_slice HVA.out
  subst ea
  obtain ⟨Ab, cb, eb⟩ := Kd.R_slice HVB.out
  subst eb
  obtain ⟨fin, hfin⟩ : ∃ fin, fin = mergeGo l0 l1 a b (a.length + b.length) 0 0 [] := ⟨_, rfl⟩
  rw [← hfin] at HRES
  have HFIN0 := Aside0.mk hfin.symm
  clear hfin
  obtain ⟨M, hM⟩ : ∃ M : Nat, M = 1048576 := ⟨_, rfl⟩
  have HM := Aside0.mk hM
  clear hM
  go_loopg [7, 8, 9] (a.length + b.length) (fun n v7 v8 v9 wr => ∃ (i k : Nat) (o : List S40), v8 = .int .i64 i ∧ v9 = .int .i64 k ∧ Aside0 (i ≤ a.length ∧ k ≤ b.length ∧ (a.length - i) + (b.length - k) ≤ n ∧ o.length ≤ i * M) ∧ Aside0 (mergeGo l0 l1 a b n i k o = fin) ∧ Aside0 (Kd.R k40 40 wr w.heap.size (fun _ => True) v7 o) ∧ Aside0 (Kd.R (Kd.int .i64) 3 wr w.heap.size (fun _ => True) (.slice Aa a.length ca) a) ∧ Aside0 (Kd.R (Kd.int .i64) 3 wr w.heap.size (fun _ => True) (.slice Ab b.length cb) b) ∧ Aside0 (Below w.heap.size w wr))
  case atStart => exact ⟨0, 0, [], rfl, rfl, ⟨Nat.zero_le _, Nat.zero_le _, by omega, by simp⟩, HFIN0, ⟨Kd.R_nil _ _ _ _ _⟩, HVA, HVB, HB⟩
  case round =>
    clear HFIN0 HVA HVB HB
    obtain ⟨i, k, o, rfl, rfl, HIK, HGO, HO, HVA, HVB, HB⟩ := hrel
    have hal : (a.length : Int) ≤ 1048576 := by have := HAL.out; omega
    have hbl : (b.length : Int) ≤ 1048576 := by have := HBL.out; omega
    have hile := HIK.out.1
    have hkle := HIK.out.2.1
    by_cases hi : i < a.length
    · by_cases hk : k < b.length
      · have hgk := HIK.out.2.2.1
        obtain ⟨n', rfl⟩ : ∃ n', gk = n' + 1 := ⟨gk - 1, by omega⟩
        obtain ⟨p, hp⟩ : ∃ p, p = rd a (i : Int) := ⟨_, rfl⟩
        obtain ⟨q, hq⟩ : ∃ q, q = rd b (k : Int) := ⟨_, rfl⟩
        have hpi := HAIN.out p (by rw [hp]; unfold rd; rw [Int.toNat_natCast]; exact getD_mem _ _ _ hi)
        have hqi := HBIN.out q (by rw [hq]; unfold rd; rw [Int.toNat_natCast]; exact getD_mem _ _ _ hk)
        obtain ⟨ada, ea, hxa⟩ := Kd.at_int (Kd.R_reads' HVA.out).2.2 (i : Int) (by omega) (by omega)
        obtain ⟨adb, eb, hxb⟩ := Kd.at_int (Kd.R_reads' HVB.out).2.2 (k : Int) (by omega) (by omega)
        subst ea
        subst eb
        rw [Int.toNat_natCast, ← hp] at hxa
        rw [Int.toNat_natCast, ← hq] at hxb
        obtain ⟨adl, Ar1, cr1, e1, hx1, hl1, hi1⟩ := at_L4 HR0.out p hpi.1 hpi.2
        obtain ⟨adr, Ar2, cr2, e2, hx2, hl2, hi2⟩ := at_L4 HR1.out q hqi.1 hqi.2
        cases e1
        cases e2
        replace hx1 := (HB.out.cell (World.block_lt_of_cell? w _ hx1)).trans hx1
        replace hx2 := (HB.out.cell (World.block_lt_of_cell? w _ hx2)).trans hx2
        obtain ⟨c, hc⟩ : ∃ c, c = rcmp (rd_L4 l0 p) (rd_L4 l1 q) := ⟨_, rfl⟩
        obtain ⟨kf, hkf⟩ := orders_ev (rd_L4 l0 p) (rd_L4 l1 q) (shorts_rd HSH0.out _).1
        have HKF : Aside0 (value_Orders.f kf (rd_L4 l0 p) (rd_L4 l1 q) = some c) := ⟨by rw [hc]; exact hkf kf (Nat.le_refl _)⟩
        obtain ⟨mN, hm⟩ : ∃ m, m = runN l0 a i := ⟨_, rfl⟩
        obtain ⟨nN, hn⟩ : ∃ n, n = runN l1 b k := ⟨_, rfl⟩
        obtain ⟨km, hkm⟩ := run_ev l0 HSH0.out a HAIN.out (by omega) i hi
        obtain ⟨kn, hkn⟩ := run_ev l1 HSH1.out b HBIN.out (by omega) k hk
        have HKM : Aside0 (joiner_run.f km l0 a (i : Int) = some (mN : Int)) := ⟨by rw [hm]; exact hkm km (Nat.le_refl _)⟩
        have HKN : Aside0 (joiner_run.f kn l1 b (k : Int) = some (nN : Int)) := ⟨by rw [hn]; exact hkn kn (Nat.le_refl _)⟩
        have HMB : Aside0 (i + mN ≤ a.length ∧ 1 ≤ mN) := ⟨by rw [hm]; exact ⟨runN_le l0 a i hi, by unfold runN; omega⟩⟩
        have HNB : Aside0 (k + nN ≤ b.length ∧ 1 ≤ nN) := ⟨by rw [hn]; exact ⟨runN_le l1 b k hk, by unfold runN; omega⟩⟩
        have HGO2 : Aside0 (mergeGo l0 l1 a b n' (if c ≤ 0 then i + mN else i) (if c ≥ 0 then k + nN else k) (if c = 0 then o ++ crossP a b i k nN mN else o) = fin) := ⟨by
          have h_ := HGO.out
          rw [mergeGo, if_pos ⟨hi, hk⟩, ← hp, ← hq, ← hc, ← hm, ← hn] at h_
          exact h_⟩
        have HI1 := Aside0.mk hi1
        have HI2 := Aside0.mk hi2
        have HL1 := Aside0.mk hl1
        have HL2 := Aside0.mk hl2
        have HS : Aside0 (wr.cell? (ada.add i) = some (.int .i64 p) ∧ wr.cell? (adb.add k) = some (.int .i64 q) ∧ wr.cell? (adl.add p.toNat) = some (.slice Ar1 (rd_L4 l0 p).length cr1) ∧ wr.cell? (adr.add q.toNat) = some (.slice Ar2 (rd_L4 l1 q).length cr2)) := ⟨⟨hxa, hxb, hx1, hx2⟩⟩
        have HB5 : Aside0 (Below w.heap.size w wr.drew) := ⟨below_drew1 HB.out⟩
        clear hx1 hx2 hxa hxb hi1 hi2 hl1 hl2 hkf hkm hkn HGO hc hm hn hp hq
        have hia : (i : Int) < (a.length : Int) := by omega
        have hkb : (k : Int) < (b.length : Int) := by omega
        obtain ⟨hp0, hp1⟩ := hpi
        obtain ⟨hq0, hq1⟩ := hqi
        go_wp2
        refine start_ (n := 16) (S := fun w' => w'.cell? (ada.add i) = some (.int .i64 p) ∧ w'.cell? (adb.add k) = some (.int .i64 q) ∧ w'.cell? (adl.add p.toNat) = some (.slice Ar1 (rd_L4 l0 p).length cr1) ∧ w'.cell? (adr.add q.toNat) = some (.slice Ar2 (rd_L4 l1 q).length cr2)) (ds := []) #[false, false, false, false, false, false, false, false, false, false, false, false, false, false, false, false] (by kernel_rfl) rfl rfl HS.out (fun hHeld => ?_)
        refine pure_ (i := 0) (N := some 29) (v := ?_) (a' := ?_) #[true, false, false, false, false, false, false, false, false, false, false, false, false, false, false, false] rfl rfl (by kernel_rfl) (fun _ _ _ h => h) (Or.inl ⟨by rfl, ?_⟩) ?_ ?_
        rotate_left
        · intro w'
          go_simp
          all_goals with_reducible rfl
        rotate_left
        · simp only [Act.put, List.setIfInBounds_toArray, List.set_cons_zero, List.set_cons_succ, i64_w, i32_w]
          rfl
        refine pure_ (i := 1) (N := some 30) (v := ?_) (a' := ?_) #[true, true, false, false, false, false, false, false, false, false, false, false, false, false, false, false] rfl rfl (by kernel_rfl) (fun _ _ _ h => h) (Or.inl ⟨by rfl, ?_⟩) ?_ ?_
        rotate_left
        · intro w'
          go_simp
          all_goals with_reducible rfl
        rotate_left
        · simp only [Act.put, List.setIfInBounds_toArray, List.set_cons_zero, List.set_cons_succ, i64_w, i32_w]
          rfl
        refine pure_ (i := 2) (N := some 31) (v := ?_) (a' := ?_) #[true, true, true, false, false, false, false, false, false, false, false, false, false, false, false, false] rfl rfl (by kernel_rfl) (fun _ _ _ h => h) (Or.inl ⟨by rfl, ?_⟩) ?_ ?_
        rotate_left
        · intro w'
          go_simp
          all_goals with_reducible rfl
        rotate_left
        · simp only [Act.put, List.setIfInBounds_toArray, List.set_cons_zero, List.set_cons_succ, i64_w, i32_w]
          rfl
        refine pure_ (i := 7) (N := some 36) (v := ?_) (a' := ?_) #[true, true, true, false, false, false, false, true, false, false, false, false, false, false, false, false] rfl rfl (by kernel_rfl) (fun _ _ _ h => h) (Or.inl ⟨by rfl, ?_⟩) ?_ ?_
        rotate_left
        · intro w'
          go_simp
          all_goals with_reducible rfl
        rotate_left
        · simp only [Act.put, List.setIfInBounds_toArray, List.set_cons_zero, List.set_cons_succ, i64_w, i32_w]
          rfl
        refine pure_ (i := 8) (N := some 37) (v := ?_) (a' := ?_) #[true, true, true, false, false, false, false, true, true, false, false, false, false, false, false, false] rfl rfl (by kernel_rfl) (fun _ _ _ h => h) (Or.inl ⟨by rfl, ?_⟩) ?_ ?_
        rotate_left
        · intro w'
          go_simp
          all_goals with_reducible rfl
        rotate_left
        · simp only [Act.put, List.setIfInBounds_toArray, List.set_cons_zero, List.set_cons_succ, i64_w, i32_w]
          rfl
        refine pure_ (i := 9) (N := some 38) (v := ?_) (a' := ?_) #[true, true, true, false, false, false, false, true, true, true, false, false, false, false, false, false] rfl rfl (by kernel_rfl) (fun _ _ _ h => h) (Or.inl ⟨by rfl, ?_⟩) ?_ ?_
        rotate_left
        · intro w'
          go_simp
          all_goals with_reducible rfl
        rotate_left
        · simp only [Act.put, List.setIfInBounds_toArray, List.set_cons_zero, List.set_cons_succ, i64_w, i32_w]
          rfl
        refine pure_ (i := 3) (N := some 32) (v := ?_) (a' := ?_) #[true, true, true, true, false, false, false, true, true, true, false, false, false, false, false, false] rfl rfl (by kernel_rfl) (fun _ _ _ h => h) (Or.inl ⟨by rfl, ?_⟩) ?_ ?_
        rotate_left
        · intro w'
          go_simp
          all_goals with_reducible rfl
        rotate_left
        · simp only [Act.put, List.setIfInBounds_toArray, List.set_cons_zero, List.set_cons_succ, i64_w, i32_w]
          rfl
        refine pure_ (i := 10) (N := some 39) (v := ?_) (a' := ?_) #[true, true, true, true, false, false, false, true, true, true, true, false, false, false, false, false] rfl rfl (by kernel_rfl) (fun _ _ _ h => h) (Or.inl ⟨by rfl, ?_⟩) ?_ ?_
        rotate_left
        · intro w'
          go_simp
          all_goals with_reducible rfl
        rotate_left
        · simp only [Act.put, List.setIfInBounds_toArray, List.set_cons_zero, List.set_cons_succ, i64_w, i32_w]
          rfl
        refine take_ (i := 4) (N := some 33) (v := ?_) (a' := ?_) #[true, true, true, true, true, false, false, true, true, true, true, false, false, false, false, false] rfl rfl (by kernel_rfl) (fun _ _ _ h => h) (Or.inl ⟨by rfl, ?_⟩) hHeld ?_ ?_
        rotate_left
        · rintro w' ⟨s0, s1, s2, s3⟩
          go_simp
          all_goals with_reducible rfl
        rotate_left
        · simp only [Act.put, List.setIfInBounds_toArray, List.set_cons_zero, List.set_cons_succ, i64_w, i32_w]
          rfl
        refine take_ (i := 11) (N := some 40) (v := ?_) (a' := ?_) #[true, true, true, true, true, false, false, true, true, true, true, true, false, false, false, false] rfl rfl (by kernel_rfl) (fun _ _ _ h => h) (Or.inl ⟨by rfl, ?_⟩) hHeld ?_ ?_
        rotate_left
        · rintro w' ⟨s0, s1, s2, s3⟩
          go_simp
          all_goals with_reducible rfl
        rotate_left
        · simp only [Act.put, List.setIfInBounds_toArray, List.set_cons_zero, List.set_cons_succ, i64_w, i32_w]
          rfl
        refine pure_ (i := 5) (N := some 34) (v := ?_) (a' := ?_) #[true, true, true, true, true, true, false, true, true, true, true, true, false, false, false, false] rfl rfl (by kernel_rfl) (fun _ _ _ h => h) (Or.inl ⟨by rfl, ?_⟩) ?_ ?_
        rotate_left
        · intro w'
          go_simp
          all_goals with_reducible rfl
        rotate_left
        · simp only [Act.put, List.setIfInBounds_toArray, List.set_cons_zero, List.set_cons_succ, i64_w, i32_w]
          rfl
        refine pure_ (i := 12) (N := some 41) (v := ?_) (a' := ?_) #[true, true, true, true, true, true, false, true, true, true, true, true, true, false, false, false] rfl rfl (by kernel_rfl) (fun _ _ _ h => h) (Or.inl ⟨by rfl, ?_⟩) ?_ ?_
        rotate_left
        · intro w'
          go_simp
          all_goals with_reducible rfl
        rotate_left
        · simp only [Act.put, List.setIfInBounds_toArray, List.set_cons_zero, List.set_cons_succ, i64_w, i32_w]
          rfl
        refine take_ (i := 6) (N := some 35) (v := ?_) (a' := ?_) #[true, true, true, true, true, true, true, true, true, true, true, true, true, false, false, false] rfl rfl (by kernel_rfl) (fun _ _ _ h => h) (Or.inl ⟨by rfl, ?_⟩) hHeld ?_ ?_
        rotate_left
        · rintro w' ⟨s0, s1, s2, s3⟩
          go_simp
          all_goals with_reducible rfl
        rotate_left
        · simp only [Act.put, List.setIfInBounds_toArray, List.set_cons_zero, List.set_cons_succ, i64_w, i32_w]
          rfl
        refine take_ (i := 13) (N := some 42) (v := ?_) (a' := ?_) #[true, true, true, true, true, true, true, true, true, true, true, true, true, true, false, false] rfl rfl (by kernel_rfl) (fun _ _ _ h => h) (Or.inl ⟨by rfl, ?_⟩) hHeld ?_ ?_
        rotate_left
        · rintro w' ⟨s0, s1, s2, s3⟩
          go_simp
          all_goals with_reducible rfl
        rotate_left
        · simp only [Act.put, List.setIfInBounds_toArray, List.set_cons_zero, List.set_cons_succ, i64_w, i32_w]
          rfl
        refine one_ (i := 14) (N := some 43) #[true, true, true, true, true, true, true, true, true, true, true, true, true, true, true, false] rfl rfl (by kernel_rfl) (by decide) (fun K hK => ?_)
        refine goes_ Tryd.func18 (by kernel_rfl) rfl #[.slice Ar1 (rd_L4 l0 p).length cr1, .slice Ar2 (rd_L4 l1 q).length cr2] (by rfl) rfl rfl (by (try simp only [List.map_toArray, List.map_cons, List.map_nil]); first | done | rfl) ?_
        with_reducible refine (value_Orders.calls kf Ar1 cr1 (rd_L4 l0 p) Ar2 cr2 (rd_L4 l1 q) c _ ?_ HL1.out ?_ HL2.out HKF.out).mono ?_
        · exact Kd.C_below HI1.out HB5.out
        · exact Kd.C_below HI2.out HB5.out
        rintro e w15 ⟨rfl, hb⟩
        refine ⟨_, rfl, ?_⟩
        have n0_ := Aside0.mk (show _ ∧ _ ∧ _ ∧ _ from ⟨(hb.cell (World.block_lt_of_cell? _ _ HS.out.1)).trans HS.out.1, (hb.cell (World.block_lt_of_cell? _ _ HS.out.2.1)).trans HS.out.2.1, (hb.cell (World.block_lt_of_cell? _ _ HS.out.2.2.1)).trans HS.out.2.2.1, (hb.cell (World.block_lt_of_cell? _ _ HS.out.2.2.2)).trans HS.out.2.2.2⟩)
        clear HS
        have HS := n0_
        clear n0_
        have HB6 : Aside0 (Below wr.heap.size wr w15) := ⟨below_step (below_drew1 (Below.refl _ _)) hb⟩
        clear hb
        refine hK.out _ _ HS.out (fun hHeld => ?_)
        clear hK K
        refine norm_ (a' := ?_) ?_ ?_
        rotate_left
        · show Act.put _ (some 43) _ = _
          simp only [Act.put, List.setIfInBounds_toArray, List.set_cons_zero, List.set_cons_succ, i64_w, i32_w]
          rfl
        skip
        refine pure_ (i := 15) (N := some 10) (v := ?_) (a' := ?_) #[true, true, true, true, true, true, true, true, true, true, true, true, true, true, true, true] rfl rfl (by kernel_rfl) (fun _ _ _ h => h) (Or.inl ⟨by rfl, ?_⟩) ?_ ?_
        rotate_left
        · intro w'
          go_simp
          all_goals with_reducible rfl
        rotate_left
        · simp only [Act.put, List.setIfInBounds_toArray, List.set_cons_zero, List.set_cons_succ, i64_w, i32_w]
          rfl
        refine done_ (by kernel_rfl) ?_
        have n0_ := Aside0.mk (Kd.R_below HVA.out HB6.out)
        have n1_ := Aside0.mk (Kd.R_below HVB.out HB6.out)
        have n2_ := Aside0.mk (Kd.R_below HO.out HB6.out)
        have n3_ := Aside0.mk (below_step HB.out HB6.out)
        clear HVA HVB HO HB HB5 HB6 HS hHeld
        have HVA := n0_
        have HVB := n1_
        have HO := n2_
        have HB := n3_
        clear n0_ n1_ n2_ n3_
        obtain ⟨Ao, co, eo⟩ := Kd.R_slice HO.out
        subst eo
        go_wp2_with (first | (go_at_call 41; (with_reducible refine (joiner_run.calls km (some adl) c0 l0 (some ada) ca a ((i : Nat) : Int) (mN : Int) _ (Kd.C_below HR0.out HB.out) HC0.out (Kd.R_reads' HVA.out).2.2 (Kd.R_reads' HVA.out).2.1 HKM.out).mono ?_); rintro e wn ⟨rfl, hb⟩; have n0_ := Aside0.mk (Kd.R_below HVA.out hb); have n1_ := Aside0.mk (Kd.R_below HVB.out hb); have n2_ := Aside0.mk (Kd.R_below HO.out hb); have n3_ := Aside0.mk (below_step HB.out hb); clear HVA HVB HO HB; have HVA := n0_; have HVB := n1_; have HO := n2_; have HB := n3_; clear n0_ n1_ n2_ n3_; clear hb) | (go_at_call 41; (with_reducible refine (joiner_run.calls kn (some adr) c1 l1 (some adb) cb b ((k : Nat) : Int) (nN : Int) _ (Kd.C_below HR1.out HB.out) HC1.out (Kd.R_reads' HVB.out).2.2 (Kd.R_reads' HVB.out).2.1 HKN.out).mono ?_); rintro e wn ⟨rfl, hb⟩; have n0_ := Aside0.mk (Kd.R_below HVA.out hb); have n1_ := Aside0.mk (Kd.R_below HVB.out hb); have n2_ := Aside0.mk (Kd.R_below HO.out hb); have n3_ := Aside0.mk (below_step HB.out hb); clear HVA HVB HO HB; have HVA := n0_; have HVB := n1_; have HO := n2_; have HB := n3_; clear n0_ n1_ n2_ n3_; clear hb))
        have hmb := HMB.out
        have hnb := HNB.out
        have HOL : Aside0 (o.length ≤ i * M) := ⟨HIK.out.2.2.2⟩
        rcases Int.lt_trichotomy c 0 with hc | hc | hc
        · have hcb1 : (c == 0) = false := beq_eq_false_iff_ne.mpr (by omega)
          have hcb2 : decide (c ≤ 0) = true := decide_eq_true (by omega)
          have hcb3 : decide (0 ≤ c) = false := decide_eq_false (by omega)
          have hcb4 : decide (c ≥ 0) = false := decide_eq_false (by omega)
          have HGO3 : Aside0 (mergeGo l0 l1 a b n' (i + mN) k o = fin) := ⟨by
            have h_ := HGO2.out
            rw [if_pos (by omega : c ≤ 0), if_neg (by omega : ¬ c ≥ 0), if_neg (by omega : ¬ c = 0)] at h_
            exact h_⟩
          go_loopg [7, 13] 0 (fun n v7 v13 wi => v13 = .int .i64 0 ∧ Aside0 (Kd.R k40 40 wi w.heap.size (fun _ => True) v7 o) ∧ Aside0 (Kd.R (Kd.int .i64) 3 wi w.heap.size (fun _ => True) (.slice (some ada) a.length ca) a) ∧ Aside0 (Kd.R (Kd.int .i64) 3 wi w.heap.size (fun _ => True) (.slice (some adb) b.length cb) b) ∧ Aside0 (Below w.heap.size w wi))
          case atStart => exact ⟨rfl, HO, HVA, HVB, HB⟩
          case round =>
            clear HO HVA HVB HB
            obtain ⟨rfl, HO, HVA, HVB, HB⟩ := hrel
            go_wp2
            go_roundg n'
            case measure => omega
            case rel => exact ⟨i + mN, k, o, (by first | rfl | (simp; done) | (simp [*]; done)), (by first | rfl | (simp; done) | (simp [*]; done)), ⟨by omega, by omega, by omega, Nat.le_trans HOL.out (Nat.mul_le_mul_right _ (by omega))⟩, HGO3, HO, HVA, HVB, HB⟩
        · subst hc
          have HGO3 : Aside0 (mergeGo l0 l1 a b n' (i + mN) (k + nN) (o ++ crossP a b i k nN mN) = fin) := ⟨by
            have h_ := HGO2.out
            rw [if_pos (by omega : (0 : Int) ≤ 0), if_pos (by omega : (0 : Int) ≥ 0), if_pos rfl] at h_
            exact h_⟩
          go_loopg [7, 13] mN (fun n v7 v13 wi => ∃ x : Nat, v13 = .int .i64 x ∧ Aside0 (x + n = mN) ∧ Aside0 (Kd.R k40 40 wi w.heap.size (fun _ => True) v7 (o ++ crossP a b i k nN x)) ∧ Aside0 (Kd.R (Kd.int .i64) 3 wi w.heap.size (fun _ => True) (.slice (some ada) a.length ca) a) ∧ Aside0 (Kd.R (Kd.int .i64) 3 wi w.heap.size (fun _ => True) (.slice (some adb) b.length cb) b) ∧ Aside0 (Below w.heap.size w wi))
          case atStart => exact ⟨0, rfl, ⟨Nat.zero_add _⟩, ⟨by rw [show crossP a b i k nN 0 = [] from rfl, List.append_nil]; exact HO.out⟩, HVA, HVB, HB⟩
          case round =>
            clear HO HVA HVB HB
            obtain ⟨x, rfl, HX, HO, HVA, HVB, HB⟩ := hrel
            have hx := HX.out
            have hxl := crossP_len a b i k nN x
            have hol := HOL.out
            by_cases hxm : x < mN
            · have hxi : (x : Int) < (mN : Int) := by omega
              go_wp2
              go_loopg [7, 14] nN (fun n v7 v14 wj => ∃ y : Nat, v14 = .int .i64 y ∧ Aside0 (y + n = nN) ∧ Aside0 (Kd.R k40 40 wj w.heap.size (fun _ => True) v7 (o ++ crossP a b i k nN x ++ rowP (rd a ((i + x : Nat) : Int)) b k y)) ∧ Aside0 (Kd.R (Kd.int .i64) 3 wj w.heap.size (fun _ => True) (.slice (some ada) a.length ca) a) ∧ Aside0 (Kd.R (Kd.int .i64) 3 wj w.heap.size (fun _ => True) (.slice (some adb) b.length cb) b) ∧ Aside0 (Below w.heap.size w wj))
              case atStart => exact ⟨0, rfl, ⟨Nat.zero_add _⟩, ⟨by rw [show rowP (rd a ((i + x : Nat) : Int)) b k 0 = [] from by simp [rowP], List.append_nil]; exact HO.out⟩, HVA, HVB, HB⟩
              case round =>
                clear HO HVA HVB HB
                obtain ⟨y, rfl, HY, HO, HVA, HVB, HB⟩ := hrel
                have hy := HY.out
                by_cases hyn : y < nN
                · have hyi : (y : Int) < (nN : Int) := by omega
                  have hwy : wrap64 ((y : Int) + 1) = (y : Int) + 1 := by unfold wrap64; omega
                  have hky : k + y < b.length := Nat.lt_of_lt_of_le (Nat.add_lt_add_left hyn k) hnb.1
                  have hix2 : i + x < a.length := Nat.lt_of_lt_of_le (Nat.add_lt_add_left hxm i) hmb.1
                  have hix : x < a.length := Nat.lt_of_le_of_lt (Nat.le_add_left x i) hix2
                  have hol2 : ((o ++ crossP a b i k nN x).length : Nat) ≤ 3000000000000 := len_two HOL.out hxl HM.out (le_of_sum (Nat.le_of_lt hi) HAL.out) (le_of_sum (Nat.le_of_lt hix) HAL.out) (le_of_sum (Nat.le_trans (Nat.le_add_left nN k) hnb.1) HBL.out)
                  clear hol hxl
                  obtain ⟨p2, hp2⟩ : ∃ p2, p2 = rd a ((i + x : Nat) : Int) := ⟨_, rfl⟩
                  obtain ⟨q2, hq2⟩ : ∃ q2, q2 = rd b ((k + y : Nat) : Int) := ⟨_, rfl⟩
                  obtain ⟨ad3, ea3, hxa3⟩ := Kd.at_int (Kd.R_reads' HVA.out).2.2 ((i + x : Nat) : Int) (Int.natCast_nonneg _) (Int.ofNat_lt.2 hix2)
                  obtain ⟨ad4, ea4, hxb4⟩ := Kd.at_int (Kd.R_reads' HVB.out).2.2 ((k + y : Nat) : Int) (Int.natCast_nonneg _) (Int.ofNat_lt.2 hky)
                  cases ea3
                  cases ea4
                  rw [Int.toNat_natCast, ← hp2] at hxa3
                  rw [Int.toNat_natCast, ← hq2] at hxb4
                  have hry := rowP_len p2 b k y
                  have HNY : Aside0 (rowP p2 b k (y + 1) = rowP p2 b k y ++ [(⟨p2, q2⟩ : S40)]) := ⟨by rw [hq2]; exact rowP_succ p2 b k y hky⟩
                  rw [← hp2] at HO
                  have HP2 := Aside0.mk hp2
                  obtain ⟨ys, hys⟩ : ∃ ys, ys = o ++ crossP a b i k nN x ++ rowP p2 b k y := ⟨_, rfl⟩
                  have HYL : Aside0 (ys.length ≤ 3000002000000) := ⟨by rw [hys]; exact len_three hol2 hry (le_of_sum (Nat.le_trans (Nat.le_add_left y k) (Nat.le_of_lt hky)) HBL.out)⟩
                  rw [← hys] at HO
                  have HYS := Aside0.mk hys
                  clear hys hp2 hq2
                  obtain ⟨Ay, cy, ey⟩ := Kd.R_slice HO.out
                  subst ey
                  have HS : Aside0 (wr.cell? (ada.add (i + x)) = some (.int .i64 p2) ∧ wr.cell? (adb.add (k + y)) = some (.int .i64 q2)) := ⟨⟨hxa3, hxb4⟩⟩
                  clear hxa3 hxb4
                  have hixa : (i : Int) + (x : Int) < (a.length : Int) := by rw [← Int.natCast_add]; exact Int.ofNat_lt.2 hix2
                  have hkyb : (k : Int) + (y : Int) < (b.length : Int) := by rw [← Int.natCast_add]; exact Int.ofNat_lt.2 hky
                  have hixa2 : ((i + x : Nat) : Int) < (a.length : Int) := Int.ofNat_lt.2 hix2
                  have hkyb2 : ((k + y : Nat) : Int) < (b.length : Int) := Int.ofNat_lt.2 hky
                  have hwa : wrap64 ((i : Int) + (x : Int)) = ((i + x : Nat) : Int) := wrap_add hix2 HAL.out
                  have hwb : wrap64 ((k : Int) + (y : Int)) = ((k + y : Nat) : Int) := wrap_add hky HBL.out
                  have HYN := Aside0.mk hyn
                  clear hol2 hry hmb hnb hx hy hp0 hp1 hq0 hq1 hile hkle hgk hi hk hky hix hix2 hyn hxm
                  go_wp2
                  have n0_ := Aside0.mk (Kd.R_drew HVA.out)
                  have n1_ := Aside0.mk (Kd.R_drew HVB.out)
                  have n2_ := Aside0.mk (Kd.R_drew HO.out)
                  have n3_ := Aside0.mk (below_drew1 HB.out)
                  have n4_ := Aside0.mk (show wr.drew.cell? (ada.add (i + x)) = some (.int .i64 p2) ∧ wr.drew.cell? (adb.add (k + y)) = some (.int .i64 q2) from HS.out)
                  clear HVA HVB HO HB HS
                  have HVA := n0_
                  have HVB := n1_
                  have HO := n2_
                  have HB := n3_
                  have HS := n4_
                  clear n0_ n1_ n2_ n3_ n4_
                  refine start_ (n := 17) (S := fun w' => w'.cell? (ada.add (i + x)) = some (.int .i64 p2) ∧ w'.cell? (adb.add (k + y)) = some (.int .i64 q2)) (ds := [15]) #[false, false, false, false, false, false, false, false, false, false, false, false, false, false, false, false, false] (by kernel_rfl) rfl rfl HS.out (fun hHeld => ?_)
                  generalize hW13 : wr.drew = W13 at hHeld HS HVA HVB HO HB ⊢
                  refine pure_ (i := 0) (N := some 66) (v := ?_) (a' := ?_) #[true, false, false, false, false, false, false, false, false, false, false, false, false, false, false, false, false] rfl rfl (by kernel_rfl) (fun _ _ _ h => h) (Or.inl ⟨by rfl, ?_⟩) ?_ ?_
                  rotate_left
                  · intro w'
                    go_simp
                    all_goals with_reducible rfl
                  rotate_left
                  · simp only [Act.put, List.setIfInBounds_toArray, List.set_cons_zero, List.set_cons_succ, i64_w, i32_w]
                    rfl
                  refine pure_ (i := 1) (N := some 67) (v := ?_) (a' := ?_) #[true, true, false, false, false, false, false, false, false, false, false, false, false, false, false, false, false] rfl rfl (by kernel_rfl) (fun _ _ _ h => h) (Or.inl ⟨by rfl, ?_⟩) ?_ ?_
                  rotate_left
                  · intro w'
                    go_simp
                    all_goals with_reducible rfl
                  rotate_left
                  · simp only [Act.put, List.setIfInBounds_toArray, List.set_cons_zero, List.set_cons_succ, i64_w, i32_w]
                    rfl
                  refine pure_ (i := 2) (N := some 68) (v := ?_) (a' := ?_) #[true, true, true, false, false, false, false, false, false, false, false, false, false, false, false, false, false] rfl rfl (by kernel_rfl) (fun _ _ _ h => h) (Or.inl ⟨by rfl, ?_⟩) ?_ ?_
                  rotate_left
                  · intro w'
                    go_simp
                    all_goals with_reducible rfl
                  rotate_left
                  · simp only [Act.put, List.setIfInBounds_toArray, List.set_cons_zero, List.set_cons_succ, i64_w, i32_w]
                    rfl
                  refine pure_ (i := 3) (N := some 69) (v := ?_) (a' := ?_) #[true, true, true, true, false, false, false, false, false, false, false, false, false, false, false, false, false] rfl rfl (by kernel_rfl) (fun _ _ _ h => h) (Or.inl ⟨by rfl, ?_⟩) ?_ ?_
                  rotate_left
                  · intro w'
                    go_simp
                    all_goals with_reducible rfl
                  rotate_left
                  · simp only [Act.put, List.setIfInBounds_toArray, List.set_cons_zero, List.set_cons_succ, i64_w, i32_w]
                    rfl
                  refine pure_ (i := 7) (N := some 73) (v := ?_) (a' := ?_) #[true, true, true, true, false, false, false, true, false, false, false, false, false, false, false, false, false] rfl rfl (by kernel_rfl) (fun _ _ _ h => h) (Or.inl ⟨by rfl, ?_⟩) ?_ ?_
                  rotate_left
                  · intro w'
                    go_simp
                    all_goals with_reducible rfl
                  rotate_left
                  · simp only [Act.put, List.setIfInBounds_toArray, List.set_cons_zero, List.set_cons_succ, i64_w, i32_w]
                    rfl
                  refine pure_ (i := 8) (N := some 74) (v := ?_) (a' := ?_) #[true, true, true, true, false, false, false, true, true, false, false, false, false, false, false, false, false] rfl rfl (by kernel_rfl) (fun _ _ _ h => h) (Or.inl ⟨by rfl, ?_⟩) ?_ ?_
                  rotate_left
                  · intro w'
                    go_simp
                    all_goals with_reducible rfl
                  rotate_left
                  · simp only [Act.put, List.setIfInBounds_toArray, List.set_cons_zero, List.set_cons_succ, i64_w, i32_w]
                    rfl
                  refine pure_ (i := 9) (N := some 75) (v := ?_) (a' := ?_) #[true, true, true, true, false, false, false, true, true, true, false, false, false, false, false, false, false] rfl rfl (by kernel_rfl) (fun _ _ _ h => h) (Or.inl ⟨by rfl, ?_⟩) ?_ ?_
                  rotate_left
                  · intro w'
                    go_simp
                    all_goals with_reducible rfl
                  rotate_left
                  · simp only [Act.put, List.setIfInBounds_toArray, List.set_cons_zero, List.set_cons_succ, i64_w, i32_w]
                    rfl
                  refine pure_ (i := 4) (N := some 70) (v := ?_) (a' := ?_) #[true, true, true, true, true, false, false, true, true, true, false, false, false, false, false, false, false] rfl rfl (by kernel_rfl) (fun _ _ _ h => h) (Or.inl ⟨by rfl, ?_⟩) ?_ ?_
                  rotate_left
                  · intro w'
                    go_simp
                    rw [i64_w, hwa]
                    all_goals with_reducible rfl
                  rotate_left
                  · simp only [Act.put, List.setIfInBounds_toArray, List.set_cons_zero, List.set_cons_succ, i64_w, i32_w]
                    rfl
                  refine pure_ (i := 10) (N := some 76) (v := ?_) (a' := ?_) #[true, true, true, true, true, false, false, true, true, true, true, false, false, false, false, false, false] rfl rfl (by kernel_rfl) (fun _ _ _ h => h) (Or.inl ⟨by rfl, ?_⟩) ?_ ?_
                  rotate_left
                  · intro w'
                    go_simp
                    rw [i64_w, hwb]
                    all_goals with_reducible rfl
                  rotate_left
                  · simp only [Act.put, List.setIfInBounds_toArray, List.set_cons_zero, List.set_cons_succ, i64_w, i32_w]
                    rfl
                  refine pure_ (i := 5) (N := some 71) (v := ?_) (a' := ?_) #[true, true, true, true, true, true, false, true, true, true, true, false, false, false, false, false, false] rfl rfl (by kernel_rfl) (fun _ _ _ h => h) (Or.inl ⟨by rfl, ?_⟩) ?_ ?_
                  rotate_left
                  · intro w'
                    go_simp
                    rw [if_pos (nn_add i x), toNat_add i x]
                    all_goals with_reducible rfl
                  rotate_left
                  · simp only [Act.put, List.setIfInBounds_toArray, List.set_cons_zero, List.set_cons_succ, i64_w, i32_w]
                    rfl
                  refine pure_ (i := 11) (N := some 77) (v := ?_) (a' := ?_) #[true, true, true, true, true, true, false, true, true, true, true, true, false, false, false, false, false] rfl rfl (by kernel_rfl) (fun _ _ _ h => h) (Or.inl ⟨by rfl, ?_⟩) ?_ ?_
                  rotate_left
                  · intro w'
                    go_simp
                    rw [if_pos (nn_add k y), toNat_add k y]
                    all_goals with_reducible rfl
                  rotate_left
                  · simp only [Act.put, List.setIfInBounds_toArray, List.set_cons_zero, List.set_cons_succ, i64_w, i32_w]
                    rfl
                  refine take_ (i := 6) (N := some 72) (v := ?_) (a' := ?_) #[true, true, true, true, true, true, true, true, true, true, true, true, false, false, false, false, false] rfl rfl (by kernel_rfl) (fun _ _ _ h => h) (Or.inl ⟨by rfl, ?_⟩) hHeld ?_ ?_
                  rotate_left
                  · rintro w' ⟨s0, s1⟩
                    go_simp
                    all_goals with_reducible rfl
                  rotate_left
                  · simp only [Act.put, List.setIfInBounds_toArray, List.set_cons_zero, List.set_cons_succ, i64_w, i32_w]
                    rfl
                  refine take_ (i := 12) (N := some 78) (v := ?_) (a' := ?_) #[true, true, true, true, true, true, true, true, true, true, true, true, true, false, false, false, false] rfl rfl (by kernel_rfl) (fun _ _ _ h => h) (Or.inl ⟨by rfl, ?_⟩) hHeld ?_ ?_
                  rotate_left
                  · rintro w' ⟨s0, s1⟩
                    go_simp
                    all_goals with_reducible rfl
                  rotate_left
                  · simp only [Act.put, List.setIfInBounds_toArray, List.set_cons_zero, List.set_cons_succ, i64_w, i32_w]
                    rfl
                  refine pure_ (i := 13) (N := some 79) (v := ?_) (a' := ?_) #[true, true, true, true, true, true, true, true, true, true, true, true, true, true, false, false, false] rfl rfl (by kernel_rfl) (fun _ _ _ h => h) (Or.inl ⟨by rfl, ?_⟩) ?_ ?_
                  rotate_left
                  · intro w'
                    go_simp
                    all_goals with_reducible rfl
                  rotate_left
                  · simp only [Act.put, List.setIfInBounds_toArray, List.set_cons_zero, List.set_cons_succ, i64_w, i32_w]
                    rfl
                  refine one_ (i := 14) (N := some 80) #[true, true, true, true, true, true, true, true, true, true, true, true, true, true, true, false, false] rfl rfl (by kernel_rfl) (by decide) (fun K hK => ?_)
                  refine event_step (w1 := W13.alloc (.cells #[.int .i64 p2, .int .i64 q2] 40)) (v := .slice (some ⟨W13.heap.size, 0, none⟩) 1 1) ?hw ?hr ?_
                  case hw => rfl
                  case hr => first | (go_simp; done) | (go_simp; rfl)
                  refine hK.out _ _ ⟨(Below.cell (B := W13.heap.size) (below_alloc (Below.refl _ _) _) (World.block_lt_of_cell? _ _ HS.out.1)).trans HS.out.1, (Below.cell (B := W13.heap.size) (below_alloc (Below.refl _ _) _) (World.block_lt_of_cell? _ _ HS.out.2)).trans HS.out.2⟩ (fun hHeld => ?_)
                  clear hK K
                  refine norm_ (a' := ?_) ?_ ?_
                  rotate_left
                  · show Act.put _ (some 80) _ = _
                    simp only [Act.put, List.setIfInBounds_toArray, List.set_cons_zero, List.set_cons_succ, i64_w, i32_w]
                    rfl
                  skip
                  refine last_ (i := 15) (N := some 81) #[true, true, true, true, true, true, true, true, true, true, true, true, true, true, true, true, false] rfl rfl (by kernel_rfl) (by decide) (fun K hK => ?_)
                  refine Kd.R_append_step k40 (w0 := w) w.heap.size ?hw (.tmp 66) (.tmp 80) 34 40 (.agg #[(.int .i64 0), (.int .i64 0)]) 16 rfl Tryd.underlying34 info40 rfl (by decide) (by omega) (.slice Ay ys.length cy) ys (⟨p2, q2⟩ : S40) [.int .i64 p2, .int .i64 q2] (fun _ => True) (fun _ => False) rfl rfl ?aP (fun _ hk => hk.elim) ?aF ?aO ?aB ?aS ?aL ?_
                  case hw => rfl
                  case aP => exact k40_mkM _ _ _ (⟨p2, q2⟩ : S40)
                  case aF => exact fun _ _ => trivial
                  case aO => exact HO.out
                  case aB => exact HB.out
                  case aS => exact below_size HB.out
                  case aL => have h_ := HYL.out; omega
                  intro v4 w4 ho hb hg hat
                  have n0_ := Aside0.mk (Kd.R_over' HVA.out (Kd.R_typed HO.out) (by decide) hg)
                  have n1_ := Aside0.mk (Kd.R_over' HVB.out (Kd.R_typed HO.out) (by decide) hg)
                  have n2_ := Aside0.mk (ho)
                  have n3_ := Aside0.mk (hb)
                  clear HVA HVB HO HB
                  have HVA := n0_
                  have HVB := n1_
                  have HO := n2_
                  have HB := n3_
                  clear n0_ n1_ n2_ n3_
                  clear ho hb hg hat HS
                  refine hK.out _ _ ?_
                  clear hK K
                  refine norm_ (a' := ?_) ?_ ?_
                  rotate_left
                  · show Act.put _ (some 81) _ = _
                    simp only [Act.put, List.setIfInBounds_toArray, List.set_cons_zero, List.set_cons_succ, i64_w, i32_w]
                    rfl
                  refine pure_ (i := 16) (N := some 7) (v := ?_) (a' := ?_) #[true, true, true, true, true, true, true, true, true, true, true, true, true, true, true, true, true] rfl rfl (by kernel_rfl) (fun _ _ _ h => h) (Or.inl ⟨by rfl, ?_⟩) ?_ ?_
                  rotate_left
                  · intro w'
                    go_simp
                    all_goals with_reducible rfl
                  rotate_left
                  · simp only [Act.put, List.setIfInBounds_toArray, List.set_cons_zero, List.set_cons_succ, i64_w, i32_w]
                    rfl
                  refine done_ (by kernel_rfl) ?_
                  clear hia hkb hxi hyi hixa hkyb hixa2 hkyb2 hwa hwb hal hbl
                  go_wp2
                  go_roundg (nN - (y + 1))
                  case measure => have := HY.out; have := HYN.out; omega
                  case rel => exact ⟨y + 1, (by first | rfl | (simp; done) | (simp [*]; done)), ⟨by have := HY.out; have := HYN.out; omega⟩, ⟨by rw [← HP2.out, HNY.out, ← List.append_assoc, ← HYS.out]; exact HO.out⟩, HVA, HVB, HB⟩
                · have hyy : y = nN := by omega
                  subst hyy
                  have hyb : decide ((y : Int) < (y : Int)) = false := decide_eq_false (by omega)
                  clear hyn
                  go_wp2
                  go_roundg (mN - (x + 1))
                  case measure => have := HX.out; omega
                  case rel => exact ⟨x + 1, (by first | rfl | (simp; done) | (simp [*]; done)), ⟨by have := HX.out; omega⟩, ⟨by rw [crossP, ← List.append_assoc]; exact HO.out⟩, HVA, HVB, HB⟩
            · have hxx : x = mN := by omega
              subst hxx
              have hxb : decide ((x : Int) < (x : Int)) = false := decide_eq_false (by omega)
              clear hxm
              go_wp2
              go_roundg n'
              case measure => omega
              case rel => exact ⟨i + x, k + nN, o ++ crossP a b i k nN x, (by first | rfl | (simp; done) | (simp [*]; done)), (by first | rfl | (simp; done) | (simp [*]; done)), ⟨by omega, by omega, by omega, len_next HOL.out (crossP_len a b i k nN x) HM.out (by have := HBL.out; omega)⟩, HGO3, HO, HVA, HVB, HB⟩
        · have hcb1 : (c == 0) = false := beq_eq_false_iff_ne.mpr (by omega)
          have hcb2 : decide (c ≤ 0) = false := decide_eq_false (by omega)
          have hcb3 : decide (0 ≤ c) = true := decide_eq_true (by omega)
          have hcb4 : decide (c ≥ 0) = true := decide_eq_true (by omega)
          have HGO3 : Aside0 (mergeGo l0 l1 a b n' i (k + nN) o = fin) := ⟨by
            have h_ := HGO2.out
            rw [if_neg (by omega : ¬ c ≤ 0), if_pos (by omega : c ≥ 0), if_neg (by omega : ¬ c = 0)] at h_
            exact h_⟩
          go_loopg [7, 13] 0 (fun n v7 v13 wi => v13 = .int .i64 0 ∧ Aside0 (Kd.R k40 40 wi w.heap.size (fun _ => True) v7 o) ∧ Aside0 (Kd.R (Kd.int .i64) 3 wi w.heap.size (fun _ => True) (.slice (some ada) a.length ca) a) ∧ Aside0 (Kd.R (Kd.int .i64) 3 wi w.heap.size (fun _ => True) (.slice (some adb) b.length cb) b) ∧ Aside0 (Below w.heap.size w wi))
          case atStart => exact ⟨rfl, HO, HVA, HVB, HB⟩
          case round =>
            clear HO HVA HVB HB
            obtain ⟨rfl, HO, HVA, HVB, HB⟩ := hrel
            go_wp2
            go_roundg n'
            case measure => omega
            case rel => exact ⟨i, k + nN, o, (by first | rfl | (simp; done) | (simp [*]; done)), (by first | rfl | (simp; done) | (simp [*]; done)), ⟨by omega, by omega, by omega, Nat.le_trans HOL.out (Nat.mul_le_mul_right _ (by omega))⟩, HGO3, HO, HVA, HVB, HB⟩
      · have hkb : decide ((k : Int) < (b.length : Int)) = false := decide_eq_false (by omega)
        have hia : decide ((i : Int) < (a.length : Int)) = true := decide_eq_true (by omega)
        have HOF : Aside0 (o = fin) := ⟨by
          have h_ := HGO.out
          match gk, h_ with
          | 0, h_ => exact h_
          | n' + 1, h_ => rw [mergeGo, if_neg (by omega)] at h_; exact h_⟩
        have hof := HOF.out
        clear HOF HGO
        subst hof
        have HOL : Aside0 (o.length ≤ 1099511627776) := ⟨len_one HIK.out.2.2.2 HM.out (by omega)⟩
        obtain ⟨Ao, co, eo⟩ := Kd.R_slice HO.out
        subst eo
        clear hal hbl hile hkle
        go_wp2_with (go_at_call 42; refine (sort40_calls Ao o.length co o w wr HO.out HB.out HOL.out).mono ?_; rintro e w2 ⟨rfl, ho2, hb2⟩; have HO2 := Aside0.mk ho2; have HB2 := Aside0.mk hb2; clear ho2 hb2)
        go_ret
        refine ⟨_, rfl, ?_, HB2.out⟩
        have h5 := HO2.out
        rw [HRES.out] at h5
        exact h5
    · have hia : decide ((i : Int) < (a.length : Int)) = false := decide_eq_false (by omega)
      have HOF : Aside0 (o = fin) := ⟨by
        have h_ := HGO.out
        match gk, h_ with
        | 0, h_ => exact h_
        | n' + 1, h_ => rw [mergeGo, if_neg (by omega)] at h_; exact h_⟩
      have hof := HOF.out
      clear HOF HGO
      subst hof
      have HOL : Aside0 (o.length ≤ 1099511627776) := ⟨len_one HIK.out.2.2.2 HM.out (by omega)⟩
      obtain ⟨Ao, co, eo⟩ := Kd.R_slice HO.out
      subst eo
      clear hal hbl hile hkle
      go_wp2_with (go_at_call 42; refine (sort40_calls Ao o.length co o w wr HO.out HB.out HOL.out).mono ?_; rintro e w2 ⟨rfl, ho2, hb2⟩; have HO2 := Aside0.mk ho2; have HB2 := Aside0.mk hb2; clear ho2 hb2)
      go_ret
      refine ⟨_, rfl, ?_, HB2.out⟩
      have h5 := HO2.out
      rw [HRES.out] at h5
      exact h5
end Go.Proofs.YtnllgjloimoebaaDoor.X

/- Two small laws: a sorted list is one; a row that can be a key is short. -/
set_option linter.unusedVariables false
set_option linter.unusedSimpArgs false
namespace Go.Proofs.YtnllgjloimoebaaDoor.X
open Go.RowKit Go.Proofs.YtnllgjloimoebaaDoorW.PrintWords

theorem keyable_short {r : List S44} (h : keyable r = true) : short r := by
  have h1 := keyable_len h
  unfold keyable at h
  rw [Bool.and_eq_true] at h
  have h2 := rowOK_of h.1
  exact ⟨by omega, fun x hx => by have := (h2.2 x hx).2.2; omega⟩
theorem pw_unique {α : Type} {lt : α → α → Prop} (hasym : ∀ a b, lt a b → ¬ lt b a) : ∀ {a b : List α}, a.Perm b → a.Pairwise lt → b.Pairwise lt → a = b
  | [], b, hp, _, _ => (List.nil_perm.1 hp).symm
  | x :: a, [], hp, _, _ => absurd hp.length_eq (by simp)
  | x :: a, y :: b, hp, ha, hb => by
    rw [List.pairwise_cons] at ha hb
    have e : x = y := by
      have hx : x ∈ y :: b := hp.mem_iff.1 (List.mem_cons_self ..)
      have hy : y ∈ x :: a := hp.mem_iff.2 (List.mem_cons_self ..)
      rcases List.mem_cons.1 hx with h | h
      · exact h
      · rcases List.mem_cons.1 hy with h2 | h2
        · exact h2.symm
        · exact absurd (ha.1 y h2) (hasym _ _ (hb.1 x h))
    subst e
    rw [pw_unique hasym (List.Perm.cons_inv hp) ha.2 hb.2]
end Go.Proofs.YtnllgjloimoebaaDoor.X

-- By xprint.py (this session's own program over the kit's print): not trusted: Lean checks it.
namespace Go.Proofs.YtnllgjloimoebaaDoor.X
open Go.RowKit Go.Proofs.YtnllgjloimoebaaDoorW.PrintWords Go.Proofs.YtnllgjloimoebaaDoorW.PrintLast Go.Proofs.YtnllgjloimoebaaDoorW.PrintMore
attribute [local go_sem] max2_int min2_int max_two min_two max_three min_three max_four min_four   -- for this text's walks alone
set_option linter.unusedVariables false
set_option linter.unusedSimpArgs false

theorem eqA40 (d : Nat) (w : World) (x0 y0 : Int) (x1 y1 : Int) :
  (Op.equalIn (d + 2) 40 (.agg #[.int .i64 x0, .int .i64 x1]) (.agg #[.int .i64 y0, .int .i64 y1])).run Tryd.prog w = .ok (x0 == y0 && (x1 == y1)) w := by
 have h3 : ∀ (a b : Int), (Op.equalIn (d + 1) 3 (.int .i64 a) (.int .i64 b)).run Tryd.prog w = .ok (a == b) w := fun a b => run_equalIn_int w d 3 .i64 .i64 a b Tryd.underlying3
 have hs : (sizeOf 3).run Tryd.prog w = .ok 1 w := Tryd.sizeOf3 w
 have p0 : ∀ (a b : Int), (part 3 #[Value.int .i64 a, Value.int .i64 b] 0).run Tryd.prog w = .ok (.int .i64 a) w := fun a b => by go_simp
 have p1 : ∀ (a b : Int), (part 3 #[Value.int .i64 a, Value.int .i64 b] 1).run Tryd.prog w = .ok (.int .i64 b) w := fun a b => by go_simp
 unfold Op.equalIn
 simp only [Sem.run_bind, run_underlying Tryd.underlying40, Result.andThen_ok, hs]
 rw [Std.Legacy.Range.forIn_eq_forIn_range']
 simp only [show ([:2] : Std.Legacy.Range).size = 2 from rfl, List.range', List.forIn_cons, List.forIn_nil, Sem.run_bind, Nat.mul_one, Nat.zero_add, p0, Result.andThen_ok, h3]
 cases h0 : (x0 == y0) <;> simp [Sem.run_bind, p1, h3, Result.andThen_ok, Sem.run_pure]
 cases h1 : (x1 == y1) <;> simp at h1 <;> simp [h1]

end Go.Proofs.YtnllgjloimoebaaDoor.X

-- By xprint.py (this session's own program over the kit's print): not trusted: Lean checks it.
namespace Go.Proofs.YtnllgjloimoebaaDoor.X
open Go.RowKit Go.Proofs.YtnllgjloimoebaaDoorW.PrintWords Go.Proofs.YtnllgjloimoebaaDoorW.PrintLast Go.Proofs.YtnllgjloimoebaaDoorW.PrintMore
attribute [local go_sem] max2_int min2_int max_two min_two max_three min_three max_four min_four   -- for this text's walks alone
set_option linter.unusedVariables false
set_option linter.unusedSimpArgs false

attribute [local go_sem high] eqA40
/-! ### tabellionref32_Same: function 21 -/
def tabellionref32_Same.l0 : Nat → List (S40) → List (S40) → Int → Option (Bool)
 | 0, _, _, _ => none
 | k + 1, x0, x1, x5 => if x5 < (x0.length : Int) then (if 0 ≤ x5 then (if x5 < (x1.length : Int) then (if (!(((rd_T40 x0 x5).f0) == ((rd_T40 x1 x5).f0)) || (!(((rd_T40 x0 x5).f1) == ((rd_T40 x1 x5).f1)))) = true then (some false) else (tabellionref32_Same.l0 k x0 x1 (wrap64 (x5 + 1)))) else (none)) else (none)) else (some true)
def tabellionref32_Same.f (k : Nat) (l0 : List (S40)) (l1 : List (S40)) : Option (Bool) := if (l0.length : Int) = (l1.length : Int) then (tabellionref32_Same.l0 k l0 l1 0) else (some false)
set_option maxHeartbeats 8000000 in
set_option maxRecDepth 100000 in
theorem tabellionref32_Same.calls (k : Nat) (A0 : Option Addr) (c0 : Nat) (l0 : List (S40)) (A1 : Option Addr) (c1 : Nat) (l1 : List (S40)) (r : Bool) (w : World) (hr0 : Kd.C k40 w A0 l0.length l0) (hc0 : l0.length ≤ c0) (hr1 : Kd.C k40 w A1 l1.length l1) (hc1 : l1.length ≤ c1) (h : tabellionref32_Same.f k l0 l1 = some r) :
  Calls Tryd.prog 21 #[.slice A0 l0.length c0, .slice A1 l1.length c1] w fun e w' => e = .returned (.bool r) ∧ Drawn0 w w' := by
 have hu40 := Tryd.underlying40
 have HR0 := Aside0.mk hr0
 have HC0 := Aside0.mk hc0
 clear hr0 hc0
 have HR1 := Aside0.mk hr1
 have HC1 := Aside0.mk hc1
 clear hr1 hc1
 have H : (if (l0.length : Int) = (l1.length : Int) then (tabellionref32_Same.l0 k l0 l1 0) else (some false)) = some r := h
 clear h
 by_cases c3 : (l0.length : Int) = (l1.length : Int)
 ·
  rw [if_pos c3] at H
  have c3b0 : ((l0.length : Int) == (l1.length : Int)) = true := beq_iff_eq.mpr c3
  have c3b1 : ((l0.length : Int) != (l1.length : Int)) = false := bne_eq_false_iff_eq.mpr c3
  have c3b2 : (l0.length == l1.length) = true := by first | simpa using c3 | (simp at c3 ⊢; omega)
  clear c3
  have H' := Aside0.mk H
  clear H
  go_enter Tryd.func21, Tryd.ntmps21
  go_wp2
  repeat (go_quiet (fail); try go_wp2)
  go_loopg [5] k (fun kq v5 w' => ∃ (x5_1 : Int), v5 = .int .i64 x5_1 ∧ Aside0 (tabellionref32_Same.l0 kq l0 l1 x5_1 = some r) ∧ Aside0 (kq ≤ k) ∧ Drawn0 w w')
  case atStart => exact ⟨(0), (by first | rfl | (simp; done) | (simp [*]; done)), H', ⟨Nat.le_refl _⟩, by repeat (first | exact Drawn0.refl _ | apply Drawn0.step)⟩
  case round =>
   clear H'
   try clear c1
   try clear c2
   try clear p2
   try clear c3
   try clear c3b0
   try clear c3b1
   try clear c3b2
   obtain ⟨x5_1, rfl, HA, HK1, ⟨m1, rfl⟩⟩ := hrel
   cases gk with
   | zero => exact absurd HA.out (by simp [tabellionref32_Same.l0])
   | succ k1 =>
    have H := HA.out
    clear HA
    simp only [tabellionref32_Same.l0] at H
    by_cases c4 : x5_1 < (l0.length : Int)
    ·
     rw [if_pos c4] at H
     have c4b0 : decide (x5_1 < (l0.length : Int)) = true := decide_eq_true c4
     clear c4
     by_cases c5 : 0 ≤ x5_1
     ·
      rw [if_pos c5] at H
      have c5b0 : decide (0 ≤ x5_1) = true := decide_eq_true c5
      clear c5
      by_cases c6 : x5_1 < (l1.length : Int)
      ·
       rw [if_pos c6] at H
       have c6b0 : decide (x5_1 < (l1.length : Int)) = true := decide_eq_true c6
       clear c6
       by_cases c7 : (!(((rd_T40 l0 x5_1).f0) == ((rd_T40 l1 x5_1).f0)) || (!(((rd_T40 l0 x5_1).f1) == ((rd_T40 l1 x5_1).f1)))) = true
       ·
        rw [if_pos c7] at H
        have c7b0 : (!(((rd_T40 l0 x5_1).f0) == ((rd_T40 l1 x5_1).f0)) || (!(((rd_T40 l0 x5_1).f1) == ((rd_T40 l1 x5_1).f1)))) = true := c7
        clear c7
        obtain rfl := Option.some.inj H
        have p423 : 0 ≤ (x5_1 : Int) := of_decide_eq_true (by first | (with_reducible assumption) | assumption)
        have q423 : x5_1 < (l0.length : Int) := of_decide_eq_true (by first | (with_reducible assumption) | assumption)
        obtain ⟨ad423, e423, hx423_0, hx423_1⟩ := at_T40 HR0.out x5_1 p423 q423
        cases e423
        replace p423 := eq_true p423
        replace q423 := eq_true q423
        have p424 : 0 ≤ (x5_1 : Int) := of_decide_eq_true (by first | (with_reducible assumption) | assumption)
        have q424 : x5_1 < (l1.length : Int) := of_decide_eq_true (by first | (with_reducible assumption) | assumption)
        obtain ⟨ad424, e424, hx424_0, hx424_1⟩ := at_T40 HR1.out x5_1 p424 q424
        cases e424
        replace p424 := eq_true p424
        replace q424 := eq_true q424
        go_wp2
        repeat (go_quiet (fail); try go_wp2)
        go_ret
        exact ⟨by first | rfl | (simp; done) | (simp [*]; done), by repeat (first | exact Drawn0.refl _ | apply Drawn0.step)⟩
       ·
        rw [if_neg c7] at H
        have c7b0 : (!(((rd_T40 l0 x5_1).f0) == ((rd_T40 l1 x5_1).f0)) || (!(((rd_T40 l0 x5_1).f1) == ((rd_T40 l1 x5_1).f1)))) = false := by simpa using c7
        clear c7
        have H' := Aside0.mk H
        clear H
        have p423 : 0 ≤ (x5_1 : Int) := of_decide_eq_true (by first | (with_reducible assumption) | assumption)
        have q423 : x5_1 < (l0.length : Int) := of_decide_eq_true (by first | (with_reducible assumption) | assumption)
        obtain ⟨ad423, e423, hx423_0, hx423_1⟩ := at_T40 HR0.out x5_1 p423 q423
        cases e423
        replace p423 := eq_true p423
        replace q423 := eq_true q423
        have p424 : 0 ≤ (x5_1 : Int) := of_decide_eq_true (by first | (with_reducible assumption) | assumption)
        have q424 : x5_1 < (l1.length : Int) := of_decide_eq_true (by first | (with_reducible assumption) | assumption)
        obtain ⟨ad424, e424, hx424_0, hx424_1⟩ := at_T40 HR1.out x5_1 p424 q424
        cases e424
        replace p424 := eq_true p424
        replace q424 := eq_true q424
        go_wp2
        repeat (go_quiet (fail); try go_wp2)
        go_roundg k1
        case measure => have := HK1.out; omega
        case rel => exact ⟨(wrap64 (x5_1 + 1)), (by first | rfl | (simp; done) | (simp [*]; done)), H', ⟨by have := HK1.out; omega⟩, by repeat (first | exact Drawn0.refl _ | apply Drawn0.step)⟩
      ·
       rw [if_neg c6] at H
       exact absurd H (by simp)
     ·
      rw [if_neg c5] at H
      exact absurd H (by simp)
    ·
     rw [if_neg c4] at H
     have c4b0 : decide (x5_1 < (l0.length : Int)) = false := decide_eq_false c4
     clear c4
     obtain rfl := Option.some.inj H
     go_wp2
     repeat (go_quiet (fail); try go_wp2)
     go_ret
     exact ⟨by first | rfl | (simp; done) | (simp [*]; done), by repeat (first | exact Drawn0.refl _ | apply Drawn0.step)⟩
 ·
  rw [if_neg c3] at H
  have c3b0 : ((l0.length : Int) == (l1.length : Int)) = false := beq_eq_false_iff_ne.mpr c3
  have c3b1 : ((l0.length : Int) != (l1.length : Int)) = true := bne_iff_ne.mpr c3
  have c3b2 : (l0.length == l1.length) = false := by first | simpa using c3 | (simp at c3 ⊢; omega)
  obtain rfl := Option.some.inj H
  go_enter Tryd.func21, Tryd.ntmps21
  go_wp2
  repeat (go_quiet (fail); try go_wp2)
  go_ret
  exact ⟨by first | rfl | (simp; done) | (simp [*]; done), by repeat (first | exact Drawn0.refl _ | apply Drawn0.step)⟩

end Go.Proofs.YtnllgjloimoebaaDoor.X

-- By xprint.py (this session's own program over the kit's print): not trusted: Lean checks it.
namespace Go.Proofs.YtnllgjloimoebaaDoor.X
open Go.RowKit Go.Proofs.YtnllgjloimoebaaDoorW.PrintWords Go.Proofs.YtnllgjloimoebaaDoorW.PrintLast Go.Proofs.YtnllgjloimoebaaDoorW.PrintMore
attribute [local go_sem] max2_int min2_int max_two min_two max_three min_three max_four min_four   -- for this text's walks alone
set_option linter.unusedVariables false
set_option linter.unusedSimpArgs false

/-! ### joiner_meet: function 37 -/
def joiner_meet.f (k : Nat) (l0 : List (S44)) (l1 : List (S44)) : Option (Bool) := (joiner_whole.f l0).bind fun t425 => (if t425 = true then ((joiner_whole.f l1).bind fun t426 => (if t426 = true then ((value_Orders.f k l0 l1).bind fun t427 => (some (t427 == 0))) else (some false))) else (some false))
set_option maxHeartbeats 8000000 in
set_option maxRecDepth 100000 in
theorem joiner_meet.calls (k : Nat) (A0 : Option Addr) (c0 : Nat) (l0 : List (S44)) (A1 : Option Addr) (c1 : Nat) (l1 : List (S44)) (r : Bool) (w : World) (hr0 : Kd.C k44 w A0 l0.length l0) (hc0 : l0.length ≤ c0) (hr1 : Kd.C k44 w A1 l1.length l1) (hc1 : l1.length ≤ c1) (h : joiner_meet.f k l0 l1 = some r) :
  Calls Tryd.prog 37 #[.slice A0 l0.length c0, .slice A1 l1.length c1] w fun e w' => e = .returned (.bool r) ∧ Below w.heap.size w w' := by
 have HR0 := Aside0.mk hr0
 have HC0 := Aside0.mk hc0
 clear hr0 hc0
 have HR1 := Aside0.mk hr1
 have HC1 := Aside0.mk hc1
 clear hr1 hc1
 have HB := Aside0.mk (Below.refl w.heap.size w)
 have H : ((joiner_whole.f l0).bind fun t425 => (if t425 = true then ((joiner_whole.f l1).bind fun t426 => (if t426 = true then ((value_Orders.f k l0 l1).bind fun t427 => (some (t427 == 0))) else (some false))) else (some false))) = some r := h
 clear h
 replace H := Option.bind_eq_some_iff.mp H
 obtain ⟨t425, A30, H⟩ := H
 replace H : (if t425 = true then ((joiner_whole.f l1).bind fun t426 => (if t426 = true then ((value_Orders.f k l0 l1).bind fun t427 => (some (t427 == 0))) else (some false))) else (some false)) = some r := H
 have A3 := Aside0.mk A30
 clear A30
 by_cases c4 : t425 = true
 ·
  subst c4
  have H1 : ((joiner_whole.f l1).bind fun t426 => (if t426 = true then ((value_Orders.f k l0 l1).bind fun t427 => (some (t427 == 0))) else (some false))) = some r := by rw [if_pos rfl] at H; exact H
  clear H
  have H := H1
  clear H1
  replace H := Option.bind_eq_some_iff.mp H
  obtain ⟨t426, A50, H⟩ := H
  replace H : (if t426 = true then ((value_Orders.f k l0 l1).bind fun t427 => (some (t427 == 0))) else (some false)) = some r := H
  have A5 := Aside0.mk A50
  clear A50
  by_cases c6 : t426 = true
  ·
   subst c6
   have H1 : ((value_Orders.f k l0 l1).bind fun t427 => (some (t427 == 0))) = some r := by rw [if_pos rfl] at H; exact H
   clear H
   have H := H1
   clear H1
   replace H := Option.bind_eq_some_iff.mp H
   obtain ⟨t427, A70, H⟩ := H
   replace H : (some (t427 == 0)) = some r := H
   have A7 := Aside0.mk A70
   clear A70
   obtain rfl := Option.some.inj H
   go_enter Tryd.func37, Tryd.ntmps37
   go_wp2_with (first | ((with_reducible refine gate_callee (f := 38) rfl ?_); refine goesL_ (some 6) rfl rfl Tryd.func38 (by kernel_rfl) rfl #[.slice A0 l0.length c0] rfl (by (try simp only [List.map_toArray, List.map_cons, List.map_nil]); first | done | rfl | (simp only [List.length_drop, List.length_take]; rfl)) ?_; (with_reducible refine (joiner_whole.calls _ _ l0 true _ ?side1 ?side2 A3.out).mono ?_); (case side1 => repeat (first | exact HR0.out | (with_reducible refine Kd.C_alloc ?_ _) | (with_reducible refine Kd.C_drewN ?_ _) | (with_reducible refine Kd.C_drew ?_))); (case side2 => exact HC0.out); rintro e w8 ⟨rfl, hb⟩; refine ⟨_, rfl, ?_⟩; have n0_ := Aside0.mk (below_step (by repeat (first | (with_reducible first | exact HB.out | apply below_alloc | apply pw_below_drewN | apply below_drew1) | exact HB.out)) hb); clear HB; have HB := n0_; clear n0_; (try clear hb); (try clear hb2); (try clear hk); (try clear hi)) | (go_at_call 38; (with_reducible refine (joiner_whole.calls _ _ l1 true _ ?side1 ?side2 A5.out).mono ?_); (case side1 => repeat (first | exact (Kd.C_below HR1.out HB.out) | (with_reducible refine Kd.C_alloc ?_ _) | (with_reducible refine Kd.C_drewN ?_ _) | (with_reducible refine Kd.C_drew ?_))); (case side2 => exact HC1.out); rintro e w9 ⟨rfl, hb⟩; have n0_ := Aside0.mk (below_step (by repeat (first | (with_reducible first | exact HB.out | apply below_alloc | apply pw_below_drewN | apply below_drew1) | exact HB.out)) hb); clear HB; have HB := n0_; clear n0_; (try clear hb); (try clear hb2); (try clear hk); (try clear hi)) | (go_at_call 18; (with_reducible refine (value_Orders.calls k _ _ l0 _ _ l1 t427 _ ?side1 ?side2 ?side3 ?side4 A7.out).mono ?_); (case side1 => repeat (first | exact (Kd.C_below HR0.out HB.out) | (with_reducible refine Kd.C_alloc ?_ _) | (with_reducible refine Kd.C_drewN ?_ _) | (with_reducible refine Kd.C_drew ?_))); (case side2 => exact HC0.out); (case side3 => repeat (first | exact (Kd.C_below HR1.out HB.out) | (with_reducible refine Kd.C_alloc ?_ _) | (with_reducible refine Kd.C_drewN ?_ _) | (with_reducible refine Kd.C_drew ?_))); (case side4 => exact HC1.out); rintro e w10 ⟨rfl, hb⟩; have n0_ := Aside0.mk (below_step (by repeat (first | (with_reducible first | exact HB.out | apply below_alloc | apply pw_below_drewN | apply below_drew1) | exact HB.out)) hb); clear HB; have HB := n0_; clear n0_; (try clear hb); (try clear hb2); (try clear hk); (try clear hi)))
   go_ret
   exact ⟨by first | rfl | (simp [errW_none, errW_some] <;> rfl) | (simp [*, errW_none, errW_some] <;> rfl), by repeat (first | (with_reducible first | exact HB.out | apply below_alloc | apply pw_below_drewN | apply below_drew1) | exact HB.out)⟩
  ·
   replace c6 := Bool.eq_false_iff.mpr c6
   subst c6
   have H1 : (some false) = some r := by rw [if_neg (show ¬ (false = true) by decide)] at H; exact H
   clear H
   have H := H1
   clear H1
   obtain rfl := Option.some.inj H
   go_enter Tryd.func37, Tryd.ntmps37
   go_wp2_with (first | ((with_reducible refine gate_callee (f := 38) rfl ?_); refine goesL_ (some 6) rfl rfl Tryd.func38 (by kernel_rfl) rfl #[.slice A0 l0.length c0] rfl (by (try simp only [List.map_toArray, List.map_cons, List.map_nil]); first | done | rfl | (simp only [List.length_drop, List.length_take]; rfl)) ?_; (with_reducible refine (joiner_whole.calls _ _ l0 true _ ?side1 ?side2 A3.out).mono ?_); (case side1 => repeat (first | exact HR0.out | (with_reducible refine Kd.C_alloc ?_ _) | (with_reducible refine Kd.C_drewN ?_ _) | (with_reducible refine Kd.C_drew ?_))); (case side2 => exact HC0.out); rintro e w11 ⟨rfl, hb⟩; refine ⟨_, rfl, ?_⟩; have n0_ := Aside0.mk (below_step (by repeat (first | (with_reducible first | exact HB.out | apply below_alloc | apply pw_below_drewN | apply below_drew1) | exact HB.out)) hb); clear HB; have HB := n0_; clear n0_; (try clear hb); (try clear hb2); (try clear hk); (try clear hi)) | (go_at_call 38; (with_reducible refine (joiner_whole.calls _ _ l1 false _ ?side1 ?side2 A5.out).mono ?_); (case side1 => repeat (first | exact (Kd.C_below HR1.out HB.out) | (with_reducible refine Kd.C_alloc ?_ _) | (with_reducible refine Kd.C_drewN ?_ _) | (with_reducible refine Kd.C_drew ?_))); (case side2 => exact HC1.out); rintro e w12 ⟨rfl, hb⟩; have n0_ := Aside0.mk (below_step (by repeat (first | (with_reducible first | exact HB.out | apply below_alloc | apply pw_below_drewN | apply below_drew1) | exact HB.out)) hb); clear HB; have HB := n0_; clear n0_; (try clear hb); (try clear hb2); (try clear hk); (try clear hi)))
   go_ret
   exact ⟨by first | rfl | (simp [errW_none, errW_some] <;> rfl) | (simp [*, errW_none, errW_some] <;> rfl), by repeat (first | (with_reducible first | exact HB.out | apply below_alloc | apply pw_below_drewN | apply below_drew1) | exact HB.out)⟩
 ·
  replace c4 := Bool.eq_false_iff.mpr c4
  subst c4
  have H1 : (some false) = some r := by rw [if_neg (show ¬ (false = true) by decide)] at H; exact H
  clear H
  have H := H1
  clear H1
  obtain rfl := Option.some.inj H
  go_enter Tryd.func37, Tryd.ntmps37
  go_wp2_with (first | ((with_reducible refine gate_callee (f := 38) rfl ?_); refine goesL_ (some 6) rfl rfl Tryd.func38 (by kernel_rfl) rfl #[.slice A0 l0.length c0] rfl (by (try simp only [List.map_toArray, List.map_cons, List.map_nil]); first | done | rfl | (simp only [List.length_drop, List.length_take]; rfl)) ?_; (with_reducible refine (joiner_whole.calls _ _ l0 false _ ?side1 ?side2 A3.out).mono ?_); (case side1 => repeat (first | exact HR0.out | (with_reducible refine Kd.C_alloc ?_ _) | (with_reducible refine Kd.C_drewN ?_ _) | (with_reducible refine Kd.C_drew ?_))); (case side2 => exact HC0.out); rintro e w13 ⟨rfl, hb⟩; refine ⟨_, rfl, ?_⟩; have n0_ := Aside0.mk (below_step (by repeat (first | (with_reducible first | exact HB.out | apply below_alloc | apply pw_below_drewN | apply below_drew1) | exact HB.out)) hb); clear HB; have HB := n0_; clear n0_; (try clear hb); (try clear hb2); (try clear hk); (try clear hi)))
  go_ret
  exact ⟨by first | rfl | (simp [errW_none, errW_some] <;> rfl) | (simp [*, errW_none, errW_some] <;> rfl), by repeat (first | (with_reducible first | exact HB.out | apply below_alloc | apply pw_below_drewN | apply below_drew1) | exact HB.out)⟩

end Go.Proofs.YtnllgjloimoebaaDoor.X

-- By xprint.py (this session's own program over the kit's print): not trusted: Lean checks it.
namespace Go.Proofs.YtnllgjloimoebaaDoor.X
open Go.RowKit Go.Proofs.YtnllgjloimoebaaDoorW.PrintWords Go.Proofs.YtnllgjloimoebaaDoorW.PrintLast Go.Proofs.YtnllgjloimoebaaDoorW.PrintMore
attribute [local go_sem] max2_int min2_int max_two min_two max_three min_three max_four min_four   -- for this text's walks alone
set_option linter.unusedVariables false
set_option linter.unusedSimpArgs false

/-! ### joiner_Nest: function 22 -/
mutual
def joiner_Nest.l0 : Nat → List (List (S44)) → List (List (S44)) → List (S40) → Int → Int → Option ((List (S40)))
 | 0, _, _, _, _, _ => none
 | k + 1, x0, x1, x5, x9, x10 => if x10 < x9 then (joiner_Nest.l1 k x0 x1 x5 x10 x9 x10 (x1.length : Int) 0) else (some x5)
def joiner_Nest.l1 : Nat → List (List (S44)) → List (List (S44)) → List (S40) → Int → Int → Int → Int → Int → Option ((List (S40)))
 | 0, _, _, _, _, _, _, _, _ => none
 | k + 1, x0, x1, x5, x6, x9, x10, x14, x15 => if x15 < x14 then (if 0 ≤ x6 then (if x6 < (x0.length : Int) then (if 0 ≤ x15 then (if x15 < (x1.length : Int) then ((joiner_meet.f k (rd_L4 x0 x6) (rd_L4 x1 x15)).bind fun t430 => (if t430 = true then (if x5.length < 8796093022208 then (joiner_Nest.l1 k x0 x1 (x5 ++ [(⟨x6, x15⟩ : S40)]) x6 x9 x10 x14 (wrap64 (x15 + 1))) else (none)) else (joiner_Nest.l1 k x0 x1 x5 x6 x9 x10 x14 (wrap64 (x15 + 1))))) else (none)) else (none)) else (none)) else (none)) else (joiner_Nest.l0 k x0 x1 x5 x9 (wrap64 (x10 + 1)))
end
def joiner_Nest.f (k : Nat) (l0 : List (List (S44))) (l1 : List (List (S44))) : Option ((List (S40))) := joiner_Nest.l0 k l0 l1 ([] : List (S40)) (l0.length : Int) 0
def joiner_Nest.T8 : Bool × List (List Nat × List Nat) := (true, [([], []), ([], []), ([0, 1], [0, 1]), ([2], [2]), ([], []), ([], []), ([4, 5], [4, 5]), ([6], [6]), ([3, 7], [3, 7])])
def joiner_Nest.B8 : List Nat := [0, 0, 3, 7, 0, 0, 48, 112, 255]
theorem joiner_Nest.tab8 : rtab .any (opsOf Tryd.f22 8) = joiner_Nest.T8 := by kernel_rfl
theorem joiner_Nest.bits8 : waitsOk joiner_Nest.T8.2 joiner_Nest.B8 = true := by kernel_rfl
set_option maxHeartbeats 8000000 in
set_option maxRecDepth 100000 in
theorem joiner_Nest.calls (k : Nat) (A0 : Option Addr) (c0 : Nat) (l0 : List (List (S44))) (A1 : Option Addr) (c1 : Nat) (l1 : List (List (S44))) (r : List (S40)) (w : World) (hr0 : Kd.C (Kd.slice 44 k44) w A0 l0.length l0) (hc0 : l0.length ≤ c0) (hr1 : Kd.C (Kd.slice 44 k44) w A1 l1.length l1) (hc1 : l1.length ≤ c1) (h : joiner_Nest.f k l0 l1 = some r) :
  Calls Tryd.prog 22 #[.slice A0 l0.length c0, .slice A1 l1.length c1] w fun e w' => ∃ v0_ : Value, e = .returned (v0_) ∧ Kd.R k40 40 w' w.heap.size (fun _ => True) v0_ r ∧ Below w.heap.size w w' := by
 have hu40 := Tryd.underlying40
 have HR0 := Aside0.mk hr0
 have HC0 := Aside0.mk hc0
 clear hr0 hc0
 have HR1 := Aside0.mk hr1
 have HC1 := Aside0.mk hc1
 clear hr1 hc1
 have HB := Aside0.mk (Below.refl w.heap.size w)
 have H : (joiner_Nest.l0 k l0 l1 ([] : List (S40)) (l0.length : Int) 0) = some r := h
 clear h
 have H' := Aside0.mk H
 clear H
 go_enter Tryd.func22, Tryd.ntmps22
 go_wp2
 go_loopg [5, 10] k (fun kq v5 v10 w' => ∃ (x5_1 : List (S40)) (x10_1 : Int), v10 = .int .i64 x10_1 ∧ Aside0 (joiner_Nest.l0 kq l0 l1 x5_1 (l0.length : Int) x10_1 = some r) ∧ Aside0 (kq ≤ k) ∧ Aside0 (Kd.R k40 40 w' w.heap.size (fun _ => True) v5 x5_1) ∧ Aside0 (Below w.heap.size w w'))
 case atStart => exact ⟨(([] : List (S40))), (0), (by first | rfl | (simp; done) | (simp [*]; done)), H', ⟨Nat.le_refl _⟩, ⟨by first | exact Kd.R_nil _ _ _ _ _ | exact Kd.N_nil _ _ _ _ _ | exact Kd.V_nil _ _ _ _ _ | exact Kd.Q_nil _ _ _ _ _ | exact Kd.S_nil _ _ _ _ _⟩, ⟨by repeat (first | (with_reducible first | exact HB.out | apply below_alloc | apply pw_below_drewN | apply below_drew1) | exact HB.out)⟩⟩
 case round =>
  clear H'
  try clear c1
  try clear c2
  try clear p2
  obtain ⟨x5_1, x10_1, rfl, HA, HK1, HO_5, HB⟩ := hrel
  cases gk with
  | zero => exact absurd HA.out (by simp [joiner_Nest.l0])
  | succ k1 =>
   have H := HA.out
   clear HA
   simp only [joiner_Nest.l0] at H
   by_cases c3 : x10_1 < (l0.length : Int)
   ·
    rw [if_pos c3] at H
    have c3b0 : decide (x10_1 < (l0.length : Int)) = true := decide_eq_true c3
    clear c3
    have H' := Aside0.mk H
    clear H
    go_wp2
    go_loopg [5, 15] k1 (fun kq v5 v15 w' => ∃ (x5_2 : List (S40)) (x15_2 : Int), v15 = .int .i64 x15_2 ∧ Aside0 (joiner_Nest.l1 kq l0 l1 x5_2 x10_1 (l0.length : Int) x10_1 (l1.length : Int) x15_2 = some r) ∧ Aside0 (kq ≤ k1) ∧ Aside0 (Kd.R k40 40 w' w.heap.size (fun _ => True) v5 x5_2) ∧ Aside0 (Below w.heap.size w w'))
    case atStart => exact ⟨(x5_1), (0), (by first | rfl | (simp; done) | (simp [*]; done)), H', ⟨Nat.le_refl _⟩, ⟨by (with_reducible repeat (first | apply Kd.R_alloc | apply Kd.R_drewN | apply Kd.R_drew)); exact HO_5.out⟩, ⟨by repeat (first | (with_reducible first | exact HB.out | apply below_alloc | apply pw_below_drewN | apply below_drew1) | exact HB.out)⟩⟩
    case round =>
     clear H'
     try clear c1
     try clear c2
     try clear p2
     try clear c3
     try clear c3b0
     try clear p2
     obtain ⟨x5_2, x15_2, rfl, HA, HK2, HO_5, HB⟩ := hrel
     cases gk with
     | zero => exact absurd HA.out (by simp [joiner_Nest.l1])
     | succ k2 =>
      have H := HA.out
      clear HA
      simp only [joiner_Nest.l1] at H
      by_cases c4 : x15_2 < (l1.length : Int)
      ·
       rw [if_pos c4] at H
       have c4b0 : decide (x15_2 < (l1.length : Int)) = true := decide_eq_true c4
       clear c4
       by_cases c5 : 0 ≤ x10_1
       ·
        rw [if_pos c5] at H
        have c5b0 : decide (0 ≤ x10_1) = true := decide_eq_true c5
        clear c5
        by_cases c6 : x10_1 < (l0.length : Int)
        ·
         rw [if_pos c6] at H
         have c6b0 : decide (x10_1 < (l0.length : Int)) = true := decide_eq_true c6
         clear c6
         by_cases c7 : 0 ≤ x15_2
         ·
          rw [if_pos c7] at H
          have c7b0 : decide (0 ≤ x15_2) = true := decide_eq_true c7
          clear c7
          by_cases c8 : x15_2 < (l1.length : Int)
          ·
           rw [if_pos c8] at H
           have c8b0 : decide (x15_2 < (l1.length : Int)) = true := decide_eq_true c8
           clear c8
           replace H := Option.bind_eq_some_iff.mp H
           obtain ⟨t430, A90, H⟩ := H
           replace H : (if t430 = true then (if x5_2.length < 8796093022208 then (joiner_Nest.l1 k2 l0 l1 (x5_2 ++ [(⟨x10_1, x15_2⟩ : S40)]) x10_1 (l0.length : Int) x10_1 (l1.length : Int) (wrap64 (x15_2 + 1))) else (none)) else (joiner_Nest.l1 k2 l0 l1 x5_2 x10_1 (l0.length : Int) x10_1 (l1.length : Int) (wrap64 (x15_2 + 1)))) = some r := H
           have A9 := Aside0.mk A90
           clear A90
           by_cases c10 : t430 = true
           ·
            subst c10
            have H1 : (if x5_2.length < 8796093022208 then (joiner_Nest.l1 k2 l0 l1 (x5_2 ++ [(⟨x10_1, x15_2⟩ : S40)]) x10_1 (l0.length : Int) x10_1 (l1.length : Int) (wrap64 (x15_2 + 1))) else (none)) = some r := by rw [if_pos rfl] at H; exact H
            clear H
            have H := H1
            clear H1
            by_cases c11 : x5_2.length < 8796093022208
            ·
             rw [if_pos c11] at H
             have LMc11 := Aside0.mk c11
             clear c11
             obtain ⟨y431, hy431⟩ : ∃ y_ : List (S40), y_ = (x5_2 ++ [(⟨x10_1, x15_2⟩ : S40)]) := ⟨_, rfl⟩
             replace H : (joiner_Nest.l1 k2 l0 l1 y431 x10_1 (l0.length : Int) x10_1 (l1.length : Int) (wrap64 (x15_2 + 1))) = some r := by first | (rw [hy431]; with_reducible exact H) | (have H2_ := (Option.bind_some _ _).symm.trans H; rw [hy431]; with_reducible exact H2_) | (have H2_ := (Option.bind_some _ _).symm.trans H; with_reducible exact H2_) | with_reducible exact H | (rw [hy431]; exact H) | exact H
             have Ny431 := Aside0.mk hy431
             clear hy431
             have H' := Aside0.mk H
             clear H
             try go_wp2
             have n0_ := Aside0.mk (Kd.R_drew HO_5.out)
             have n1_ := Aside0.mk (below_drew1 HB.out)
             clear HO_5
             clear HB
             have HO_5 := n0_
             have HB := n1_
             clear n0_ n1_
             have p428 : 0 ≤ (x10_1 : Int) := of_decide_eq_true (by first | (with_reducible assumption) | assumption)
             have q428 : x10_1 < (l0.length : Int) := of_decide_eq_true (by first | (with_reducible assumption) | assumption)
             obtain ⟨ad428, A428_0, c428_0, e428, hx428_0, hl428_0, hi428_0⟩ := at_L4 HR0.out x10_1 p428 q428
             have hw428_0 := hx428_0
             cases e428
             replace hx428_0 := (HB.out.cell (World.block_lt_of_cell? w _ hx428_0)).trans hx428_0
             have HR428_0 := Aside0.mk hi428_0
             have HC428_0 := Aside0.mk hl428_0
             clear hi428_0 hl428_0
             replace p428 := eq_true p428
             replace q428 := eq_true q428
             have p429 : 0 ≤ (x15_2 : Int) := of_decide_eq_true (by first | (with_reducible assumption) | assumption)
             have q429 : x15_2 < (l1.length : Int) := of_decide_eq_true (by first | (with_reducible assumption) | assumption)
             obtain ⟨ad429, A429_0, c429_0, e429, hx429_0, hl429_0, hi429_0⟩ := at_L4 HR1.out x15_2 p429 q429
             have hw429_0 := hx429_0
             cases e429
             replace hx429_0 := (HB.out.cell (World.block_lt_of_cell? w _ hx429_0)).trans hx429_0
             have HR429_0 := Aside0.mk hi429_0
             have HC429_0 := Aside0.mk hl429_0
             clear hi429_0 hl429_0
             replace p429 := eq_true p429
             replace q429 := eq_true q429
             refine start_ (n := 9) (S := fun w' => w'.cell? (ad428.add (x10_1).toNat) = some (.slice A428_0 (rd_L4 l0 x10_1).length c428_0) ∧ w'.cell? (ad429.add (x15_2).toNat) = some (.slice A429_0 (rd_L4 l1 x15_2).length c429_0)) (ds := []) #[false, false, false, false, false, false, false, false, false] (by kernel_rfl) rfl rfl ⟨((HB.out.cell (World.block_lt_of_cell? w _ hw428_0)).trans hw428_0), ((HB.out.cell (World.block_lt_of_cell? w _ hw429_0)).trans hw429_0)⟩ (fun hHeld => ?_); refine with_tabW joiner_Nest.tab8 joiner_Nest.bits8 (fun HT_ HW_ => ?_)
             generalize wr.drew = w12 at HO_5 HB HR428_0 HR429_0 hx428_0 hx429_0 hHeld ⊢
             refine pure_ (i := 0) (N := some 18) (v := ?_) (a' := ?_) #[true, false, false, false, false, false, false, false, false] rfl rfl (any_of HT_.out (by kernel_rfl)) (fun _ _ _ h => h) (Or.inl ⟨by rfl, ?_⟩) ?_ ?_
             rotate_left
             ·
              intro w'
              go_simp
              with_reducible rfl
             rotate_left
             ·
              simp only [Act.put, List.setIfInBounds_toArray, List.set_cons_zero, List.set_cons_succ, i64_w, i32_w]
              rfl
             refine pure_ (i := 1) (N := some 19) (v := ?_) (a' := ?_) #[true, true, false, false, false, false, false, false, false] rfl rfl (any_of HT_.out (by kernel_rfl)) (fun _ _ _ h => h) (Or.inl ⟨by rfl, ?_⟩) ?_ ?_
             rotate_left
             ·
              intro w'
              go_simp
              with_reducible rfl
             rotate_left
             ·
              simp only [Act.put, List.setIfInBounds_toArray, List.set_cons_zero, List.set_cons_succ, i64_w, i32_w]
              rfl
             refine pure_ (i := 2) (N := some 20) (v := ?_) (a' := ?_) #[true, true, true, false, false, false, false, false, false] rfl rfl (any_of HT_.out (by kernel_rfl)) (fun _ _ _ h => h) (Or.inl ⟨by rfl, ?_⟩) ?_ ?_
             rotate_left
             ·
              intro w'
              go_simp
              with_reducible rfl
             rotate_left
             ·
              simp only [Act.put, List.setIfInBounds_toArray, List.set_cons_zero, List.set_cons_succ, i64_w, i32_w]
              rfl
             refine pure_ (i := 4) (N := some 22) (v := ?_) (a' := ?_) #[true, true, true, false, true, false, false, false, false] rfl rfl (any_of HT_.out (by kernel_rfl)) (fun _ _ _ h => h) (Or.inl ⟨by rfl, ?_⟩) ?_ ?_
             rotate_left
             ·
              intro w'
              go_simp
              with_reducible rfl
             rotate_left
             ·
              simp only [Act.put, List.setIfInBounds_toArray, List.set_cons_zero, List.set_cons_succ, i64_w, i32_w]
              rfl
             refine pure_ (i := 5) (N := some 23) (v := ?_) (a' := ?_) #[true, true, true, false, true, true, false, false, false] rfl rfl (any_of HT_.out (by kernel_rfl)) (fun _ _ _ h => h) (Or.inl ⟨by rfl, ?_⟩) ?_ ?_
             rotate_left
             ·
              intro w'
              go_simp
              with_reducible rfl
             rotate_left
             ·
              simp only [Act.put, List.setIfInBounds_toArray, List.set_cons_zero, List.set_cons_succ, i64_w, i32_w]
              rfl
             refine pure_ (i := 6) (N := some 24) (v := ?_) (a' := ?_) #[true, true, true, false, true, true, true, false, false] rfl rfl (any_of HT_.out (by kernel_rfl)) (fun _ _ _ h => h) (Or.inl ⟨by rfl, ?_⟩) ?_ ?_
             rotate_left
             ·
              intro w'
              go_simp
              with_reducible rfl
             rotate_left
             ·
              simp only [Act.put, List.setIfInBounds_toArray, List.set_cons_zero, List.set_cons_succ, i64_w, i32_w]
              rfl
             refine take_ (i := 3) (N := some 21) (v := ?_) (a' := ?_) #[true, true, true, true, true, true, true, false, false] rfl rfl (take_ofW HT_.out HW_.out (by kernel_rfl)) (fun _ _ _ h => h) (Or.inl ⟨by rfl, ?_⟩) hHeld ?_ ?_
             rotate_left
             ·
              rintro w' ⟨s0, s1⟩
              go_simp
              with_reducible rfl
             rotate_left
             ·
              simp only [Act.put, List.setIfInBounds_toArray, List.set_cons_zero, List.set_cons_succ, i64_w, i32_w]
              rfl
             refine take_ (i := 7) (N := some 25) (v := ?_) (a' := ?_) #[true, true, true, true, true, true, true, true, false] rfl rfl (take_ofW HT_.out HW_.out (by kernel_rfl)) (fun _ _ _ h => h) (Or.inl ⟨by rfl, ?_⟩) hHeld ?_ ?_
             rotate_left
             ·
              rintro w' ⟨s0, s1⟩
              go_simp
              with_reducible rfl
             rotate_left
             ·
              simp only [Act.put, List.setIfInBounds_toArray, List.set_cons_zero, List.set_cons_succ, i64_w, i32_w]
              rfl
             refine one_ (i := 8) (N := some 26) #[true, true, true, true, true, true, true, true, true] rfl rfl (one_of HT_.out (by kernel_rfl)) (by decide) (fun K hK => ?_)
             refine goes_ Tryd.func37 (by kernel_rfl) rfl #[.slice A428_0 (rd_L4 l0 x10_1).length c428_0, .slice A429_0 (rd_L4 l1 x15_2).length c429_0] (by rfl) rfl rfl (by (try simp only [List.map_toArray, List.map_cons, List.map_nil]); first | done | rfl | (simp only [List.length_drop, List.length_take]; rfl)) ?_
             with_reducible refine (joiner_meet.calls k2 _ _ (rd_L4 l0 x10_1) _ _ (rd_L4 l1 x15_2) true _ ?side1 ?side2 ?side3 ?side4 A9.out).mono ?_
             (case side1 => repeat (first | exact (Kd.C_below HR428_0.out HB.out) | (with_reducible refine Kd.C_alloc ?_ _) | (with_reducible refine Kd.C_drewN ?_ _) | (with_reducible refine Kd.C_drew ?_)))
             (case side2 => exact HC428_0.out)
             (case side3 => repeat (first | exact (Kd.C_below HR429_0.out HB.out) | (with_reducible refine Kd.C_alloc ?_ _) | (with_reducible refine Kd.C_drewN ?_ _) | (with_reducible refine Kd.C_drew ?_)))
             (case side4 => exact HC429_0.out)
             rintro e w13 ⟨rfl, hb⟩
             refine ⟨_, rfl, ?_⟩
             have n0_ := Aside0.mk (Kd.R_below (by (with_reducible repeat (first | apply Kd.R_alloc | apply Kd.R_drewN | apply Kd.R_drew)); exact HO_5.out) hb)
             have n1_ := Aside0.mk (below_step (by repeat (first | (with_reducible first | exact HB.out | apply below_alloc | apply pw_below_drewN | apply below_drew1) | exact HB.out)) hb)
             clear HO_5
             clear HB
             have HO_5 := n0_
             have HB := n1_
             clear n0_ n1_
             (try clear hb)
             (try clear hb2)
             (try clear hk)
             (try clear hi)
             refine hK.out _ _ ⟨((HB.out.cell (World.block_lt_of_cell? w _ hw428_0)).trans hw428_0), ((HB.out.cell (World.block_lt_of_cell? w _ hw429_0)).trans hw429_0)⟩ (fun hHeld => ?_)
             clear hK K
             refine norm_ (a' := ?_) ?_ ?_
             rotate_left
             ·
              show Act.put _ (some 26) _ = _
              simp only [Act.put, List.setIfInBounds_toArray, List.set_cons_zero, List.set_cons_succ, i64_w, i32_w]
              rfl
             refine done_ (done_of HT_.out (by kernel_rfl)) ?_
             try go_wp2_with (first | ((with_reducible refine gate_builtin (b := .append) (xs := #[.tmp 27, .tmp 31]) rfl ?_); at_builtin; refine Kd.R_append k40 (w0 := w) w.heap.size rfl (.tmp 27) (.tmp 31) 34 40 (.agg #[(.int .i64 0), (.int .i64 0)]) 16 rfl Tryd.underlying34 info40 rfl (by decide) (by omega) u5 x5_2 (⟨x10_1, x15_2⟩ : S40) [.int .i64 x10_1, .int .i64 x15_2] (fun _ => True) (fun _ => False) rfl rfl ?aP (fun _ hk => hk.elim) ?aF ?aO ?aB ?aS ?aL ?_; (case aP => exact k40_mkM _ _ _ (⟨x10_1, x15_2⟩ : S40)); (case aB => exact (by repeat (first | (with_reducible first | exact HB.out | apply below_alloc | apply pw_below_drewN | apply below_drew1) | exact HB.out))); (case aF => exact (fun _ _ => trivial)); (case aO => exact (by (with_reducible repeat (first | apply Kd.R_alloc | apply Kd.R_drewN | apply Kd.R_drew)); exact HO_5.out)); (case aS => exact (below_size (by repeat (first | (with_reducible first | exact HB.out | apply below_alloc | apply pw_below_drewN | apply below_drew1) | exact HB.out)))); (case aL => have := LMc11.out; omega); intro v432 w14 ho hb hg hat; rw [← Ny431.out] at ho; have n0_ := Aside0.mk (hb); have n1_ := Aside0.mk (ho); clear HB; clear HO_5; have HB := n0_; have HO433 := n1_; clear n0_ n1_; clear ho hb hg hat))
             go_roundg k2
             case measure => have := HK1.out; have := HK2.out; omega
             case rel => exact ⟨(y431), (wrap64 (x15_2 + 1)), (by first | rfl | (simp; done) | (simp [*]; done)), H', ⟨by have := HK1.out; have := HK2.out; omega⟩, ⟨by (with_reducible repeat (first | apply Kd.R_alloc | apply Kd.R_drewN | apply Kd.R_drew)); exact HO433.out⟩, ⟨by repeat (first | (with_reducible first | exact HB.out | apply below_alloc | apply pw_below_drewN | apply below_drew1) | exact HB.out)⟩⟩
            ·
             rw [if_neg c11] at H
             exact absurd H (by simp)
           ·
            replace c10 := Bool.eq_false_iff.mpr c10
            subst c10
            have H1 : (joiner_Nest.l1 k2 l0 l1 x5_2 x10_1 (l0.length : Int) x10_1 (l1.length : Int) (wrap64 (x15_2 + 1))) = some r := by rw [if_neg (show ¬ (false = true) by decide)] at H; exact H
            clear H
            have H := H1
            clear H1
            have H' := Aside0.mk H
            clear H
            try go_wp2
            have n0_ := Aside0.mk (Kd.R_drew HO_5.out)
            have n1_ := Aside0.mk (below_drew1 HB.out)
            clear HO_5
            clear HB
            have HO_5 := n0_
            have HB := n1_
            clear n0_ n1_
            have p428 : 0 ≤ (x10_1 : Int) := of_decide_eq_true (by first | (with_reducible assumption) | assumption)
            have q428 : x10_1 < (l0.length : Int) := of_decide_eq_true (by first | (with_reducible assumption) | assumption)
            obtain ⟨ad428, A428_0, c428_0, e428, hx428_0, hl428_0, hi428_0⟩ := at_L4 HR0.out x10_1 p428 q428
            have hw428_0 := hx428_0
            cases e428
            replace hx428_0 := (HB.out.cell (World.block_lt_of_cell? w _ hx428_0)).trans hx428_0
            have HR428_0 := Aside0.mk hi428_0
            have HC428_0 := Aside0.mk hl428_0
            clear hi428_0 hl428_0
            replace p428 := eq_true p428
            replace q428 := eq_true q428
            have p429 : 0 ≤ (x15_2 : Int) := of_decide_eq_true (by first | (with_reducible assumption) | assumption)
            have q429 : x15_2 < (l1.length : Int) := of_decide_eq_true (by first | (with_reducible assumption) | assumption)
            obtain ⟨ad429, A429_0, c429_0, e429, hx429_0, hl429_0, hi429_0⟩ := at_L4 HR1.out x15_2 p429 q429
            have hw429_0 := hx429_0
            cases e429
            replace hx429_0 := (HB.out.cell (World.block_lt_of_cell? w _ hx429_0)).trans hx429_0
            have HR429_0 := Aside0.mk hi429_0
            have HC429_0 := Aside0.mk hl429_0
            clear hi429_0 hl429_0
            replace p429 := eq_true p429
            replace q429 := eq_true q429
            refine start_ (n := 9) (S := fun w' => w'.cell? (ad428.add (x10_1).toNat) = some (.slice A428_0 (rd_L4 l0 x10_1).length c428_0) ∧ w'.cell? (ad429.add (x15_2).toNat) = some (.slice A429_0 (rd_L4 l1 x15_2).length c429_0)) (ds := []) #[false, false, false, false, false, false, false, false, false] (by kernel_rfl) rfl rfl ⟨((HB.out.cell (World.block_lt_of_cell? w _ hw428_0)).trans hw428_0), ((HB.out.cell (World.block_lt_of_cell? w _ hw429_0)).trans hw429_0)⟩ (fun hHeld => ?_); refine with_tabW joiner_Nest.tab8 joiner_Nest.bits8 (fun HT_ HW_ => ?_)
            generalize wr.drew = w15 at HO_5 HB HR428_0 HR429_0 hx428_0 hx429_0 hHeld ⊢
            refine pure_ (i := 0) (N := some 18) (v := ?_) (a' := ?_) #[true, false, false, false, false, false, false, false, false] rfl rfl (any_of HT_.out (by kernel_rfl)) (fun _ _ _ h => h) (Or.inl ⟨by rfl, ?_⟩) ?_ ?_
            rotate_left
            ·
             intro w'
             go_simp
             with_reducible rfl
            rotate_left
            ·
             simp only [Act.put, List.setIfInBounds_toArray, List.set_cons_zero, List.set_cons_succ, i64_w, i32_w]
             rfl
            refine pure_ (i := 1) (N := some 19) (v := ?_) (a' := ?_) #[true, true, false, false, false, false, false, false, false] rfl rfl (any_of HT_.out (by kernel_rfl)) (fun _ _ _ h => h) (Or.inl ⟨by rfl, ?_⟩) ?_ ?_
            rotate_left
            ·
             intro w'
             go_simp
             with_reducible rfl
            rotate_left
            ·
             simp only [Act.put, List.setIfInBounds_toArray, List.set_cons_zero, List.set_cons_succ, i64_w, i32_w]
             rfl
            refine pure_ (i := 2) (N := some 20) (v := ?_) (a' := ?_) #[true, true, true, false, false, false, false, false, false] rfl rfl (any_of HT_.out (by kernel_rfl)) (fun _ _ _ h => h) (Or.inl ⟨by rfl, ?_⟩) ?_ ?_
            rotate_left
            ·
             intro w'
             go_simp
             with_reducible rfl
            rotate_left
            ·
             simp only [Act.put, List.setIfInBounds_toArray, List.set_cons_zero, List.set_cons_succ, i64_w, i32_w]
             rfl
            refine pure_ (i := 4) (N := some 22) (v := ?_) (a' := ?_) #[true, true, true, false, true, false, false, false, false] rfl rfl (any_of HT_.out (by kernel_rfl)) (fun _ _ _ h => h) (Or.inl ⟨by rfl, ?_⟩) ?_ ?_
            rotate_left
            ·
             intro w'
             go_simp
             with_reducible rfl
            rotate_left
            ·
             simp only [Act.put, List.setIfInBounds_toArray, List.set_cons_zero, List.set_cons_succ, i64_w, i32_w]
             rfl
            refine pure_ (i := 5) (N := some 23) (v := ?_) (a' := ?_) #[true, true, true, false, true, true, false, false, false] rfl rfl (any_of HT_.out (by kernel_rfl)) (fun _ _ _ h => h) (Or.inl ⟨by rfl, ?_⟩) ?_ ?_
            rotate_left
            ·
             intro w'
             go_simp
             with_reducible rfl
            rotate_left
            ·
             simp only [Act.put, List.setIfInBounds_toArray, List.set_cons_zero, List.set_cons_succ, i64_w, i32_w]
             rfl
            refine pure_ (i := 6) (N := some 24) (v := ?_) (a' := ?_) #[true, true, true, false, true, true, true, false, false] rfl rfl (any_of HT_.out (by kernel_rfl)) (fun _ _ _ h => h) (Or.inl ⟨by rfl, ?_⟩) ?_ ?_
            rotate_left
            ·
             intro w'
             go_simp
             with_reducible rfl
            rotate_left
            ·
             simp only [Act.put, List.setIfInBounds_toArray, List.set_cons_zero, List.set_cons_succ, i64_w, i32_w]
             rfl
            refine take_ (i := 3) (N := some 21) (v := ?_) (a' := ?_) #[true, true, true, true, true, true, true, false, false] rfl rfl (take_ofW HT_.out HW_.out (by kernel_rfl)) (fun _ _ _ h => h) (Or.inl ⟨by rfl, ?_⟩) hHeld ?_ ?_
            rotate_left
            ·
             rintro w' ⟨s0, s1⟩
             go_simp
             with_reducible rfl
            rotate_left
            ·
             simp only [Act.put, List.setIfInBounds_toArray, List.set_cons_zero, List.set_cons_succ, i64_w, i32_w]
             rfl
            refine take_ (i := 7) (N := some 25) (v := ?_) (a' := ?_) #[true, true, true, true, true, true, true, true, false] rfl rfl (take_ofW HT_.out HW_.out (by kernel_rfl)) (fun _ _ _ h => h) (Or.inl ⟨by rfl, ?_⟩) hHeld ?_ ?_
            rotate_left
            ·
             rintro w' ⟨s0, s1⟩
             go_simp
             with_reducible rfl
            rotate_left
            ·
             simp only [Act.put, List.setIfInBounds_toArray, List.set_cons_zero, List.set_cons_succ, i64_w, i32_w]
             rfl
            refine one_ (i := 8) (N := some 26) #[true, true, true, true, true, true, true, true, true] rfl rfl (one_of HT_.out (by kernel_rfl)) (by decide) (fun K hK => ?_)
            refine goes_ Tryd.func37 (by kernel_rfl) rfl #[.slice A428_0 (rd_L4 l0 x10_1).length c428_0, .slice A429_0 (rd_L4 l1 x15_2).length c429_0] (by rfl) rfl rfl (by (try simp only [List.map_toArray, List.map_cons, List.map_nil]); first | done | rfl | (simp only [List.length_drop, List.length_take]; rfl)) ?_
            with_reducible refine (joiner_meet.calls k2 _ _ (rd_L4 l0 x10_1) _ _ (rd_L4 l1 x15_2) false _ ?side1 ?side2 ?side3 ?side4 A9.out).mono ?_
            (case side1 => repeat (first | exact (Kd.C_below HR428_0.out HB.out) | (with_reducible refine Kd.C_alloc ?_ _) | (with_reducible refine Kd.C_drewN ?_ _) | (with_reducible refine Kd.C_drew ?_)))
            (case side2 => exact HC428_0.out)
            (case side3 => repeat (first | exact (Kd.C_below HR429_0.out HB.out) | (with_reducible refine Kd.C_alloc ?_ _) | (with_reducible refine Kd.C_drewN ?_ _) | (with_reducible refine Kd.C_drew ?_)))
            (case side4 => exact HC429_0.out)
            rintro e w16 ⟨rfl, hb⟩
            refine ⟨_, rfl, ?_⟩
            have n0_ := Aside0.mk (Kd.R_below (by (with_reducible repeat (first | apply Kd.R_alloc | apply Kd.R_drewN | apply Kd.R_drew)); exact HO_5.out) hb)
            have n1_ := Aside0.mk (below_step (by repeat (first | (with_reducible first | exact HB.out | apply below_alloc | apply pw_below_drewN | apply below_drew1) | exact HB.out)) hb)
            clear HO_5
            clear HB
            have HO_5 := n0_
            have HB := n1_
            clear n0_ n1_
            (try clear hb)
            (try clear hb2)
            (try clear hk)
            (try clear hi)
            refine hK.out _ _ ⟨((HB.out.cell (World.block_lt_of_cell? w _ hw428_0)).trans hw428_0), ((HB.out.cell (World.block_lt_of_cell? w _ hw429_0)).trans hw429_0)⟩ (fun hHeld => ?_)
            clear hK K
            refine norm_ (a' := ?_) ?_ ?_
            rotate_left
            ·
             show Act.put _ (some 26) _ = _
             simp only [Act.put, List.setIfInBounds_toArray, List.set_cons_zero, List.set_cons_succ, i64_w, i32_w]
             rfl
            refine done_ (done_of HT_.out (by kernel_rfl)) ?_
            try go_wp2
            go_roundg k2
            case measure => have := HK1.out; have := HK2.out; omega
            case rel => exact ⟨(x5_2), (wrap64 (x15_2 + 1)), (by first | rfl | (simp; done) | (simp [*]; done)), H', ⟨by have := HK1.out; have := HK2.out; omega⟩, ⟨by (with_reducible repeat (first | apply Kd.R_alloc | apply Kd.R_drewN | apply Kd.R_drew)); exact HO_5.out⟩, ⟨by repeat (first | (with_reducible first | exact HB.out | apply below_alloc | apply pw_below_drewN | apply below_drew1) | exact HB.out)⟩⟩
          ·
           rw [if_neg c8] at H
           exact absurd H (by simp)
         ·
          rw [if_neg c7] at H
          exact absurd H (by simp)
        ·
         rw [if_neg c6] at H
         exact absurd H (by simp)
       ·
        rw [if_neg c5] at H
        exact absurd H (by simp)
      ·
       rw [if_neg c4] at H
       have c4b0 : decide (x15_2 < (l1.length : Int)) = false := decide_eq_false c4
       clear c4
       have H' := Aside0.mk H
       clear H
       go_wp2
       go_roundg k2
       case measure => have := HK1.out; have := HK2.out; omega
       case rel => exact ⟨(x5_2), (wrap64 (x10_1 + 1)), (by first | rfl | (simp; done) | (simp [*]; done)), H', ⟨by have := HK1.out; have := HK2.out; omega⟩, ⟨by (with_reducible repeat (first | apply Kd.R_alloc | apply Kd.R_drewN | apply Kd.R_drew)); exact HO_5.out⟩, ⟨by repeat (first | (with_reducible first | exact HB.out | apply below_alloc | apply pw_below_drewN | apply below_drew1) | exact HB.out)⟩⟩
   ·
    rw [if_neg c3] at H
    have c3b0 : decide (x10_1 < (l0.length : Int)) = false := decide_eq_false c3
    clear c3
    obtain rfl := Option.some.inj H
    go_wp2
    go_ret
    exact ⟨_, by first | rfl | (simp [errW_none, errW_some] <;> rfl) | (simp [*, errW_none, errW_some] <;> rfl), by (with_reducible repeat (first | apply Kd.R_alloc | apply Kd.R_drewN | apply Kd.R_drew)); exact HO_5.out, by repeat (first | (with_reducible first | exact HB.out | apply below_alloc | apply pw_below_drewN | apply below_drew1) | exact HB.out)⟩

end Go.Proofs.YtnllgjloimoebaaDoor.X

-- By xprint.py (this session's own program over the kit's print): not trusted: Lean checks it.
namespace Go.Proofs.YtnllgjloimoebaaDoor.X
open Go.RowKit Go.Proofs.YtnllgjloimoebaaDoorW.PrintWords Go.Proofs.YtnllgjloimoebaaDoorW.PrintLast Go.Proofs.YtnllgjloimoebaaDoorW.PrintMore
attribute [local go_sem] max2_int min2_int max_two min_two max_three min_three max_four min_four   -- for this text's walks alone
set_option linter.unusedVariables false
set_option linter.unusedSimpArgs false

/-! ### tabellionref32_meet: function 36 -/
def tabellionref32_meet.l0 : Nat → List (S44) → List (S44) → Int → Option (Bool)
 | 0, _, _, _ => none
 | k + 1, x0, x1, x5 => if x5 < (x0.length : Int) then (if 0 ≤ x5 then (if ((rd_T44 x0 x5).f0) = 0 then (some false) else (tabellionref32_meet.l0 k x0 x1 (wrap64 (x5 + 1)))) else (none)) else ((tabellionref03_Orders.f k x0 x1).bind fun t493 => (some (t493 == 0)))
def tabellionref32_meet.f (k : Nat) (l0 : List (S44)) (l1 : List (S44)) : Option (Bool) := tabellionref32_meet.l0 k l0 l1 0
set_option maxHeartbeats 8000000 in
set_option maxRecDepth 100000 in
theorem tabellionref32_meet.calls (k : Nat) (A0 : Option Addr) (c0 : Nat) (l0 : List (S44)) (A1 : Option Addr) (c1 : Nat) (l1 : List (S44)) (r : Bool) (w : World) (hr0 : Kd.C k44 w A0 l0.length l0) (hc0 : l0.length ≤ c0) (hr1 : Kd.C k44 w A1 l1.length l1) (hc1 : l1.length ≤ c1) (h : tabellionref32_meet.f k l0 l1 = some r) :
  Calls Tryd.prog 36 #[.slice A0 l0.length c0, .slice A1 l1.length c1] w fun e w' => e = .returned (.bool r) ∧ Below w.heap.size w w' := by
 have HR0 := Aside0.mk hr0
 have HC0 := Aside0.mk hc0
 clear hr0 hc0
 have HR1 := Aside0.mk hr1
 have HC1 := Aside0.mk hc1
 clear hr1 hc1
 have HB := Aside0.mk (Below.refl w.heap.size w)
 have H : (tabellionref32_meet.l0 k l0 l1 0) = some r := h
 clear h
 have H' := Aside0.mk H
 clear H
 go_enter Tryd.func36, Tryd.ntmps36
 go_wp2
 go_loopg [5] k (fun kq v5 w' => ∃ (x5_1 : Int), v5 = .int .i64 x5_1 ∧ Aside0 (tabellionref32_meet.l0 kq l0 l1 x5_1 = some r) ∧ Aside0 (kq ≤ k) ∧ Aside0 (Below w.heap.size w w'))
 case atStart => exact ⟨(0), (by first | rfl | (simp; done) | (simp [*]; done)), H', ⟨Nat.le_refl _⟩, ⟨by repeat (first | (with_reducible first | exact HB.out | apply below_alloc | apply pw_below_drewN | apply below_drew1) | exact HB.out)⟩⟩
 case round =>
  clear H'
  try clear c1
  try clear p2
  obtain ⟨x5_1, rfl, HA, HK1, HB⟩ := hrel
  cases gk with
  | zero => exact absurd HA.out (by simp [tabellionref32_meet.l0])
  | succ k1 =>
   have H := HA.out
   clear HA
   simp only [tabellionref32_meet.l0] at H
   by_cases c3 : x5_1 < (l0.length : Int)
   ·
    rw [if_pos c3] at H
    have c3b0 : decide (x5_1 < (l0.length : Int)) = true := decide_eq_true c3
    clear c3
    by_cases c4 : 0 ≤ x5_1
    ·
     rw [if_pos c4] at H
     have c4b0 : decide (0 ≤ x5_1) = true := decide_eq_true c4
     clear c4
     by_cases c5 : ((rd_T44 l0 x5_1).f0) = 0
     ·
      rw [if_pos c5] at H
      have c5b0 : (((rd_T44 l0 x5_1).f0) == 0) = true := beq_iff_eq.mpr c5
      have c5b1 : (((rd_T44 l0 x5_1).f0) != 0) = false := bne_eq_false_iff_eq.mpr c5
      clear c5
      obtain rfl := Option.some.inj H
      have p492 : 0 ≤ (x5_1 : Int) := of_decide_eq_true (by first | (with_reducible assumption) | assumption)
      have q492 : x5_1 < (l0.length : Int) := of_decide_eq_true (by first | (with_reducible assumption) | assumption)
      obtain ⟨ad492, e492, hx492_0, hx492_1, hx492_2⟩ := at_T44 HR0.out x5_1 p492 q492
      cases e492
      replace hx492_0 := (HB.out.cell (World.block_lt_of_cell? w _ hx492_0)).trans hx492_0
      replace hx492_1 := (HB.out.cell (World.block_lt_of_cell? w _ hx492_1)).trans hx492_1
      replace hx492_2 := (HB.out.cell (World.block_lt_of_cell? w _ hx492_2)).trans hx492_2
      replace p492 := eq_true p492
      replace q492 := eq_true q492
      go_wp2
      go_ret
      exact ⟨by first | rfl | (simp [errW_none, errW_some] <;> rfl) | (simp [*, errW_none, errW_some] <;> rfl), by repeat (first | (with_reducible first | exact HB.out | apply below_alloc | apply pw_below_drewN | apply below_drew1) | exact HB.out)⟩
     ·
      rw [if_neg c5] at H
      have c5b0 : (((rd_T44 l0 x5_1).f0) == 0) = false := beq_eq_false_iff_ne.mpr c5
      have c5b1 : (((rd_T44 l0 x5_1).f0) != 0) = true := bne_iff_ne.mpr c5
      have H' := Aside0.mk H
      clear H
      have p492 : 0 ≤ (x5_1 : Int) := of_decide_eq_true (by first | (with_reducible assumption) | assumption)
      have q492 : x5_1 < (l0.length : Int) := of_decide_eq_true (by first | (with_reducible assumption) | assumption)
      obtain ⟨ad492, e492, hx492_0, hx492_1, hx492_2⟩ := at_T44 HR0.out x5_1 p492 q492
      cases e492
      replace hx492_0 := (HB.out.cell (World.block_lt_of_cell? w _ hx492_0)).trans hx492_0
      replace hx492_1 := (HB.out.cell (World.block_lt_of_cell? w _ hx492_1)).trans hx492_1
      replace hx492_2 := (HB.out.cell (World.block_lt_of_cell? w _ hx492_2)).trans hx492_2
      replace p492 := eq_true p492
      replace q492 := eq_true q492
      go_wp2
      go_roundg k1
      case measure => have := HK1.out; omega
      case rel => exact ⟨(wrap64 (x5_1 + 1)), (by first | rfl | (simp; done) | (simp [*]; done)), H', ⟨by have := HK1.out; omega⟩, ⟨by repeat (first | (with_reducible first | exact HB.out | apply below_alloc | apply pw_below_drewN | apply below_drew1) | exact HB.out)⟩⟩
    ·
     rw [if_neg c4] at H
     exact absurd H (by simp)
   ·
    rw [if_neg c3] at H
    have c3b0 : decide (x5_1 < (l0.length : Int)) = false := decide_eq_false c3
    clear c3
    replace H := Option.bind_eq_some_iff.mp H
    obtain ⟨t493, A60, H⟩ := H
    replace H : (some (t493 == 0)) = some r := H
    have A6 := Aside0.mk A60
    clear A60
    obtain rfl := Option.some.inj H
    go_wp2_with (first | ((with_reducible refine gate_callee (f := 30) rfl ?_); refine goesL_ (some 20) rfl rfl Tryd.func30 (by kernel_rfl) rfl #[.slice A0 l0.length c0, .slice A1 l1.length c1] rfl (by (try simp only [List.map_toArray, List.map_cons, List.map_nil]); first | done | rfl | (simp only [List.length_drop, List.length_take]; rfl)) ?_; (with_reducible refine (tabellionref03_Orders.calls k1 _ _ l0 _ _ l1 t493 _ ?side1 ?side2 ?side3 ?side4 A6.out).mono ?_); (case side1 => repeat (first | exact (Kd.C_below HR0.out HB.out) | (with_reducible refine Kd.C_alloc ?_ _) | (with_reducible refine Kd.C_drewN ?_ _) | (with_reducible refine Kd.C_drew ?_))); (case side2 => exact HC0.out); (case side3 => repeat (first | exact (Kd.C_below HR1.out HB.out) | (with_reducible refine Kd.C_alloc ?_ _) | (with_reducible refine Kd.C_drewN ?_ _) | (with_reducible refine Kd.C_drew ?_))); (case side4 => exact HC1.out); rintro e w7 ⟨rfl, hb⟩; refine ⟨_, rfl, ?_⟩; have n0_ := Aside0.mk (below_step (by repeat (first | (with_reducible first | exact HB.out | apply below_alloc | apply pw_below_drewN | apply below_drew1) | exact HB.out)) hb); clear HB; have HB := n0_; clear n0_; (try clear hb); (try clear hb2); (try clear hk); (try clear hi)))
    go_ret
    exact ⟨by first | rfl | (simp [errW_none, errW_some] <;> rfl) | (simp [*, errW_none, errW_some] <;> rfl), by repeat (first | (with_reducible first | exact HB.out | apply below_alloc | apply pw_below_drewN | apply below_drew1) | exact HB.out)⟩

end Go.Proofs.YtnllgjloimoebaaDoor.X

-- By xprint.py (this session's own program over the kit's print): not trusted: Lean checks it.
namespace Go.Proofs.YtnllgjloimoebaaDoor.X
open Go.RowKit Go.Proofs.YtnllgjloimoebaaDoorW.PrintWords Go.Proofs.YtnllgjloimoebaaDoorW.PrintLast Go.Proofs.YtnllgjloimoebaaDoorW.PrintMore
attribute [local go_sem] max2_int min2_int max_two min_two max_three min_three max_four min_four   -- for this text's walks alone
set_option linter.unusedVariables false
set_option linter.unusedSimpArgs false

/-! ### tabellionref32_Nest: function 20 -/
mutual
def tabellionref32_Nest.l0 : Nat → List (List (S44)) → List (List (S44)) → List (S40) → Int → Option ((List (S40)))
 | 0, _, _, _, _ => none
 | k + 1, x0, x1, x5, x6 => if x6 < (x0.length : Int) then (tabellionref32_Nest.l1 k x0 x1 x5 x6 0) else (some x5)
def tabellionref32_Nest.l1 : Nat → List (List (S44)) → List (List (S44)) → List (S40) → Int → Int → Option ((List (S40)))
 | 0, _, _, _, _, _ => none
 | k + 1, x0, x1, x5, x6, x7 => if x7 < (x1.length : Int) then (if 0 ≤ x6 then (if x6 < (x0.length : Int) then (if 0 ≤ x7 then ((tabellionref32_meet.f k (rd_L4 x0 x6) (rd_L4 x1 x7)).bind fun t496 => (if t496 = true then (if x5.length < 8796093022208 then (tabellionref32_Nest.l1 k x0 x1 (x5 ++ [(⟨x6, x7⟩ : S40)]) x6 (wrap64 (x7 + 1))) else (none)) else (tabellionref32_Nest.l1 k x0 x1 x5 x6 (wrap64 (x7 + 1))))) else (none)) else (none)) else (none)) else (tabellionref32_Nest.l0 k x0 x1 x5 (wrap64 (x6 + 1)))
end
def tabellionref32_Nest.f (k : Nat) (l0 : List (List (S44))) (l1 : List (List (S44))) : Option ((List (S40))) := tabellionref32_Nest.l0 k l0 l1 ([] : List (S40)) 0
def tabellionref32_Nest.T8 : Bool × List (List Nat × List Nat) := (true, [([], []), ([], []), ([0, 1], [0, 1]), ([2], [2]), ([], []), ([], []), ([4, 5], [4, 5]), ([6], [6]), ([3, 7], [3, 7])])
def tabellionref32_Nest.B8 : List Nat := [0, 0, 3, 7, 0, 0, 48, 112, 255]
theorem tabellionref32_Nest.tab8 : rtab .any (opsOf Tryd.f20 8) = tabellionref32_Nest.T8 := by kernel_rfl
theorem tabellionref32_Nest.bits8 : waitsOk tabellionref32_Nest.T8.2 tabellionref32_Nest.B8 = true := by kernel_rfl
end Go.Proofs.YtnllgjloimoebaaDoor.X

/- Nest, Hash and Merge are the document's: all pairs of places whose keys meet, in order. -/
set_option linter.unusedVariables false
set_option linter.unusedSimpArgs false
namespace Go.Proofs.YtnllgjloimoebaaDoor.X
open Go.RowKit Go.Proofs.YtnllgjloimoebaaDoorW.PrintWords

/-- two keys meet -/
def meetP (a b : List S44) : Bool := wholeP a && (rcmp a b == 0)
theorem meetP_iff {a b : List S44} : meetP a b = true ↔ wholeP a = true ∧ a = b := by
  unfold meetP
  rw [Bool.and_eq_true, beq_iff_eq, rcmp_zero]
theorem meet_ev (a b : List S44) (ha : a.length ≤ 1099511627776) (hb : b.length ≤ 1099511627776) : Ev (fun k => joiner_meet.f k a b) (meetP a b) := by
  unfold joiner_meet.f joiner_whole.f
  rw [if_pos ha, if_pos hb]
  refine Ev.bind (v := wholeP a) (Ev.const _) ?_
  by_cases h1 : wholeP a = true
  · refine Ev.congr ?_ (fun k => by rw [if_pos h1])
    refine Ev.bind (v := wholeP b) (Ev.const _) ?_
    by_cases h2 : wholeP b = true
    · refine Ev.congr ?_ (fun k => by rw [if_pos h2])
      refine Ev.bind (orders_ev a b (by omega)) ?_
      unfold meetP
      rw [h1, Bool.true_and]
      exact Ev.const _
    · refine Ev.congr (Ev.const _) (fun k => ?_)
      rw [if_neg h2]
      congr 1
      symm
      rw [Bool.eq_false_iff]
      intro h
      have := meetP_iff.1 h
      exact h2 (this.2 ▸ h1)
  · refine Ev.congr (Ev.const _) (fun k => ?_)
    rw [if_neg h1]
    congr 1
    symm
    rw [Bool.eq_false_iff]
    intro h
    exact h1 (meetP_iff.1 h).1
theorem rmeet_loop (a b : List S44) (ha : short a) : ∀ (n i : Nat), a.length - i = n → i ≤ a.length → Ev (fun k => tabellionref32_meet.l0 k a b (i : Int)) ((a.drop i).all (fun x => !nullV x) && (rcmp a b == 0))
  | n, i, hn, hi => by
    have hw := w64 i (by have := ha.1; omega)
    refine Ev.succ ?_ (fun k => by rw [tabellionref32_meet.l0, hw])
    by_cases h1 : i < a.length
    · refine Ev.congr ?_ (fun k => by rw [if_pos (by omega : (i : Int) < (a.length : Int)), if_pos (by omega : (0 : Int) ≤ (i : Int)), getD_T44])
      rw [drop_getD a z44 i h1, List.all_cons]
      by_cases h2 : (a.getD i z44).f0 = 0
      · refine Ev.congr (Ev.const _) (fun k => ?_)
        rw [if_pos h2]
        have : nullV (a.getD i z44) = true := by unfold nullV; rw [h2]; rfl
        rw [this]
        rfl
      · have : nullV (a.getD i z44) = false := by unfold nullV; exact beq_eq_false_iff_ne.2 h2
        rw [this]
        match n, hn with
        | n + 1, hn =>
          exact Ev.congr (rmeet_loop a b ha n (i + 1) (by omega) (by omega)) (fun k => by rw [if_neg h2])
        | 0, hn => omega
    · rw [List.drop_eq_nil_of_le (by omega : a.length ≤ i)]
      refine Ev.congr ?_ (fun k => by rw [if_neg (by omega : ¬ (i : Int) < (a.length : Int))])
      exact Ev.bind (rorders_ev a b ha) (Ev.const _)
theorem rmeet_ev (a b : List S44) (ha : short a) : Ev (fun k => tabellionref32_meet.f k a b) (meetP a b) := rmeet_loop a b ha _ 0 rfl (Nat.zero_le _)

/-! ### the pairs, in order -/
def rowFrom (a : List S44) (i : Int) : Nat → List (List S44) → List S40
  | _, [] => []
  | j, b :: bs => if meetP a b then ⟨i, (j : Int)⟩ :: rowFrom a i (j + 1) bs else rowFrom a i (j + 1) bs
def nestFrom (r : List (List S44)) : Nat → List (List S44) → List S40
  | _, [] => []
  | i, a :: ys => rowFrom a (i : Int) 0 r ++ nestFrom r (i + 1) ys
def nestP (l r : List (List S44)) : List S40 := nestFrom r 0 l
theorem rowFrom_len (a : List S44) (i : Int) : ∀ j bs, (rowFrom a i j bs).length ≤ bs.length
  | _, [] => by simp [rowFrom]
  | j, b :: bs => by
    have := rowFrom_len a i (j + 1) bs
    unfold rowFrom
    split <;> simp <;> omega
theorem rowFrom_snoc (a : List S44) (i : Int) (b : List S44) : ∀ j bs, rowFrom a i j (bs ++ [b]) = rowFrom a i j bs ++ (if meetP a b then [⟨i, ((j + bs.length : Nat) : Int)⟩] else [])
  | j, [] => by simp [rowFrom]
  | j, c :: bs => by
    have h := rowFrom_snoc a i b (j + 1) bs
    have e : j + 1 + bs.length = j + (c :: bs).length := by simp; omega
    rw [e] at h
    rw [List.cons_append, rowFrom, rowFrom, h]
    split <;> simp
theorem nestFrom_snoc (r : List (List S44)) (a : List S44) : ∀ i ys, nestFrom r i (ys ++ [a]) = nestFrom r i ys ++ rowFrom a ((i + ys.length : Nat) : Int) 0 r
  | i, [] => by simp [nestFrom]
  | i, c :: ys => by
    have h := nestFrom_snoc r a (i + 1) ys
    have e : i + 1 + ys.length = i + (c :: ys).length := by simp; omega
    rw [e] at h
    rw [List.cons_append, nestFrom, nestFrom, h, List.append_assoc]

def lens (l : List (List S44)) : Prop := l.length ≤ 1048576 ∧ ∀ r ∈ l, r.length ≤ 1099511627776
theorem lens_rd {l : List (List S44)} (h : lens l) (i : Nat) : (l.getD i []).length ≤ 1099511627776 := by
  by_cases hi : i < l.length
  · exact h.2 _ (getD_mem _ _ _ hi)
  · rw [List.getD_eq_getElem?_getD, List.getElem?_eq_none (by omega)]; simp
theorem rd4 (l : List (List S44)) (i : Nat) : rd_L4 l (i : Int) = l.getD i [] := by unfold rd_L4; rw [Int.toNat_natCast]

theorem nest_l1 (l r : List (List S44)) (hl : lens l) (hr : lens r) (i : Nat) (hi : i < l.length) (L I : Int) (v : List S40) : ∀ (n j : Nat) (o : List S40), r.length - j = n → j ≤ r.length → o.length ≤ i * 1048576 + j →
    (∀ o', o' = o ++ rowFrom (l.getD i []) (i : Int) j (r.drop j) → Ev (fun k => joiner_Nest.l0 k l r o' L (wrap64 (I + 1))) v) → Ev (fun k => joiner_Nest.l1 k l r o (i : Int) L I (r.length : Int) (j : Int)) v
  | n, j, o, hn, hj, ho, hv => by
    have hil := hl.1
    have hrl := hr.1
    have hm : i * 1048576 ≤ 1099511627776 := by omega
    have hol : o.length < 8796093022208 := by clear hv; omega
    refine Ev.succ ?_ (fun k => by rw [joiner_Nest.l1, w64 j (by omega)])
    by_cases h1 : j < r.length
    · rw [drop_getD r [] j h1] at hv
      refine Ev.congr ?_ (fun k => by rw [if_pos (by omega : (j : Int) < (r.length : Int)), if_pos (by omega : (0 : Int) ≤ (i : Int)), if_pos (by omega : (i : Int) < (l.length : Int)), if_pos (by omega : (0 : Int) ≤ (j : Int)), if_pos (by omega : (j : Int) < (r.length : Int)), rd4, rd4])
      refine Ev.bind (meet_ev _ _ (lens_rd hl i) (lens_rd hr j)) ?_
      match n, hn with
      | n + 1, hn =>
        by_cases h2 : meetP (l.getD i []) (r.getD j []) = true
        · refine Ev.congr ?_ (fun k => by rw [if_pos h2, if_pos hol])
          refine nest_l1 l r hl hr i hi L I v n (j + 1) _ (by clear hv hol; omega) (by clear hv hol; omega) (by clear hv hol; rw [List.length_append, List.length_singleton]; omega) (fun o' ho' => hv o' ?_)
          rw [ho', rowFrom, if_pos h2, List.append_assoc, List.singleton_append]
        · refine Ev.congr ?_ (fun k => by rw [if_neg h2])
          refine nest_l1 l r hl hr i hi L I v n (j + 1) _ (by omega) (by omega) (by omega) (fun o' ho' => hv o' ?_)
          rw [ho', rowFrom, if_neg h2]
      | 0, hn => omega
    · rw [List.drop_eq_nil_of_le (by omega : r.length ≤ j), rowFrom, List.append_nil] at hv
      exact Ev.congr (hv _ rfl) (fun k => by rw [if_neg (by omega : ¬ (j : Int) < (r.length : Int))])
theorem nest_l0 (l r : List (List S44)) (hl : lens l) (hr : lens r) : ∀ (n i : Nat) (o : List S40), l.length - i = n → i ≤ l.length → o.length ≤ i * 1048576 →
    Ev (fun k => joiner_Nest.l0 k l r o (l.length : Int) (i : Int)) (o ++ nestFrom r i (l.drop i))
  | n, i, o, hn, hi, ho => by
    have hil := hl.1
    refine Ev.succ ?_ (fun k => by rw [joiner_Nest.l0])
    by_cases h1 : i < l.length
    · rw [drop_getD l [] i h1, nestFrom, ← List.append_assoc]
      refine Ev.congr ?_ (fun k => by rw [if_pos (by omega : (i : Int) < (l.length : Int))])
      refine nest_l1 l r hl hr i h1 _ _ _ _ 0 o rfl (Nat.zero_le _) (by rw [Nat.add_zero]; exact ho) (fun o' ho' => ?_)
      rw [w64 i (by omega)]
      rw [List.drop_zero] at ho'
      subst ho'
      match n, hn with
      | n + 1, hn =>
        refine nest_l0 l r hl hr n (i + 1) _ (by omega) (by omega) ?_
        have := rowFrom_len (l.getD i []) (i : Int) 0 r
        have := hr.1
        rw [List.length_append, Nat.succ_mul]; omega
      | 0, hn => omega
    · rw [List.drop_eq_nil_of_le (by omega : l.length ≤ i), nestFrom, List.append_nil]
      exact Ev.congr (Ev.const _) (fun k => by rw [if_neg (by omega : ¬ (i : Int) < (l.length : Int))])
theorem nest_ev (l r : List (List S44)) (hl : lens l) (hr : lens r) : Ev (fun k => joiner_Nest.f k l r) (nestP l r) := nest_l0 l r hl hr _ 0 [] rfl (Nat.zero_le _) (by simp)

theorem rnest_l1 (l r : List (List S44)) (hl : lens l) (hr : lens r) (hs : shorts l) (i : Nat) (hi : i < l.length) (v : List S40) : ∀ (n j : Nat) (o : List S40), r.length - j = n → j ≤ r.length → o.length ≤ i * 1048576 + j →
    (∀ o', o' = o ++ rowFrom (l.getD i []) (i : Int) j (r.drop j) → Ev (fun k => tabellionref32_Nest.l0 k l r o' ((i + 1 : Nat) : Int)) v) → Ev (fun k => tabellionref32_Nest.l1 k l r o (i : Int) (j : Int)) v
  | n, j, o, hn, hj, ho, hv => by
    have hil := hl.1
    have hrl := hr.1
    have hm : i * 1048576 ≤ 1099511627776 := by omega
    have hol : o.length < 8796093022208 := by clear hv; omega
    refine Ev.succ ?_ (fun k => by rw [tabellionref32_Nest.l1, w64 j (by omega), w64 i (by omega)])
    by_cases h1 : j < r.length
    · rw [drop_getD r [] j h1] at hv
      refine Ev.congr ?_ (fun k => by rw [if_pos (by omega : (j : Int) < (r.length : Int)), if_pos (by omega : (0 : Int) ≤ (i : Int)), if_pos (by omega : (i : Int) < (l.length : Int)), if_pos (by omega : (0 : Int) ≤ (j : Int))])
      have hsi := shorts_rd hs (i : Int)
      refine Ev.bind (rmeet_ev _ _ hsi) ?_
      rw [rd4, rd4]
      match n, hn with
      | n + 1, hn =>
        by_cases h2 : meetP (l.getD i []) (r.getD j []) = true
        · refine Ev.congr ?_ (fun k => by rw [if_pos h2, if_pos hol])
          refine rnest_l1 l r hl hr hs i hi v n (j + 1) _ (by clear hv hol; omega) (by clear hv hol; omega) (by clear hv hol; rw [List.length_append, List.length_singleton]; omega) (fun o' ho' => hv o' ?_)
          rw [ho', rowFrom, if_pos h2, List.append_assoc, List.singleton_append]
        · refine Ev.congr ?_ (fun k => by rw [if_neg h2])
          refine rnest_l1 l r hl hr hs i hi v n (j + 1) _ (by omega) (by omega) (by omega) (fun o' ho' => hv o' ?_)
          rw [ho', rowFrom, if_neg h2]
      | 0, hn => omega
    · rw [List.drop_eq_nil_of_le (by omega : r.length ≤ j), rowFrom, List.append_nil] at hv
      exact Ev.congr (hv _ rfl) (fun k => by rw [if_neg (by omega : ¬ (j : Int) < (r.length : Int))])
theorem rnest_l0 (l r : List (List S44)) (hl : lens l) (hr : lens r) (hs : shorts l) : ∀ (n i : Nat) (o : List S40), l.length - i = n → i ≤ l.length → o.length ≤ i * 1048576 →
    Ev (fun k => tabellionref32_Nest.l0 k l r o (i : Int)) (o ++ nestFrom r i (l.drop i))
  | n, i, o, hn, hi, ho => by
    have hil := hl.1
    refine Ev.succ ?_ (fun k => by rw [tabellionref32_Nest.l0])
    by_cases h1 : i < l.length
    · rw [drop_getD l [] i h1, nestFrom, ← List.append_assoc]
      refine Ev.congr ?_ (fun k => by rw [if_pos (by omega : (i : Int) < (l.length : Int))])
      refine rnest_l1 l r hl hr hs i h1 _ _ 0 o rfl (Nat.zero_le _) (by rw [Nat.add_zero]; exact ho) (fun o' ho' => ?_)
      rw [List.drop_zero] at ho'
      subst ho'
      match n, hn with
      | n + 1, hn =>
        refine rnest_l0 l r hl hr hs n (i + 1) _ (by omega) (by omega) ?_
        have := rowFrom_len (l.getD i []) (i : Int) 0 r
        have := hr.1
        rw [List.length_append, Nat.succ_mul]; omega
      | 0, hn => omega
    · rw [List.drop_eq_nil_of_le (by omega : l.length ≤ i), nestFrom, List.append_nil]
      exact Ev.congr (Ev.const _) (fun k => by rw [if_neg (by omega : ¬ (i : Int) < (l.length : Int))])
theorem rnest_ev (l r : List (List S44)) (hl : lens l) (hr : lens r) (hs : shorts l) : Ev (fun k => tabellionref32_Nest.f k l r) (nestP l r) := rnest_l0 l r hl hr hs _ 0 [] rfl (Nat.zero_le _) (by simp)

/-! ### Hash -/
theorem take_succ_getD (l : List (List S44)) (k : Nat) (h : k < l.length) : l.take (k + 1) = l.take k ++ [l.getD k []] := by
  rw [List.take_succ_eq_append_getElem h, List.getD_eq_getElem?_getD, List.getElem?_eq_getElem h]; rfl
theorem ktext_inj2 : ∀ {a b : List S44}, ktext a = ktext b → a = b
  | [], [], _ => rfl
  | [], y :: b, h => by
    exfalso
    have h1 : (32 : UInt8) ∈ ktext (y :: b) := by unfold ktext; rw [List.flatMap_cons]; unfold vtext; simp
    rw [← h] at h1
    simp [ktext] at h1
  | x :: a, [], h => by
    exfalso
    have h1 : (32 : UInt8) ∈ ktext (x :: a) := by unfold ktext; rw [List.flatMap_cons]; unfold vtext; simp
    rw [h] at h1
    simp [ktext] at h1
  | x :: a, y :: b, h => by
    unfold ktext at h
    rw [List.flatMap_cons, List.flatMap_cons] at h
    obtain ⟨h1, h2⟩ := vtext_inj h
    rw [h1, ktext_inj2 h2]
theorem hashF_row (r : List (List S44)) (a : List S44) (ha : wholeP a = true) (i : Int) : ∀ m, m ≤ r.length → (hashF r m (ktext a)).map (fun j => (⟨i, j⟩ : S40)) = rowFrom a i 0 (r.take m)
  | 0, _ => by simp [hashF, rowFrom]
  | m + 1, h => by
    rw [take_succ_getD r m (by omega), rowFrom_snoc, ← hashF_row r a ha i m (by omega), hashF]
    rw [show 0 + (r.take m).length = m by rw [List.length_take]; omega]
    show List.map _ (if wholeP (r.getD m []) = true ∧ ktext a = ktext (r.getD m []) then hashF r m (ktext a) ++ [(m : Int)] else hashF r m (ktext a)) = _
    by_cases h1 : meetP a (r.getD m []) = true
    · have h2 := meetP_iff.1 h1
      have h3 : wholeP (r.getD m []) = true := h2.2 ▸ ha
      have h4 : ktext a = ktext (r.getD m []) := by rw [← h2.2]
      rw [if_pos (And.intro h3 h4), if_pos h1, List.map_append]; rfl
    · rw [if_neg (fun h => h1 (meetP_iff.2 ⟨ha, ktext_inj2 h.2⟩)), if_neg h1, List.append_nil]
theorem rowFrom_null (a : List S44) (ha : ¬ wholeP a = true) (i : Int) : ∀ j bs, rowFrom a i j bs = []
  | _, [] => rfl
  | j, b :: bs => by
    rw [rowFrom, if_neg (fun h => ha (meetP_iff.1 h).1)]
    exact rowFrom_null a ha i (j + 1) bs
theorem hashP_from (l r : List (List S44)) : ∀ m, m ≤ l.length → hashP l r m = nestFrom r 0 (l.take m)
  | 0, _ => rfl
  | m + 1, h => by
    rw [take_succ_getD l m (by omega), nestFrom_snoc, ← hashP_from l r m (by omega), hashP]
    rw [show 0 + (l.take m).length = m by rw [List.length_take]; omega]
    by_cases h1 : wholeP (l.getD m []) = true
    · rw [if_pos h1, hashF_row r _ h1 _ r.length (Nat.le_refl _), List.take_length]
    · rw [if_neg h1, rowFrom_null _ h1, List.append_nil]
theorem hashP_eq (l r : List (List S44)) : hashP l r l.length = nestP l r := by rw [hashP_from l r _ (Nat.le_refl _), List.take_length]; rfl

/-! ### Merge -/
/-- the pairs of places whose keys are one -/
def rowX (l r : List (List S44)) (B : List Int) (p : Int) : List S40 := (B.filter fun q => rcmp (rd_L4 l p) (rd_L4 r q) == 0).map fun q => ⟨p, q⟩
def pairsP (l r : List (List S44)) (A B : List Int) : List S40 := A.flatMap (rowX l r B)
theorem rowX_from (l r : List (List S44)) (p : Nat) (hp : wholeP (l.getD p []) = true) : ∀ m, m ≤ r.length → rowX l r (wholesTo r m) (p : Int) = rowFrom (l.getD p []) (p : Int) 0 (r.take m)
  | 0, _ => by simp [rowX, wholesTo, rowFrom]
  | m + 1, h => by
    rw [take_succ_getD r m (by omega), rowFrom_snoc, ← rowX_from l r p hp m (by omega), wholesTo]
    rw [show 0 + (r.take m).length = m by rw [List.length_take]; omega]
    unfold rowX
    by_cases h1 : meetP (l.getD p []) (r.getD m []) = true
    · have h2 := meetP_iff.1 h1
      have h3 : ((r.getD m []).all fun x => !nullV x) = true := h2.2 ▸ hp
      rw [if_pos h3, if_pos h1, List.filter_append, List.map_append]
      congr 1
      rw [List.filter_cons, if_pos (by rw [rd4, rd4, ← h2.2, rcmp_self]; rfl)]
      rfl
    · rw [if_neg h1, List.append_nil]
      split
      · rw [List.filter_append, List.filter_cons, if_neg (by
          intro h
          rw [rd4, rd4, beq_iff_eq, rcmp_zero] at h
          exact h1 (meetP_iff.2 ⟨hp, h⟩)), List.filter_nil, List.append_nil]
      · rfl
theorem pairsP_from (l r : List (List S44)) : ∀ m, m ≤ l.length → pairsP l r (wholesTo l m) (wholesTo r r.length) = nestFrom r 0 (l.take m)
  | 0, _ => by simp [pairsP, wholesTo, nestFrom]
  | m + 1, h => by
    rw [take_succ_getD l m (by omega), nestFrom_snoc, ← pairsP_from l r m (by omega), wholesTo]
    rw [show 0 + (l.take m).length = m by rw [List.length_take]; omega]
    unfold pairsP
    show List.flatMap _ (if wholeP (l.getD m []) = true then wholesTo l m ++ [(m : Int)] else wholesTo l m) = _
    by_cases h1 : wholeP (l.getD m []) = true
    · rw [if_pos h1, List.flatMap_append, List.flatMap_singleton, rowX_from l r m h1 _ (Nat.le_refl _), List.take_length]
    · rw [if_neg h1, rowFrom_null _ h1, List.append_nil]
theorem pairsP_eq (l r : List (List S44)) : pairsP l r (wholesTo l l.length) (wholesTo r r.length) = nestP l r := by rw [pairsP_from l r _ (Nat.le_refl _), List.take_length]; rfl

theorem rcmp_le_lt {a b c : List S44} (h1 : rcmp a b ≤ 0) (h2 : rcmp b c < 0) : rcmp a c < 0 := by
  by_cases h : rcmp a b = 0
  · rw [rcmp_zero.1 h]; exact h2
  · exact rcmp_trans (by omega) h2
theorem rcmp_lt_le {a b c : List S44} (h1 : rcmp a b < 0) (h2 : rcmp b c ≤ 0) : rcmp a c < 0 := by
  by_cases h : rcmp b c = 0
  · rw [← rcmp_zero.1 h]; exact h1
  · exact rcmp_trans h1 (by omega)
theorem takeWhile_take {α : Type} (p : α → Bool) : ∀ l : List α, l.take (l.takeWhile p).length = l.takeWhile p
  | [] => rfl
  | x :: l => by
    by_cases h : p x = true
    · rw [List.takeWhile_cons_of_pos h, List.length_cons, List.take_succ_cons, takeWhile_take p l]
    · rw [List.takeWhile_cons_of_neg h]; rfl
theorem takeWhile_drop {α : Type} (p : α → Bool) : ∀ l : List α, l.drop (l.takeWhile p).length = l.dropWhile p
  | [] => rfl
  | x :: l => by
    by_cases h : p x = true
    · rw [List.takeWhile_cons_of_pos h, List.length_cons, List.drop_succ_cons, takeWhile_drop p l, List.dropWhile_cons_of_pos h]
    · rw [List.takeWhile_cons_of_neg h, List.dropWhile_cons_of_neg h]; rfl
/-- a run of one key, and what follows it -/
theorem run_split (l : List (List S44)) (a : List Int) (hs : a.Pairwise fun x y => rcmp (rd_L4 l x) (rd_L4 l y) ≤ 0) (i : Nat) (hi : i < a.length) :
    (∀ x ∈ (a.drop i).take (runN l a i), rd_L4 l x = rd_L4 l (rd a (i : Int))) ∧ (∀ y ∈ a.drop (i + runN l a i), rcmp (rd_L4 l (rd a (i : Int))) (rd_L4 l y) < 0) ∧ (∀ x ∈ a.drop i, rcmp (rd_L4 l (rd a (i : Int))) (rd_L4 l x) ≤ 0) := by
  have hd : a.drop i = rd a (i : Int) :: a.drop (i + 1) := by
    rw [drop_getD a 0 i hi]; unfold rd; rw [Int.toNat_natCast]
  have hp := hs.sublist (List.drop_sublist i a)
  rw [hd, List.pairwise_cons] at hp
  refine ⟨?_, ?_, ?_⟩
  · intro x hx
    rw [hd] at hx
    unfold runN at hx
    rw [Nat.add_comm, List.take_succ_cons, takeWhile_take] at hx
    rcases List.mem_cons.1 hx with h | h
    · rw [h]
    · have h2 := List.all_eq_true.1 List.all_takeWhile x h
      rw [beq_iff_eq, rcmp_zero] at h2
      exact h2.symm
  · intro y hy
    unfold runN at hy
    rw [← Nat.add_assoc, ← List.drop_drop, takeWhile_drop] at hy
    have hsub := List.dropWhile_sublist (l := a.drop (i + 1)) (fun p => rcmp (rd_L4 l (rd a (i : Int))) (rd_L4 l p) == 0)
    have hp2 := hp.2.sublist hsub
    cases hc : (a.drop (i + 1)).dropWhile (fun p => rcmp (rd_L4 l (rd a (i : Int))) (rd_L4 l p) == 0) with
    | nil => rw [hc] at hy; simp at hy
    | cons z zs =>
      have hz : rcmp (rd_L4 l (rd a (i : Int))) (rd_L4 l z) < 0 := by
        have h1 := hp.1 z (hsub.subset (by rw [hc]; simp))
        have h2 := List.head?_dropWhile_not (fun p => rcmp (rd_L4 l (rd a (i : Int))) (rd_L4 l p) == 0) (a.drop (i + 1))
        rw [hc] at h2
        simp at h2
        omega
      rw [hc] at hy hp2
      rcases List.mem_cons.1 hy with h | h
      · rw [h]; exact hz
      · exact rcmp_lt_le hz ((List.pairwise_cons.1 hp2).1 y h)
  · intro x hx
    rw [hd] at hx
    rcases List.mem_cons.1 hx with h | h
    · rw [h, rcmp_self]; exact Int.le_refl _
    · exact hp.1 x h
theorem crossP_flat (a b : List Int) (i k n : Nat) : ∀ m, i + m ≤ a.length → crossP a b i k n m = ((a.drop i).take m).flatMap (fun p => rowP p b k n)
  | 0, _ => by simp [crossP]
  | m + 1, h => by
    rw [crossP, crossP_flat a b i k n m (by omega), List.take_succ_eq_append_getElem (by rw [List.length_drop]; omega), List.flatMap_append, List.flatMap_singleton]
    congr 2
    rw [List.getElem_drop]
    unfold rd
    rw [Int.toNat_natCast, List.getD_eq_getElem?_getD, List.getElem?_eq_getElem (by omega)]
    rfl
theorem rowX_none (l r : List (List S44)) (B : List Int) (p : Int) (h : ∀ q ∈ B, rcmp (rd_L4 l p) (rd_L4 r q) ≠ 0) : rowX l r B p = [] := by
  unfold rowX
  rw [List.filter_eq_nil_iff.2 (fun q hq => by rw [beq_iff_eq]; exact h q hq)]; rfl
theorem rowX_app (l r : List (List S44)) (B C : List Int) (p : Int) : rowX l r (B ++ C) p = rowX l r B p ++ rowX l r C p := by
  unfold rowX
  rw [List.filter_append, List.map_append]
theorem pairs_nil (l r : List (List S44)) (A B : List Int) (h : ∀ p ∈ A, ∀ q ∈ B, rcmp (rd_L4 l p) (rd_L4 r q) ≠ 0) : pairsP l r A B = [] := by
  unfold pairsP
  rw [List.flatMap_eq_nil_iff]
  exact fun p hp => rowX_none l r B p (h p hp)
theorem pairs_right (l r : List (List S44)) (A B C : List Int) (h : ∀ p ∈ A, ∀ q ∈ B, rcmp (rd_L4 l p) (rd_L4 r q) ≠ 0) : pairsP l r A (B ++ C) = pairsP l r A C := by
  induction A with
  | nil => rfl
  | cons x A ih =>
    unfold pairsP at *
    rw [List.flatMap_cons, List.flatMap_cons, rowX_app, rowX_none l r B x (h x (by simp)), List.nil_append, ih (fun p hp => h p (by simp [hp]))]
theorem pairs_left (l r : List (List S44)) (A B C : List Int) (h : ∀ p ∈ A, ∀ q ∈ C, rcmp (rd_L4 l p) (rd_L4 r q) ≠ 0) : pairsP l r A (B ++ C) = pairsP l r A B := by
  induction A with
  | nil => rfl
  | cons x A ih =>
    unfold pairsP at *
    rw [List.flatMap_cons, List.flatMap_cons, rowX_app, rowX_none l r C x (h x (by simp)), List.append_nil, ih (fun p hp => h p (by simp [hp]))]
theorem pairs_all (l r : List (List S44)) (A B : List Int) (h : ∀ p ∈ A, ∀ q ∈ B, rcmp (rd_L4 l p) (rd_L4 r q) = 0) : pairsP l r A B = A.flatMap (fun p => B.map fun q => (⟨p, q⟩ : S40)) := by
  induction A with
  | nil => rfl
  | cons x A ih =>
    unfold pairsP at *
    rw [List.flatMap_cons, List.flatMap_cons, ih (fun p hp => h p (by simp [hp]))]
    congr 1
    unfold rowX
    rw [List.filter_eq_self.2 (fun q hq => by rw [beq_iff_eq]; exact h x (by simp) q hq)]
theorem pairs_app (l r : List (List S44)) (A B C : List Int) : pairsP l r (A ++ B) C = pairsP l r A C ++ pairsP l r B C := List.flatMap_append ..

theorem mergeGo_eq (l r : List (List S44)) (a b : List Int) (ha : a.Pairwise fun x y => rcmp (rd_L4 l x) (rd_L4 l y) ≤ 0) (hb : b.Pairwise fun x y => rcmp (rd_L4 r x) (rd_L4 r y) ≤ 0) :
    ∀ (f i k : Nat) (o : List S40), (a.length - i) + (b.length - k) ≤ f → mergeGo l r a b f i k o = o ++ pairsP l r (a.drop i) (b.drop k)
  | 0, i, k, o, h => by
    rw [mergeGo, List.drop_eq_nil_of_le (by omega : a.length ≤ i)]
    simp [pairsP]
  | f + 1, i, k, o, h => by
    rw [mergeGo]
    split
    · rename_i hik
      obtain ⟨hi, hk⟩ := hik
      obtain ⟨ha1, ha2, ha3⟩ := run_split l a ha i hi
      obtain ⟨hb1, hb2, hb3⟩ := run_split r b hb k hk
      have hm := runN_le l a i hi
      have hn := runN_le r b k hk
      have hm0 : 1 ≤ runN l a i := by unfold runN; omega
      have hn0 : 1 ≤ runN r b k := by unfold runN; omega
      have ea : a.drop i = (a.drop i).take (runN l a i) ++ a.drop (i + runN l a i) := by
        rw [← List.drop_drop, List.take_append_drop]
      have eb : b.drop k = (b.drop k).take (runN r b k) ++ b.drop (k + runN r b k) := by
        rw [← List.drop_drop, List.take_append_drop]
      obtain ⟨c, hc⟩ : ∃ c, c = rcmp (rd_L4 l (rd a (i : Int))) (rd_L4 r (rd b (k : Int))) := ⟨_, rfl⟩
      have hneg := rcmp_neg (rd_L4 l (rd a (i : Int))) (rd_L4 r (rd b (k : Int)))
      rw [← hc] at hneg ⊢
      rcases Int.lt_trichotomy c 0 with h0 | h0 | h0
      · rw [if_pos (by omega : c ≤ 0), if_neg (by omega : ¬ c ≥ 0), if_neg (by omega : ¬ c = 0), mergeGo_eq l r a b ha hb f _ k o (by omega)]
        have e1 : pairsP l r ((a.drop i).take (runN l a i)) (b.drop k) = [] := pairs_nil l r _ _ (fun p hp q hq => by
          rw [ha1 p hp]
          have := rcmp_lt_le (by omega : rcmp (rd_L4 l (rd a (i : Int))) (rd_L4 r (rd b (k : Int))) < 0) (hb3 q hq)
          omega)
        conv => rhs; rw [ea, pairs_app, e1, List.nil_append]
      · rw [if_pos (by omega : c ≤ 0), if_pos (by omega : c ≥ 0), if_pos h0, mergeGo_eq l r a b ha hb f _ _ _ (by omega), List.append_assoc]
        have hkey : rd_L4 l (rd a (i : Int)) = rd_L4 r (rd b (k : Int)) := rcmp_zero.1 (by omega)
        have e1 : pairsP l r ((a.drop i).take (runN l a i)) (b.drop k) = crossP a b i k (runN r b k) (runN l a i) := by
          rw [crossP_flat a b i k _ _ hm]
          conv => lhs; rw [eb]
          rw [pairs_left l r _ _ _ (fun p hp q hq => by
            rw [ha1 p hp, hkey]
            have := hb2 q hq
            omega), pairs_all l r _ _ (fun p hp q hq => by rw [ha1 p hp, hb1 q hq, hkey, rcmp_self])]
          rfl
        have e2 : pairsP l r (a.drop (i + runN l a i)) (b.drop k) = pairsP l r (a.drop (i + runN l a i)) (b.drop (k + runN r b k)) := by
          conv => lhs; rw [eb]
          rw [pairs_right l r _ _ _ (fun p hp q hq => by
            have h1 := ha2 p hp
            rw [hb1 q hq, ← hkey]
            have := rcmp_neg (rd_L4 l (rd a (i : Int))) (rd_L4 l p)
            omega)]
        conv => rhs; rw [ea, pairs_app, e1, e2]
      · rw [if_neg (by omega : ¬ c ≤ 0), if_pos (by omega : c ≥ 0), if_neg (by omega : ¬ c = 0), mergeGo_eq l r a b ha hb f i _ o (by omega)]
        have e2 : pairsP l r (a.drop i) (b.drop k) = pairsP l r (a.drop i) (b.drop (k + runN r b k)) := by
          conv => lhs; rw [eb]
          rw [pairs_right l r _ _ _ (fun p hp q hq => by
            rw [hb1 q hq]
            have h1 := rcmp_lt_le (by omega : rcmp (rd_L4 r (rd b (k : Int))) (rd_L4 l (rd a (i : Int))) < 0) (ha3 p hp)
            have := rcmp_neg (rd_L4 r (rd b (k : Int))) (rd_L4 l p)
            omega)]
        rw [e2]
    · rename_i hik
      by_cases hi : i < a.length
      · rw [List.drop_eq_nil_of_le (by omega : b.length ≤ k), pairs_nil l r _ _ (by simp), List.append_nil]
      · rw [List.drop_eq_nil_of_le (by omega : a.length ≤ i)]
        simp [pairsP]
theorem ranked_pw (l : List (List S44)) : (rankedP l).Pairwise fun x y => rcmp (rd_L4 l x) (rd_L4 l y) ≤ 0 := by
  have h1 : (rankedP l).Pairwise (fun a b => (!decide (rkc l b a < 0)) = true) := by
    unfold rankedP
    refine List.pairwise_mergeSort (fun a b c h1 h2 => ?_) (fun a b => ?_) _
    · simp only [Bool.not_eq_true', decide_eq_false_iff_not] at *
      intro h
      have e1 := rkc_neg l a b
      by_cases h3 : rkc l a b = 0
      · rw [rkc_zero l h3] at h; exact h2 h
      · exact h2 (rkc_trans l h (by omega))
    · simp only [Bool.or_eq_true, Bool.not_eq_true', decide_eq_false_iff_not]
      have := rkc_neg l a b
      omega
  refine h1.imp ?_
  intro a b h
  simp only [Bool.not_eq_true', decide_eq_false_iff_not] at h
  have e := rcmp_neg (rd_L4 l a) (rd_L4 l b)
  unfold rkc at h
  split at h
  · omega
  · omega
theorem wholesTo_pw (l : List (List S44)) : ∀ k, (wholesTo l k).Pairwise fun x y => x < y
  | 0 => by simp [wholesTo]
  | k + 1 => by
    unfold wholesTo
    split
    · rw [List.pairwise_append]
      refine ⟨wholesTo_pw l k, by simp, fun a ha b hb => ?_⟩
      rw [List.mem_singleton.1 hb]
      have := wholesTo_in l k a ha
      omega
    · exact wholesTo_pw l k
theorem nestP_pw (l r : List (List S44)) : (nestP l r).Pairwise fun x y => pcmp x y < 0 := by
  rw [← pairsP_eq]
  unfold pairsP
  rw [List.pairwise_flatMap]
  refine ⟨fun p hp => ?_, ?_⟩
  · unfold rowX
    rw [List.pairwise_map]
    refine ((wholesTo_pw r r.length).filter _).imp ?_
    intro x y h
    unfold pcmp
    simp only
    rw [if_pos (icmp_zero.2 rfl)]
    exact icmp_lt.2 h
  · refine (wholesTo_pw l l.length).imp ?_
    intro x y h u hu v hv
    unfold rowX at hu hv
    obtain ⟨_, _, rfl⟩ := List.mem_map.1 hu
    obtain ⟨_, _, rfl⟩ := List.mem_map.1 hv
    unfold pcmp
    simp only
    have := icmp_lt.2 h
    rw [if_neg (by omega)]
    exact this
theorem flatMap_perm {α β : Type} {f g : α → List β} : ∀ (A : List α), (∀ p ∈ A, (f p).Perm (g p)) → (A.flatMap f).Perm (A.flatMap g)
  | [], _ => List.Perm.refl _
  | x :: A, h => by
    rw [List.flatMap_cons, List.flatMap_cons]
    exact (h x (by simp)).append (flatMap_perm A (fun p hp => h p (by simp [hp])))
theorem mergeP_eq (l r : List (List S44)) : mergeP l r = nestP l r := by
  have h1 : (mergeP l r).Perm (nestP l r) := by
    unfold mergeP
    refine (List.mergeSort_perm _ _).trans ?_
    rw [mergeGo_eq l r _ _ (ranked_pw l) (ranked_pw r) _ 0 0 [] (by omega), List.nil_append, List.drop_zero, List.drop_zero, ← pairsP_eq]
    unfold pairsP
    refine ((ranked_perm l).flatMap_right _).trans ?_
    exact flatMap_perm _ (fun p hp => by unfold rowX; exact ((ranked_perm r).filter _).map _)
  refine pw_unique (lt := fun x y => pcmp x y < 0) (fun a b h h2 => by have := pcmp_neg a b; omega) h1 ?_ (nestP_pw l r)
  have h2 : (mergeP l r).Pairwise (fun a b => (!decide (pcmp b a < 0)) = true) := by
    unfold mergeP
    refine List.pairwise_mergeSort (fun a b c h1 h2 => ?_) (fun a b => ?_) _
    · simp only [Bool.not_eq_true', decide_eq_false_iff_not] at *
      intro h
      have e1 := pcmp_neg a b
      by_cases h3 : pcmp a b = 0
      · rw [pcmp_zero h3] at h; exact h2 h
      · exact h2 (pcmp_trans h (by omega))
    · simp only [Bool.or_eq_true, Bool.not_eq_true', decide_eq_false_iff_not]
      have := pcmp_neg a b
      omega
  have h3 : (mergeP l r).Pairwise (fun a b => pcmp a b ≠ 0) := h1.symm.pairwise ((nestP_pw l r).imp (fun h => by omega)) (fun {a b} h h2 => h (by have := pcmp_neg a b; omega))
  refine (h2.and h3).imp ?_
  rintro a b ⟨h3, h4⟩
  simp only [Bool.not_eq_true', decide_eq_false_iff_not] at h3
  have := pcmp_neg a b
  omega

/-! ### two lists of pairs are the same -/
theorem same_loop (a b : List S40) (hl : a.length = b.length) (ha : a = b) (hs : a.length ≤ 1099511627776) : ∀ (n i : Nat), a.length - i = n → i ≤ a.length → Ev (fun k => tabellionref32_Same.l0 k a b (i : Int)) true
  | n, i, hn, hi => by
    subst ha
    refine Ev.succ ?_ (fun k => by rw [tabellionref32_Same.l0, w64 i (by omega)])
    by_cases h1 : i < a.length
    · match n, hn with
      | n + 1, hn =>
        refine Ev.congr (same_loop a a rfl rfl hs n (i + 1) (by omega) (by omega)) (fun k => ?_)
        rw [if_pos (by omega : (i : Int) < (a.length : Int)), if_pos (by omega : (0 : Int) ≤ (i : Int)), if_pos (by omega : (i : Int) < (a.length : Int)), if_neg (by simp)]
      | 0, hn => omega
    · exact Ev.congr (Ev.const _) (fun k => by rw [if_neg (by omega : ¬ (i : Int) < (a.length : Int))])
theorem same_ev (a : List S40) (hs : a.length ≤ 1099511627776) : Ev (fun k => tabellionref32_Same.f k a a) true := by
  unfold tabellionref32_Same.f
  exact Ev.congr (same_loop a a rfl rfl hs _ 0 rfl (Nat.zero_le _)) (fun k => by rw [if_pos rfl]; rfl)
theorem nestFrom_len (r : List (List S44)) : ∀ i ys, (nestFrom r i ys).length ≤ ys.length * r.length
  | _, [] => by simp [nestFrom]
  | i, a :: ys => by
    have h1 := nestFrom_len r (i + 1) ys
    have h2 := rowFrom_len a (i : Int) 0 r
    rw [nestFrom, List.length_append, List.length_cons, Nat.succ_mul]; omega
theorem nestP_len (l r : List (List S44)) : (nestP l r).length ≤ l.length * r.length := nestFrom_len r 0 l
end Go.Proofs.YtnllgjloimoebaaDoor.X

/- The pairs, one by one: which they are; turned about; each once. -/
set_option linter.unusedVariables false
set_option linter.unusedSimpArgs false
namespace Go.Proofs.YtnllgjloimoebaaDoor.X
open Go.RowKit Go.Proofs.YtnllgjloimoebaaDoorW.PrintWords

theorem mem_rowFrom (a : List S44) (i : Int) : ∀ (j : Nat) (bs : List (List S44)) (x : S40), x ∈ rowFrom a i j bs ↔ ∃ m, m < bs.length ∧ meetP a (bs.getD m []) = true ∧ x = ⟨i, ((j + m : Nat) : Int)⟩
  | j, [], x => by simp [rowFrom]
  | j, b :: bs, x => by
    have ih := mem_rowFrom a i (j + 1) bs x
    have hS : (∃ m, m < (b :: bs).length ∧ meetP a ((b :: bs).getD m []) = true ∧ x = ⟨i, ((j + m : Nat) : Int)⟩) ↔ ((meetP a b = true ∧ x = ⟨i, (j : Int)⟩) ∨ x ∈ rowFrom a i (j + 1) bs) := by
      rw [ih]
      constructor
      · rintro ⟨m, hm, h1, h2⟩
        match m, hm, h1, h2 with
        | 0, hm, h1, h2 => exact .inl ⟨h1, h2⟩
        | m + 1, hm, h1, h2 => exact .inr ⟨m, by simpa using hm, h1, by rw [h2, show j + (m + 1) = j + 1 + m by omega]⟩
      · rintro (⟨h1, h2⟩ | ⟨m, hm, h1, h2⟩)
        · exact ⟨0, by simp, h1, h2⟩
        · exact ⟨m + 1, by simpa using hm, h1, by rw [h2, show j + (m + 1) = j + 1 + m by omega]⟩
    rw [hS, rowFrom]
    split
    · rename_i h; rw [List.mem_cons]; simp [h]
    · rename_i h; simp [h]
theorem mem_nestFrom (r : List (List S44)) : ∀ (i : Nat) (ys : List (List S44)) (x : S40), x ∈ nestFrom r i ys ↔ ∃ m, m < ys.length ∧ ∃ q, q < r.length ∧ meetP (ys.getD m []) (r.getD q []) = true ∧ x = ⟨((i + m : Nat) : Int), (q : Int)⟩
  | i, [], x => by simp [nestFrom]
  | i, a :: ys, x => by
    have ih := mem_nestFrom r (i + 1) ys x
    rw [nestFrom, List.mem_append, ih, mem_rowFrom]
    constructor
    · rintro (⟨q, hq, h1, h2⟩ | ⟨m, hm, q, hq, h1, h2⟩)
      · exact ⟨0, by simp, q, hq, h1, by rw [h2, Nat.zero_add]; rfl⟩
      · exact ⟨m + 1, by simpa using hm, q, hq, h1, by rw [h2, show i + (m + 1) = i + 1 + m by omega]⟩
    · rintro ⟨m, hm, q, hq, h1, h2⟩
      match m, hm, h1, h2 with
      | 0, hm, h1, h2 => exact .inl ⟨q, hq, h1, by rw [h2, Nat.zero_add]; rfl⟩
      | m + 1, hm, h1, h2 => exact .inr ⟨m, by simpa using hm, q, hq, h1, by rw [h2, show i + (m + 1) = i + 1 + m by omega]⟩
theorem mem_nestP (l r : List (List S44)) (x : S40) : x ∈ nestP l r ↔ ∃ m, m < l.length ∧ ∃ q, q < r.length ∧ meetP (l.getD m []) (r.getD q []) = true ∧ x = ⟨(m : Int), (q : Int)⟩ := by
  unfold nestP
  rw [mem_nestFrom]
  simp only [Nat.zero_add]
theorem meetP_symm (a b : List S44) : meetP a b = meetP b a := by
  rw [Bool.eq_iff_iff, meetP_iff, meetP_iff]
  constructor
  · rintro ⟨h1, rfl⟩; exact ⟨h1, rfl⟩
  · rintro ⟨h1, rfl⟩; exact ⟨h1, rfl⟩
def swap40 (x : S40) : S40 := ⟨x.f1, x.f0⟩
theorem nestP_nodup (l r : List (List S44)) : (nestP l r).Nodup := (nestP_pw l r).imp (fun {a b} h e => by
  rw [e] at h
  have := pcmp_neg b b
  omega)
theorem nestP_swap (l r : List (List S44)) : ((nestP r l).map swap40).Perm (nestP l r) := by
  refine (List.perm_ext_iff_of_nodup ?_ (nestP_nodup l r)).2 (fun x => ?_)
  · unfold List.Nodup
    rw [List.pairwise_map]
    refine (nestP_nodup r l).imp (fun {x y} h e => h ?_)
    obtain ⟨x0, x1⟩ := x
    obtain ⟨y0, y1⟩ := y
    simp only [swap40, S40.mk.injEq] at e
    simp [e.1, e.2]
  · rw [List.mem_map, mem_nestP]
    constructor
    · rintro ⟨y, hy, rfl⟩
      obtain ⟨m, hm, q, hq, h1, rfl⟩ := (mem_nestP r l y).1 hy
      exact ⟨q, hq, m, hm, by rw [meetP_symm]; exact h1, rfl⟩
    · rintro ⟨m, hm, q, hq, h1, rfl⟩
      exact ⟨⟨(q : Int), (m : Int)⟩, (mem_nestP r l _).2 ⟨q, hq, m, hm, by rw [meetP_symm]; exact h1, rfl⟩, rfl⟩
theorem nestP_len_swap (l r : List (List S44)) : (nestP r l).length = (nestP l r).length := by
  have := (nestP_swap l r).length_eq
  rwa [List.length_map] at this
theorem rdT40 (a : List S40) (i : Nat) : rd_T40 a (i : Int) = a.getD i z40 := by unfold rd_T40; rw [Int.toNat_natCast]
def isP (y x : Int) (z : S40) : Bool := z.f0 == y && (z.f1 == x)
theorem countP_one {α : Type} (p : α → Bool) (x : α) (hx : p x = true) : ∀ l : List α, l.Nodup → x ∈ l → (∀ y ∈ l, p y = true → y = x) → l.countP p = 1
  | [], _, h, _ => by simp at h
  | y :: l, hn, hm, hu => by
    have hn' := List.pairwise_cons.1 hn
    by_cases hy : p y = true
    · rw [List.countP_cons_of_pos hy]
      have e := hu y (by simp) hy
      have h0 : l.countP p = 0 := by
        rw [List.countP_eq_zero]
        intro z hz hpz
        exact hn'.1 z hz (e.trans (hu z (by simp [hz]) hpz).symm)
      rw [h0]
    · rw [List.countP_cons_of_neg hy]
      refine countP_one p x hx l hn'.2 ?_ (fun z hz => hu z (by simp [hz]))
      rcases List.mem_cons.1 hm with h | h
      · rw [h] at hx; exact absurd hx hy
      · exact h
theorem count_one (l r : List (List S44)) (x : S40) (h : x ∈ nestP l r) : (nestP r l).countP (isP x.f1 x.f0) = 1 := by
  refine countP_one _ (swap40 x) (by simp [isP, swap40]) _ (nestP_nodup r l) ?_ ?_
  · obtain ⟨m, hm, q, hq, h1, rfl⟩ := (mem_nestP l r x).1 h
    exact (mem_nestP r l _).2 ⟨q, hq, m, hm, by rw [meetP_symm]; exact h1, rfl⟩
  · intro y _ hy
    obtain ⟨x0, x1⟩ := x
    obtain ⟨y0, y1⟩ := y
    simp only [isP, Bool.and_eq_true, beq_iff_eq] at hy
    simp [swap40, hy.1, hy.2]
end Go.Proofs.YtnllgjloimoebaaDoor.X

-- By xprint.py (this session's own program over the kit's print): not trusted: Lean checks it.
namespace Go.Proofs.YtnllgjloimoebaaDoor.X
open Go.RowKit Go.Proofs.YtnllgjloimoebaaDoorW.PrintWords Go.Proofs.YtnllgjloimoebaaDoorW.PrintLast Go.Proofs.YtnllgjloimoebaaDoorW.PrintMore
attribute [local go_sem] max2_int min2_int max_two min_two max_three min_three max_four min_four   -- for this text's walks alone
set_option linter.unusedVariables false
set_option linter.unusedSimpArgs false

/-! ### tabellionref32_Alone: function 26 -/
mutual
def tabellionref32_Alone.l0 : Nat → Int → List (S40) → List Int → Int → Option (List Int)
 | 0, _, _, _, _ => none
 | k + 1, x0, x1, x5, x6 => if x6 < x0 then (tabellionref32_Alone.l1 k x0 x1 x5 x6 false 0) else (some x5)
def tabellionref32_Alone.l1 : Nat → Int → List (S40) → List Int → Int → Bool → Int → Option (List Int)
 | 0, _, _, _, _, _, _ => none
 | k + 1, x0, x1, x5, x6, x7, x8 => if x8 < (x1.length : Int) then (if x7 = true then (tabellionref32_Alone.l1 k x0 x1 x5 x6 true (wrap64 (x8 + 1))) else (if 0 ≤ x8 then (tabellionref32_Alone.l1 k x0 x1 x5 x6 (((rd_T40 x1 x8).f0) == x6) (wrap64 (x8 + 1))) else (none))) else (if x7 = true then (tabellionref32_Alone.l0 k x0 x1 x5 (wrap64 (x6 + 1))) else (if x5.length < 17592186044416 then (tabellionref32_Alone.l0 k x0 x1 (x5 ++ [x6]) (wrap64 (x6 + 1))) else (none)))
end
def tabellionref32_Alone.f (k : Nat) (a0 : Int) (l1 : List (S40)) : Option (List Int) := tabellionref32_Alone.l0 k a0 l1 ([] : List Int) 0
set_option maxHeartbeats 8000000 in
set_option maxRecDepth 100000 in
theorem tabellionref32_Alone.calls (k : Nat) (a0 : Int) (A1 : Option Addr) (c1 : Nat) (l1 : List (S40)) (r : List Int) (w : World) (hr1 : Kd.C k40 w A1 l1.length l1) (hc1 : l1.length ≤ c1) (h : tabellionref32_Alone.f k a0 l1 = some r) :
  Calls Tryd.prog 26 #[.int .i64 a0, .slice A1 l1.length c1] w fun e w' => ∃ v0_ : Value, e = .returned (v0_) ∧ Kd.R (Kd.int .i64) 3 w' w.heap.size (fun _ => True) v0_ r ∧ Below w.heap.size w w' := by
 have HR1 := Aside0.mk hr1
 have HC1 := Aside0.mk hc1
 clear hr1 hc1
 have HB := Aside0.mk (Below.refl w.heap.size w)
 have H : (tabellionref32_Alone.l0 k a0 l1 ([] : List Int) 0) = some r := h
 clear h
 have H' := Aside0.mk H
 clear H
 go_enter Tryd.func26, Tryd.ntmps26
 go_wp2
 go_loopg [5, 6] k (fun kq v5 v6 w' => ∃ (x5_1 : List Int) (x6_1 : Int), v6 = .int .i64 x6_1 ∧ Aside0 (tabellionref32_Alone.l0 kq a0 l1 x5_1 x6_1 = some r) ∧ Aside0 (kq ≤ k) ∧ Aside0 (Kd.R (Kd.int .i64) 3 w' w.heap.size (fun _ => True) v5 x5_1) ∧ Aside0 (Below w.heap.size w w'))
 case atStart => exact ⟨(([] : List Int)), (0), (by first | rfl | (simp; done) | (simp [*]; done)), H', ⟨Nat.le_refl _⟩, ⟨by first | exact Kd.R_nil _ _ _ _ _ | exact Kd.N_nil _ _ _ _ _ | exact Kd.V_nil _ _ _ _ _ | exact Kd.Q_nil _ _ _ _ _ | exact Kd.S_nil _ _ _ _ _⟩, ⟨by repeat (first | (with_reducible first | exact HB.out | apply below_alloc | apply pw_below_drewN | apply below_drew1) | exact HB.out)⟩⟩
 case round =>
  clear H'
  try clear c1
  try clear c2
  try clear p2
  obtain ⟨x5_1, x6_1, rfl, HA, HK1, HO_5, HB⟩ := hrel
  cases gk with
  | zero => exact absurd HA.out (by simp [tabellionref32_Alone.l0])
  | succ k1 =>
   have H := HA.out
   clear HA
   simp only [tabellionref32_Alone.l0] at H
   by_cases c3 : x6_1 < a0
   ·
    rw [if_pos c3] at H
    have c3b0 : decide (x6_1 < a0) = true := decide_eq_true c3
    clear c3
    have H' := Aside0.mk H
    clear H
    go_wp2
    go_loopg [7, 8] k1 (fun kq v7 v8 w' => ∃ (x7_2 : Bool) (x8_2 : Int), v7 = .bool x7_2 ∧ v8 = .int .i64 x8_2 ∧ Aside0 (tabellionref32_Alone.l1 kq a0 l1 x5_1 x6_1 x7_2 x8_2 = some r) ∧ Aside0 (kq ≤ k1) ∧ Aside0 (Kd.R (Kd.int .i64) 3 w' w.heap.size (fun _ => True) u5 x5_1) ∧ Aside0 (Below w.heap.size w w'))
    case atStart => exact ⟨(false), (0), (by first | rfl | (simp; done) | (simp [*]; done)), (by first | rfl | (simp; done) | (simp [*]; done)), H', ⟨Nat.le_refl _⟩, ⟨by (with_reducible repeat (first | apply Kd.R_alloc | apply Kd.R_drewN | apply Kd.R_drew)); exact HO_5.out⟩, ⟨by repeat (first | (with_reducible first | exact HB.out | apply below_alloc | apply pw_below_drewN | apply below_drew1) | exact HB.out)⟩⟩
    case round =>
     clear H'
     try clear c1
     try clear c2
     try clear p2
     try clear c3
     try clear c3b0
     try clear p2
     obtain ⟨x7_2, x8_2, rfl, rfl, HA, HK2, HO_5, HB⟩ := hrel
     cases gk with
     | zero => exact absurd HA.out (by simp [tabellionref32_Alone.l1])
     | succ k2 =>
      have H := HA.out
      clear HA
      simp only [tabellionref32_Alone.l1] at H
      by_cases c4 : x8_2 < (l1.length : Int)
      ·
       rw [if_pos c4] at H
       have c4b0 : decide (x8_2 < (l1.length : Int)) = true := decide_eq_true c4
       clear c4
       by_cases c5 : x7_2 = true
       ·
        subst c5
        have H1 : (tabellionref32_Alone.l1 k2 a0 l1 x5_1 x6_1 true (wrap64 (x8_2 + 1))) = some r := by rw [if_pos rfl] at H; exact H
        clear H
        have H := H1
        clear H1
        have H' := Aside0.mk H
        clear H
        go_wp2
        go_roundg k2
        case measure => have := HK1.out; have := HK2.out; omega
        case rel => exact ⟨(true), (wrap64 (x8_2 + 1)), (by first | rfl | (simp; done) | (simp [*]; done)), (by first | rfl | (simp; done) | (simp [*]; done)), H', ⟨by have := HK1.out; have := HK2.out; omega⟩, ⟨by (with_reducible repeat (first | apply Kd.R_alloc | apply Kd.R_drewN | apply Kd.R_drew)); exact HO_5.out⟩, ⟨by repeat (first | (with_reducible first | exact HB.out | apply below_alloc | apply pw_below_drewN | apply below_drew1) | exact HB.out)⟩⟩
       ·
        replace c5 := Bool.eq_false_iff.mpr c5
        subst c5
        have H1 : (if 0 ≤ x8_2 then (tabellionref32_Alone.l1 k2 a0 l1 x5_1 x6_1 (((rd_T40 l1 x8_2).f0) == x6_1) (wrap64 (x8_2 + 1))) else (none)) = some r := by rw [if_neg (show ¬ (false = true) by decide)] at H; exact H
        clear H
        have H := H1
        clear H1
        by_cases c6 : 0 ≤ x8_2
        ·
         rw [if_pos c6] at H
         have c6b0 : decide (0 ≤ x8_2) = true := decide_eq_true c6
         clear c6
         have H' := Aside0.mk H
         clear H
         have p517 : 0 ≤ (x8_2 : Int) := of_decide_eq_true (by first | (with_reducible assumption) | assumption)
         have q517 : x8_2 < (l1.length : Int) := of_decide_eq_true (by first | (with_reducible assumption) | assumption)
         obtain ⟨ad517, e517, hx517_0, hx517_1⟩ := at_T40 HR1.out x8_2 p517 q517
         cases e517
         replace hx517_0 := (HB.out.cell (World.block_lt_of_cell? w _ hx517_0)).trans hx517_0
         replace hx517_1 := (HB.out.cell (World.block_lt_of_cell? w _ hx517_1)).trans hx517_1
         replace p517 := eq_true p517
         replace q517 := eq_true q517
         go_wp2
         go_roundg k2
         case measure => have := HK1.out; have := HK2.out; omega
         case rel => exact ⟨((((rd_T40 l1 x8_2).f0) == x6_1)), (wrap64 (x8_2 + 1)), (by first | rfl | (simp; done) | (simp [*]; done)), (by first | rfl | (simp; done) | (simp [*]; done)), H', ⟨by have := HK1.out; have := HK2.out; omega⟩, ⟨by (with_reducible repeat (first | apply Kd.R_alloc | apply Kd.R_drewN | apply Kd.R_drew)); exact HO_5.out⟩, ⟨by repeat (first | (with_reducible first | exact HB.out | apply below_alloc | apply pw_below_drewN | apply below_drew1) | exact HB.out)⟩⟩
        ·
         rw [if_neg c6] at H
         exact absurd H (by simp)
      ·
       rw [if_neg c4] at H
       have c4b0 : decide (x8_2 < (l1.length : Int)) = false := decide_eq_false c4
       clear c4
       by_cases c7 : x7_2 = true
       ·
        subst c7
        have H1 : (tabellionref32_Alone.l0 k2 a0 l1 x5_1 (wrap64 (x6_1 + 1))) = some r := by rw [if_pos rfl] at H; exact H
        clear H
        have H := H1
        clear H1
        have H' := Aside0.mk H
        clear H
        go_wp2
        go_roundg k2
        case measure => have := HK1.out; have := HK2.out; omega
        case rel => exact ⟨(x5_1), (wrap64 (x6_1 + 1)), (by first | rfl | (simp; done) | (simp [*]; done)), H', ⟨by have := HK1.out; have := HK2.out; omega⟩, ⟨by (with_reducible repeat (first | apply Kd.R_alloc | apply Kd.R_drewN | apply Kd.R_drew)); exact HO_5.out⟩, ⟨by repeat (first | (with_reducible first | exact HB.out | apply below_alloc | apply pw_below_drewN | apply below_drew1) | exact HB.out)⟩⟩
       ·
        replace c7 := Bool.eq_false_iff.mpr c7
        subst c7
        have H1 : (if x5_1.length < 17592186044416 then (tabellionref32_Alone.l0 k2 a0 l1 (x5_1 ++ [x6_1]) (wrap64 (x6_1 + 1))) else (none)) = some r := by rw [if_neg (show ¬ (false = true) by decide)] at H; exact H
        clear H
        have H := H1
        clear H1
        by_cases c8 : x5_1.length < 17592186044416
        ·
         rw [if_pos c8] at H
         have LMc8 := Aside0.mk c8
         clear c8
         obtain ⟨y518, hy518⟩ : ∃ y_ : List Int, y_ = (x5_1 ++ [x6_1]) := ⟨_, rfl⟩
         replace H : (tabellionref32_Alone.l0 k2 a0 l1 y518 (wrap64 (x6_1 + 1))) = some r := by first | (rw [hy518]; with_reducible exact H) | (have H2_ := (Option.bind_some _ _).symm.trans H; rw [hy518]; with_reducible exact H2_) | (have H2_ := (Option.bind_some _ _).symm.trans H; with_reducible exact H2_) | with_reducible exact H | (rw [hy518]; exact H) | exact H
         have Ny518 := Aside0.mk hy518
         clear hy518
         have H' := Aside0.mk H
         clear H
         go_wp2_with (first | ((with_reducible refine gate_builtin (b := .append) (xs := #[.tmp 32, .tmp 34]) rfl ?_); at_builtin; refine Kd.R_append (Kd.int .i64) (w0 := w) w.heap.size rfl (.tmp 32) (.tmp 34) 30 3 (.int .i64 0) 8 rfl Tryd.underlying30 info3 rfl (by decide) (by omega) u5 x5_1 x6_1 [.int .i64 x6_1] (fun _ => True) (fun _ => False) rfl rfl ?aP (fun _ hk => hk.elim) ?aF ?aO ?aB ?aS ?aL ?_; (case aP => exact rfl); (case aB => exact (by repeat (first | (with_reducible first | exact HB.out | apply below_alloc | apply pw_below_drewN | apply below_drew1) | exact HB.out))); (case aF => exact (fun _ _ => trivial)); (case aO => exact (by (with_reducible repeat (first | apply Kd.R_alloc | apply Kd.R_drewN | apply Kd.R_drew)); exact HO_5.out)); (case aS => exact (below_size (by repeat (first | (with_reducible first | exact HB.out | apply below_alloc | apply pw_below_drewN | apply below_drew1) | exact HB.out)))); (case aL => have := LMc8.out; omega); intro v519 w9 ho hb hg hat; rw [← Ny518.out] at ho; have n0_ := Aside0.mk (hb); have n1_ := Aside0.mk (ho); clear HB; clear HO_5; have HB := n0_; have HO520 := n1_; clear n0_ n1_; clear ho hb hg hat))
         go_roundg k2
         case measure => have := HK1.out; have := HK2.out; omega
         case rel => exact ⟨(y518), (wrap64 (x6_1 + 1)), (by first | rfl | (simp; done) | (simp [*]; done)), H', ⟨by have := HK1.out; have := HK2.out; omega⟩, ⟨by (with_reducible repeat (first | apply Kd.R_alloc | apply Kd.R_drewN | apply Kd.R_drew)); exact HO520.out⟩, ⟨by repeat (first | (with_reducible first | exact HB.out | apply below_alloc | apply pw_below_drewN | apply below_drew1) | exact HB.out)⟩⟩
        ·
         rw [if_neg c8] at H
         exact absurd H (by simp)
   ·
    rw [if_neg c3] at H
    have c3b0 : decide (x6_1 < a0) = false := decide_eq_false c3
    clear c3
    obtain rfl := Option.some.inj H
    go_wp2
    go_ret
    exact ⟨_, by first | rfl | (simp [errW_none, errW_some] <;> rfl) | (simp [*, errW_none, errW_some] <;> rfl), by (with_reducible repeat (first | apply Kd.R_alloc | apply Kd.R_drewN | apply Kd.R_drew)); exact HO_5.out, by repeat (first | (with_reducible first | exact HB.out | apply below_alloc | apply pw_below_drewN | apply below_drew1) | exact HB.out)⟩

end Go.Proofs.YtnllgjloimoebaaDoor.X

/- The reference's unmatched numbers are the program's; what JoinerAlone asks of the two lists' own pairs. -/
set_option linter.unusedVariables false
set_option linter.unusedSimpArgs false
namespace Go.Proofs.YtnllgjloimoebaaDoor.X
open Go.RowKit Go.Proofs.YtnllgjloimoebaaDoorW.PrintWords

theorem mem_aloneTo (l : List S40) (x : Int) : ∀ n, x ∈ aloneTo l n ↔ ∃ i, i < n ∧ x = (i : Int) ∧ firsts l l.length (i : Int) = false
  | 0 => by simp [aloneTo]
  | n + 1 => by
    have ih := mem_aloneTo l x n
    unfold aloneTo
    split
    · rename_i h
      rw [ih]
      constructor
      · rintro ⟨i, hi, h1, h2⟩; exact ⟨i, by omega, h1, h2⟩
      · rintro ⟨i, hi, h1, h2⟩
        by_cases e : i = n
        · subst e; rw [h] at h2; cases h2
        · exact ⟨i, by omega, h1, h2⟩
    · rename_i h
      rw [List.mem_append, List.mem_singleton, ih]
      constructor
      · rintro (⟨i, hi, h1, h2⟩ | h1)
        · exact ⟨i, by omega, h1, h2⟩
        · exact ⟨n, by omega, h1, by simpa using h⟩
      · rintro ⟨i, hi, h1, h2⟩
        by_cases e : i = n
        · subst e; exact .inr h1
        · exact .inl ⟨i, by omega, h1, h2⟩
theorem ral_l1 (a0 : Int) (l : List S40) (hl : l.length ≤ 1000) (i : Nat) (hi : i ≤ 1000) (o : List Int) (ho : o.length ≤ i) (v : List Int)
    (hv : Ev (fun k => tabellionref32_Alone.l0 k a0 l (if firsts l l.length (i : Int) then o else o ++ [(i : Int)]) ((i + 1 : Nat) : Int)) v) :
    ∀ (n j : Nat), l.length - j = n → j ≤ l.length → Ev (fun k => tabellionref32_Alone.l1 k a0 l o (i : Int) (firsts l j (i : Int)) (j : Int)) v
  | n, j, hn, hj => by
    refine Ev.succ ?_ (fun k => by rw [tabellionref32_Alone.l1, w64 j (by omega), w64 i (by omega)])
    by_cases h1 : j < l.length
    · match n, hn with
      | n + 1, hn =>
        have ih := ral_l1 a0 l hl i hi o ho v hv n (j + 1) (by omega) (by omega)
        rw [firsts_succ l j h1] at ih
        by_cases h2 : firsts l j (i : Int) = true
        · have e : (if (i : Int) = (l.getD j z40).f0 then true else firsts l j (i : Int)) = true := by rw [h2]; split <;> rfl
          simp only [e] at ih
          refine Ev.congr ih (fun k => ?_)
          rw [if_pos (by omega : (j : Int) < (l.length : Int)), if_pos h2]
        · have e : (if (i : Int) = (l.getD j z40).f0 then true else firsts l j (i : Int)) = ((l.getD j z40).f0 == (i : Int)) := by
            rw [Bool.eq_false_iff.2 h2]
            by_cases h3 : (i : Int) = (l.getD j z40).f0
            · rw [if_pos h3]; symm; rw [beq_iff_eq]; exact h3.symm
            · rw [if_neg h3]; symm; rw [beq_eq_false_iff_ne]; exact fun h => h3 h.symm
          simp only [e] at ih
          refine Ev.congr ih (fun k => ?_)
          rw [if_pos (by omega : (j : Int) < (l.length : Int)), if_neg h2, if_pos (by omega : (0 : Int) ≤ (j : Int)), rdT40]
      | 0, hn => omega
    · have hjj : j = l.length := by omega
      subst hjj
      refine Ev.congr hv (fun k => ?_)
      rw [if_neg (by omega : ¬ ((l.length : Nat) : Int) < (l.length : Int))]
      by_cases h2 : firsts l l.length (i : Int) = true
      · rw [if_pos h2, if_pos h2]
      · rw [if_neg h2, if_neg h2, if_pos (by omega : o.length < 17592186044416)]
theorem ral_l0 (a0 : Int) (l : List S40) (hl : l.length ≤ 1000) (ha : a0 ≤ 1000) : ∀ (n i : Nat), a0.toNat - i = n → i ≤ a0.toNat → Ev (fun k => tabellionref32_Alone.l0 k a0 l (aloneTo l i) (i : Int)) (aloneTo l a0.toNat)
  | n, i, hn, hi => by
    refine Ev.succ ?_ (fun k => by rw [tabellionref32_Alone.l0])
    by_cases h1 : (i : Int) < a0
    · match n, hn with
      | n + 1, hn =>
        have ih := ral_l0 a0 l hl ha n (i + 1) (by omega) (by omega)
        refine Ev.congr (ral_l1 a0 l hl i (by omega) (aloneTo l i) (aloneTo_len l i) _ ?_ _ 0 rfl (Nat.zero_le _)) (fun k => by rw [if_pos h1]; rfl)
        exact ih
      | 0, hn => omega
    · have hii : i = a0.toNat := by omega
      subst hii
      exact Ev.congr (Ev.const _) (fun k => by rw [if_neg h1])
theorem ralone_ev (a0 : Int) (l : List S40) (hl : l.length ≤ 1000) (ha : a0 ≤ 1000) : Ev (fun k => tabellionref32_Alone.f k a0 l) (aloneP a0 l) := ral_l0 a0 l hl ha _ 0 rfl (Nat.zero_le _)
theorem alone_f (a0 : Int) (l : List S40) (hl : l.length ≤ 1600) (ha : a0 ≤ 1000) (hz : ∀ z ∈ l, i64ok z.f0 = true) : joiner_Alone.f a0 l = some (aloneP a0 l) := by
  unfold joiner_Alone.f
  rw [if_pos]
  rw [Bool.and_eq_true, Bool.and_eq_true, List.all_eq_true]
  exact ⟨hz, decide_eq_true (by omega), decide_eq_true (by omega)⟩
theorem aloneP_len (a0 : Int) (l : List S40) (ha : a0 ≤ 200) : (aloneP a0 l).length ≤ 200 := Nat.le_trans (aloneTo_len l _) (by omega)
theorem own_pairs (k0 k1 : List (List S44)) (h0 : k0.length ≤ 40) (h1 : k1.length ≤ 40) : (hashP k0 k1 k0.length).length ≤ 1600 ∧ ∀ z ∈ hashP k0 k1 k0.length, 0 ≤ z.f0 ∧ z.f0 < (k0.length : Int) := by
  rw [hashP_eq]
  refine ⟨?_, fun z hz => ?_⟩
  · have h2 := nestP_len k0 k1
    have h3 := Nat.mul_le_mul h0 h1
    omega
  · obtain ⟨m, hm, q, hq, _, rfl⟩ := (mem_nestP k0 k1 z).1 hz
    show 0 ≤ (m : Int) ∧ (m : Int) < _
    omega
theorem hash_f (k0 k1 : List (List S44)) (h0 : k0.all keyable = true) (h1 : k1.all keyable = true) (l0 : k0.length ≤ 40) (l1 : k1.length ≤ 40) : joiner_Hash.f k0 k1 = some (hashP k0 k1 k0.length) := by
  unfold joiner_Hash.f
  rw [if_pos]
  rw [h0, h1, decide_eq_true (by omega : k0.length ≤ 1048576), decide_eq_true (by omega : k1.length ≤ 1048576)]
  rfl
theorem own_alone (n : Nat) (ps : List S40) (hn : n ≤ 40) : (aloneP (n : Int) ps).length ≤ 40 ∧ ∀ z ∈ aloneP (n : Int) ps, 0 ≤ z ∧ z < (n : Int) := by
  unfold aloneP
  rw [Int.toNat_natCast]
  refine ⟨Nat.le_trans (aloneTo_len ps n) hn, fun z hz => ?_⟩
  obtain ⟨i, hi, rfl, _⟩ := (mem_aloneTo ps z n).1 hz
  omega
theorem i64ok_small (z : Int) (n : Nat) (h : 0 ≤ z ∧ z < (n : Int)) (hn : n ≤ 40) : i64ok z = true := i64ok_of (by omega) (by omega)
end Go.Proofs.YtnllgjloimoebaaDoor.X

-- By xprint.py (this session's own program over the kit's print): not trusted: Lean checks it.
namespace Go.Proofs.YtnllgjloimoebaaDoor.X
open Go.RowKit Go.Proofs.YtnllgjloimoebaaDoorW.PrintWords Go.Proofs.YtnllgjloimoebaaDoorW.PrintLast Go.Proofs.YtnllgjloimoebaaDoorW.PrintMore
attribute [local go_sem] max2_int min2_int max_two min_two max_three min_three max_four min_four   -- for this text's walks alone
set_option linter.unusedVariables false
set_option linter.unusedSimpArgs false

/-! ### value_Num: function 28 -/
def value_Num.f (a0 : Int) : Option (Int × Int × ByteArray) := some (2, a0, (⟨#[]⟩ : ByteArray))
set_option maxHeartbeats 8000000 in
set_option maxRecDepth 100000 in
theorem value_Num.calls (a0 : Int) (r1 : Int) (r2 : Int) (r3 : ByteArray) (w : World) (h : value_Num.f a0 = some (r1, r2, r3)) :
  Calls Tryd.prog 28 #[.int .i64 a0] w fun e w' => e = .returned (.agg #[.int .i64 r1, .int .i64 r2, .string r3]) ∧ Below w.heap.size w w' := by
 have hu44 := Tryd.underlying44
 have HB := Aside0.mk (Below.refl w.heap.size w)
 have H : (some (2, a0, (⟨#[]⟩ : ByteArray))) = some (r1, r2, r3) := h
 clear h
 simp only [Option.some.injEq, Prod.mk.injEq] at H
 obtain ⟨rfl, rfl, rfl⟩ := H
 go_enter Tryd.func28, Tryd.ntmps28
 go_wp2_with (first | ((with_reducible refine gate_dst (N := 2) rfl ?_); refine box_event ?hg (N := 2) ?hd (cs := #[.int .i64 0, .int .i64 0, .string (⟨#[]⟩ : ByteArray)]) (t := 44) ?hr ?_; (case hd => rfl); (case hg => rfl); (case hr => first | (go_simp; done) | (go_simp; rfl)); intro gb108 hg w2 hbox hb; have n0_ := Aside0.mk (below_step (by repeat (first | (with_reducible first | exact HB.out | apply below_alloc | apply pw_below_drewN | apply below_drew1) | exact HB.out)) hb); have n1_ := Aside0.mk (hbox); have n2_ := Aside0.mk ((by rw [hg]; exact (below_size (by repeat (first | (with_reducible first | exact HB.out | apply below_alloc | apply pw_below_drewN | apply below_drew1) | exact HB.out))) : w.heap.size ≤ gb108)); have n3_ := Aside0.mk ((by rw [hg]; exact (below_size (by repeat (first | (with_reducible first | exact HB.out | apply below_alloc | apply pw_below_drewN | apply below_drew1) | exact HB.out))) : w.heap.size ≤ gb108)); clear HB; have HB := n0_; have BK108 := n1_; have GW108 := n2_; have GE108 := n3_; clear n0_ n1_ n2_ n3_; clear hb hbox hg; have hcz3_0 : w2.cell? ⟨gb108, 0, none⟩ = some (.int .i64 0) := (blk_cell BK108.out 0).trans rfl; have hcz3_1 : w2.cell? ⟨gb108, 1, none⟩ = some (.int .i64 0) := (blk_cell BK108.out 1).trans rfl; have hcz3_2 : w2.cell? ⟨gb108, 2, none⟩ = some (.string (⟨#[]⟩ : ByteArray)) := (blk_cell BK108.out 2).trans rfl; have hfz3_0 := blk_frozen BK108.out 0; have hfz3_1 := blk_frozen BK108.out 1; have hfz3_2 := blk_frozen BK108.out 2))
 refine bodyPost_ret (results_cell_row rfl _ _ gb108 44 #[.int .i64 2, .int .i64 a0, .string (⟨#[]⟩ : ByteArray)] (0, 0) _ rfl (by (with_reducible repeat (first | refine blk_drewN ?_ _ | refine blk_drew ?_ | refine blk_alloc ?_ _)); refine blk_put (cs := #[.int .i64 2, .int .i64 a0, .string (⟨#[]⟩ : ByteArray)]) ?_ 2 _ rfl; (with_reducible repeat (first | refine blk_drewN ?_ _ | refine blk_drew ?_ | refine blk_alloc ?_ _)); refine blk_put (cs := #[.int .i64 2, .int .i64 0, .string (⟨#[]⟩ : ByteArray)]) ?_ 1 _ rfl; (with_reducible repeat (first | refine blk_drewN ?_ _ | refine blk_drew ?_ | refine blk_alloc ?_ _)); refine blk_put (cs := #[.int .i64 0, .int .i64 0, .string (⟨#[]⟩ : ByteArray)]) ?_ 0 _ rfl; (with_reducible repeat (first | refine blk_drewN ?_ _ | refine blk_drew ?_ | refine blk_alloc ?_ _)); exact BK108.out) Tryd.underlying44 rfl (by kernel_rfl)) rfl ?_
 exact ⟨by first | rfl | (simp [errW_none, errW_some] <;> rfl) | (simp [*, errW_none, errW_some] <;> rfl), by repeat (first | (with_reducible first | exact HB.out | apply below_alloc | apply pw_below_drewN | apply below_drew1 | refine below_set ?_ GE108.out) | exact HB.out)⟩

end Go.Proofs.YtnllgjloimoebaaDoor.X
