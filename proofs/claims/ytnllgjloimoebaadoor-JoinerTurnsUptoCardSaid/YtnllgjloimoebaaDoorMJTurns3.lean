/- With the lists exchanged the pairs are exchanged, each pair occurs once, and with more keys on one side no pair is lost; for arguments of bulk at most 1048576. Part 4 of 5. -/
import Derived.Test.YtnllgjloimoebaaDoorMJTurns0
import Derived.Test.YtnllgjloimoebaaDoorMJTurns2
import Derived.Test.YtnllgjloimoebaaDoorMJTurns1

-- By xprint.py (this session's own program over the kit's print): not trusted: Lean checks it.
namespace Go.Proofs.YtnllgjloimoebaaDoor.X
open Go.RowKit Go.Proofs.YtnllgjloimoebaaDoorW.PrintWords Go.Proofs.YtnllgjloimoebaaDoorW.PrintLast Go.Proofs.YtnllgjloimoebaaDoorW.PrintMore
attribute [local go_sem] max2_int min2_int max_two min_two max_three min_three max_four min_four   -- for this text's walks alone
set_option linter.unusedVariables false
set_option linter.unusedSimpArgs false

/-! ### joiner_run: function 41 -/
def joiner_run.l0 : Nat → List (List (S44)) → List Int → Int → Int → Option (Int)
 | 0, _, _, _, _ => none
 | k + 1, x0, x1, x2, x7 => if (wrap64 (x2 + x7)) < (x1.length : Int) then (if 0 ≤ x2 then (if x2 < (x1.length : Int) then (if 0 ≤ (rd x1 x2) then (if (rd x1 x2) < (x0.length : Int) then (if 0 ≤ (wrap64 (x2 + x7)) then (if 0 ≤ (rd x1 (wrap64 (x2 + x7))) then (if (rd x1 (wrap64 (x2 + x7))) < (x0.length : Int) then ((value_Orders.f k (rd_L4 x0 (rd x1 x2)) (rd_L4 x0 (rd x1 (wrap64 (x2 + x7))))).bind fun t573 => (if t573 = 0 then (joiner_run.l0 k x0 x1 x2 (wrap64 (x7 + 1))) else (some x7))) else (none)) else (none)) else (none)) else (none)) else (none)) else (none)) else (none)) else (some x7)
def joiner_run.f (k : Nat) (l0 : List (List (S44))) (l1 : List Int) (a2 : Int) : Option (Int) := joiner_run.l0 k l0 l1 a2 1
def joiner_run.T2 : Bool × List (List Nat × List Nat) := (true, [([], []), ([], []), ([0, 1], [0, 1]), ([], []), ([3], [3]), ([2, 4], [2, 4]), ([5], [5]), ([6], [6]), ([6], [6]), ([6], [6]), ([8, 9, 6], [6, 8, 9]), ([10, 6], [6, 10]), ([7, 11, 6], [6, 7, 11]), ([12, 6], [6, 12]), ([6], [6]), ([6], [6]), ([6], [6]), ([6], [6]), ([16, 17, 6], [6, 16, 17]), ([15, 18, 6], [6, 15, 18]), ([19, 6], [6, 19]), ([14, 20, 6], [6, 14, 20]), ([21, 6], [6, 21]), ([13, 22, 6, 6], [6, 13, 22]), ([23, 6], [6, 23]), ([6, 24], [6, 24])])
def joiner_run.B2 : List Nat := [0, 0, 3, 0, 8, 31, 63, 127, 127, 127, 895, 1919, 4095, 8191, 127, 127, 127, 127, 196735, 491647, 1015935, 2080895, 4178047, 8388607, 16777215, 33554431]
theorem joiner_run.tab2 : rtab .any (opsOf Tryd.f41 2) = joiner_run.T2 := by kernel_rfl
theorem joiner_run.bits2 : waitsOk joiner_run.T2.2 joiner_run.B2 = true := by kernel_rfl
set_option maxHeartbeats 8000000 in
set_option maxRecDepth 100000 in
theorem joiner_run.calls (k : Nat) (A0 : Option Addr) (c0 : Nat) (l0 : List (List (S44))) (A1 : Option Addr) (c1 : Nat) (l1 : List Int) (a2 : Int) (r : Int) (w : World) (hr0 : Kd.C (Kd.slice 44 k44) w A0 l0.length l0) (hc0 : l0.length ≤ c0) (hr1 : Kd.C (Kd.int .i64) w A1 l1.length l1) (hc1 : l1.length ≤ c1) (h : joiner_run.f k l0 l1 a2 = some r) :
  Calls Tryd.prog 41 #[.slice A0 l0.length c0, .slice A1 l1.length c1, .int .i64 a2] w fun e w' => e = .returned (.int .i64 r) ∧ Below w.heap.size w w' := by
 have HR0 := Aside0.mk hr0
 have HC0 := Aside0.mk hc0
 clear hr0 hc0
 have HR1 := Aside0.mk hr1
 have HC1 := Aside0.mk hc1
 clear hr1 hc1
 have HB := Aside0.mk (Below.refl w.heap.size w)
 have H : (joiner_run.l0 k l0 l1 a2 1) = some r := h
 clear h
 have H' := Aside0.mk H
 clear H
 go_enter Tryd.func41, Tryd.ntmps41
 go_wp2
 go_loopg [7] k (fun kq v7 w' => ∃ (x7_1 : Int), v7 = .int .i64 x7_1 ∧ Aside0 (joiner_run.l0 kq l0 l1 a2 x7_1 = some r) ∧ Aside0 (kq ≤ k) ∧ Aside0 (Below w.heap.size w w'))
 case atStart => exact ⟨(1), (by first | rfl | (simp; done) | (simp [*]; done)), H', ⟨Nat.le_refl _⟩, ⟨by repeat (first | (with_reducible first | exact HB.out | apply below_alloc | apply pw_below_drewN | apply below_drew1) | exact HB.out)⟩⟩
 case round =>
  clear H'
  try clear c1
  try clear p2
  obtain ⟨x7_1, rfl, HA, HK1, HB⟩ := hrel
  cases gk with
  | zero => exact absurd HA.out (by simp [joiner_run.l0])
  | succ k1 =>
   have H := HA.out
   clear HA
   simp only [joiner_run.l0] at H
   by_cases c4 : (wrap64 (a2 + x7_1)) < (l1.length : Int)
   ·
    rw [if_pos c4] at H
    have c4b0 : decide ((wrap64 (a2 + x7_1)) < (l1.length : Int)) = true := decide_eq_true c4
    clear c4
    by_cases c5 : 0 ≤ a2
    ·
     rw [if_pos c5] at H
     have c5b0 : decide (0 ≤ a2) = true := decide_eq_true c5
     clear c5
     by_cases c6 : a2 < (l1.length : Int)
     ·
      rw [if_pos c6] at H
      have c6b0 : decide (a2 < (l1.length : Int)) = true := decide_eq_true c6
      clear c6
      by_cases c7 : 0 ≤ (rd l1 a2)
      ·
       rw [if_pos c7] at H
       have c7b0 : decide (0 ≤ (rd l1 a2)) = true := decide_eq_true c7
       clear c7
       by_cases c8 : (rd l1 a2) < (l0.length : Int)
       ·
        rw [if_pos c8] at H
        have c8b0 : decide ((rd l1 a2) < (l0.length : Int)) = true := decide_eq_true c8
        clear c8
        obtain ⟨ji9, hji9⟩ : ∃ j_ : Int, (wrap64 (a2 + x7_1)) = j_ := ⟨_, rfl⟩
        replace H : (if 0 ≤ (ji9) then (if 0 ≤ (rd l1 (ji9)) then (if (rd l1 (ji9)) < (l0.length : Int) then ((value_Orders.f k1 (rd_L4 l0 (rd l1 a2)) (rd_L4 l0 (rd l1 (ji9)))).bind fun t573 => (if t573 = 0 then (joiner_run.l0 k1 l0 l1 a2 (wrap64 (x7_1 + 1))) else (some x7_1))) else (none)) else (none)) else (none)) = some r := by first | (rw [hji9] at H; exact H) | (simp only [hji9] at H ⊢; exact H)
        (try rw [hji9] at c4b0)
        have hji9w : (IntKind.i64.wrap (a2 + x7_1)) = ji9 := (i64_w _).trans hji9
        by_cases c10 : 0 ≤ (ji9)
        ·
         rw [if_pos c10] at H
         have c10b0 : decide (0 ≤ (ji9)) = true := decide_eq_true c10
         clear c10
         by_cases c11 : 0 ≤ (rd l1 (ji9))
         ·
          rw [if_pos c11] at H
          have c11b0 : decide (0 ≤ (rd l1 (ji9))) = true := decide_eq_true c11
          clear c11
          by_cases c12 : (rd l1 (ji9)) < (l0.length : Int)
          ·
           rw [if_pos c12] at H
           have c12b0 : decide ((rd l1 (ji9)) < (l0.length : Int)) = true := decide_eq_true c12
           clear c12
           replace H := Option.bind_eq_some_iff.mp H
           obtain ⟨t573, A130, H⟩ := H
           replace H : (if t573 = 0 then (joiner_run.l0 k1 l0 l1 a2 (wrap64 (x7_1 + 1))) else (some x7_1)) = some r := H
           have A13 := Aside0.mk A130
           clear A130
           by_cases c14 : t573 = 0
           ·
            rw [if_pos c14] at H
            have c14b0 : (t573 == 0) = true := beq_iff_eq.mpr c14
            have c14b1 : (t573 != 0) = false := bne_eq_false_iff_eq.mpr c14
            clear c14
            have H' := Aside0.mk H
            clear H
            try go_wp2
            have n0_ := Aside0.mk (below_drew1 HB.out)
            clear HB
            have HB := n0_
            clear n0_
            have p569 : 0 ≤ (a2 : Int) := of_decide_eq_true (by first | (with_reducible assumption) | assumption)
            have q569 : a2 < (l1.length : Int) := of_decide_eq_true (by first | (with_reducible assumption) | assumption)
            obtain ⟨ad569, e569, hx569_0⟩ := Kd.at_int HR1.out a2 p569 q569
            have hw569_0 := hx569_0
            cases e569
            replace hx569_0 := (HB.out.cell (World.block_lt_of_cell? w _ hx569_0)).trans hx569_0
            replace p569 := eq_true p569
            replace q569 := eq_true q569
            have p570 : 0 ≤ ((rd l1 a2) : Int) := of_decide_eq_true (by first | (with_reducible assumption) | assumption)
            have q570 : (rd l1 a2) < (l0.length : Int) := of_decide_eq_true (by first | (with_reducible assumption) | assumption)
            obtain ⟨ad570, A570_0, c570_0, e570, hx570_0, hl570_0, hi570_0⟩ := at_L4 HR0.out (rd l1 a2) p570 q570
            have hw570_0 := hx570_0
            cases e570
            replace hx570_0 := (HB.out.cell (World.block_lt_of_cell? w _ hx570_0)).trans hx570_0
            have HR570_0 := Aside0.mk hi570_0
            have HC570_0 := Aside0.mk hl570_0
            clear hi570_0 hl570_0
            replace p570 := eq_true p570
            replace q570 := eq_true q570
            have p571 : 0 ≤ ((ji9) : Int) := of_decide_eq_true (by first | (with_reducible assumption) | assumption)
            have q571 : (ji9) < (l1.length : Int) := of_decide_eq_true (by first | (with_reducible assumption) | assumption)
            obtain ⟨ad571, e571, hx571_0⟩ := Kd.at_int HR1.out (ji9) p571 q571
            have hw571_0 := hx571_0
            obtain rfl : ad569 = ad571 := (by injection e571)
            replace hx571_0 := (HB.out.cell (World.block_lt_of_cell? w _ hx571_0)).trans hx571_0
            replace p571 := eq_true p571
            replace q571 := eq_true q571
            have p572 : 0 ≤ ((rd l1 (ji9)) : Int) := of_decide_eq_true (by first | (with_reducible assumption) | assumption)
            have q572 : (rd l1 (ji9)) < (l0.length : Int) := of_decide_eq_true (by first | (with_reducible assumption) | assumption)
            obtain ⟨ad572, A572_0, c572_0, e572, hx572_0, hl572_0, hi572_0⟩ := at_L4 HR0.out (rd l1 (ji9)) p572 q572
            have hw572_0 := hx572_0
            obtain rfl : ad570 = ad572 := (by injection e572)
            replace hx572_0 := (HB.out.cell (World.block_lt_of_cell? w _ hx572_0)).trans hx572_0
            have HR572_0 := Aside0.mk hi572_0
            have HC572_0 := Aside0.mk hl572_0
            clear hi572_0 hl572_0
            replace p572 := eq_true p572
            replace q572 := eq_true q572
            refine start_ (n := 26) (S := fun w' => w'.cell? (ad569.add (a2).toNat) = some (.int .i64 (rd l1 a2)) ∧ w'.cell? (ad570.add ((rd l1 a2)).toNat) = some (.slice A570_0 (rd_L4 l0 (rd l1 a2)).length c570_0) ∧ w'.cell? (ad569.add ((ji9)).toNat) = some (.int .i64 (rd l1 (ji9))) ∧ w'.cell? (ad570.add ((rd l1 (ji9))).toNat) = some (.slice A572_0 (rd_L4 l0 (rd l1 (ji9))).length c572_0)) (ds := []) #[false, false, false, false, false, false, false, false, false, false, false, false, false, false, false, false, false, false, false, false, false, false, false, false, false, false] (by kernel_rfl) rfl rfl ⟨((HB.out.cell (World.block_lt_of_cell? w _ hw569_0)).trans hw569_0), ((HB.out.cell (World.block_lt_of_cell? w _ hw570_0)).trans hw570_0), ((HB.out.cell (World.block_lt_of_cell? w _ hw571_0)).trans hw571_0), ((HB.out.cell (World.block_lt_of_cell? w _ hw572_0)).trans hw572_0)⟩ (fun hHeld => ?_); refine with_tabW joiner_run.tab2 joiner_run.bits2 (fun HT_ HW_ => ?_)
            generalize wr.drew = w15 at HB HR570_0 HR572_0 hx569_0 hx570_0 hx571_0 hx572_0 hHeld ⊢
            refine pure_ (i := 0) (N := some 8) (v := ?_) (a' := ?_) #[true, false, false, false, false, false, false, false, false, false, false, false, false, false, false, false, false, false, false, false, false, false, false, false, false, false] rfl rfl (any_of HT_.out (by kernel_rfl)) (fun _ _ _ h => h) (Or.inl ⟨by rfl, ?_⟩) ?_ ?_
            rotate_left
            ·
             intro w'
             go_simp
             with_reducible rfl
            rotate_left
            ·
             simp only [Act.put, List.setIfInBounds_toArray, List.set_cons_zero, List.set_cons_succ, i64_w, i32_w]
             rfl
            refine pure_ (i := 1) (N := some 9) (v := ?_) (a' := ?_) #[true, true, false, false, false, false, false, false, false, false, false, false, false, false, false, false, false, false, false, false, false, false, false, false, false, false] rfl rfl (any_of HT_.out (by kernel_rfl)) (fun _ _ _ h => h) (Or.inl ⟨by rfl, ?_⟩) ?_ ?_
            rotate_left
            ·
             intro w'
             go_simp
             with_reducible rfl
            rotate_left
            ·
             simp only [Act.put, List.setIfInBounds_toArray, List.set_cons_zero, List.set_cons_succ, i64_w, i32_w]
             rfl
            refine pure_ (i := 2) (N := some 10) (v := ?_) (a' := ?_) #[true, true, true, false, false, false, false, false, false, false, false, false, false, false, false, false, false, false, false, false, false, false, false, false, false, false] rfl rfl (any_of HT_.out (by kernel_rfl)) (fun _ _ _ h => h) (Or.inl ⟨by rfl, ?_⟩) ?_ ?_
            rotate_left
            ·
             intro w'
             go_simp
             with_reducible rfl
            rotate_left
            ·
             simp only [Act.put, List.setIfInBounds_toArray, List.set_cons_zero, List.set_cons_succ, i64_w, i32_w]
             rfl
            refine pure_ (i := 3) (N := some 11) (v := ?_) (a' := ?_) #[true, true, true, true, false, false, false, false, false, false, false, false, false, false, false, false, false, false, false, false, false, false, false, false, false, false] rfl rfl (any_of HT_.out (by kernel_rfl)) (fun _ _ _ h => h) (Or.inl ⟨by rfl, ?_⟩) ?_ ?_
            rotate_left
            ·
             intro w'
             go_simp
             with_reducible rfl
            rotate_left
            ·
             simp only [Act.put, List.setIfInBounds_toArray, List.set_cons_zero, List.set_cons_succ, i64_w, i32_w]
             rfl
            refine pure_ (i := 4) (N := some 12) (v := ?_) (a' := ?_) #[true, true, true, true, true, false, false, false, false, false, false, false, false, false, false, false, false, false, false, false, false, false, false, false, false, false] rfl rfl (any_of HT_.out (by kernel_rfl)) (fun _ _ _ h => h) (Or.inl ⟨by rfl, ?_⟩) ?_ ?_
            rotate_left
            ·
             intro w'
             go_simp
             with_reducible rfl
            rotate_left
            ·
             simp only [Act.put, List.setIfInBounds_toArray, List.set_cons_zero, List.set_cons_succ, i64_w, i32_w]
             rfl
            refine pure_ (i := 5) (N := some 13) (v := ?_) (a' := ?_) #[true, true, true, true, true, true, false, false, false, false, false, false, false, false, false, false, false, false, false, false, false, false, false, false, false, false] rfl rfl (any_of HT_.out (by kernel_rfl)) (fun _ _ _ h => h) (Or.inl ⟨by rfl, ?_⟩) ?_ ?_
            rotate_left
            ·
             intro w'
             go_simp
             with_reducible rfl
            rotate_left
            ·
             simp only [Act.put, List.setIfInBounds_toArray, List.set_cons_zero, List.set_cons_succ, i64_w, i32_w]
             rfl
            refine pure_ (i := 6) (N := some 14) (v := ?_) (a' := ?_) #[true, true, true, true, true, true, true, false, false, false, false, false, false, false, false, false, false, false, false, false, false, false, false, false, false, false] rfl rfl (any_of HT_.out (by kernel_rfl)) (fun _ _ _ h => h) (Or.inl ⟨by rfl, ?_⟩) ?_ ?_
            rotate_left
            ·
             intro w'
             go_simp
             with_reducible rfl
            rotate_left
            ·
             simp only [Act.put, List.setIfInBounds_toArray, List.set_cons_zero, List.set_cons_succ, i64_w, i32_w]
             rfl
            refine pure_ (i := 7) (N := some 15) (v := ?_) (a' := ?_) #[true, true, true, true, true, true, true, true, false, false, false, false, false, false, false, false, false, false, false, false, false, false, false, false, false, false] rfl rfl (any_of HT_.out (by kernel_rfl)) (fun _ _ _ h => h) (Or.inl ⟨by rfl, ?_⟩) ?_ ?_
            rotate_left
            ·
             intro w'
             go_simp
             with_reducible rfl
            rotate_left
            ·
             simp only [Act.put, List.setIfInBounds_toArray, List.set_cons_zero, List.set_cons_succ, i64_w, i32_w]
             rfl
            refine pure_ (i := 8) (N := some 16) (v := ?_) (a' := ?_) #[true, true, true, true, true, true, true, true, true, false, false, false, false, false, false, false, false, false, false, false, false, false, false, false, false, false] rfl rfl (any_of HT_.out (by kernel_rfl)) (fun _ _ _ h => h) (Or.inl ⟨by rfl, ?_⟩) ?_ ?_
            rotate_left
            ·
             intro w'
             go_simp
             with_reducible rfl
            rotate_left
            ·
             simp only [Act.put, List.setIfInBounds_toArray, List.set_cons_zero, List.set_cons_succ, i64_w, i32_w]
             rfl
            refine pure_ (i := 9) (N := some 17) (v := ?_) (a' := ?_) #[true, true, true, true, true, true, true, true, true, true, false, false, false, false, false, false, false, false, false, false, false, false, false, false, false, false] rfl rfl (any_of HT_.out (by kernel_rfl)) (fun _ _ _ h => h) (Or.inl ⟨by rfl, ?_⟩) ?_ ?_
            rotate_left
            ·
             intro w'
             go_simp
             with_reducible rfl
            rotate_left
            ·
             simp only [Act.put, List.setIfInBounds_toArray, List.set_cons_zero, List.set_cons_succ, i64_w, i32_w]
             rfl
            refine pure_ (i := 10) (N := some 18) (v := ?_) (a' := ?_) #[true, true, true, true, true, true, true, true, true, true, true, false, false, false, false, false, false, false, false, false, false, false, false, false, false, false] rfl rfl (any_of HT_.out (by kernel_rfl)) (fun _ _ _ h => h) (Or.inl ⟨by rfl, ?_⟩) ?_ ?_
            rotate_left
            ·
             intro w'
             go_simp
             with_reducible rfl
            rotate_left
            ·
             simp only [Act.put, List.setIfInBounds_toArray, List.set_cons_zero, List.set_cons_succ, i64_w, i32_w]
             rfl
            refine pure_ (i := 14) (N := some 22) (v := ?_) (a' := ?_) #[true, true, true, true, true, true, true, true, true, true, true, false, false, false, true, false, false, false, false, false, false, false, false, false, false, false] rfl rfl (any_of HT_.out (by kernel_rfl)) (fun _ _ _ h => h) (Or.inl ⟨by rfl, ?_⟩) ?_ ?_
            rotate_left
            ·
             intro w'
             go_simp
             with_reducible rfl
            rotate_left
            ·
             simp only [Act.put, List.setIfInBounds_toArray, List.set_cons_zero, List.set_cons_succ, i64_w, i32_w]
             rfl
            refine pure_ (i := 15) (N := some 23) (v := ?_) (a' := ?_) #[true, true, true, true, true, true, true, true, true, true, true, false, false, false, true, true, false, false, false, false, false, false, false, false, false, false] rfl rfl (any_of HT_.out (by kernel_rfl)) (fun _ _ _ h => h) (Or.inl ⟨by rfl, ?_⟩) ?_ ?_
            rotate_left
            ·
             intro w'
             go_simp
             with_reducible rfl
            rotate_left
            ·
             simp only [Act.put, List.setIfInBounds_toArray, List.set_cons_zero, List.set_cons_succ, i64_w, i32_w]
             rfl
            refine pure_ (i := 16) (N := some 24) (v := ?_) (a' := ?_) #[true, true, true, true, true, true, true, true, true, true, true, false, false, false, true, true, true, false, false, false, false, false, false, false, false, false] rfl rfl (any_of HT_.out (by kernel_rfl)) (fun _ _ _ h => h) (Or.inl ⟨by rfl, ?_⟩) ?_ ?_
            rotate_left
            ·
             intro w'
             go_simp
             with_reducible rfl
            rotate_left
            ·
             simp only [Act.put, List.setIfInBounds_toArray, List.set_cons_zero, List.set_cons_succ, i64_w, i32_w]
             rfl
            refine pure_ (i := 17) (N := some 25) (v := ?_) (a' := ?_) #[true, true, true, true, true, true, true, true, true, true, true, false, false, false, true, true, true, true, false, false, false, false, false, false, false, false] rfl rfl (any_of HT_.out (by kernel_rfl)) (fun _ _ _ h => h) (Or.inl ⟨by rfl, ?_⟩) ?_ ?_
            rotate_left
            ·
             intro w'
             go_simp
             with_reducible rfl
            rotate_left
            ·
             simp only [Act.put, List.setIfInBounds_toArray, List.set_cons_zero, List.set_cons_succ, i64_w, i32_w]
             rfl
            refine pure_ (i := 18) (N := some 26) (v := ?_) (a' := ?_) #[true, true, true, true, true, true, true, true, true, true, true, false, false, false, true, true, true, true, true, false, false, false, false, false, false, false] rfl rfl (any_of HT_.out (by kernel_rfl)) (fun _ _ _ h => h) (Or.inl ⟨by rfl, ?_⟩) ?_ ?_
            rotate_left
            ·
             intro w'
             go_simp
             with_reducible rfl
            rotate_left
            ·
             simp only [Act.put, List.setIfInBounds_toArray, List.set_cons_zero, List.set_cons_succ, i64_w, i32_w]
             rfl
            refine pure_ (i := 19) (N := some 27) (v := ?_) (a' := ?_) #[true, true, true, true, true, true, true, true, true, true, true, false, false, false, true, true, true, true, true, true, false, false, false, false, false, false] rfl rfl (any_of HT_.out (by kernel_rfl)) (fun _ _ _ h => h) (Or.inl ⟨by rfl, ?_⟩) ?_ ?_
            rotate_left
            ·
             intro w'
             go_simp
             with_reducible rfl
            rotate_left
            ·
             simp only [Act.put, List.setIfInBounds_toArray, List.set_cons_zero, List.set_cons_succ, i64_w, i32_w]
             rfl
            refine take_ (i := 11) (N := some 19) (v := ?_) (a' := ?_) #[true, true, true, true, true, true, true, true, true, true, true, true, false, false, true, true, true, true, true, true, false, false, false, false, false, false] rfl rfl (take_ofW HT_.out HW_.out (by kernel_rfl)) (fun _ _ _ h => h) (Or.inl ⟨by rfl, ?_⟩) hHeld ?_ ?_
            rotate_left
            ·
             rintro w' ⟨s0, s1, s2, s3⟩
             go_simp
             with_reducible rfl
            rotate_left
            ·
             simp only [Act.put, List.setIfInBounds_toArray, List.set_cons_zero, List.set_cons_succ, i64_w, i32_w]
             rfl
            refine pure_ (i := 12) (N := some 20) (v := ?_) (a' := ?_) #[true, true, true, true, true, true, true, true, true, true, true, true, true, false, true, true, true, true, true, true, false, false, false, false, false, false] rfl rfl (any_of HT_.out (by kernel_rfl)) (fun _ _ _ h => h) (Or.inl ⟨by rfl, ?_⟩) ?_ ?_
            rotate_left
            ·
             intro w'
             go_simp
             with_reducible rfl
            rotate_left
            ·
             simp only [Act.put, List.setIfInBounds_toArray, List.set_cons_zero, List.set_cons_succ, i64_w, i32_w]
             rfl
            refine take_ (i := 13) (N := some 21) (v := ?_) (a' := ?_) #[true, true, true, true, true, true, true, true, true, true, true, true, true, true, true, true, true, true, true, true, false, false, false, false, false, false] rfl rfl (take_ofW HT_.out HW_.out (by kernel_rfl)) (fun _ _ _ h => h) (Or.inl ⟨by rfl, ?_⟩) hHeld ?_ ?_
            rotate_left
            ·
             rintro w' ⟨s0, s1, s2, s3⟩
             go_simp
             with_reducible rfl
            rotate_left
            ·
             simp only [Act.put, List.setIfInBounds_toArray, List.set_cons_zero, List.set_cons_succ, i64_w, i32_w]
             rfl
            refine take_ (i := 20) (N := some 28) (v := ?_) (a' := ?_) #[true, true, true, true, true, true, true, true, true, true, true, true, true, true, true, true, true, true, true, true, true, false, false, false, false, false] rfl rfl (take_ofW HT_.out HW_.out (by kernel_rfl)) (fun _ _ _ h => h) (Or.inl ⟨by rfl, ?_⟩) hHeld ?_ ?_
            rotate_left
            ·
             rintro w' ⟨s0, s1, s2, s3⟩
             go_simp
             with_reducible rfl
            rotate_left
            ·
             simp only [Act.put, List.setIfInBounds_toArray, List.set_cons_zero, List.set_cons_succ, i64_w, i32_w]
             rfl
            refine pure_ (i := 21) (N := some 29) (v := ?_) (a' := ?_) #[true, true, true, true, true, true, true, true, true, true, true, true, true, true, true, true, true, true, true, true, true, true, false, false, false, false] rfl rfl (any_of HT_.out (by kernel_rfl)) (fun _ _ _ h => h) (Or.inl ⟨by rfl, ?_⟩) ?_ ?_
            rotate_left
            ·
             intro w'
             go_simp
             with_reducible rfl
            rotate_left
            ·
             simp only [Act.put, List.setIfInBounds_toArray, List.set_cons_zero, List.set_cons_succ, i64_w, i32_w]
             rfl
            refine take_ (i := 22) (N := some 30) (v := ?_) (a' := ?_) #[true, true, true, true, true, true, true, true, true, true, true, true, true, true, true, true, true, true, true, true, true, true, true, false, false, false] rfl rfl (take_ofW HT_.out HW_.out (by kernel_rfl)) (fun _ _ _ h => h) (Or.inl ⟨by rfl, ?_⟩) hHeld ?_ ?_
            rotate_left
            ·
             rintro w' ⟨s0, s1, s2, s3⟩
             go_simp
             with_reducible rfl
            rotate_left
            ·
             simp only [Act.put, List.setIfInBounds_toArray, List.set_cons_zero, List.set_cons_succ, i64_w, i32_w]
             rfl
            refine one_ (i := 23) (N := some 31) #[true, true, true, true, true, true, true, true, true, true, true, true, true, true, true, true, true, true, true, true, true, true, true, true, false, false] rfl rfl (one_of HT_.out (by kernel_rfl)) (by decide) (fun K hK => ?_)
            refine goes_ Tryd.func18 (by kernel_rfl) rfl #[.slice A570_0 (rd_L4 l0 (rd l1 a2)).length c570_0, .slice A572_0 (rd_L4 l0 (rd l1 (ji9))).length c572_0] (by rfl) rfl rfl (by (try simp only [List.map_toArray, List.map_cons, List.map_nil]); first | done | (simp only [hji9]; rfl) | rfl | (simp only [List.length_drop, List.length_take]; rfl)) ?_
            with_reducible refine (value_Orders.calls k1 _ _ (rd_L4 l0 (rd l1 a2)) _ _ (rd_L4 l0 (rd l1 (ji9))) t573 _ ?side1 ?side2 ?side3 ?side4 A13.out).mono ?_
            (case side1 => repeat (first | exact (Kd.C_below HR570_0.out HB.out) | (with_reducible refine Kd.C_alloc ?_ _) | (with_reducible refine Kd.C_drewN ?_ _) | (with_reducible refine Kd.C_drew ?_)))
            (case side2 => exact HC570_0.out)
            (case side3 => repeat (first | exact (Kd.C_below HR572_0.out HB.out) | (with_reducible refine Kd.C_alloc ?_ _) | (with_reducible refine Kd.C_drewN ?_ _) | (with_reducible refine Kd.C_drew ?_)))
            (case side4 => exact HC572_0.out)
            rintro e w16 ⟨rfl, hb⟩
            refine ⟨_, rfl, ?_⟩
            have n0_ := Aside0.mk (below_step (by repeat (first | (with_reducible first | exact HB.out | apply below_alloc | apply pw_below_drewN | apply below_drew1) | exact HB.out)) hb)
            clear HB
            have HB := n0_
            clear n0_
            (try clear hb)
            (try clear hb2)
            (try clear hk)
            (try clear hi)
            refine hK.out _ _ ⟨((HB.out.cell (World.block_lt_of_cell? w _ hw569_0)).trans hw569_0), ((HB.out.cell (World.block_lt_of_cell? w _ hw570_0)).trans hw570_0), ((HB.out.cell (World.block_lt_of_cell? w _ hw571_0)).trans hw571_0), ((HB.out.cell (World.block_lt_of_cell? w _ hw572_0)).trans hw572_0)⟩ (fun hHeld => ?_)
            clear hK K
            refine norm_ (a' := ?_) ?_ ?_
            rotate_left
            ·
             show Act.put _ (some 31) _ = _
             simp only [Act.put, List.setIfInBounds_toArray, List.set_cons_zero, List.set_cons_succ, i64_w, i32_w]
             rfl
            refine pure_ (i := 24) (N := some 32) (v := ?_) (a' := ?_) #[true, true, true, true, true, true, true, true, true, true, true, true, true, true, true, true, true, true, true, true, true, true, true, true, true, false] rfl rfl (any_of HT_.out (by kernel_rfl)) (fun _ _ _ h => h) (Or.inl ⟨by rfl, ?_⟩) ?_ ?_
            rotate_left
            ·
             intro w'
             go_simp
             with_reducible rfl
            rotate_left
            ·
             simp only [Act.put, List.setIfInBounds_toArray, List.set_cons_zero, List.set_cons_succ, i64_w, i32_w]
             rfl
            refine pure_ (i := 25) (N := some 33) (v := ?_) (a' := ?_) #[true, true, true, true, true, true, true, true, true, true, true, true, true, true, true, true, true, true, true, true, true, true, true, true, true, true] rfl rfl (any_of HT_.out (by kernel_rfl)) (fun _ _ _ h => h) (Or.inl ⟨by rfl, ?_⟩) ?_ ?_
            rotate_left
            ·
             intro w'
             go_simp
             with_reducible rfl
            rotate_left
            ·
             simp only [Act.put, List.setIfInBounds_toArray, List.set_cons_zero, List.set_cons_succ, i64_w, i32_w]
             rfl
            refine done_ (done_of HT_.out (by kernel_rfl)) ?_
            try go_wp2
            go_roundg k1
            case measure => have := HK1.out; omega
            case rel => exact ⟨(wrap64 (x7_1 + 1)), (by first | rfl | (simp; done) | (simp [*]; done)), H', ⟨by have := HK1.out; omega⟩, ⟨by repeat (first | (with_reducible first | exact HB.out | apply below_alloc | apply pw_below_drewN | apply below_drew1) | exact HB.out)⟩⟩
           ·
            rw [if_neg c14] at H
            have c14b0 : (t573 == 0) = false := beq_eq_false_iff_ne.mpr c14
            have c14b1 : (t573 != 0) = true := bne_iff_ne.mpr c14
            obtain rfl := Option.some.inj H
            try go_wp2
            have n0_ := Aside0.mk (below_drew1 HB.out)
            clear HB
            have HB := n0_
            clear n0_
            have p569 : 0 ≤ (a2 : Int) := of_decide_eq_true (by first | (with_reducible assumption) | assumption)
            have q569 : a2 < (l1.length : Int) := of_decide_eq_true (by first | (with_reducible assumption) | assumption)
            obtain ⟨ad569, e569, hx569_0⟩ := Kd.at_int HR1.out a2 p569 q569
            have hw569_0 := hx569_0
            cases e569
            replace hx569_0 := (HB.out.cell (World.block_lt_of_cell? w _ hx569_0)).trans hx569_0
            replace p569 := eq_true p569
            replace q569 := eq_true q569
            have p570 : 0 ≤ ((rd l1 a2) : Int) := of_decide_eq_true (by first | (with_reducible assumption) | assumption)
            have q570 : (rd l1 a2) < (l0.length : Int) := of_decide_eq_true (by first | (with_reducible assumption) | assumption)
            obtain ⟨ad570, A570_0, c570_0, e570, hx570_0, hl570_0, hi570_0⟩ := at_L4 HR0.out (rd l1 a2) p570 q570
            have hw570_0 := hx570_0
            cases e570
            replace hx570_0 := (HB.out.cell (World.block_lt_of_cell? w _ hx570_0)).trans hx570_0
            have HR570_0 := Aside0.mk hi570_0
            have HC570_0 := Aside0.mk hl570_0
            clear hi570_0 hl570_0
            replace p570 := eq_true p570
            replace q570 := eq_true q570
            have p571 : 0 ≤ ((ji9) : Int) := of_decide_eq_true (by first | (with_reducible assumption) | assumption)
            have q571 : (ji9) < (l1.length : Int) := of_decide_eq_true (by first | (with_reducible assumption) | assumption)
            obtain ⟨ad571, e571, hx571_0⟩ := Kd.at_int HR1.out (ji9) p571 q571
            have hw571_0 := hx571_0
            obtain rfl : ad569 = ad571 := (by injection e571)
            replace hx571_0 := (HB.out.cell (World.block_lt_of_cell? w _ hx571_0)).trans hx571_0
            replace p571 := eq_true p571
            replace q571 := eq_true q571
            have p572 : 0 ≤ ((rd l1 (ji9)) : Int) := of_decide_eq_true (by first | (with_reducible assumption) | assumption)
            have q572 : (rd l1 (ji9)) < (l0.length : Int) := of_decide_eq_true (by first | (with_reducible assumption) | assumption)
            obtain ⟨ad572, A572_0, c572_0, e572, hx572_0, hl572_0, hi572_0⟩ := at_L4 HR0.out (rd l1 (ji9)) p572 q572
            have hw572_0 := hx572_0
            obtain rfl : ad570 = ad572 := (by injection e572)
            replace hx572_0 := (HB.out.cell (World.block_lt_of_cell? w _ hx572_0)).trans hx572_0
            have HR572_0 := Aside0.mk hi572_0
            have HC572_0 := Aside0.mk hl572_0
            clear hi572_0 hl572_0
            replace p572 := eq_true p572
            replace q572 := eq_true q572
            refine start_ (n := 26) (S := fun w' => w'.cell? (ad569.add (a2).toNat) = some (.int .i64 (rd l1 a2)) ∧ w'.cell? (ad570.add ((rd l1 a2)).toNat) = some (.slice A570_0 (rd_L4 l0 (rd l1 a2)).length c570_0) ∧ w'.cell? (ad569.add ((ji9)).toNat) = some (.int .i64 (rd l1 (ji9))) ∧ w'.cell? (ad570.add ((rd l1 (ji9))).toNat) = some (.slice A572_0 (rd_L4 l0 (rd l1 (ji9))).length c572_0)) (ds := []) #[false, false, false, false, false, false, false, false, false, false, false, false, false, false, false, false, false, false, false, false, false, false, false, false, false, false] (by kernel_rfl) rfl rfl ⟨((HB.out.cell (World.block_lt_of_cell? w _ hw569_0)).trans hw569_0), ((HB.out.cell (World.block_lt_of_cell? w _ hw570_0)).trans hw570_0), ((HB.out.cell (World.block_lt_of_cell? w _ hw571_0)).trans hw571_0), ((HB.out.cell (World.block_lt_of_cell? w _ hw572_0)).trans hw572_0)⟩ (fun hHeld => ?_); refine with_tabW joiner_run.tab2 joiner_run.bits2 (fun HT_ HW_ => ?_)
            generalize wr.drew = w17 at HB HR570_0 HR572_0 hx569_0 hx570_0 hx571_0 hx572_0 hHeld ⊢
            refine pure_ (i := 0) (N := some 8) (v := ?_) (a' := ?_) #[true, false, false, false, false, false, false, false, false, false, false, false, false, false, false, false, false, false, false, false, false, false, false, false, false, false] rfl rfl (any_of HT_.out (by kernel_rfl)) (fun _ _ _ h => h) (Or.inl ⟨by rfl, ?_⟩) ?_ ?_
            rotate_left
            ·
             intro w'
             go_simp
             with_reducible rfl
            rotate_left
            ·
             simp only [Act.put, List.setIfInBounds_toArray, List.set_cons_zero, List.set_cons_succ, i64_w, i32_w]
             rfl
            refine pure_ (i := 1) (N := some 9) (v := ?_) (a' := ?_) #[true, true, false, false, false, false, false, false, false, false, false, false, false, false, false, false, false, false, false, false, false, false, false, false, false, false] rfl rfl (any_of HT_.out (by kernel_rfl)) (fun _ _ _ h => h) (Or.inl ⟨by rfl, ?_⟩) ?_ ?_
            rotate_left
            ·
             intro w'
             go_simp
             with_reducible rfl
            rotate_left
            ·
             simp only [Act.put, List.setIfInBounds_toArray, List.set_cons_zero, List.set_cons_succ, i64_w, i32_w]
             rfl
            refine pure_ (i := 2) (N := some 10) (v := ?_) (a' := ?_) #[true, true, true, false, false, false, false, false, false, false, false, false, false, false, false, false, false, false, false, false, false, false, false, false, false, false] rfl rfl (any_of HT_.out (by kernel_rfl)) (fun _ _ _ h => h) (Or.inl ⟨by rfl, ?_⟩) ?_ ?_
            rotate_left
            ·
             intro w'
             go_simp
             with_reducible rfl
            rotate_left
            ·
             simp only [Act.put, List.setIfInBounds_toArray, List.set_cons_zero, List.set_cons_succ, i64_w, i32_w]
             rfl
            refine pure_ (i := 3) (N := some 11) (v := ?_) (a' := ?_) #[true, true, true, true, false, false, false, false, false, false, false, false, false, false, false, false, false, false, false, false, false, false, false, false, false, false] rfl rfl (any_of HT_.out (by kernel_rfl)) (fun _ _ _ h => h) (Or.inl ⟨by rfl, ?_⟩) ?_ ?_
            rotate_left
            ·
             intro w'
             go_simp
             with_reducible rfl
            rotate_left
            ·
             simp only [Act.put, List.setIfInBounds_toArray, List.set_cons_zero, List.set_cons_succ, i64_w, i32_w]
             rfl
            refine pure_ (i := 4) (N := some 12) (v := ?_) (a' := ?_) #[true, true, true, true, true, false, false, false, false, false, false, false, false, false, false, false, false, false, false, false, false, false, false, false, false, false] rfl rfl (any_of HT_.out (by kernel_rfl)) (fun _ _ _ h => h) (Or.inl ⟨by rfl, ?_⟩) ?_ ?_
            rotate_left
            ·
             intro w'
             go_simp
             with_reducible rfl
            rotate_left
            ·
             simp only [Act.put, List.setIfInBounds_toArray, List.set_cons_zero, List.set_cons_succ, i64_w, i32_w]
             rfl
            refine pure_ (i := 5) (N := some 13) (v := ?_) (a' := ?_) #[true, true, true, true, true, true, false, false, false, false, false, false, false, false, false, false, false, false, false, false, false, false, false, false, false, false] rfl rfl (any_of HT_.out (by kernel_rfl)) (fun _ _ _ h => h) (Or.inl ⟨by rfl, ?_⟩) ?_ ?_
            rotate_left
            ·
             intro w'
             go_simp
             with_reducible rfl
            rotate_left
            ·
             simp only [Act.put, List.setIfInBounds_toArray, List.set_cons_zero, List.set_cons_succ, i64_w, i32_w]
             rfl
            refine pure_ (i := 6) (N := some 14) (v := ?_) (a' := ?_) #[true, true, true, true, true, true, true, false, false, false, false, false, false, false, false, false, false, false, false, false, false, false, false, false, false, false] rfl rfl (any_of HT_.out (by kernel_rfl)) (fun _ _ _ h => h) (Or.inl ⟨by rfl, ?_⟩) ?_ ?_
            rotate_left
            ·
             intro w'
             go_simp
             with_reducible rfl
            rotate_left
            ·
             simp only [Act.put, List.setIfInBounds_toArray, List.set_cons_zero, List.set_cons_succ, i64_w, i32_w]
             rfl
            refine pure_ (i := 7) (N := some 15) (v := ?_) (a' := ?_) #[true, true, true, true, true, true, true, true, false, false, false, false, false, false, false, false, false, false, false, false, false, false, false, false, false, false] rfl rfl (any_of HT_.out (by kernel_rfl)) (fun _ _ _ h => h) (Or.inl ⟨by rfl, ?_⟩) ?_ ?_
            rotate_left
            ·
             intro w'
             go_simp
             with_reducible rfl
            rotate_left
            ·
             simp only [Act.put, List.setIfInBounds_toArray, List.set_cons_zero, List.set_cons_succ, i64_w, i32_w]
             rfl
            refine pure_ (i := 8) (N := some 16) (v := ?_) (a' := ?_) #[true, true, true, true, true, true, true, true, true, false, false, false, false, false, false, false, false, false, false, false, false, false, false, false, false, false] rfl rfl (any_of HT_.out (by kernel_rfl)) (fun _ _ _ h => h) (Or.inl ⟨by rfl, ?_⟩) ?_ ?_
            rotate_left
            ·
             intro w'
             go_simp
             with_reducible rfl
            rotate_left
            ·
             simp only [Act.put, List.setIfInBounds_toArray, List.set_cons_zero, List.set_cons_succ, i64_w, i32_w]
             rfl
            refine pure_ (i := 9) (N := some 17) (v := ?_) (a' := ?_) #[true, true, true, true, true, true, true, true, true, true, false, false, false, false, false, false, false, false, false, false, false, false, false, false, false, false] rfl rfl (any_of HT_.out (by kernel_rfl)) (fun _ _ _ h => h) (Or.inl ⟨by rfl, ?_⟩) ?_ ?_
            rotate_left
            ·
             intro w'
             go_simp
             with_reducible rfl
            rotate_left
            ·
             simp only [Act.put, List.setIfInBounds_toArray, List.set_cons_zero, List.set_cons_succ, i64_w, i32_w]
             rfl
            refine pure_ (i := 10) (N := some 18) (v := ?_) (a' := ?_) #[true, true, true, true, true, true, true, true, true, true, true, false, false, false, false, false, false, false, false, false, false, false, false, false, false, false] rfl rfl (any_of HT_.out (by kernel_rfl)) (fun _ _ _ h => h) (Or.inl ⟨by rfl, ?_⟩) ?_ ?_
            rotate_left
            ·
             intro w'
             go_simp
             with_reducible rfl
            rotate_left
            ·
             simp only [Act.put, List.setIfInBounds_toArray, List.set_cons_zero, List.set_cons_succ, i64_w, i32_w]
             rfl
            refine pure_ (i := 14) (N := some 22) (v := ?_) (a' := ?_) #[true, true, true, true, true, true, true, true, true, true, true, false, false, false, true, false, false, false, false, false, false, false, false, false, false, false] rfl rfl (any_of HT_.out (by kernel_rfl)) (fun _ _ _ h => h) (Or.inl ⟨by rfl, ?_⟩) ?_ ?_
            rotate_left
            ·
             intro w'
             go_simp
             with_reducible rfl
            rotate_left
            ·
             simp only [Act.put, List.setIfInBounds_toArray, List.set_cons_zero, List.set_cons_succ, i64_w, i32_w]
             rfl
            refine pure_ (i := 15) (N := some 23) (v := ?_) (a' := ?_) #[true, true, true, true, true, true, true, true, true, true, true, false, false, false, true, true, false, false, false, false, false, false, false, false, false, false] rfl rfl (any_of HT_.out (by kernel_rfl)) (fun _ _ _ h => h) (Or.inl ⟨by rfl, ?_⟩) ?_ ?_
            rotate_left
            ·
             intro w'
             go_simp
             with_reducible rfl
            rotate_left
            ·
             simp only [Act.put, List.setIfInBounds_toArray, List.set_cons_zero, List.set_cons_succ, i64_w, i32_w]
             rfl
            refine pure_ (i := 16) (N := some 24) (v := ?_) (a' := ?_) #[true, true, true, true, true, true, true, true, true, true, true, false, false, false, true, true, true, false, false, false, false, false, false, false, false, false] rfl rfl (any_of HT_.out (by kernel_rfl)) (fun _ _ _ h => h) (Or.inl ⟨by rfl, ?_⟩) ?_ ?_
            rotate_left
            ·
             intro w'
             go_simp
             with_reducible rfl
            rotate_left
            ·
             simp only [Act.put, List.setIfInBounds_toArray, List.set_cons_zero, List.set_cons_succ, i64_w, i32_w]
             rfl
            refine pure_ (i := 17) (N := some 25) (v := ?_) (a' := ?_) #[true, true, true, true, true, true, true, true, true, true, true, false, false, false, true, true, true, true, false, false, false, false, false, false, false, false] rfl rfl (any_of HT_.out (by kernel_rfl)) (fun _ _ _ h => h) (Or.inl ⟨by rfl, ?_⟩) ?_ ?_
            rotate_left
            ·
             intro w'
             go_simp
             with_reducible rfl
            rotate_left
            ·
             simp only [Act.put, List.setIfInBounds_toArray, List.set_cons_zero, List.set_cons_succ, i64_w, i32_w]
             rfl
            refine pure_ (i := 18) (N := some 26) (v := ?_) (a' := ?_) #[true, true, true, true, true, true, true, true, true, true, true, false, false, false, true, true, true, true, true, false, false, false, false, false, false, false] rfl rfl (any_of HT_.out (by kernel_rfl)) (fun _ _ _ h => h) (Or.inl ⟨by rfl, ?_⟩) ?_ ?_
            rotate_left
            ·
             intro w'
             go_simp
             with_reducible rfl
            rotate_left
            ·
             simp only [Act.put, List.setIfInBounds_toArray, List.set_cons_zero, List.set_cons_succ, i64_w, i32_w]
             rfl
            refine pure_ (i := 19) (N := some 27) (v := ?_) (a' := ?_) #[true, true, true, true, true, true, true, true, true, true, true, false, false, false, true, true, true, true, true, true, false, false, false, false, false, false] rfl rfl (any_of HT_.out (by kernel_rfl)) (fun _ _ _ h => h) (Or.inl ⟨by rfl, ?_⟩) ?_ ?_
            rotate_left
            ·
             intro w'
             go_simp
             with_reducible rfl
            rotate_left
            ·
             simp only [Act.put, List.setIfInBounds_toArray, List.set_cons_zero, List.set_cons_succ, i64_w, i32_w]
             rfl
            refine take_ (i := 11) (N := some 19) (v := ?_) (a' := ?_) #[true, true, true, true, true, true, true, true, true, true, true, true, false, false, true, true, true, true, true, true, false, false, false, false, false, false] rfl rfl (take_ofW HT_.out HW_.out (by kernel_rfl)) (fun _ _ _ h => h) (Or.inl ⟨by rfl, ?_⟩) hHeld ?_ ?_
            rotate_left
            ·
             rintro w' ⟨s0, s1, s2, s3⟩
             go_simp
             with_reducible rfl
            rotate_left
            ·
             simp only [Act.put, List.setIfInBounds_toArray, List.set_cons_zero, List.set_cons_succ, i64_w, i32_w]
             rfl
            refine pure_ (i := 12) (N := some 20) (v := ?_) (a' := ?_) #[true, true, true, true, true, true, true, true, true, true, true, true, true, false, true, true, true, true, true, true, false, false, false, false, false, false] rfl rfl (any_of HT_.out (by kernel_rfl)) (fun _ _ _ h => h) (Or.inl ⟨by rfl, ?_⟩) ?_ ?_
            rotate_left
            ·
             intro w'
             go_simp
             with_reducible rfl
            rotate_left
            ·
             simp only [Act.put, List.setIfInBounds_toArray, List.set_cons_zero, List.set_cons_succ, i64_w, i32_w]
             rfl
            refine take_ (i := 13) (N := some 21) (v := ?_) (a' := ?_) #[true, true, true, true, true, true, true, true, true, true, true, true, true, true, true, true, true, true, true, true, false, false, false, false, false, false] rfl rfl (take_ofW HT_.out HW_.out (by kernel_rfl)) (fun _ _ _ h => h) (Or.inl ⟨by rfl, ?_⟩) hHeld ?_ ?_
            rotate_left
            ·
             rintro w' ⟨s0, s1, s2, s3⟩
             go_simp
             with_reducible rfl
            rotate_left
            ·
             simp only [Act.put, List.setIfInBounds_toArray, List.set_cons_zero, List.set_cons_succ, i64_w, i32_w]
             rfl
            refine take_ (i := 20) (N := some 28) (v := ?_) (a' := ?_) #[true, true, true, true, true, true, true, true, true, true, true, true, true, true, true, true, true, true, true, true, true, false, false, false, false, false] rfl rfl (take_ofW HT_.out HW_.out (by kernel_rfl)) (fun _ _ _ h => h) (Or.inl ⟨by rfl, ?_⟩) hHeld ?_ ?_
            rotate_left
            ·
             rintro w' ⟨s0, s1, s2, s3⟩
             go_simp
             with_reducible rfl
            rotate_left
            ·
             simp only [Act.put, List.setIfInBounds_toArray, List.set_cons_zero, List.set_cons_succ, i64_w, i32_w]
             rfl
            refine pure_ (i := 21) (N := some 29) (v := ?_) (a' := ?_) #[true, true, true, true, true, true, true, true, true, true, true, true, true, true, true, true, true, true, true, true, true, true, false, false, false, false] rfl rfl (any_of HT_.out (by kernel_rfl)) (fun _ _ _ h => h) (Or.inl ⟨by rfl, ?_⟩) ?_ ?_
            rotate_left
            ·
             intro w'
             go_simp
             with_reducible rfl
            rotate_left
            ·
             simp only [Act.put, List.setIfInBounds_toArray, List.set_cons_zero, List.set_cons_succ, i64_w, i32_w]
             rfl
            refine take_ (i := 22) (N := some 30) (v := ?_) (a' := ?_) #[true, true, true, true, true, true, true, true, true, true, true, true, true, true, true, true, true, true, true, true, true, true, true, false, false, false] rfl rfl (take_ofW HT_.out HW_.out (by kernel_rfl)) (fun _ _ _ h => h) (Or.inl ⟨by rfl, ?_⟩) hHeld ?_ ?_
            rotate_left
            ·
             rintro w' ⟨s0, s1, s2, s3⟩
             go_simp
             with_reducible rfl
            rotate_left
            ·
             simp only [Act.put, List.setIfInBounds_toArray, List.set_cons_zero, List.set_cons_succ, i64_w, i32_w]
             rfl
            refine one_ (i := 23) (N := some 31) #[true, true, true, true, true, true, true, true, true, true, true, true, true, true, true, true, true, true, true, true, true, true, true, true, false, false] rfl rfl (one_of HT_.out (by kernel_rfl)) (by decide) (fun K hK => ?_)
            refine goes_ Tryd.func18 (by kernel_rfl) rfl #[.slice A570_0 (rd_L4 l0 (rd l1 a2)).length c570_0, .slice A572_0 (rd_L4 l0 (rd l1 (ji9))).length c572_0] (by rfl) rfl rfl (by (try simp only [List.map_toArray, List.map_cons, List.map_nil]); first | done | (simp only [hji9]; rfl) | rfl | (simp only [List.length_drop, List.length_take]; rfl)) ?_
            with_reducible refine (value_Orders.calls k1 _ _ (rd_L4 l0 (rd l1 a2)) _ _ (rd_L4 l0 (rd l1 (ji9))) t573 _ ?side1 ?side2 ?side3 ?side4 A13.out).mono ?_
            (case side1 => repeat (first | exact (Kd.C_below HR570_0.out HB.out) | (with_reducible refine Kd.C_alloc ?_ _) | (with_reducible refine Kd.C_drewN ?_ _) | (with_reducible refine Kd.C_drew ?_)))
            (case side2 => exact HC570_0.out)
            (case side3 => repeat (first | exact (Kd.C_below HR572_0.out HB.out) | (with_reducible refine Kd.C_alloc ?_ _) | (with_reducible refine Kd.C_drewN ?_ _) | (with_reducible refine Kd.C_drew ?_)))
            (case side4 => exact HC572_0.out)
            rintro e w18 ⟨rfl, hb⟩
            refine ⟨_, rfl, ?_⟩
            have n0_ := Aside0.mk (below_step (by repeat (first | (with_reducible first | exact HB.out | apply below_alloc | apply pw_below_drewN | apply below_drew1) | exact HB.out)) hb)
            clear HB
            have HB := n0_
            clear n0_
            (try clear hb)
            (try clear hb2)
            (try clear hk)
            (try clear hi)
            refine hK.out _ _ ⟨((HB.out.cell (World.block_lt_of_cell? w _ hw569_0)).trans hw569_0), ((HB.out.cell (World.block_lt_of_cell? w _ hw570_0)).trans hw570_0), ((HB.out.cell (World.block_lt_of_cell? w _ hw571_0)).trans hw571_0), ((HB.out.cell (World.block_lt_of_cell? w _ hw572_0)).trans hw572_0)⟩ (fun hHeld => ?_)
            clear hK K
            refine norm_ (a' := ?_) ?_ ?_
            rotate_left
            ·
             show Act.put _ (some 31) _ = _
             simp only [Act.put, List.setIfInBounds_toArray, List.set_cons_zero, List.set_cons_succ, i64_w, i32_w]
             rfl
            refine pure_ (i := 24) (N := some 32) (v := ?_) (a' := ?_) #[true, true, true, true, true, true, true, true, true, true, true, true, true, true, true, true, true, true, true, true, true, true, true, true, true, false] rfl rfl (any_of HT_.out (by kernel_rfl)) (fun _ _ _ h => h) (Or.inl ⟨by rfl, ?_⟩) ?_ ?_
            rotate_left
            ·
             intro w'
             go_simp
             with_reducible rfl
            rotate_left
            ·
             simp only [Act.put, List.setIfInBounds_toArray, List.set_cons_zero, List.set_cons_succ, i64_w, i32_w]
             rfl
            refine pure_ (i := 25) (N := some 33) (v := ?_) (a' := ?_) #[true, true, true, true, true, true, true, true, true, true, true, true, true, true, true, true, true, true, true, true, true, true, true, true, true, true] rfl rfl (any_of HT_.out (by kernel_rfl)) (fun _ _ _ h => h) (Or.inl ⟨by rfl, ?_⟩) ?_ ?_
            rotate_left
            ·
             intro w'
             go_simp
             with_reducible rfl
            rotate_left
            ·
             simp only [Act.put, List.setIfInBounds_toArray, List.set_cons_zero, List.set_cons_succ, i64_w, i32_w]
             rfl
            refine done_ (done_of HT_.out (by kernel_rfl)) ?_
            try go_wp2
            go_ret
            exact ⟨by first | rfl | (simp [errW_none, errW_some] <;> rfl) | (simp only [← hji9]; first | rfl | (simp [errW_none, errW_some] <;> rfl)) | (simp [*, errW_none, errW_some] <;> rfl), by repeat (first | (with_reducible first | exact HB.out | apply below_alloc | apply pw_below_drewN | apply below_drew1) | exact HB.out)⟩
          ·
           rw [if_neg c12] at H
           exact absurd H (by simp)
         ·
          rw [if_neg c11] at H
          exact absurd H (by simp)
        ·
         rw [if_neg c10] at H
         exact absurd H (by simp)
       ·
        rw [if_neg c8] at H
        exact absurd H (by simp)
      ·
       rw [if_neg c7] at H
       exact absurd H (by simp)
     ·
      rw [if_neg c6] at H
      exact absurd H (by simp)
    ·
     rw [if_neg c5] at H
     exact absurd H (by simp)
   ·
    rw [if_neg c4] at H
    have c4b0 : decide ((wrap64 (a2 + x7_1)) < (l1.length : Int)) = false := decide_eq_false c4
    clear c4
    obtain rfl := Option.some.inj H
    try go_wp2
    have n0_ := Aside0.mk (below_drew1 HB.out)
    clear HB
    have HB := n0_
    clear n0_
    refine start_ (n := 26) (S := fun w' => True) (ds := []) #[false, false, false, false, false, false, false, false, false, false, false, false, false, false, false, false, false, false, false, false, false, false, false, false, false, false] (by kernel_rfl) rfl rfl trivial (fun hHeld => ?_); refine with_tabW joiner_run.tab2 joiner_run.bits2 (fun HT_ HW_ => ?_)
    generalize wr.drew = w19 at HB hHeld ⊢
    refine pure_ (i := 0) (N := some 8) (v := ?_) (a' := ?_) #[true, false, false, false, false, false, false, false, false, false, false, false, false, false, false, false, false, false, false, false, false, false, false, false, false, false] rfl rfl (any_of HT_.out (by kernel_rfl)) (fun _ _ _ h => h) (Or.inl ⟨by rfl, ?_⟩) ?_ ?_
    rotate_left
    ·
     intro w'
     go_simp
     with_reducible rfl
    rotate_left
    ·
     simp only [Act.put, List.setIfInBounds_toArray, List.set_cons_zero, List.set_cons_succ, i64_w, i32_w]
     rfl
    refine pure_ (i := 1) (N := some 9) (v := ?_) (a' := ?_) #[true, true, false, false, false, false, false, false, false, false, false, false, false, false, false, false, false, false, false, false, false, false, false, false, false, false] rfl rfl (any_of HT_.out (by kernel_rfl)) (fun _ _ _ h => h) (Or.inl ⟨by rfl, ?_⟩) ?_ ?_
    rotate_left
    ·
     intro w'
     go_simp
     with_reducible rfl
    rotate_left
    ·
     simp only [Act.put, List.setIfInBounds_toArray, List.set_cons_zero, List.set_cons_succ, i64_w, i32_w]
     rfl
    refine pure_ (i := 2) (N := some 10) (v := ?_) (a' := ?_) #[true, true, true, false, false, false, false, false, false, false, false, false, false, false, false, false, false, false, false, false, false, false, false, false, false, false] rfl rfl (any_of HT_.out (by kernel_rfl)) (fun _ _ _ h => h) (Or.inl ⟨by rfl, ?_⟩) ?_ ?_
    rotate_left
    ·
     intro w'
     go_simp
     with_reducible rfl
    rotate_left
    ·
     simp only [Act.put, List.setIfInBounds_toArray, List.set_cons_zero, List.set_cons_succ, i64_w, i32_w]
     rfl
    refine pure_ (i := 3) (N := some 11) (v := ?_) (a' := ?_) #[true, true, true, true, false, false, false, false, false, false, false, false, false, false, false, false, false, false, false, false, false, false, false, false, false, false] rfl rfl (any_of HT_.out (by kernel_rfl)) (fun _ _ _ h => h) (Or.inl ⟨by rfl, ?_⟩) ?_ ?_
    rotate_left
    ·
     intro w'
     go_simp
     with_reducible rfl
    rotate_left
    ·
     simp only [Act.put, List.setIfInBounds_toArray, List.set_cons_zero, List.set_cons_succ, i64_w, i32_w]
     rfl
    refine pure_ (i := 4) (N := some 12) (v := ?_) (a' := ?_) #[true, true, true, true, true, false, false, false, false, false, false, false, false, false, false, false, false, false, false, false, false, false, false, false, false, false] rfl rfl (any_of HT_.out (by kernel_rfl)) (fun _ _ _ h => h) (Or.inl ⟨by rfl, ?_⟩) ?_ ?_
    rotate_left
    ·
     intro w'
     go_simp
     with_reducible rfl
    rotate_left
    ·
     simp only [Act.put, List.setIfInBounds_toArray, List.set_cons_zero, List.set_cons_succ, i64_w, i32_w]
     rfl
    refine pure_ (i := 5) (N := some 13) (v := ?_) (a' := ?_) #[true, true, true, true, true, true, false, false, false, false, false, false, false, false, false, false, false, false, false, false, false, false, false, false, false, false] rfl rfl (any_of HT_.out (by kernel_rfl)) (fun _ _ _ h => h) (Or.inl ⟨by rfl, ?_⟩) ?_ ?_
    rotate_left
    ·
     intro w'
     go_simp
     with_reducible rfl
    rotate_left
    ·
     simp only [Act.put, List.setIfInBounds_toArray, List.set_cons_zero, List.set_cons_succ, i64_w, i32_w]
     rfl
    refine pure_ (i := 6) (N := some 14) (v := ?_) (a' := ?_) #[true, true, true, true, true, true, true, false, false, false, false, false, false, false, false, false, false, false, false, false, false, false, false, false, false, false] rfl rfl (any_of HT_.out (by kernel_rfl)) (fun _ _ _ h => h) (Or.inl ⟨by rfl, ?_⟩) ?_ ?_
    rotate_left
    ·
     intro w'
     go_simp
     with_reducible rfl
    rotate_left
    ·
     simp only [Act.put, List.setIfInBounds_toArray, List.set_cons_zero, List.set_cons_succ, i64_w, i32_w]
     rfl
    refine pure_ (i := 7) (N := some 15) (v := undef) (a' := ?_) #[true, true, true, true, true, true, true, true, false, false, false, false, false, false, false, false, false, false, false, false, false, false, false, false, false, false] rfl rfl (any_of HT_.out (by kernel_rfl)) (fun _ _ _ h => h) (Or.inr ⟨by rfl, rfl⟩) ?_ ?_
    rotate_left
    ·
     simp only [Act.put, List.setIfInBounds_toArray, List.set_cons_zero, List.set_cons_succ, i64_w, i32_w]
     rfl
    refine pure_ (i := 8) (N := some 16) (v := undef) (a' := ?_) #[true, true, true, true, true, true, true, true, true, false, false, false, false, false, false, false, false, false, false, false, false, false, false, false, false, false] rfl rfl (any_of HT_.out (by kernel_rfl)) (fun _ _ _ h => h) (Or.inr ⟨by rfl, rfl⟩) ?_ ?_
    rotate_left
    ·
     simp only [Act.put, List.setIfInBounds_toArray, List.set_cons_zero, List.set_cons_succ, i64_w, i32_w]
     rfl
    refine pure_ (i := 9) (N := some 17) (v := undef) (a' := ?_) #[true, true, true, true, true, true, true, true, true, true, false, false, false, false, false, false, false, false, false, false, false, false, false, false, false, false] rfl rfl (any_of HT_.out (by kernel_rfl)) (fun _ _ _ h => h) (Or.inr ⟨by rfl, rfl⟩) ?_ ?_
    rotate_left
    ·
     simp only [Act.put, List.setIfInBounds_toArray, List.set_cons_zero, List.set_cons_succ, i64_w, i32_w]
     rfl
    refine pure_ (i := 10) (N := some 18) (v := undef) (a' := ?_) #[true, true, true, true, true, true, true, true, true, true, true, false, false, false, false, false, false, false, false, false, false, false, false, false, false, false] rfl rfl (any_of HT_.out (by kernel_rfl)) (fun _ _ _ h => h) (Or.inr ⟨by rfl, rfl⟩) ?_ ?_
    rotate_left
    ·
     simp only [Act.put, List.setIfInBounds_toArray, List.set_cons_zero, List.set_cons_succ, i64_w, i32_w]
     rfl
    refine pure_ (i := 11) (N := some 19) (v := undef) (a' := ?_) #[true, true, true, true, true, true, true, true, true, true, true, true, false, false, false, false, false, false, false, false, false, false, false, false, false, false] rfl rfl (any_of HT_.out (by kernel_rfl)) (fun _ _ _ h => h) (Or.inr ⟨by rfl, rfl⟩) ?_ ?_
    rotate_left
    ·
     simp only [Act.put, List.setIfInBounds_toArray, List.set_cons_zero, List.set_cons_succ, i64_w, i32_w]
     rfl
    refine pure_ (i := 12) (N := some 20) (v := undef) (a' := ?_) #[true, true, true, true, true, true, true, true, true, true, true, true, true, false, false, false, false, false, false, false, false, false, false, false, false, false] rfl rfl (any_of HT_.out (by kernel_rfl)) (fun _ _ _ h => h) (Or.inr ⟨by rfl, rfl⟩) ?_ ?_
    rotate_left
    ·
     simp only [Act.put, List.setIfInBounds_toArray, List.set_cons_zero, List.set_cons_succ, i64_w, i32_w]
     rfl
    refine pure_ (i := 13) (N := some 21) (v := undef) (a' := ?_) #[true, true, true, true, true, true, true, true, true, true, true, true, true, true, false, false, false, false, false, false, false, false, false, false, false, false] rfl rfl (any_of HT_.out (by kernel_rfl)) (fun _ _ _ h => h) (Or.inr ⟨by rfl, rfl⟩) ?_ ?_
    rotate_left
    ·
     simp only [Act.put, List.setIfInBounds_toArray, List.set_cons_zero, List.set_cons_succ, i64_w, i32_w]
     rfl
    refine pure_ (i := 14) (N := some 22) (v := undef) (a' := ?_) #[true, true, true, true, true, true, true, true, true, true, true, true, true, true, true, false, false, false, false, false, false, false, false, false, false, false] rfl rfl (any_of HT_.out (by kernel_rfl)) (fun _ _ _ h => h) (Or.inr ⟨by rfl, rfl⟩) ?_ ?_
    rotate_left
    ·
     simp only [Act.put, List.setIfInBounds_toArray, List.set_cons_zero, List.set_cons_succ, i64_w, i32_w]
     rfl
    refine pure_ (i := 15) (N := some 23) (v := undef) (a' := ?_) #[true, true, true, true, true, true, true, true, true, true, true, true, true, true, true, true, false, false, false, false, false, false, false, false, false, false] rfl rfl (any_of HT_.out (by kernel_rfl)) (fun _ _ _ h => h) (Or.inr ⟨by rfl, rfl⟩) ?_ ?_
    rotate_left
    ·
     simp only [Act.put, List.setIfInBounds_toArray, List.set_cons_zero, List.set_cons_succ, i64_w, i32_w]
     rfl
    refine pure_ (i := 16) (N := some 24) (v := undef) (a' := ?_) #[true, true, true, true, true, true, true, true, true, true, true, true, true, true, true, true, true, false, false, false, false, false, false, false, false, false] rfl rfl (any_of HT_.out (by kernel_rfl)) (fun _ _ _ h => h) (Or.inr ⟨by rfl, rfl⟩) ?_ ?_
    rotate_left
    ·
     simp only [Act.put, List.setIfInBounds_toArray, List.set_cons_zero, List.set_cons_succ, i64_w, i32_w]
     rfl
    refine pure_ (i := 17) (N := some 25) (v := undef) (a' := ?_) #[true, true, true, true, true, true, true, true, true, true, true, true, true, true, true, true, true, true, false, false, false, false, false, false, false, false] rfl rfl (any_of HT_.out (by kernel_rfl)) (fun _ _ _ h => h) (Or.inr ⟨by rfl, rfl⟩) ?_ ?_
    rotate_left
    ·
     simp only [Act.put, List.setIfInBounds_toArray, List.set_cons_zero, List.set_cons_succ, i64_w, i32_w]
     rfl
    refine pure_ (i := 18) (N := some 26) (v := undef) (a' := ?_) #[true, true, true, true, true, true, true, true, true, true, true, true, true, true, true, true, true, true, true, false, false, false, false, false, false, false] rfl rfl (any_of HT_.out (by kernel_rfl)) (fun _ _ _ h => h) (Or.inr ⟨by rfl, rfl⟩) ?_ ?_
    rotate_left
    ·
     simp only [Act.put, List.setIfInBounds_toArray, List.set_cons_zero, List.set_cons_succ, i64_w, i32_w]
     rfl
    refine pure_ (i := 19) (N := some 27) (v := undef) (a' := ?_) #[true, true, true, true, true, true, true, true, true, true, true, true, true, true, true, true, true, true, true, true, false, false, false, false, false, false] rfl rfl (any_of HT_.out (by kernel_rfl)) (fun _ _ _ h => h) (Or.inr ⟨by rfl, rfl⟩) ?_ ?_
    rotate_left
    ·
     simp only [Act.put, List.setIfInBounds_toArray, List.set_cons_zero, List.set_cons_succ, i64_w, i32_w]
     rfl
    refine pure_ (i := 20) (N := some 28) (v := undef) (a' := ?_) #[true, true, true, true, true, true, true, true, true, true, true, true, true, true, true, true, true, true, true, true, true, false, false, false, false, false] rfl rfl (any_of HT_.out (by kernel_rfl)) (fun _ _ _ h => h) (Or.inr ⟨by rfl, rfl⟩) ?_ ?_
    rotate_left
    ·
     simp only [Act.put, List.setIfInBounds_toArray, List.set_cons_zero, List.set_cons_succ, i64_w, i32_w]
     rfl
    refine pure_ (i := 21) (N := some 29) (v := undef) (a' := ?_) #[true, true, true, true, true, true, true, true, true, true, true, true, true, true, true, true, true, true, true, true, true, true, false, false, false, false] rfl rfl (any_of HT_.out (by kernel_rfl)) (fun _ _ _ h => h) (Or.inr ⟨by rfl, rfl⟩) ?_ ?_
    rotate_left
    ·
     simp only [Act.put, List.setIfInBounds_toArray, List.set_cons_zero, List.set_cons_succ, i64_w, i32_w]
     rfl
    refine pure_ (i := 22) (N := some 30) (v := undef) (a' := ?_) #[true, true, true, true, true, true, true, true, true, true, true, true, true, true, true, true, true, true, true, true, true, true, true, false, false, false] rfl rfl (any_of HT_.out (by kernel_rfl)) (fun _ _ _ h => h) (Or.inr ⟨by rfl, rfl⟩) ?_ ?_
    rotate_left
    ·
     simp only [Act.put, List.setIfInBounds_toArray, List.set_cons_zero, List.set_cons_succ, i64_w, i32_w]
     rfl
    refine pure_ (i := 23) (N := some 31) (v := undef) (a' := ?_) #[true, true, true, true, true, true, true, true, true, true, true, true, true, true, true, true, true, true, true, true, true, true, true, true, false, false] rfl rfl (any_of HT_.out (by kernel_rfl)) (fun _ _ _ h => h) (Or.inr ⟨by rfl, rfl⟩) ?_ ?_
    rotate_left
    ·
     simp only [Act.put, List.setIfInBounds_toArray, List.set_cons_zero, List.set_cons_succ, i64_w, i32_w]
     rfl
    refine pure_ (i := 24) (N := some 32) (v := undef) (a' := ?_) #[true, true, true, true, true, true, true, true, true, true, true, true, true, true, true, true, true, true, true, true, true, true, true, true, true, false] rfl rfl (any_of HT_.out (by kernel_rfl)) (fun _ _ _ h => h) (Or.inr ⟨by rfl, rfl⟩) ?_ ?_
    rotate_left
    ·
     simp only [Act.put, List.setIfInBounds_toArray, List.set_cons_zero, List.set_cons_succ, i64_w, i32_w]
     rfl
    refine pure_ (i := 25) (N := some 33) (v := ?_) (a' := ?_) #[true, true, true, true, true, true, true, true, true, true, true, true, true, true, true, true, true, true, true, true, true, true, true, true, true, true] rfl rfl (any_of HT_.out (by kernel_rfl)) (fun _ _ _ h => h) (Or.inl ⟨by rfl, ?_⟩) ?_ ?_
    rotate_left
    ·
     intro w'
     go_simp
     with_reducible rfl
    rotate_left
    ·
     simp only [Act.put, List.setIfInBounds_toArray, List.set_cons_zero, List.set_cons_succ, i64_w, i32_w]
     rfl
    refine done_ (done_of HT_.out (by kernel_rfl)) ?_
    try go_wp2
    go_ret
    exact ⟨by first | rfl | (simp [errW_none, errW_some] <;> rfl) | (simp [*, errW_none, errW_some] <;> rfl), by repeat (first | (with_reducible first | exact HB.out | apply below_alloc | apply pw_below_drewN | apply below_drew1) | exact HB.out)⟩

end Go.Proofs.YtnllgjloimoebaaDoor.X

/- joiner.Merge in plain Lean: runs of one key, the walk along both sides. -/
set_option linter.unusedVariables false
set_option linter.unusedSimpArgs false
namespace Go.Proofs.YtnllgjloimoebaaDoor.X
open Go.RowKit Go.Proofs.YtnllgjloimoebaaDoorW.PrintWords Go.Proofs.YtnllgjloimoebaaDoorW.PrintLast Go.Proofs.YtnllgjloimoebaaDoorW.PrintMore

theorem nn_add (i x : Nat) : (0 : Int) ≤ (i : Int) + (x : Int) := by omega
theorem toNat_add (i x : Nat) : ((i : Int) + (x : Int)).toNat = i + x := by omega
/-- how many places from one on have one key -/
def runN (l : List (List S44)) (a : List Int) (i : Nat) : Nat := 1 + ((a.drop (i + 1)).takeWhile fun p => rcmp (rd_L4 l (rd a (i : Int))) (rd_L4 l p) == 0).length
theorem runN_le (l : List (List S44)) (a : List Int) (i : Nat) (h : i < a.length) : i + runN l a i ≤ a.length := by
  unfold runN
  have h1 := (List.takeWhile_sublist (l := a.drop (i + 1)) (p := fun p => rcmp (rd_L4 l (rd a (i : Int))) (rd_L4 l p) == 0)).length_le
  rw [List.length_drop] at h1
  omega
theorem run_loop (l : List (List S44)) (hl : shorts l) (a : List Int) (ha : ∀ p ∈ a, 0 ≤ p ∧ p < (l.length : Int)) (hal : a.length ≤ 1099511627776) (i : Nat) (hi : i < a.length) : ∀ (n j : Nat), a.length - (i + j) = n → 1 ≤ j → i + j ≤ a.length →
    Ev (fun k => joiner_run.l0 k l a (i : Int) (j : Int)) (((j + ((a.drop (i + j)).takeWhile fun p => rcmp (rd_L4 l (rd a (i : Int))) (rd_L4 l p) == 0).length : Nat)) : Int)
  | n, j, hn, hj, hij => by
    have hw : wrap64 ((i : Int) + (j : Int)) = ((i + j : Nat) : Int) := by unfold wrap64; omega
    have hri := ha (rd a (i : Int)) (by unfold rd; rw [Int.toNat_natCast]; exact getD_mem _ _ _ hi)
    refine Ev.succ ?_ (fun k => by rw [joiner_run.l0, hw])
    by_cases h1 : i + j < a.length
    · have hrj := ha (rd a ((i + j : Nat) : Int)) (by unfold rd; rw [Int.toNat_natCast]; exact getD_mem _ _ _ h1)
      have hd : a.drop (i + j) = rd a ((i + j : Nat) : Int) :: a.drop (i + (j + 1)) := by
        rw [drop_getD a 0 (i + j) h1]
        unfold rd
        rw [Int.toNat_natCast]
        rfl
      refine Ev.congr ?_ (fun k => by rw [if_pos (by omega : ((i + j : Nat) : Int) < (a.length : Int)), if_pos (by omega : (0 : Int) ≤ (i : Int)), if_pos (by omega : (i : Int) < (a.length : Int)), if_pos hri.1, if_pos hri.2, if_pos (by omega : (0 : Int) ≤ ((i + j : Nat) : Int)), if_pos hrj.1, if_pos hrj.2])
      refine Ev.bind (orders_ev _ _ (shorts_rd hl _).1) ?_
      rw [hd]
      by_cases h2 : rcmp (rd_L4 l (rd a (i : Int))) (rd_L4 l (rd a ((i + j : Nat) : Int))) = 0
      · rw [List.takeWhile_cons_of_pos (by simpa using h2)]
        refine Ev.congr ?_ (fun k => by rw [if_pos h2, w64 j (by omega)])
        match n, hn with
        | n + 1, hn =>
          have h3 := run_loop l hl a ha hal i hi n (j + 1) (by omega) (by omega) (by omega)
          rw [List.length_cons]
          rw [show j + (((a.drop (i + (j + 1))).takeWhile fun p => rcmp (rd_L4 l (rd a (i : Int))) (rd_L4 l p) == 0).length + 1) = (j + 1) + ((a.drop (i + (j + 1))).takeWhile fun p => rcmp (rd_L4 l (rd a (i : Int))) (rd_L4 l p) == 0).length by omega]
          exact h3
        | 0, hn => omega
      · rw [List.takeWhile_cons_of_neg (by simpa using h2)]
        exact Ev.congr (Ev.const _) (fun k => by rw [if_neg h2]; rfl)
    · rw [List.drop_eq_nil_of_le (by omega : a.length ≤ i + j)]
      exact Ev.congr (Ev.const _) (fun k => by rw [if_neg (by omega : ¬ ((i + j : Nat) : Int) < (a.length : Int))]; rfl)
theorem run_ev (l : List (List S44)) (hl : shorts l) (a : List Int) (ha : ∀ p ∈ a, 0 ≤ p ∧ p < (l.length : Int)) (hal : a.length ≤ 1099511627776) (i : Nat) (hi : i < a.length) : Ev (fun k => joiner_run.f k l a (i : Int)) ((runN l a i : Nat) : Int) :=
  run_loop l hl a ha hal i hi _ 1 rfl (Nat.le_refl _) (by omega)

/-- the pairs of one place with some -/
def rowP (p : Int) (b : List Int) (k y : Nat) : List S40 := ((b.drop k).take y).map fun q => ⟨p, q⟩
def crossP (a b : List Int) (i k n : Nat) : Nat → List S40
  | 0 => []
  | x + 1 => crossP a b i k n x ++ rowP (rd a ((i + x : Nat) : Int)) b k n
theorem rowP_len (p : Int) (b : List Int) (k y : Nat) : (rowP p b k y).length ≤ y := by
  unfold rowP
  rw [List.length_map, List.length_take]; omega
theorem crossP_len (a b : List Int) (i k n : Nat) : ∀ x, (crossP a b i k n x).length ≤ x * n
  | 0 => by simp [crossP]
  | x + 1 => by
    have h1 := crossP_len a b i k n x
    have h2 := rowP_len (rd a ((i + x : Nat) : Int)) b k n
    unfold crossP
    rw [List.length_append, Nat.succ_mul]; omega
theorem rowP_succ (p : Int) (b : List Int) (k y : Nat) (h : k + y < b.length) : rowP p b k (y + 1) = rowP p b k y ++ [⟨p, rd b ((k + y : Nat) : Int)⟩] := by
  unfold rowP
  rw [List.take_succ_eq_append_getElem (by rw [List.length_drop]; omega), List.map_append]
  congr 1
  simp only [List.map_cons, List.map_nil, List.getElem_drop]
  unfold rd
  rw [Int.toNat_natCast, List.getD_eq_getElem?_getD, List.getElem?_eq_getElem h]
  rfl

/-- the walk along both sides -/
def mergeGo (l r : List (List S44)) (a b : List Int) : Nat → Nat → Nat → List S40 → List S40
  | 0, _, _, o => o
  | f + 1, i, k, o =>
    if i < a.length ∧ k < b.length then
      mergeGo l r a b f (if rcmp (rd_L4 l (rd a (i : Int))) (rd_L4 r (rd b (k : Int))) ≤ 0 then i + runN l a i else i) (if rcmp (rd_L4 l (rd a (i : Int))) (rd_L4 r (rd b (k : Int))) ≥ 0 then k + runN r b k else k)
        (if rcmp (rd_L4 l (rd a (i : Int))) (rd_L4 r (rd b (k : Int))) = 0 then o ++ crossP a b i k (runN r b k) (runN l a i) else o)
    else o
def mergeP (l r : List (List S44)) : List S40 := (mergeGo l r (rankedP l) (rankedP r) ((rankedP l).length + (rankedP r).length) 0 0 []).mergeSort (fun x y => !decide (pcmp y x < 0))
def joiner_Merge.f (l r : List (List S44)) : Option (List S40) := if (l.all keyable && r.all keyable) && (decide (l.length ≤ 1048576) && decide (r.length ≤ 1048576)) then some (mergeP l r) else none
theorem ranked_perm (l : List (List S44)) : (rankedP l).Perm (wholesTo l l.length) := List.mergeSort_perm _ _
theorem ranked_in (l : List (List S44)) : ∀ p ∈ rankedP l, 0 ≤ p ∧ p < (l.length : Int) := fun p hp => wholesTo_in l l.length p ((ranked_perm l).mem_iff.1 hp)
theorem ranked_len (l : List (List S44)) : (rankedP l).length ≤ l.length := by rw [(ranked_perm l).length_eq]; exact wholesTo_len l l.length
theorem shorts_of {l : List (List S44)} (h1 : ∀ r ∈ l, keyable r = true) (h2 : l.length ≤ 1099511627776) : shorts l := ⟨h2, fun r hr => by
  have h3 := keyable_len (h1 r hr)
  have h4 := h1 r hr
  unfold keyable at h4
  rw [Bool.and_eq_true] at h4
  have h5 := rowOK_of h4.1
  exact ⟨by omega, fun x hx => by have := (h5.2 x hx).2.2; omega⟩⟩

theorem len_one {L i M : Nat} (h : L ≤ i * M) (hM : M = 1048576) (hi : i ≤ 1048576) : L ≤ 1099511627776 :=
  Nat.le_trans h (Nat.le_trans (Nat.mul_le_mul hi (Nat.le_of_eq hM)) (by decide))
theorem len_two {o c : List S40} {i M x n : Nat} (h : o.length ≤ i * M) (hc : c.length ≤ x * n) (hM : M = 1048576) (hi : i ≤ 1048576) (hx : x ≤ 1048576) (hn : n ≤ 1048576) : (o ++ c).length ≤ 3000000000000 := by
  have h1 := len_one h hM hi
  have h2 : c.length ≤ 1099511627776 := Nat.le_trans hc (Nat.le_trans (Nat.mul_le_mul hx hn) (by decide))
  rw [List.length_append]
  clear h hc hM hi hx hn
  omega
theorem len_next {o c : List S40} {i M x n : Nat} (h : o.length ≤ i * M) (hc : c.length ≤ x * n) (hM : M = 1048576) (hn : n ≤ 1048576) : (o ++ c).length ≤ (i + x) * M := by
  rw [List.length_append, Nat.add_mul]
  exact Nat.add_le_add h (Nat.le_trans hc (Nat.mul_le_mul_left x (by rw [hM]; exact hn)))
theorem le_of_sum {x n B : Nat} (h : x ≤ n) (hB : n ≤ B) : x ≤ B := Nat.le_trans h hB
theorem len_three {o r : List S40} {y : Nat} (h : o.length ≤ 3000000000000) (hr : r.length ≤ y) (hy : y ≤ 1048576) : (o ++ r).length ≤ 3000002000000 := by
  rw [List.length_append]; omega
theorem wrap_add {i x n : Nat} (h : i + x < n) (hn : n ≤ 1048576) : wrap64 ((i : Int) + (x : Int)) = ((i + x : Nat) : Int) := by unfold wrap64; omega
end Go.Proofs.YtnllgjloimoebaaDoor.X

/- joiner.Merge: both sides by their keys, side by side; the pairs in order at the end. -/
set_option linter.unusedVariables false
set_option linter.unusedSimpArgs false
namespace Go.Proofs.YtnllgjloimoebaaDoor.X
open Go.RowKit Go.Proofs.YtnllgjloimoebaaDoorW.PrintWords Go.Proofs.YtnllgjloimoebaaDoorW.PrintLast Go.Proofs.YtnllgjloimoebaaDoorW.PrintMore

set_option maxHeartbeats 16000000 in
set_option maxRecDepth 100000 in
theorem joiner_Merge.calls (A0 : Option Addr) (c0 : Nat) (l0 : List (List (S44))) (A1 : Option Addr) (c1 : Nat) (l1 : List (List (S44))) (res : List S40) (w : World) (hr0 : Kd.C (Kd.slice 44 k44) w A0 l0.length l0) (hc0 : l0.length ≤ c0) (hr1 : Kd.C (Kd.slice 44 k44) w A1 l1.length l1) (hc1 : l1.length ≤ c1) (h : joiner_Merge.f l0 l1 = some res) :
    Calls Tryd.prog 24 #[.slice A0 l0.length c0, .slice A1 l1.length c1] w fun e w' => ∃ v0_ : Value, e = .returned (v0_) ∧ Kd.R k40 40 w' w.heap.size (fun _ => True) v0_ res ∧ Below w.heap.size w w' := by
  have HR0 := Aside0.mk hr0
  have HC0 := Aside0.mk hc0
  have HR1 := Aside0.mk hr1
  have HC1 := Aside0.mk hc1
  clear hr0 hc0 hr1 hc1
  unfold joiner_Merge.f at h
  split at h
  case isFalse => cases h
  rename_i hall
  rw [Bool.and_eq_true, Bool.and_eq_true, Bool.and_eq_true, decide_eq_true_eq, decide_eq_true_eq, List.all_eq_true, List.all_eq_true] at hall
  have HL0 : Aside0 (l0.length ≤ 1048576) := ⟨hall.2.1⟩
  have HL1 : Aside0 (l1.length ≤ 1048576) := ⟨hall.2.2⟩
  have HSH0 : Aside0 (shorts l0) := ⟨shorts_of hall.1.1 (by have := hall.2.1; omega)⟩
  have HSH1 : Aside0 (shorts l1) := ⟨shorts_of hall.1.2 (by have := hall.2.2; omega)⟩
  have HFA : Aside0 (joiner_ranked.f l0 = some (rankedP l0)) := ⟨by unfold joiner_ranked.f; rw [if_pos (by rw [Bool.and_eq_true, decide_eq_true_eq, List.all_eq_true]; exact ⟨hall.1.1, by have := hall.2.1; omega⟩)]⟩
  have HFB : Aside0 (joiner_ranked.f l1 = some (rankedP l1)) := ⟨by unfold joiner_ranked.f; rw [if_pos (by rw [Bool.and_eq_true, decide_eq_true_eq, List.all_eq_true]; exact ⟨hall.1.2, by have := hall.2.2; omega⟩)]⟩
  clear hall
  have h := Option.some.inj h
  unfold mergeP at h
  have HRES := Aside0.mk h
  clear h
  go_enter Tryd.func24, Tryd.ntmps24
  go_wp2_with (first | (go_at_call 40; (with_reducible refine (joiner_ranked.calls A0 c0 l0 (rankedP l0) _ HR0.out HC0.out HFA.out).mono ?_); rintro e wa ⟨va, rfl, ho, hb⟩; have HVA := Aside0.mk ho; have HB := Aside0.mk hb; clear ho hb) | (go_at_call 40; (with_reducible refine (joiner_ranked.calls A1 c1 l1 (rankedP l1) _ (Kd.C_below HR1.out HB.out) HC1.out HFB.out).mono ?_); rintro e wb ⟨vb, rfl, ho, hb⟩; have HVB := Aside0.mk (Kd.R_lower ho (below_size HB.out)); have n0_ := Aside0.mk (Kd.R_below HVA.out hb); have n1_ := Aside0.mk (below_step HB.out hb); clear HVA HB ho hb; have HVA := n0_; have HB := n1_; clear n0_ n1_))
  obtain ⟨a, ha⟩ : ∃ a, a = rankedP l0 := ⟨_, rfl⟩
  obtain ⟨b, hb⟩ : ∃ b, b = rankedP l1 := ⟨_, rfl⟩
  have HAIN : Aside0 (∀ p ∈ a, 0 ≤ p ∧ p < (l0.length : Int)) := ⟨by rw [ha]; exact ranked_in l0⟩
  have HBIN : Aside0 (∀ p ∈ b, 0 ≤ p ∧ p < (l1.length : Int)) := ⟨by rw [hb]; exact ranked_in l1⟩
  have HAL : Aside0 (a.length ≤ 1048576) := ⟨by rw [ha]; have := ranked_len l0; have := HL0.out; omega⟩
  have HBL : Aside0 (b.length ≤ 1048576) := ⟨by rw [hb]; have := ranked_len l1; have := HL1.out; omega⟩
  rw [← ha] at HVA HRES
  rw [← hb] at HVB HRES
  clear ha hb HFA HFB
  obtain ⟨Aa, ca, ea⟩ := Kd.R_slice HVA.out
  subst ea
  obtain ⟨Ab, cb, eb⟩ := Kd.R_slice HVB.out
  subst eb
  obtain ⟨fin, hfin⟩ : ∃ fin, fin = mergeGo l0 l1 a b (a.length + b.length) 0 0 [] := ⟨_, rfl⟩
  rw [← hfin] at HRES
  have HFIN0 := Aside0.mk hfin.symm
  clear hfin
  obtain ⟨M, hM⟩ : ∃ M : Nat, M = 1048576 := ⟨_, rfl⟩
  have HM := Aside0.mk hM
  clear hM
  go_loopg [7, 8, 9] (a.length + b.length) (fun n v7 v8 v9 wr => ∃ (i k : Nat) (o : List S40), v8 = .int .i64 i ∧ v9 = .int .i64 k ∧ Aside0 (i ≤ a.length ∧ k ≤ b.length ∧ (a.length - i) + (b.length - k) ≤ n ∧ o.length ≤ i * M) ∧ Aside0 (mergeGo l0 l1 a b n i k o = fin) ∧ Aside0 (Kd.R k40 40 wr w.heap.size (fun _ => True) v7 o) ∧ Aside0 (Kd.R (Kd.int .i64) 3 wr w.heap.size (fun _ => True) (.slice Aa a.length ca) a) ∧ Aside0 (Kd.R (Kd.int .i64) 3 wr w.heap.size (fun _ => True) (.slice Ab b.length cb) b) ∧ Aside0 (Below w.heap.size w wr))
  case atStart => exact ⟨0, 0, [], rfl, rfl, ⟨Nat.zero_le _, Nat.zero_le _, by omega, by simp⟩, HFIN0, ⟨Kd.R_nil _ _ _ _ _⟩, HVA, HVB, HB⟩
  case round =>
    clear HFIN0 HVA HVB HB
    obtain ⟨i, k, o, rfl, rfl, HIK, HGO, HO, HVA, HVB, HB⟩ := hrel
    have hal : (a.length : Int) ≤ 1048576 := by have := HAL.out; omega
    have hbl : (b.length : Int) ≤ 1048576 := by have := HBL.out; omega
    have hile := HIK.out.1
    have hkle := HIK.out.2.1
    by_cases hi : i < a.length
    · by_cases hk : k < b.length
      · have hgk := HIK.out.2.2.1
        obtain ⟨n', rfl⟩ : ∃ n', gk = n' + 1 := ⟨gk - 1, by omega⟩
        obtain ⟨p, hp⟩ : ∃ p, p = rd a (i : Int) := ⟨_, rfl⟩
        obtain ⟨q, hq⟩ : ∃ q, q = rd b (k : Int) := ⟨_, rfl⟩
        have hpi := HAIN.out p (by rw [hp]; unfold rd; rw [Int.toNat_natCast]; exact getD_mem _ _ _ hi)
        have hqi := HBIN.out q (by rw [hq]; unfold rd; rw [Int.toNat_natCast]; exact getD_mem _ _ _ hk)
        obtain ⟨ada, ea, hxa⟩ := Kd.at_int (Kd.R_reads' HVA.out).2.2 (i : Int) (by omega) (by omega)
        obtain ⟨adb, eb, hxb⟩ := Kd.at_int (Kd.R_reads' HVB.out).2.2 (k : Int) (by omega) (by omega)
        subst ea
        subst eb
        rw [Int.toNat_natCast, ← hp] at hxa
        rw [Int.toNat_natCast, ← hq] at hxb
        obtain ⟨adl, Ar1, cr1, e1, hx1, hl1, hi1⟩ := at_L4 HR0.out p hpi.1 hpi.2
        obtain ⟨adr, Ar2, cr2, e2, hx2, hl2, hi2⟩ := at_L4 HR1.out q hqi.1 hqi.2
        cases e1
        cases e2
        replace hx1 := (HB.out.cell (World.block_lt_of_cell? w _ hx1)).trans hx1
        replace hx2 := (HB.out.cell (World.block_lt_of_cell? w _ hx2)).trans hx2
        obtain ⟨c, hc⟩ : ∃ c, c = rcmp (rd_L4 l0 p) (rd_L4 l1 q) := ⟨_, rfl⟩
        obtain ⟨kf, hkf⟩ := orders_ev (rd_L4 l0 p) (rd_L4 l1 q) (shorts_rd HSH0.out _).1
        have HKF : Aside0 (value_Orders.f kf (rd_L4 l0 p) (rd_L4 l1 q) = some c) := ⟨by rw [hc]; exact hkf kf (Nat.le_refl _)⟩
        obtain ⟨mN, hm⟩ : ∃ m, m = runN l0 a i := ⟨_, rfl⟩
        obtain ⟨nN, hn⟩ : ∃ n, n = runN l1 b k := ⟨_, rfl⟩
        obtain ⟨km, hkm⟩ := run_ev l0 HSH0.out a HAIN.out (by omega) i hi
        obtain ⟨kn, hkn⟩ := run_ev l1 HSH1.out b HBIN.out (by omega) k hk
        have HKM : Aside0 (joiner_run.f km l0 a (i : Int) = some (mN : Int)) := ⟨by rw [hm]; exact hkm km (Nat.le_refl _)⟩
        have HKN : Aside0 (joiner_run.f kn l1 b (k : Int) = some (nN : Int)) := ⟨by rw [hn]; exact hkn kn (Nat.le_refl _)⟩
        have HMB : Aside0 (i + mN ≤ a.length ∧ 1 ≤ mN) := ⟨by rw [hm]; exact ⟨runN_le l0 a i hi, by unfold runN; omega⟩⟩
        have HNB : Aside0 (k + nN ≤ b.length ∧ 1 ≤ nN) := ⟨by rw [hn]; exact ⟨runN_le l1 b k hk, by unfold runN; omega⟩⟩
        have HGO2 : Aside0 (mergeGo l0 l1 a b n' (if c ≤ 0 then i + mN else i) (if c ≥ 0 then k + nN else k) (if c = 0 then o ++ crossP a b i k nN mN else o) = fin) := ⟨by
          have h_ := HGO.out
          rw [mergeGo, if_pos ⟨hi, hk⟩, ← hp, ← hq, ← hc, ← hm, ← hn] at h_
          exact h_⟩
        have HI1 := Aside0.mk hi1
        have HI2 := Aside0.mk hi2
        have HL1 := Aside0.mk hl1
        have HL2 := Aside0.mk hl2
        have HS : Aside0 (wr.cell? (ada.add i) = some (.int .i64 p) ∧ wr.cell? (adb.add k) = some (.int .i64 q) ∧ wr.cell? (adl.add p.toNat) = some (.slice Ar1 (rd_L4 l0 p).length cr1) ∧ wr.cell? (adr.add q.toNat) = some (.slice Ar2 (rd_L4 l1 q).length cr2)) := ⟨⟨hxa, hxb, hx1, hx2⟩⟩
        have HB5 : Aside0 (Below w.heap.size w wr.drew) := ⟨below_drew1 HB.out⟩
        clear hx1 hx2 hxa hxb hi1 hi2 hl1 hl2 hkf hkm hkn HGO hc hm hn hp hq
        have hia : (i : Int) < (a.length : Int) := by omega
        have hkb : (k : Int) < (b.length : Int) := by omega
        obtain ⟨hp0, hp1⟩ := hpi
        obtain ⟨hq0, hq1⟩ := hqi
        go_wp2
        refine start_ (n := 16) (S := fun w' => w'.cell? (ada.add i) = some (.int .i64 p) ∧ w'.cell? (adb.add k) = some (.int .i64 q) ∧ w'.cell? (adl.add p.toNat) = some (.slice Ar1 (rd_L4 l0 p).length cr1) ∧ w'.cell? (adr.add q.toNat) = some (.slice Ar2 (rd_L4 l1 q).length cr2)) (ds := []) #[false, false, false, false, false, false, false, false, false, false, false, false, false, false, false, false] (by kernel_rfl) rfl rfl HS.out (fun hHeld => ?_)
        refine pure_ (i := 0) (N := some 29) (v := ?_) (a' := ?_) #[true, false, false, false, false, false, false, false, false, false, false, false, false, false, false, false] rfl rfl (by kernel_rfl) (fun _ _ _ h => h) (Or.inl ⟨by rfl, ?_⟩) ?_ ?_
        rotate_left
        · intro w'
          go_simp
          all_goals with_reducible rfl
        rotate_left
        · simp only [Act.put, List.setIfInBounds_toArray, List.set_cons_zero, List.set_cons_succ, i64_w, i32_w]
          rfl
        refine pure_ (i := 1) (N := some 30) (v := ?_) (a' := ?_) #[true, true, false, false, false, false, false, false, false, false, false, false, false, false, false, false] rfl rfl (by kernel_rfl) (fun _ _ _ h => h) (Or.inl ⟨by rfl, ?_⟩) ?_ ?_
        rotate_left
        · intro w'
          go_simp
          all_goals with_reducible rfl
        rotate_left
        · simp only [Act.put, List.setIfInBounds_toArray, List.set_cons_zero, List.set_cons_succ, i64_w, i32_w]
          rfl
        refine pure_ (i := 2) (N := some 31) (v := ?_) (a' := ?_) #[true, true, true, false, false, false, false, false, false, false, false, false, false, false, false, false] rfl rfl (by kernel_rfl) (fun _ _ _ h => h) (Or.inl ⟨by rfl, ?_⟩) ?_ ?_
        rotate_left
        · intro w'
          go_simp
          all_goals with_reducible rfl
        rotate_left
        · simp only [Act.put, List.setIfInBounds_toArray, List.set_cons_zero, List.set_cons_succ, i64_w, i32_w]
          rfl
        refine pure_ (i := 7) (N := some 36) (v := ?_) (a' := ?_) #[true, true, true, false, false, false, false, true, false, false, false, false, false, false, false, false] rfl rfl (by kernel_rfl) (fun _ _ _ h => h) (Or.inl ⟨by rfl, ?_⟩) ?_ ?_
        rotate_left
        · intro w'
          go_simp
          all_goals with_reducible rfl
        rotate_left
        · simp only [Act.put, List.setIfInBounds_toArray, List.set_cons_zero, List.set_cons_succ, i64_w, i32_w]
          rfl
        refine pure_ (i := 8) (N := some 37) (v := ?_) (a' := ?_) #[true, true, true, false, false, false, false, true, true, false, false, false, false, false, false, false] rfl rfl (by kernel_rfl) (fun _ _ _ h => h) (Or.inl ⟨by rfl, ?_⟩) ?_ ?_
        rotate_left
        · intro w'
          go_simp
          all_goals with_reducible rfl
        rotate_left
        · simp only [Act.put, List.setIfInBounds_toArray, List.set_cons_zero, List.set_cons_succ, i64_w, i32_w]
          rfl
        refine pure_ (i := 9) (N := some 38) (v := ?_) (a' := ?_) #[true, true, true, false, false, false, false, true, true, true, false, false, false, false, false, false] rfl rfl (by kernel_rfl) (fun _ _ _ h => h) (Or.inl ⟨by rfl, ?_⟩) ?_ ?_
        rotate_left
        · intro w'
          go_simp
          all_goals with_reducible rfl
        rotate_left
        · simp only [Act.put, List.setIfInBounds_toArray, List.set_cons_zero, List.set_cons_succ, i64_w, i32_w]
          rfl
        refine pure_ (i := 3) (N := some 32) (v := ?_) (a' := ?_) #[true, true, true, true, false, false, false, true, true, true, false, false, false, false, false, false] rfl rfl (by kernel_rfl) (fun _ _ _ h => h) (Or.inl ⟨by rfl, ?_⟩) ?_ ?_
        rotate_left
        · intro w'
          go_simp
          all_goals with_reducible rfl
        rotate_left
        · simp only [Act.put, List.setIfInBounds_toArray, List.set_cons_zero, List.set_cons_succ, i64_w, i32_w]
          rfl
        refine pure_ (i := 10) (N := some 39) (v := ?_) (a' := ?_) #[true, true, true, true, false, false, false, true, true, true, true, false, false, false, false, false] rfl rfl (by kernel_rfl) (fun _ _ _ h => h) (Or.inl ⟨by rfl, ?_⟩) ?_ ?_
        rotate_left
        · intro w'
          go_simp
          all_goals with_reducible rfl
        rotate_left
        · simp only [Act.put, List.setIfInBounds_toArray, List.set_cons_zero, List.set_cons_succ, i64_w, i32_w]
          rfl
        refine take_ (i := 4) (N := some 33) (v := ?_) (a' := ?_) #[true, true, true, true, true, false, false, true, true, true, true, false, false, false, false, false] rfl rfl (by kernel_rfl) (fun _ _ _ h => h) (Or.inl ⟨by rfl, ?_⟩) hHeld ?_ ?_
        rotate_left
        · rintro w' ⟨s0, s1, s2, s3⟩
          go_simp
          all_goals with_reducible rfl
        rotate_left
        · simp only [Act.put, List.setIfInBounds_toArray, List.set_cons_zero, List.set_cons_succ, i64_w, i32_w]
          rfl
        refine take_ (i := 11) (N := some 40) (v := ?_) (a' := ?_) #[true, true, true, true, true, false, false, true, true, true, true, true, false, false, false, false] rfl rfl (by kernel_rfl) (fun _ _ _ h => h) (Or.inl ⟨by rfl, ?_⟩) hHeld ?_ ?_
        rotate_left
        · rintro w' ⟨s0, s1, s2, s3⟩
          go_simp
          all_goals with_reducible rfl
        rotate_left
        · simp only [Act.put, List.setIfInBounds_toArray, List.set_cons_zero, List.set_cons_succ, i64_w, i32_w]
          rfl
        refine pure_ (i := 5) (N := some 34) (v := ?_) (a' := ?_) #[true, true, true, true, true, true, false, true, true, true, true, true, false, false, false, false] rfl rfl (by kernel_rfl) (fun _ _ _ h => h) (Or.inl ⟨by rfl, ?_⟩) ?_ ?_
        rotate_left
        · intro w'
          go_simp
          all_goals with_reducible rfl
        rotate_left
        · simp only [Act.put, List.setIfInBounds_toArray, List.set_cons_zero, List.set_cons_succ, i64_w, i32_w]
          rfl
        refine pure_ (i := 12) (N := some 41) (v := ?_) (a' := ?_) #[true, true, true, true, true, true, false, true, true, true, true, true, true, false, false, false] rfl rfl (by kernel_rfl) (fun _ _ _ h => h) (Or.inl ⟨by rfl, ?_⟩) ?_ ?_
        rotate_left
        · intro w'
          go_simp
          all_goals with_reducible rfl
        rotate_left
        · simp only [Act.put, List.setIfInBounds_toArray, List.set_cons_zero, List.set_cons_succ, i64_w, i32_w]
          rfl
        refine take_ (i := 6) (N := some 35) (v := ?_) (a' := ?_) #[true, true, true, true, true, true, true, true, true, true, true, true, true, false, false, false] rfl rfl (by kernel_rfl) (fun _ _ _ h => h) (Or.inl ⟨by rfl, ?_⟩) hHeld ?_ ?_
        rotate_left
        · rintro w' ⟨s0, s1, s2, s3⟩
          go_simp
          all_goals with_reducible rfl
        rotate_left
        · simp only [Act.put, List.setIfInBounds_toArray, List.set_cons_zero, List.set_cons_succ, i64_w, i32_w]
          rfl
        refine take_ (i := 13) (N := some 42) (v := ?_) (a' := ?_) #[true, true, true, true, true, true, true, true, true, true, true, true, true, true, false, false] rfl rfl (by kernel_rfl) (fun _ _ _ h => h) (Or.inl ⟨by rfl, ?_⟩) hHeld ?_ ?_
        rotate_left
        · rintro w' ⟨s0, s1, s2, s3⟩
          go_simp
          all_goals with_reducible rfl
        rotate_left
        · simp only [Act.put, List.setIfInBounds_toArray, List.set_cons_zero, List.set_cons_succ, i64_w, i32_w]
          rfl
        refine one_ (i := 14) (N := some 43) #[true, true, true, true, true, true, true, true, true, true, true, true, true, true, true, false] rfl rfl (by kernel_rfl) (by decide) (fun K hK => ?_)
        refine goes_ Tryd.func18 (by kernel_rfl) rfl #[.slice Ar1 (rd_L4 l0 p).length cr1, .slice Ar2 (rd_L4 l1 q).length cr2] (by rfl) rfl rfl (by (try simp only [List.map_toArray, List.map_cons, List.map_nil]); first | done | rfl) ?_
        with_reducible refine (value_Orders.calls kf Ar1 cr1 (rd_L4 l0 p) Ar2 cr2 (rd_L4 l1 q) c _ ?_ HL1.out ?_ HL2.out HKF.out).mono ?_
        · exact Kd.C_below HI1.out HB5.out
        · exact Kd.C_below HI2.out HB5.out
        rintro e w15 ⟨rfl, hb⟩
        refine ⟨_, rfl, ?_⟩
        have n0_ := Aside0.mk (show _ ∧ _ ∧ _ ∧ _ from ⟨(hb.cell (World.block_lt_of_cell? _ _ HS.out.1)).trans HS.out.1, (hb.cell (World.block_lt_of_cell? _ _ HS.out.2.1)).trans HS.out.2.1, (hb.cell (World.block_lt_of_cell? _ _ HS.out.2.2.1)).trans HS.out.2.2.1, (hb.cell (World.block_lt_of_cell? _ _ HS.out.2.2.2)).trans HS.out.2.2.2⟩)
        clear HS
        have HS := n0_
        clear n0_
        have HB6 : Aside0 (Below wr.heap.size wr w15) := ⟨below_step (below_drew1 (Below.refl _ _)) hb⟩
        clear hb
        refine hK.out _ _ HS.out (fun hHeld => ?_)
        clear hK K
        refine norm_ (a' := ?_) ?_ ?_
        rotate_left
        · show Act.put _ (some 43) _ = _
          simp only [Act.put, List.setIfInBounds_toArray, List.set_cons_zero, List.set_cons_succ, i64_w, i32_w]
          rfl
        skip
        refine pure_ (i := 15) (N := some 10) (v := ?_) (a' := ?_) #[true, true, true, true, true, true, true, true, true, true, true, true, true, true, true, true] rfl rfl (by kernel_rfl) (fun _ _ _ h => h) (Or.inl ⟨by rfl, ?_⟩) ?_ ?_
        rotate_left
        · intro w'
          go_simp
          all_goals with_reducible rfl
        rotate_left
        · simp only [Act.put, List.setIfInBounds_toArray, List.set_cons_zero, List.set_cons_succ, i64_w, i32_w]
          rfl
        refine done_ (by kernel_rfl) ?_
        have n0_ := Aside0.mk (Kd.R_below HVA.out HB6.out)
        have n1_ := Aside0.mk (Kd.R_below HVB.out HB6.out)
        have n2_ := Aside0.mk (Kd.R_below HO.out HB6.out)
        have n3_ := Aside0.mk (below_step HB.out HB6.out)
        clear HVA HVB HO HB HB5 HB6 HS hHeld
        have HVA := n0_
        have HVB := n1_
        have HO := n2_
        have HB := n3_
        clear n0_ n1_ n2_ n3_
        obtain ⟨Ao, co, eo⟩ := Kd.R_slice HO.out
        subst eo
        go_wp2_with (first | (go_at_call 41; (with_reducible refine (joiner_run.calls km (some adl) c0 l0 (some ada) ca a ((i : Nat) : Int) (mN : Int) _ (Kd.C_below HR0.out HB.out) HC0.out (Kd.R_reads' HVA.out).2.2 (Kd.R_reads' HVA.out).2.1 HKM.out).mono ?_); rintro e wn ⟨rfl, hb⟩; have n0_ := Aside0.mk (Kd.R_below HVA.out hb); have n1_ := Aside0.mk (Kd.R_below HVB.out hb); have n2_ := Aside0.mk (Kd.R_below HO.out hb); have n3_ := Aside0.mk (below_step HB.out hb); clear HVA HVB HO HB; have HVA := n0_; have HVB := n1_; have HO := n2_; have HB := n3_; clear n0_ n1_ n2_ n3_; clear hb) | (go_at_call 41; (with_reducible refine (joiner_run.calls kn (some adr) c1 l1 (some adb) cb b ((k : Nat) : Int) (nN : Int) _ (Kd.C_below HR1.out HB.out) HC1.out (Kd.R_reads' HVB.out).2.2 (Kd.R_reads' HVB.out).2.1 HKN.out).mono ?_); rintro e wn ⟨rfl, hb⟩; have n0_ := Aside0.mk (Kd.R_below HVA.out hb); have n1_ := Aside0.mk (Kd.R_below HVB.out hb); have n2_ := Aside0.mk (Kd.R_below HO.out hb); have n3_ := Aside0.mk (below_step HB.out hb); clear HVA HVB HO HB; have HVA := n0_; have HVB := n1_; have HO := n2_; have HB := n3_; clear n0_ n1_ n2_ n3_; clear hb))
        have hmb := HMB.out
        have hnb := HNB.out
        have HOL : Aside0 (o.length ≤ i * M) := ⟨HIK.out.2.2.2⟩
        rcases Int.lt_trichotomy c 0 with hc | hc | hc
        · have hcb1 : (c == 0) = false := beq_eq_false_iff_ne.mpr (by omega)
          have hcb2 : decide (c ≤ 0) = true := decide_eq_true (by omega)
          have hcb3 : decide (0 ≤ c) = false := decide_eq_false (by omega)
          have hcb4 : decide (c ≥ 0) = false := decide_eq_false (by omega)
          have HGO3 : Aside0 (mergeGo l0 l1 a b n' (i + mN) k o = fin) := ⟨by
            have h_ := HGO2.out
            rw [if_pos (by omega : c ≤ 0), if_neg (by omega : ¬ c ≥ 0), if_neg (by omega : ¬ c = 0)] at h_
            exact h_⟩
          go_loopg [7, 13] 0 (fun n v7 v13 wi => v13 = .int .i64 0 ∧ Aside0 (Kd.R k40 40 wi w.heap.size (fun _ => True) v7 o) ∧ Aside0 (Kd.R (Kd.int .i64) 3 wi w.heap.size (fun _ => True) (.slice (some ada) a.length ca) a) ∧ Aside0 (Kd.R (Kd.int .i64) 3 wi w.heap.size (fun _ => True) (.slice (some adb) b.length cb) b) ∧ Aside0 (Below w.heap.size w wi))
          case atStart => exact ⟨rfl, HO, HVA, HVB, HB⟩
          case round =>
            clear HO HVA HVB HB
            obtain ⟨rfl, HO, HVA, HVB, HB⟩ := hrel
            go_wp2
            go_roundg n'
            case measure => omega
            case rel => exact ⟨i + mN, k, o, (by first | rfl | (simp; done) | (simp [*]; done)), (by first | rfl | (simp; done) | (simp [*]; done)), ⟨by omega, by omega, by omega, Nat.le_trans HOL.out (Nat.mul_le_mul_right _ (by omega))⟩, HGO3, HO, HVA, HVB, HB⟩
        · subst hc
          have HGO3 : Aside0 (mergeGo l0 l1 a b n' (i + mN) (k + nN) (o ++ crossP a b i k nN mN) = fin) := ⟨by
            have h_ := HGO2.out
            rw [if_pos (by omega : (0 : Int) ≤ 0), if_pos (by omega : (0 : Int) ≥ 0), if_pos rfl] at h_
            exact h_⟩
          go_loopg [7, 13] mN (fun n v7 v13 wi => ∃ x : Nat, v13 = .int .i64 x ∧ Aside0 (x + n = mN) ∧ Aside0 (Kd.R k40 40 wi w.heap.size (fun _ => True) v7 (o ++ crossP a b i k nN x)) ∧ Aside0 (Kd.R (Kd.int .i64) 3 wi w.heap.size (fun _ => True) (.slice (some ada) a.length ca) a) ∧ Aside0 (Kd.R (Kd.int .i64) 3 wi w.heap.size (fun _ => True) (.slice (some adb) b.length cb) b) ∧ Aside0 (Below w.heap.size w wi))
          case atStart => exact ⟨0, rfl, ⟨Nat.zero_add _⟩, ⟨by rw [show crossP a b i k nN 0 = [] from rfl, List.append_nil]; exact HO.out⟩, HVA, HVB, HB⟩
          case round =>
            clear HO HVA HVB HB
            obtain ⟨x, rfl, HX, HO, HVA, HVB, HB⟩ := hrel
            have hx := HX.out
            have hxl := crossP_len a b i k nN x
            have hol := HOL.out
            by_cases hxm : x < mN
            · have hxi : (x : Int) < (mN : Int) := by omega
              go_wp2
              go_loopg [7, 14] nN (fun n v7 v14 wj => ∃ y : Nat, v14 = .int .i64 y ∧ Aside0 (y + n = nN) ∧ Aside0 (Kd.R k40 40 wj w.heap.size (fun _ => True) v7 (o ++ crossP a b i k nN x ++ rowP (rd a ((i + x : Nat) : Int)) b k y)) ∧ Aside0 (Kd.R (Kd.int .i64) 3 wj w.heap.size (fun _ => True) (.slice (some ada) a.length ca) a) ∧ Aside0 (Kd.R (Kd.int .i64) 3 wj w.heap.size (fun _ => True) (.slice (some adb) b.length cb) b) ∧ Aside0 (Below w.heap.size w wj))
              case atStart => exact ⟨0, rfl, ⟨Nat.zero_add _⟩, ⟨by rw [show rowP (rd a ((i + x : Nat) : Int)) b k 0 = [] from by simp [rowP], List.append_nil]; exact HO.out⟩, HVA, HVB, HB⟩
              case round =>
                clear HO HVA HVB HB
                obtain ⟨y, rfl, HY, HO, HVA, HVB, HB⟩ := hrel
                have hy := HY.out
                by_cases hyn : y < nN
                · have hyi : (y : Int) < (nN : Int) := by omega
                  have hwy : wrap64 ((y : Int) + 1) = (y : Int) + 1 := by unfold wrap64; omega
                  have hky : k + y < b.length := Nat.lt_of_lt_of_le (Nat.add_lt_add_left hyn k) hnb.1
                  have hix2 : i + x < a.length := Nat.lt_of_lt_of_le (Nat.add_lt_add_left hxm i) hmb.1
                  have hix : x < a.length := Nat.lt_of_le_of_lt (Nat.le_add_left x i) hix2
                  have hol2 : ((o ++ crossP a b i k nN x).length : Nat) ≤ 3000000000000 := len_two HOL.out hxl HM.out (le_of_sum (Nat.le_of_lt hi) HAL.out) (le_of_sum (Nat.le_of_lt hix) HAL.out) (le_of_sum (Nat.le_trans (Nat.le_add_left nN k) hnb.1) HBL.out)
                  clear hol hxl
                  obtain ⟨p2, hp2⟩ : ∃ p2, p2 = rd a ((i + x : Nat) : Int) := ⟨_, rfl⟩
                  obtain ⟨q2, hq2⟩ : ∃ q2, q2 = rd b ((k + y : Nat) : Int) := ⟨_, rfl⟩
                  obtain ⟨ad3, ea3, hxa3⟩ := Kd.at_int (Kd.R_reads' HVA.out).2.2 ((i + x : Nat) : Int) (Int.natCast_nonneg _) (Int.ofNat_lt.2 hix2)
                  obtain ⟨ad4, ea4, hxb4⟩ := Kd.at_int (Kd.R_reads' HVB.out).2.2 ((k + y : Nat) : Int) (Int.natCast_nonneg _) (Int.ofNat_lt.2 hky)
                  cases ea3
                  cases ea4
                  rw [Int.toNat_natCast, ← hp2] at hxa3
                  rw [Int.toNat_natCast, ← hq2] at hxb4
                  have hry := rowP_len p2 b k y
                  have HNY : Aside0 (rowP p2 b k (y + 1) = rowP p2 b k y ++ [(⟨p2, q2⟩ : S40)]) := ⟨by rw [hq2]; exact rowP_succ p2 b k y hky⟩
                  rw [← hp2] at HO
                  have HP2 := Aside0.mk hp2
                  obtain ⟨ys, hys⟩ : ∃ ys, ys = o ++ crossP a b i k nN x ++ rowP p2 b k y := ⟨_, rfl⟩
                  have HYL : Aside0 (ys.length ≤ 3000002000000) := ⟨by rw [hys]; exact len_three hol2 hry (le_of_sum (Nat.le_trans (Nat.le_add_left y k) (Nat.le_of_lt hky)) HBL.out)⟩
                  rw [← hys] at HO
                  have HYS := Aside0.mk hys
                  clear hys hp2 hq2
                  obtain ⟨Ay, cy, ey⟩ := Kd.R_slice HO.out
                  subst ey
                  have HS : Aside0 (wr.cell? (ada.add (i + x)) = some (.int .i64 p2) ∧ wr.cell? (adb.add (k + y)) = some (.int .i64 q2)) := ⟨⟨hxa3, hxb4⟩⟩
                  clear hxa3 hxb4
                  have hixa : (i : Int) + (x : Int) < (a.length : Int) := by rw [← Int.natCast_add]; exact Int.ofNat_lt.2 hix2
                  have hkyb : (k : Int) + (y : Int) < (b.length : Int) := by rw [← Int.natCast_add]; exact Int.ofNat_lt.2 hky
                  have hixa2 : ((i + x : Nat) : Int) < (a.length : Int) := Int.ofNat_lt.2 hix2
                  have hkyb2 : ((k + y : Nat) : Int) < (b.length : Int) := Int.ofNat_lt.2 hky
                  have hwa : wrap64 ((i : Int) + (x : Int)) = ((i + x : Nat) : Int) := wrap_add hix2 HAL.out
                  have hwb : wrap64 ((k : Int) + (y : Int)) = ((k + y : Nat) : Int) := wrap_add hky HBL.out
                  have HYN := Aside0.mk hyn
                  clear hol2 hry hmb hnb hx hy hp0 hp1 hq0 hq1 hile hkle hgk hi hk hky hix hix2 hyn hxm
                  go_wp2
                  have n0_ := Aside0.mk (Kd.R_drew HVA.out)
                  have n1_ := Aside0.mk (Kd.R_drew HVB.out)
                  have n2_ := Aside0.mk (Kd.R_drew HO.out)
                  have n3_ := Aside0.mk (below_drew1 HB.out)
                  have n4_ := Aside0.mk (show wr.drew.cell? (ada.add (i + x)) = some (.int .i64 p2) ∧ wr.drew.cell? (adb.add (k + y)) = some (.int .i64 q2) from HS.out)
                  clear HVA HVB HO HB HS
                  have HVA := n0_
                  have HVB := n1_
                  have HO := n2_
                  have HB := n3_
                  have HS := n4_
                  clear n0_ n1_ n2_ n3_ n4_
                  refine start_ (n := 17) (S := fun w' => w'.cell? (ada.add (i + x)) = some (.int .i64 p2) ∧ w'.cell? (adb.add (k + y)) = some (.int .i64 q2)) (ds := [15]) #[false, false, false, false, false, false, false, false, false, false, false, false, false, false, false, false, false] (by kernel_rfl) rfl rfl HS.out (fun hHeld => ?_)
                  generalize hW13 : wr.drew = W13 at hHeld HS HVA HVB HO HB ⊢
                  refine pure_ (i := 0) (N := some 66) (v := ?_) (a' := ?_) #[true, false, false, false, false, false, false, false, false, false, false, false, false, false, false, false, false] rfl rfl (by kernel_rfl) (fun _ _ _ h => h) (Or.inl ⟨by rfl, ?_⟩) ?_ ?_
                  rotate_left
                  · intro w'
                    go_simp
                    all_goals with_reducible rfl
                  rotate_left
                  · simp only [Act.put, List.setIfInBounds_toArray, List.set_cons_zero, List.set_cons_succ, i64_w, i32_w]
                    rfl
                  refine pure_ (i := 1) (N := some 67) (v := ?_) (a' := ?_) #[true, true, false, false, false, false, false, false, false, false, false, false, false, false, false, false, false] rfl rfl (by kernel_rfl) (fun _ _ _ h => h) (Or.inl ⟨by rfl, ?_⟩) ?_ ?_
                  rotate_left
                  · intro w'
                    go_simp
                    all_goals with_reducible rfl
                  rotate_left
                  · simp only [Act.put, List.setIfInBounds_toArray, List.set_cons_zero, List.set_cons_succ, i64_w, i32_w]
                    rfl
                  refine pure_ (i := 2) (N := some 68) (v := ?_) (a' := ?_) #[true, true, true, false, false, false, false, false, false, false, false, false, false, false, false, false, false] rfl rfl (by kernel_rfl) (fun _ _ _ h => h) (Or.inl ⟨by rfl, ?_⟩) ?_ ?_
                  rotate_left
                  · intro w'
                    go_simp
                    all_goals with_reducible rfl
                  rotate_left
                  · simp only [Act.put, List.setIfInBounds_toArray, List.set_cons_zero, List.set_cons_succ, i64_w, i32_w]
                    rfl
                  refine pure_ (i := 3) (N := some 69) (v := ?_) (a' := ?_) #[true, true, true, true, false, false, false, false, false, false, false, false, false, false, false, false, false] rfl rfl (by kernel_rfl) (fun _ _ _ h => h) (Or.inl ⟨by rfl, ?_⟩) ?_ ?_
                  rotate_left
                  · intro w'
                    go_simp
                    all_goals with_reducible rfl
                  rotate_left
                  · simp only [Act.put, List.setIfInBounds_toArray, List.set_cons_zero, List.set_cons_succ, i64_w, i32_w]
                    rfl
                  refine pure_ (i := 7) (N := some 73) (v := ?_) (a' := ?_) #[true, true, true, true, false, false, false, true, false, false, false, false, false, false, false, false, false] rfl rfl (by kernel_rfl) (fun _ _ _ h => h) (Or.inl ⟨by rfl, ?_⟩) ?_ ?_
                  rotate_left
                  · intro w'
                    go_simp
                    all_goals with_reducible rfl
                  rotate_left
                  · simp only [Act.put, List.setIfInBounds_toArray, List.set_cons_zero, List.set_cons_succ, i64_w, i32_w]
                    rfl
                  refine pure_ (i := 8) (N := some 74) (v := ?_) (a' := ?_) #[true, true, true, true, false, false, false, true, true, false, false, false, false, false, false, false, false] rfl rfl (by kernel_rfl) (fun _ _ _ h => h) (Or.inl ⟨by rfl, ?_⟩) ?_ ?_
                  rotate_left
                  · intro w'
                    go_simp
                    all_goals with_reducible rfl
                  rotate_left
                  · simp only [Act.put, List.setIfInBounds_toArray, List.set_cons_zero, List.set_cons_succ, i64_w, i32_w]
                    rfl
                  refine pure_ (i := 9) (N := some 75) (v := ?_) (a' := ?_) #[true, true, true, true, false, false, false, true, true, true, false, false, false, false, false, false, false] rfl rfl (by kernel_rfl) (fun _ _ _ h => h) (Or.inl ⟨by rfl, ?_⟩) ?_ ?_
                  rotate_left
                  · intro w'
                    go_simp
                    all_goals with_reducible rfl
                  rotate_left
                  · simp only [Act.put, List.setIfInBounds_toArray, List.set_cons_zero, List.set_cons_succ, i64_w, i32_w]
                    rfl
                  refine pure_ (i := 4) (N := some 70) (v := ?_) (a' := ?_) #[true, true, true, true, true, false, false, true, true, true, false, false, false, false, false, false, false] rfl rfl (by kernel_rfl) (fun _ _ _ h => h) (Or.inl ⟨by rfl, ?_⟩) ?_ ?_
                  rotate_left
                  · intro w'
                    go_simp
                    rw [i64_w, hwa]
                    all_goals with_reducible rfl
                  rotate_left
                  · simp only [Act.put, List.setIfInBounds_toArray, List.set_cons_zero, List.set_cons_succ, i64_w, i32_w]
                    rfl
                  refine pure_ (i := 10) (N := some 76) (v := ?_) (a' := ?_) #[true, true, true, true, true, false, false, true, true, true, true, false, false, false, false, false, false] rfl rfl (by kernel_rfl) (fun _ _ _ h => h) (Or.inl ⟨by rfl, ?_⟩) ?_ ?_
                  rotate_left
                  · intro w'
                    go_simp
                    rw [i64_w, hwb]
                    all_goals with_reducible rfl
                  rotate_left
                  · simp only [Act.put, List.setIfInBounds_toArray, List.set_cons_zero, List.set_cons_succ, i64_w, i32_w]
                    rfl
                  refine pure_ (i := 5) (N := some 71) (v := ?_) (a' := ?_) #[true, true, true, true, true, true, false, true, true, true, true, false, false, false, false, false, false] rfl rfl (by kernel_rfl) (fun _ _ _ h => h) (Or.inl ⟨by rfl, ?_⟩) ?_ ?_
                  rotate_left
                  · intro w'
                    go_simp
                    rw [if_pos (nn_add i x), toNat_add i x]
                    all_goals with_reducible rfl
                  rotate_left
                  · simp only [Act.put, List.setIfInBounds_toArray, List.set_cons_zero, List.set_cons_succ, i64_w, i32_w]
                    rfl
                  refine pure_ (i := 11) (N := some 77) (v := ?_) (a' := ?_) #[true, true, true, true, true, true, false, true, true, true, true, true, false, false, false, false, false] rfl rfl (by kernel_rfl) (fun _ _ _ h => h) (Or.inl ⟨by rfl, ?_⟩) ?_ ?_
                  rotate_left
                  · intro w'
                    go_simp
                    rw [if_pos (nn_add k y), toNat_add k y]
                    all_goals with_reducible rfl
                  rotate_left
                  · simp only [Act.put, List.setIfInBounds_toArray, List.set_cons_zero, List.set_cons_succ, i64_w, i32_w]
                    rfl
                  refine take_ (i := 6) (N := some 72) (v := ?_) (a' := ?_) #[true, true, true, true, true, true, true, true, true, true, true, true, false, false, false, false, false] rfl rfl (by kernel_rfl) (fun _ _ _ h => h) (Or.inl ⟨by rfl, ?_⟩) hHeld ?_ ?_
                  rotate_left
                  · rintro w' ⟨s0, s1⟩
                    go_simp
                    all_goals with_reducible rfl
                  rotate_left
                  · simp only [Act.put, List.setIfInBounds_toArray, List.set_cons_zero, List.set_cons_succ, i64_w, i32_w]
                    rfl
                  refine take_ (i := 12) (N := some 78) (v := ?_) (a' := ?_) #[true, true, true, true, true, true, true, true, true, true, true, true, true, false, false, false, false] rfl rfl (by kernel_rfl) (fun _ _ _ h => h) (Or.inl ⟨by rfl, ?_⟩) hHeld ?_ ?_
                  rotate_left
                  · rintro w' ⟨s0, s1⟩
                    go_simp
                    all_goals with_reducible rfl
                  rotate_left
                  · simp only [Act.put, List.setIfInBounds_toArray, List.set_cons_zero, List.set_cons_succ, i64_w, i32_w]
                    rfl
                  refine pure_ (i := 13) (N := some 79) (v := ?_) (a' := ?_) #[true, true, true, true, true, true, true, true, true, true, true, true, true, true, false, false, false] rfl rfl (by kernel_rfl) (fun _ _ _ h => h) (Or.inl ⟨by rfl, ?_⟩) ?_ ?_
                  rotate_left
                  · intro w'
                    go_simp
                    all_goals with_reducible rfl
                  rotate_left
                  · simp only [Act.put, List.setIfInBounds_toArray, List.set_cons_zero, List.set_cons_succ, i64_w, i32_w]
                    rfl
                  refine one_ (i := 14) (N := some 80) #[true, true, true, true, true, true, true, true, true, true, true, true, true, true, true, false, false] rfl rfl (by kernel_rfl) (by decide) (fun K hK => ?_)
                  refine event_step (w1 := W13.alloc (.cells #[.int .i64 p2, .int .i64 q2] 40)) (v := .slice (some ⟨W13.heap.size, 0, none⟩) 1 1) ?hw ?hr ?_
                  case hw => rfl
                  case hr => first | (go_simp; done) | (go_simp; rfl)
                  refine hK.out _ _ ⟨(Below.cell (B := W13.heap.size) (below_alloc (Below.refl _ _) _) (World.block_lt_of_cell? _ _ HS.out.1)).trans HS.out.1, (Below.cell (B := W13.heap.size) (below_alloc (Below.refl _ _) _) (World.block_lt_of_cell? _ _ HS.out.2)).trans HS.out.2⟩ (fun hHeld => ?_)
                  clear hK K
                  refine norm_ (a' := ?_) ?_ ?_
                  rotate_left
                  · show Act.put _ (some 80) _ = _
                    simp only [Act.put, List.setIfInBounds_toArray, List.set_cons_zero, List.set_cons_succ, i64_w, i32_w]
                    rfl
                  skip
                  refine last_ (i := 15) (N := some 81) #[true, true, true, true, true, true, true, true, true, true, true, true, true, true, true, true, false] rfl rfl (by kernel_rfl) (by decide) (fun K hK => ?_)
                  refine Kd.R_append_step k40 (w0 := w) w.heap.size ?hw (.tmp 66) (.tmp 80) 34 40 (.agg #[(.int .i64 0), (.int .i64 0)]) 16 rfl Tryd.underlying34 info40 rfl (by decide) (by omega) (.slice Ay ys.length cy) ys (⟨p2, q2⟩ : S40) [.int .i64 p2, .int .i64 q2] (fun _ => True) (fun _ => False) rfl rfl ?aP (fun _ hk => hk.elim) ?aF ?aO ?aB ?aS ?aL ?_
                  case hw => rfl
                  case aP => exact k40_mkM _ _ _ (⟨p2, q2⟩ : S40)
                  case aF => exact fun _ _ => trivial
                  case aO => exact HO.out
                  case aB => exact HB.out
                  case aS => exact below_size HB.out
                  case aL => have h_ := HYL.out; omega
                  intro v4 w4 ho hb hg hat
                  have n0_ := Aside0.mk (Kd.R_over' HVA.out (Kd.R_typed HO.out) (by decide) hg)
                  have n1_ := Aside0.mk (Kd.R_over' HVB.out (Kd.R_typed HO.out) (by decide) hg)
                  have n2_ := Aside0.mk (ho)
                  have n3_ := Aside0.mk (hb)
                  clear HVA HVB HO HB
                  have HVA := n0_
                  have HVB := n1_
                  have HO := n2_
                  have HB := n3_
                  clear n0_ n1_ n2_ n3_
                  clear ho hb hg hat HS
                  refine hK.out _ _ ?_
                  clear hK K
                  refine norm_ (a' := ?_) ?_ ?_
                  rotate_left
                  · show Act.put _ (some 81) _ = _
                    simp only [Act.put, List.setIfInBounds_toArray, List.set_cons_zero, List.set_cons_succ, i64_w, i32_w]
                    rfl
                  refine pure_ (i := 16) (N := some 7) (v := ?_) (a' := ?_) #[true, true, true, true, true, true, true, true, true, true, true, true, true, true, true, true, true] rfl rfl (by kernel_rfl) (fun _ _ _ h => h) (Or.inl ⟨by rfl, ?_⟩) ?_ ?_
                  rotate_left
                  · intro w'
                    go_simp
                    all_goals with_reducible rfl
                  rotate_left
                  · simp only [Act.put, List.setIfInBounds_toArray, List.set_cons_zero, List.set_cons_succ, i64_w, i32_w]
                    rfl
                  refine done_ (by kernel_rfl) ?_
                  clear hia hkb hxi hyi hixa hkyb hixa2 hkyb2 hwa hwb hal hbl
                  go_wp2
                  go_roundg (nN - (y + 1))
                  case measure => have := HY.out; have := HYN.out; omega
                  case rel => exact ⟨y + 1, (by first | rfl | (simp; done) | (simp [*]; done)), ⟨by have := HY.out; have := HYN.out; omega⟩, ⟨by rw [← HP2.out, HNY.out, ← List.append_assoc, ← HYS.out]; exact HO.out⟩, HVA, HVB, HB⟩
                · have hyy : y = nN := by omega
                  subst hyy
                  have hyb : decide ((y : Int) < (y : Int)) = false := decide_eq_false (by omega)
                  clear hyn
                  go_wp2
                  go_roundg (mN - (x + 1))
                  case measure => have := HX.out; omega
                  case rel => exact ⟨x + 1, (by first | rfl | (simp; done) | (simp [*]; done)), ⟨by have := HX.out; omega⟩, ⟨by rw [crossP, ← List.append_assoc]; exact HO.out⟩, HVA, HVB, HB⟩
            · have hxx : x = mN := by omega
              subst hxx
              have hxb : decide ((x : Int) < (x : Int)) = false := decide_eq_false (by omega)
              clear hxm
              go_wp2
              go_roundg n'
              case measure => omega
              case rel => exact ⟨i + x, k + nN, o ++ crossP a b i k nN x, (by first | rfl | (simp; done) | (simp [*]; done)), (by first | rfl | (simp; done) | (simp [*]; done)), ⟨by omega, by omega, by omega, len_next HOL.out (crossP_len a b i k nN x) HM.out (by have := HBL.out; omega)⟩, HGO3, HO, HVA, HVB, HB⟩
        · have hcb1 : (c == 0) = false := beq_eq_false_iff_ne.mpr (by omega)
          have hcb2 : decide (c ≤ 0) = false := decide_eq_false (by omega)
          have hcb3 : decide (0 ≤ c) = true := decide_eq_true (by omega)
          have hcb4 : decide (c ≥ 0) = true := decide_eq_true (by omega)
          have HGO3 : Aside0 (mergeGo l0 l1 a b n' i (k + nN) o = fin) := ⟨by
            have h_ := HGO2.out
            rw [if_neg (by omega : ¬ c ≤ 0), if_pos (by omega : c ≥ 0), if_neg (by omega : ¬ c = 0)] at h_
            exact h_⟩
          go_loopg [7, 13] 0 (fun n v7 v13 wi => v13 = .int .i64 0 ∧ Aside0 (Kd.R k40 40 wi w.heap.size (fun _ => True) v7 o) ∧ Aside0 (Kd.R (Kd.int .i64) 3 wi w.heap.size (fun _ => True) (.slice (some ada) a.length ca) a) ∧ Aside0 (Kd.R (Kd.int .i64) 3 wi w.heap.size (fun _ => True) (.slice (some adb) b.length cb) b) ∧ Aside0 (Below w.heap.size w wi))
          case atStart => exact ⟨rfl, HO, HVA, HVB, HB⟩
          case round =>
            clear HO HVA HVB HB
            obtain ⟨rfl, HO, HVA, HVB, HB⟩ := hrel
            go_wp2
            go_roundg n'
            case measure => omega
            case rel => exact ⟨i, k + nN, o, (by first | rfl | (simp; done) | (simp [*]; done)), (by first | rfl | (simp; done) | (simp [*]; done)), ⟨by omega, by omega, by omega, Nat.le_trans HOL.out (Nat.mul_le_mul_right _ (by omega))⟩, HGO3, HO, HVA, HVB, HB⟩
      · have hkb : decide ((k : Int) < (b.length : Int)) = false := decide_eq_false (by omega)
        have hia : decide ((i : Int) < (a.length : Int)) = true := decide_eq_true (by omega)
        have HOF : Aside0 (o = fin) := ⟨by
          have h_ := HGO.out
          match gk, h_ with
          | 0, h_ => exact h_
          | n' + 1, h_ => rw [mergeGo, if_neg (by omega)] at h_; exact h_⟩
        have hof := HOF.out
        clear HOF HGO
        subst hof
        have HOL : Aside0 (o.length ≤ 1099511627776) := ⟨len_one HIK.out.2.2.2 HM.out (by omega)⟩
        obtain ⟨Ao, co, eo⟩ := Kd.R_slice HO.out
        subst eo
        clear hal hbl hile hkle
        go_wp2_with (go_at_call 42; refine (sort40_calls Ao o.length co o w wr HO.out HB.out HOL.out).mono ?_; rintro e w2 ⟨rfl, ho2, hb2⟩; have HO2 := Aside0.mk ho2; have HB2 := Aside0.mk hb2; clear ho2 hb2)
        go_ret
        refine ⟨_, rfl, ?_, HB2.out⟩
        have h5 := HO2.out
        rw [HRES.out] at h5
        exact h5
    · have hia : decide ((i : Int) < (a.length : Int)) = false := decide_eq_false (by omega)
      have HOF : Aside0 (o = fin) := ⟨by
        have h_ := HGO.out
        match gk, h_ with
        | 0, h_ => exact h_
        | n' + 1, h_ => rw [mergeGo, if_neg (by omega)] at h_; exact h_⟩
      have hof := HOF.out
      clear HOF HGO
      subst hof
      have HOL : Aside0 (o.length ≤ 1099511627776) := ⟨len_one HIK.out.2.2.2 HM.out (by omega)⟩
      obtain ⟨Ao, co, eo⟩ := Kd.R_slice HO.out
      subst eo
      clear hal hbl hile hkle
      go_wp2_with (go_at_call 42; refine (sort40_calls Ao o.length co o w wr HO.out HB.out HOL.out).mono ?_; rintro e w2 ⟨rfl, ho2, hb2⟩; have HO2 := Aside0.mk ho2; have HB2 := Aside0.mk hb2; clear ho2 hb2)
      go_ret
      refine ⟨_, rfl, ?_, HB2.out⟩
      have h5 := HO2.out
      rw [HRES.out] at h5
      exact h5
end Go.Proofs.YtnllgjloimoebaaDoor.X

-- By xprint.py (this session's own program over the kit's print): not trusted: Lean checks it.
namespace Go.Proofs.YtnllgjloimoebaaDoor.X
open Go.RowKit Go.Proofs.YtnllgjloimoebaaDoorW.PrintWords Go.Proofs.YtnllgjloimoebaaDoorW.PrintLast Go.Proofs.YtnllgjloimoebaaDoorW.PrintMore
attribute [local go_sem] max2_int min2_int max_two min_two max_three min_three max_four min_four   -- for this text's walks alone
set_option linter.unusedVariables false
set_option linter.unusedSimpArgs false

/-! ### tabellionlaw32_awake: function 19 -/
def tabellionlaw32_awake.f (k : Nat)  : Option (Bool) := (value_Num.f 1).bind fun bt434 => ((value_Num.f 2).bind fun bt443 => ((some (([(([(⟨bt434.1, bt434.2.1, bt434.2.2⟩ : S44)] : List (S44))), (([(⟨0, 0, (⟨#[]⟩ : ByteArray)⟩ : S44)] : List (S44))), (([(⟨bt443.1, bt443.2.1, bt443.2.2⟩ : S44)] : List (S44)))] : List (List (S44))) : List (List (S44)))).bind fun y449 => ((value_Num.f 2).bind fun bt452 => ((value_Num.f 1).bind fun bt458 => ((value_Num.f 1).bind fun bt464 => ((some (([(([(⟨bt452.1, bt452.2.1, bt452.2.2⟩ : S44)] : List (S44))), (([(⟨bt458.1, bt458.2.1, bt458.2.2⟩ : S44)] : List (S44))), (([(⟨bt464.1, bt464.2.1, bt464.2.2⟩ : S44)] : List (S44)))] : List (List (S44))) : List (List (S44)))).bind fun y470 => ((some (([(⟨0, 1⟩ : S40), (⟨0, 2⟩ : S40), (⟨2, 0⟩ : S40)] : List (S40)) : List (S40))).bind fun y473 => ((joiner_Alone.f 3 y473).bind fun t476 => ((joiner_Nest.f k y449 y470).bind fun t479 => ((tabellionref32_Same.f k t479 y473).bind fun t482 => (if t482 = true then ((joiner_Hash.f y449 y470).bind fun t483 => ((tabellionref32_Same.f k t483 y473).bind fun t486 => (if t486 = true then ((joiner_Merge.f y449 y470).bind fun t487 => ((tabellionref32_Same.f k t487 y473).bind fun t490 => (if t490 = true then (if (t476.length : Int) = 1 then (if 0 < (t476.length : Int) then (some ((rd t476 0) == 1)) else (none)) else (some false)) else (some false)))) else (some false)))) else (some false))))))))))))
set_option maxHeartbeats 8000000 in
set_option maxRecDepth 100000 in
theorem tabellionlaw32_awake.calls (k : Nat)  (r : Bool) (w : World) (h : tabellionlaw32_awake.f k  = some r) (htab : Tab w) (hrt : r = true) :
  Calls Tryd.prog 19 #[] w fun e w' => e = .returned (.bool r) ∧ Below w.heap.size w w' := by
 have HRT := Aside0.mk hrt
 clear hrt
 have HTAB := Aside0.mk htab
 clear htab
 have hu44 := Tryd.underlying44
 have hu40 := Tryd.underlying40
 have HB := Aside0.mk (Below.refl w.heap.size w)
 have H : ((value_Num.f 1).bind fun bt434 => ((value_Num.f 2).bind fun bt443 => ((some (([(([(⟨bt434.1, bt434.2.1, bt434.2.2⟩ : S44)] : List (S44))), (([(⟨0, 0, (⟨#[]⟩ : ByteArray)⟩ : S44)] : List (S44))), (([(⟨bt443.1, bt443.2.1, bt443.2.2⟩ : S44)] : List (S44)))] : List (List (S44))) : List (List (S44)))).bind fun y449 => ((value_Num.f 2).bind fun bt452 => ((value_Num.f 1).bind fun bt458 => ((value_Num.f 1).bind fun bt464 => ((some (([(([(⟨bt452.1, bt452.2.1, bt452.2.2⟩ : S44)] : List (S44))), (([(⟨bt458.1, bt458.2.1, bt458.2.2⟩ : S44)] : List (S44))), (([(⟨bt464.1, bt464.2.1, bt464.2.2⟩ : S44)] : List (S44)))] : List (List (S44))) : List (List (S44)))).bind fun y470 => ((some (([(⟨0, 1⟩ : S40), (⟨0, 2⟩ : S40), (⟨2, 0⟩ : S40)] : List (S40)) : List (S40))).bind fun y473 => ((joiner_Alone.f 3 y473).bind fun t476 => ((joiner_Nest.f k y449 y470).bind fun t479 => ((tabellionref32_Same.f k t479 y473).bind fun t482 => (if t482 = true then ((joiner_Hash.f y449 y470).bind fun t483 => ((tabellionref32_Same.f k t483 y473).bind fun t486 => (if t486 = true then ((joiner_Merge.f y449 y470).bind fun t487 => ((tabellionref32_Same.f k t487 y473).bind fun t490 => (if t490 = true then (if (t476.length : Int) = 1 then (if 0 < (t476.length : Int) then (some ((rd t476 0) == 1)) else (none)) else (some false)) else (some false)))) else (some false)))) else (some false))))))))))))) = some r := h
 clear h
 replace H := Option.bind_eq_some_iff.mp H
 obtain ⟨⟨t434, t435, t436⟩, A10, H⟩ := H
 replace H : ((value_Num.f 2).bind fun bt443 => ((some (([(([(⟨t434, t435, t436⟩ : S44)] : List (S44))), (([(⟨0, 0, (⟨#[]⟩ : ByteArray)⟩ : S44)] : List (S44))), (([(⟨bt443.1, bt443.2.1, bt443.2.2⟩ : S44)] : List (S44)))] : List (List (S44))) : List (List (S44)))).bind fun y449 => ((value_Num.f 2).bind fun bt452 => ((value_Num.f 1).bind fun bt458 => ((value_Num.f 1).bind fun bt464 => ((some (([(([(⟨bt452.1, bt452.2.1, bt452.2.2⟩ : S44)] : List (S44))), (([(⟨bt458.1, bt458.2.1, bt458.2.2⟩ : S44)] : List (S44))), (([(⟨bt464.1, bt464.2.1, bt464.2.2⟩ : S44)] : List (S44)))] : List (List (S44))) : List (List (S44)))).bind fun y470 => ((some (([(⟨0, 1⟩ : S40), (⟨0, 2⟩ : S40), (⟨2, 0⟩ : S40)] : List (S40)) : List (S40))).bind fun y473 => ((joiner_Alone.f 3 y473).bind fun t476 => ((joiner_Nest.f k y449 y470).bind fun t479 => ((tabellionref32_Same.f k t479 y473).bind fun t482 => (if t482 = true then ((joiner_Hash.f y449 y470).bind fun t483 => ((tabellionref32_Same.f k t483 y473).bind fun t486 => (if t486 = true then ((joiner_Merge.f y449 y470).bind fun t487 => ((tabellionref32_Same.f k t487 y473).bind fun t490 => (if t490 = true then (if (t476.length : Int) = 1 then (if 0 < (t476.length : Int) then (some ((rd t476 0) == 1)) else (none)) else (some false)) else (some false)))) else (some false)))) else (some false)))))))))))) = some r := H
 have A1 := Aside0.mk A10
 clear A10
 obtain ⟨y437, hy437⟩ : ∃ y_ : List (S44), y_ = (([(⟨t434, t435, t436⟩ : S44)] : List (S44))) := ⟨_, rfl⟩
 replace H : ((value_Num.f 2).bind fun bt443 => ((some (([y437, (([(⟨0, 0, (⟨#[]⟩ : ByteArray)⟩ : S44)] : List (S44))), (([(⟨bt443.1, bt443.2.1, bt443.2.2⟩ : S44)] : List (S44)))] : List (List (S44))) : List (List (S44)))).bind fun y449 => ((value_Num.f 2).bind fun bt452 => ((value_Num.f 1).bind fun bt458 => ((value_Num.f 1).bind fun bt464 => ((some (([(([(⟨bt452.1, bt452.2.1, bt452.2.2⟩ : S44)] : List (S44))), (([(⟨bt458.1, bt458.2.1, bt458.2.2⟩ : S44)] : List (S44))), (([(⟨bt464.1, bt464.2.1, bt464.2.2⟩ : S44)] : List (S44)))] : List (List (S44))) : List (List (S44)))).bind fun y470 => ((some (([(⟨0, 1⟩ : S40), (⟨0, 2⟩ : S40), (⟨2, 0⟩ : S40)] : List (S40)) : List (S40))).bind fun y473 => ((joiner_Alone.f 3 y473).bind fun t476 => ((joiner_Nest.f k y449 y470).bind fun t479 => ((tabellionref32_Same.f k t479 y473).bind fun t482 => (if t482 = true then ((joiner_Hash.f y449 y470).bind fun t483 => ((tabellionref32_Same.f k t483 y473).bind fun t486 => (if t486 = true then ((joiner_Merge.f y449 y470).bind fun t487 => ((tabellionref32_Same.f k t487 y473).bind fun t490 => (if t490 = true then (if (t476.length : Int) = 1 then (if 0 < (t476.length : Int) then (some ((rd t476 0) == 1)) else (none)) else (some false)) else (some false)))) else (some false)))) else (some false)))))))))))) = some r := by first | (rw [hy437]; with_reducible exact H) | (have H2_ := (Option.bind_some _ _).symm.trans H; rw [hy437]; with_reducible exact H2_) | (have H2_ := (Option.bind_some _ _).symm.trans H; with_reducible exact H2_) | with_reducible exact H | (rw [hy437]; exact H) | exact H
 have Ny437 := Aside0.mk hy437
 clear hy437
 obtain ⟨y440, hy440⟩ : ∃ y_ : List (S44), y_ = (([(⟨0, 0, (⟨#[]⟩ : ByteArray)⟩ : S44)] : List (S44))) := ⟨_, rfl⟩
 replace H : ((value_Num.f 2).bind fun bt443 => ((some (([y437, y440, (([(⟨bt443.1, bt443.2.1, bt443.2.2⟩ : S44)] : List (S44)))] : List (List (S44))) : List (List (S44)))).bind fun y449 => ((value_Num.f 2).bind fun bt452 => ((value_Num.f 1).bind fun bt458 => ((value_Num.f 1).bind fun bt464 => ((some (([(([(⟨bt452.1, bt452.2.1, bt452.2.2⟩ : S44)] : List (S44))), (([(⟨bt458.1, bt458.2.1, bt458.2.2⟩ : S44)] : List (S44))), (([(⟨bt464.1, bt464.2.1, bt464.2.2⟩ : S44)] : List (S44)))] : List (List (S44))) : List (List (S44)))).bind fun y470 => ((some (([(⟨0, 1⟩ : S40), (⟨0, 2⟩ : S40), (⟨2, 0⟩ : S40)] : List (S40)) : List (S40))).bind fun y473 => ((joiner_Alone.f 3 y473).bind fun t476 => ((joiner_Nest.f k y449 y470).bind fun t479 => ((tabellionref32_Same.f k t479 y473).bind fun t482 => (if t482 = true then ((joiner_Hash.f y449 y470).bind fun t483 => ((tabellionref32_Same.f k t483 y473).bind fun t486 => (if t486 = true then ((joiner_Merge.f y449 y470).bind fun t487 => ((tabellionref32_Same.f k t487 y473).bind fun t490 => (if t490 = true then (if (t476.length : Int) = 1 then (if 0 < (t476.length : Int) then (some ((rd t476 0) == 1)) else (none)) else (some false)) else (some false)))) else (some false)))) else (some false)))))))))))) = some r := by first | (rw [hy440]; with_reducible exact H) | (have H2_ := (Option.bind_some _ _).symm.trans H; rw [hy440]; with_reducible exact H2_) | (have H2_ := (Option.bind_some _ _).symm.trans H; with_reducible exact H2_) | with_reducible exact H | (rw [hy440]; exact H) | exact H
 have Ny440 := Aside0.mk hy440
 clear hy440
 replace H := Option.bind_eq_some_iff.mp H
 obtain ⟨⟨t443, t444, t445⟩, A20, H⟩ := H
 replace H : ((some (([y437, y440, (([(⟨t443, t444, t445⟩ : S44)] : List (S44)))] : List (List (S44))) : List (List (S44)))).bind fun y449 => ((value_Num.f 2).bind fun bt452 => ((value_Num.f 1).bind fun bt458 => ((value_Num.f 1).bind fun bt464 => ((some (([(([(⟨bt452.1, bt452.2.1, bt452.2.2⟩ : S44)] : List (S44))), (([(⟨bt458.1, bt458.2.1, bt458.2.2⟩ : S44)] : List (S44))), (([(⟨bt464.1, bt464.2.1, bt464.2.2⟩ : S44)] : List (S44)))] : List (List (S44))) : List (List (S44)))).bind fun y470 => ((some (([(⟨0, 1⟩ : S40), (⟨0, 2⟩ : S40), (⟨2, 0⟩ : S40)] : List (S40)) : List (S40))).bind fun y473 => ((joiner_Alone.f 3 y473).bind fun t476 => ((joiner_Nest.f k y449 y470).bind fun t479 => ((tabellionref32_Same.f k t479 y473).bind fun t482 => (if t482 = true then ((joiner_Hash.f y449 y470).bind fun t483 => ((tabellionref32_Same.f k t483 y473).bind fun t486 => (if t486 = true then ((joiner_Merge.f y449 y470).bind fun t487 => ((tabellionref32_Same.f k t487 y473).bind fun t490 => (if t490 = true then (if (t476.length : Int) = 1 then (if 0 < (t476.length : Int) then (some ((rd t476 0) == 1)) else (none)) else (some false)) else (some false)))) else (some false)))) else (some false))))))))))) = some r := H
 have A2 := Aside0.mk A20
 clear A20
 obtain ⟨y446, hy446⟩ : ∃ y_ : List (S44), y_ = (([(⟨t443, t444, t445⟩ : S44)] : List (S44))) := ⟨_, rfl⟩
 replace H : ((some (([y437, y440, y446] : List (List (S44))) : List (List (S44)))).bind fun y449 => ((value_Num.f 2).bind fun bt452 => ((value_Num.f 1).bind fun bt458 => ((value_Num.f 1).bind fun bt464 => ((some (([(([(⟨bt452.1, bt452.2.1, bt452.2.2⟩ : S44)] : List (S44))), (([(⟨bt458.1, bt458.2.1, bt458.2.2⟩ : S44)] : List (S44))), (([(⟨bt464.1, bt464.2.1, bt464.2.2⟩ : S44)] : List (S44)))] : List (List (S44))) : List (List (S44)))).bind fun y470 => ((some (([(⟨0, 1⟩ : S40), (⟨0, 2⟩ : S40), (⟨2, 0⟩ : S40)] : List (S40)) : List (S40))).bind fun y473 => ((joiner_Alone.f 3 y473).bind fun t476 => ((joiner_Nest.f k y449 y470).bind fun t479 => ((tabellionref32_Same.f k t479 y473).bind fun t482 => (if t482 = true then ((joiner_Hash.f y449 y470).bind fun t483 => ((tabellionref32_Same.f k t483 y473).bind fun t486 => (if t486 = true then ((joiner_Merge.f y449 y470).bind fun t487 => ((tabellionref32_Same.f k t487 y473).bind fun t490 => (if t490 = true then (if (t476.length : Int) = 1 then (if 0 < (t476.length : Int) then (some ((rd t476 0) == 1)) else (none)) else (some false)) else (some false)))) else (some false)))) else (some false))))))))))) = some r := by first | (rw [hy446]; with_reducible exact H) | (have H2_ := (Option.bind_some _ _).symm.trans H; rw [hy446]; with_reducible exact H2_) | (have H2_ := (Option.bind_some _ _).symm.trans H; with_reducible exact H2_) | with_reducible exact H | (rw [hy446]; exact H) | exact H
 have Ny446 := Aside0.mk hy446
 clear hy446
 obtain ⟨y449, hy449⟩ : ∃ y_ : List (List (S44)), y_ = (([y437, y440, y446] : List (List (S44)))) := ⟨_, rfl⟩
 replace H : ((value_Num.f 2).bind fun bt452 => ((value_Num.f 1).bind fun bt458 => ((value_Num.f 1).bind fun bt464 => ((some (([(([(⟨bt452.1, bt452.2.1, bt452.2.2⟩ : S44)] : List (S44))), (([(⟨bt458.1, bt458.2.1, bt458.2.2⟩ : S44)] : List (S44))), (([(⟨bt464.1, bt464.2.1, bt464.2.2⟩ : S44)] : List (S44)))] : List (List (S44))) : List (List (S44)))).bind fun y470 => ((some (([(⟨0, 1⟩ : S40), (⟨0, 2⟩ : S40), (⟨2, 0⟩ : S40)] : List (S40)) : List (S40))).bind fun y473 => ((joiner_Alone.f 3 y473).bind fun t476 => ((joiner_Nest.f k y449 y470).bind fun t479 => ((tabellionref32_Same.f k t479 y473).bind fun t482 => (if t482 = true then ((joiner_Hash.f y449 y470).bind fun t483 => ((tabellionref32_Same.f k t483 y473).bind fun t486 => (if t486 = true then ((joiner_Merge.f y449 y470).bind fun t487 => ((tabellionref32_Same.f k t487 y473).bind fun t490 => (if t490 = true then (if (t476.length : Int) = 1 then (if 0 < (t476.length : Int) then (some ((rd t476 0) == 1)) else (none)) else (some false)) else (some false)))) else (some false)))) else (some false)))))))))) = some r := by first | (rw [hy449]; with_reducible exact H) | (have H2_ := (Option.bind_some _ _).symm.trans H; rw [hy449]; with_reducible exact H2_) | (have H2_ := (Option.bind_some _ _).symm.trans H; with_reducible exact H2_) | with_reducible exact H | (rw [hy449]; exact H) | exact H
 have Ny449 := Aside0.mk hy449
 clear hy449
 replace H := Option.bind_eq_some_iff.mp H
 obtain ⟨⟨t452, t453, t454⟩, A30, H⟩ := H
 replace H : ((value_Num.f 1).bind fun bt458 => ((value_Num.f 1).bind fun bt464 => ((some (([(([(⟨t452, t453, t454⟩ : S44)] : List (S44))), (([(⟨bt458.1, bt458.2.1, bt458.2.2⟩ : S44)] : List (S44))), (([(⟨bt464.1, bt464.2.1, bt464.2.2⟩ : S44)] : List (S44)))] : List (List (S44))) : List (List (S44)))).bind fun y470 => ((some (([(⟨0, 1⟩ : S40), (⟨0, 2⟩ : S40), (⟨2, 0⟩ : S40)] : List (S40)) : List (S40))).bind fun y473 => ((joiner_Alone.f 3 y473).bind fun t476 => ((joiner_Nest.f k y449 y470).bind fun t479 => ((tabellionref32_Same.f k t479 y473).bind fun t482 => (if t482 = true then ((joiner_Hash.f y449 y470).bind fun t483 => ((tabellionref32_Same.f k t483 y473).bind fun t486 => (if t486 = true then ((joiner_Merge.f y449 y470).bind fun t487 => ((tabellionref32_Same.f k t487 y473).bind fun t490 => (if t490 = true then (if (t476.length : Int) = 1 then (if 0 < (t476.length : Int) then (some ((rd t476 0) == 1)) else (none)) else (some false)) else (some false)))) else (some false)))) else (some false))))))))) = some r := H
 have A3 := Aside0.mk A30
 clear A30
 obtain ⟨y455, hy455⟩ : ∃ y_ : List (S44), y_ = (([(⟨t452, t453, t454⟩ : S44)] : List (S44))) := ⟨_, rfl⟩
 replace H : ((value_Num.f 1).bind fun bt458 => ((value_Num.f 1).bind fun bt464 => ((some (([y455, (([(⟨bt458.1, bt458.2.1, bt458.2.2⟩ : S44)] : List (S44))), (([(⟨bt464.1, bt464.2.1, bt464.2.2⟩ : S44)] : List (S44)))] : List (List (S44))) : List (List (S44)))).bind fun y470 => ((some (([(⟨0, 1⟩ : S40), (⟨0, 2⟩ : S40), (⟨2, 0⟩ : S40)] : List (S40)) : List (S40))).bind fun y473 => ((joiner_Alone.f 3 y473).bind fun t476 => ((joiner_Nest.f k y449 y470).bind fun t479 => ((tabellionref32_Same.f k t479 y473).bind fun t482 => (if t482 = true then ((joiner_Hash.f y449 y470).bind fun t483 => ((tabellionref32_Same.f k t483 y473).bind fun t486 => (if t486 = true then ((joiner_Merge.f y449 y470).bind fun t487 => ((tabellionref32_Same.f k t487 y473).bind fun t490 => (if t490 = true then (if (t476.length : Int) = 1 then (if 0 < (t476.length : Int) then (some ((rd t476 0) == 1)) else (none)) else (some false)) else (some false)))) else (some false)))) else (some false))))))))) = some r := by first | (rw [hy455]; with_reducible exact H) | (have H2_ := (Option.bind_some _ _).symm.trans H; rw [hy455]; with_reducible exact H2_) | (have H2_ := (Option.bind_some _ _).symm.trans H; with_reducible exact H2_) | with_reducible exact H | (rw [hy455]; exact H) | exact H
 have Ny455 := Aside0.mk hy455
 clear hy455
 replace H := Option.bind_eq_some_iff.mp H
 obtain ⟨⟨t458, t459, t460⟩, A40, H⟩ := H
 replace H : ((value_Num.f 1).bind fun bt464 => ((some (([y455, (([(⟨t458, t459, t460⟩ : S44)] : List (S44))), (([(⟨bt464.1, bt464.2.1, bt464.2.2⟩ : S44)] : List (S44)))] : List (List (S44))) : List (List (S44)))).bind fun y470 => ((some (([(⟨0, 1⟩ : S40), (⟨0, 2⟩ : S40), (⟨2, 0⟩ : S40)] : List (S40)) : List (S40))).bind fun y473 => ((joiner_Alone.f 3 y473).bind fun t476 => ((joiner_Nest.f k y449 y470).bind fun t479 => ((tabellionref32_Same.f k t479 y473).bind fun t482 => (if t482 = true then ((joiner_Hash.f y449 y470).bind fun t483 => ((tabellionref32_Same.f k t483 y473).bind fun t486 => (if t486 = true then ((joiner_Merge.f y449 y470).bind fun t487 => ((tabellionref32_Same.f k t487 y473).bind fun t490 => (if t490 = true then (if (t476.length : Int) = 1 then (if 0 < (t476.length : Int) then (some ((rd t476 0) == 1)) else (none)) else (some false)) else (some false)))) else (some false)))) else (some false)))))))) = some r := H
 have A4 := Aside0.mk A40
 clear A40
 obtain ⟨y461, hy461⟩ : ∃ y_ : List (S44), y_ = (([(⟨t458, t459, t460⟩ : S44)] : List (S44))) := ⟨_, rfl⟩
 replace H : ((value_Num.f 1).bind fun bt464 => ((some (([y455, y461, (([(⟨bt464.1, bt464.2.1, bt464.2.2⟩ : S44)] : List (S44)))] : List (List (S44))) : List (List (S44)))).bind fun y470 => ((some (([(⟨0, 1⟩ : S40), (⟨0, 2⟩ : S40), (⟨2, 0⟩ : S40)] : List (S40)) : List (S40))).bind fun y473 => ((joiner_Alone.f 3 y473).bind fun t476 => ((joiner_Nest.f k y449 y470).bind fun t479 => ((tabellionref32_Same.f k t479 y473).bind fun t482 => (if t482 = true then ((joiner_Hash.f y449 y470).bind fun t483 => ((tabellionref32_Same.f k t483 y473).bind fun t486 => (if t486 = true then ((joiner_Merge.f y449 y470).bind fun t487 => ((tabellionref32_Same.f k t487 y473).bind fun t490 => (if t490 = true then (if (t476.length : Int) = 1 then (if 0 < (t476.length : Int) then (some ((rd t476 0) == 1)) else (none)) else (some false)) else (some false)))) else (some false)))) else (some false)))))))) = some r := by first | (rw [hy461]; with_reducible exact H) | (have H2_ := (Option.bind_some _ _).symm.trans H; rw [hy461]; with_reducible exact H2_) | (have H2_ := (Option.bind_some _ _).symm.trans H; with_reducible exact H2_) | with_reducible exact H | (rw [hy461]; exact H) | exact H
 have Ny461 := Aside0.mk hy461
 clear hy461
 replace H := Option.bind_eq_some_iff.mp H
 obtain ⟨⟨t464, t465, t466⟩, A50, H⟩ := H
 replace H : ((some (([y455, y461, (([(⟨t464, t465, t466⟩ : S44)] : List (S44)))] : List (List (S44))) : List (List (S44)))).bind fun y470 => ((some (([(⟨0, 1⟩ : S40), (⟨0, 2⟩ : S40), (⟨2, 0⟩ : S40)] : List (S40)) : List (S40))).bind fun y473 => ((joiner_Alone.f 3 y473).bind fun t476 => ((joiner_Nest.f k y449 y470).bind fun t479 => ((tabellionref32_Same.f k t479 y473).bind fun t482 => (if t482 = true then ((joiner_Hash.f y449 y470).bind fun t483 => ((tabellionref32_Same.f k t483 y473).bind fun t486 => (if t486 = true then ((joiner_Merge.f y449 y470).bind fun t487 => ((tabellionref32_Same.f k t487 y473).bind fun t490 => (if t490 = true then (if (t476.length : Int) = 1 then (if 0 < (t476.length : Int) then (some ((rd t476 0) == 1)) else (none)) else (some false)) else (some false)))) else (some false)))) else (some false))))))) = some r := H
 have A5 := Aside0.mk A50
 clear A50
 obtain ⟨y467, hy467⟩ : ∃ y_ : List (S44), y_ = (([(⟨t464, t465, t466⟩ : S44)] : List (S44))) := ⟨_, rfl⟩
 replace H : ((some (([y455, y461, y467] : List (List (S44))) : List (List (S44)))).bind fun y470 => ((some (([(⟨0, 1⟩ : S40), (⟨0, 2⟩ : S40), (⟨2, 0⟩ : S40)] : List (S40)) : List (S40))).bind fun y473 => ((joiner_Alone.f 3 y473).bind fun t476 => ((joiner_Nest.f k y449 y470).bind fun t479 => ((tabellionref32_Same.f k t479 y473).bind fun t482 => (if t482 = true then ((joiner_Hash.f y449 y470).bind fun t483 => ((tabellionref32_Same.f k t483 y473).bind fun t486 => (if t486 = true then ((joiner_Merge.f y449 y470).bind fun t487 => ((tabellionref32_Same.f k t487 y473).bind fun t490 => (if t490 = true then (if (t476.length : Int) = 1 then (if 0 < (t476.length : Int) then (some ((rd t476 0) == 1)) else (none)) else (some false)) else (some false)))) else (some false)))) else (some false))))))) = some r := by first | (rw [hy467]; with_reducible exact H) | (have H2_ := (Option.bind_some _ _).symm.trans H; rw [hy467]; with_reducible exact H2_) | (have H2_ := (Option.bind_some _ _).symm.trans H; with_reducible exact H2_) | with_reducible exact H | (rw [hy467]; exact H) | exact H
 have Ny467 := Aside0.mk hy467
 clear hy467
 obtain ⟨y470, hy470⟩ : ∃ y_ : List (List (S44)), y_ = (([y455, y461, y467] : List (List (S44)))) := ⟨_, rfl⟩
 replace H : ((some (([(⟨0, 1⟩ : S40), (⟨0, 2⟩ : S40), (⟨2, 0⟩ : S40)] : List (S40)) : List (S40))).bind fun y473 => ((joiner_Alone.f 3 y473).bind fun t476 => ((joiner_Nest.f k y449 y470).bind fun t479 => ((tabellionref32_Same.f k t479 y473).bind fun t482 => (if t482 = true then ((joiner_Hash.f y449 y470).bind fun t483 => ((tabellionref32_Same.f k t483 y473).bind fun t486 => (if t486 = true then ((joiner_Merge.f y449 y470).bind fun t487 => ((tabellionref32_Same.f k t487 y473).bind fun t490 => (if t490 = true then (if (t476.length : Int) = 1 then (if 0 < (t476.length : Int) then (some ((rd t476 0) == 1)) else (none)) else (some false)) else (some false)))) else (some false)))) else (some false)))))) = some r := by first | (rw [hy470]; with_reducible exact H) | (have H2_ := (Option.bind_some _ _).symm.trans H; rw [hy470]; with_reducible exact H2_) | (have H2_ := (Option.bind_some _ _).symm.trans H; with_reducible exact H2_) | with_reducible exact H | (rw [hy470]; exact H) | exact H
 have Ny470 := Aside0.mk hy470
 clear hy470
 obtain ⟨y473, hy473⟩ : ∃ y_ : List (S40), y_ = (([(⟨0, 1⟩ : S40), (⟨0, 2⟩ : S40), (⟨2, 0⟩ : S40)] : List (S40))) := ⟨_, rfl⟩
 replace H : ((joiner_Alone.f 3 y473).bind fun t476 => ((joiner_Nest.f k y449 y470).bind fun t479 => ((tabellionref32_Same.f k t479 y473).bind fun t482 => (if t482 = true then ((joiner_Hash.f y449 y470).bind fun t483 => ((tabellionref32_Same.f k t483 y473).bind fun t486 => (if t486 = true then ((joiner_Merge.f y449 y470).bind fun t487 => ((tabellionref32_Same.f k t487 y473).bind fun t490 => (if t490 = true then (if (t476.length : Int) = 1 then (if 0 < (t476.length : Int) then (some ((rd t476 0) == 1)) else (none)) else (some false)) else (some false)))) else (some false)))) else (some false))))) = some r := by first | (rw [hy473]; with_reducible exact H) | (have H2_ := (Option.bind_some _ _).symm.trans H; rw [hy473]; with_reducible exact H2_) | (have H2_ := (Option.bind_some _ _).symm.trans H; with_reducible exact H2_) | with_reducible exact H | (rw [hy473]; exact H) | exact H
 have Ny473 := Aside0.mk hy473
 clear hy473
 replace H := Option.bind_eq_some_iff.mp H
 obtain ⟨t476, A60, H⟩ := H
 replace H : ((joiner_Nest.f k y449 y470).bind fun t479 => ((tabellionref32_Same.f k t479 y473).bind fun t482 => (if t482 = true then ((joiner_Hash.f y449 y470).bind fun t483 => ((tabellionref32_Same.f k t483 y473).bind fun t486 => (if t486 = true then ((joiner_Merge.f y449 y470).bind fun t487 => ((tabellionref32_Same.f k t487 y473).bind fun t490 => (if t490 = true then (if (t476.length : Int) = 1 then (if 0 < (t476.length : Int) then (some ((rd t476 0) == 1)) else (none)) else (some false)) else (some false)))) else (some false)))) else (some false)))) = some r := H
 have A6 := Aside0.mk A60
 clear A60
 replace H := Option.bind_eq_some_iff.mp H
 obtain ⟨t479, A70, H⟩ := H
 replace H : ((tabellionref32_Same.f k t479 y473).bind fun t482 => (if t482 = true then ((joiner_Hash.f y449 y470).bind fun t483 => ((tabellionref32_Same.f k t483 y473).bind fun t486 => (if t486 = true then ((joiner_Merge.f y449 y470).bind fun t487 => ((tabellionref32_Same.f k t487 y473).bind fun t490 => (if t490 = true then (if (t476.length : Int) = 1 then (if 0 < (t476.length : Int) then (some ((rd t476 0) == 1)) else (none)) else (some false)) else (some false)))) else (some false)))) else (some false))) = some r := H
 have A7 := Aside0.mk A70
 clear A70
 replace H := Option.bind_eq_some_iff.mp H
 obtain ⟨t482, A80, H⟩ := H
 replace H : (if t482 = true then ((joiner_Hash.f y449 y470).bind fun t483 => ((tabellionref32_Same.f k t483 y473).bind fun t486 => (if t486 = true then ((joiner_Merge.f y449 y470).bind fun t487 => ((tabellionref32_Same.f k t487 y473).bind fun t490 => (if t490 = true then (if (t476.length : Int) = 1 then (if 0 < (t476.length : Int) then (some ((rd t476 0) == 1)) else (none)) else (some false)) else (some false)))) else (some false)))) else (some false)) = some r := H
 have A8 := Aside0.mk A80
 clear A80
 by_cases c9 : t482 = true
 ·
  subst c9
  have H1 : ((joiner_Hash.f y449 y470).bind fun t483 => ((tabellionref32_Same.f k t483 y473).bind fun t486 => (if t486 = true then ((joiner_Merge.f y449 y470).bind fun t487 => ((tabellionref32_Same.f k t487 y473).bind fun t490 => (if t490 = true then (if (t476.length : Int) = 1 then (if 0 < (t476.length : Int) then (some ((rd t476 0) == 1)) else (none)) else (some false)) else (some false)))) else (some false)))) = some r := by rw [if_pos rfl] at H; exact H
  clear H
  have H := H1
  clear H1
  replace H := Option.bind_eq_some_iff.mp H
  obtain ⟨t483, A100, H⟩ := H
  replace H : ((tabellionref32_Same.f k t483 y473).bind fun t486 => (if t486 = true then ((joiner_Merge.f y449 y470).bind fun t487 => ((tabellionref32_Same.f k t487 y473).bind fun t490 => (if t490 = true then (if (t476.length : Int) = 1 then (if 0 < (t476.length : Int) then (some ((rd t476 0) == 1)) else (none)) else (some false)) else (some false)))) else (some false))) = some r := H
  have A10 := Aside0.mk A100
  clear A100
  replace H := Option.bind_eq_some_iff.mp H
  obtain ⟨t486, A110, H⟩ := H
  replace H : (if t486 = true then ((joiner_Merge.f y449 y470).bind fun t487 => ((tabellionref32_Same.f k t487 y473).bind fun t490 => (if t490 = true then (if (t476.length : Int) = 1 then (if 0 < (t476.length : Int) then (some ((rd t476 0) == 1)) else (none)) else (some false)) else (some false)))) else (some false)) = some r := H
  have A11 := Aside0.mk A110
  clear A110
  by_cases c12 : t486 = true
  ·
   subst c12
   have H1 : ((joiner_Merge.f y449 y470).bind fun t487 => ((tabellionref32_Same.f k t487 y473).bind fun t490 => (if t490 = true then (if (t476.length : Int) = 1 then (if 0 < (t476.length : Int) then (some ((rd t476 0) == 1)) else (none)) else (some false)) else (some false)))) = some r := by rw [if_pos rfl] at H; exact H
   clear H
   have H := H1
   clear H1
   replace H := Option.bind_eq_some_iff.mp H
   obtain ⟨t487, A130, H⟩ := H
   replace H : ((tabellionref32_Same.f k t487 y473).bind fun t490 => (if t490 = true then (if (t476.length : Int) = 1 then (if 0 < (t476.length : Int) then (some ((rd t476 0) == 1)) else (none)) else (some false)) else (some false))) = some r := H
   have A13 := Aside0.mk A130
   clear A130
   replace H := Option.bind_eq_some_iff.mp H
   obtain ⟨t490, A140, H⟩ := H
   replace H : (if t490 = true then (if (t476.length : Int) = 1 then (if 0 < (t476.length : Int) then (some ((rd t476 0) == 1)) else (none)) else (some false)) else (some false)) = some r := H
   have A14 := Aside0.mk A140
   clear A140
   by_cases c15 : t490 = true
   ·
    subst c15
    have H1 : (if (t476.length : Int) = 1 then (if 0 < (t476.length : Int) then (some ((rd t476 0) == 1)) else (none)) else (some false)) = some r := by rw [if_pos rfl] at H; exact H
    clear H
    have H := H1
    clear H1
    by_cases c16 : (t476.length : Int) = 1
    ·
     rw [if_pos c16] at H
     have c16b0 : ((t476.length : Int) == 1) = true := beq_iff_eq.mpr c16
     have c16b1 : ((t476.length : Int) != 1) = false := bne_eq_false_iff_eq.mpr c16
     clear c16
     by_cases c17 : 0 < (t476.length : Int)
     ·
      rw [if_pos c17] at H
      have c17b0 : decide (0 < (t476.length : Int)) = true := decide_eq_true c17
      have c17b1 : decide (0 < t476.length) = true := decide_eq_true (by omega)
      clear c17
      obtain rfl := Option.some.inj H
      go_enter Tryd.func19, Tryd.ntmps19
      go_wp2_with (first | ((with_reducible refine gate_callee (f := 28) rfl ?_); refine goesL_ (some 5) rfl rfl Tryd.func28 (by kernel_rfl) rfl #[.int .i64 1] rfl (by (try simp only [List.map_toArray, List.map_cons, List.map_nil]); first | done | rfl | (simp only [List.length_drop, List.length_take]; rfl)) ?_; (with_reducible refine (value_Num.calls 1 t434 t435 t436 _ A1.out).mono ?_); rintro e w18 ⟨rfl, hb⟩; refine ⟨_, rfl, ?_⟩; have n0_ := Aside0.mk (below_step (by repeat (first | (with_reducible first | exact HB.out | apply below_alloc | apply pw_below_drewN | apply below_drew1) | exact HB.out)) hb); clear HB; have HB := n0_; clear n0_; (try clear hb); (try clear hb2); (try clear hk); (try clear hi)) | ((with_reducible refine gate_dst (N := 6) rfl ?_); (try (refine gate_guard (by rfl) ?_; dsimp only)); refine Kd.R_lit k44 _ 44 ?hg (N := 6) ?hd (xs := ([(⟨t434, t435, t436⟩ : S44)] : List (S44))) (inner := [.int .i64 t434, .int .i64 t435, .string t436]) (ok := fun _ => True) (okp := fun _ => True) ?hr ?hp (fun _ hk => hk) trivial (Below.refl _ _) (Nat.le_refl _) (by simp) ?_; (case hd => rfl); (case hg => rfl); (case hr => first | (go_simp; done) | (go_simp; rfl)); (case hp => exact (Reps.c3 (show Kd.M k44 _ _ _ (⟨t434, t435, t436⟩ : S44) [.int .i64 t434, .int .i64 t435, .string t436] from (k44_mkM _ _ _ (⟨t434, t435, t436⟩ : S44) )) (Reps.none _ _))); intro v438 w19 ho20 hb hg_ hnew_; clear hg_ hnew_; (first | rw [← Ny437.out] at ho20 | (simp only [Int.reduceToNat] at ho20; rw [← Ny437.out] at ho20)); have n0_ := Aside0.mk (Kd.R_lower ho20 (below_size (by repeat (first | (with_reducible first | exact HB.out | apply below_alloc | apply pw_below_drewN | apply below_drew1) | exact HB.out)))); have n1_ := Aside0.mk (below_step (by repeat (first | (with_reducible first | exact HB.out | apply below_alloc | apply pw_below_drewN | apply below_drew1) | exact HB.out)) hb); clear HB; have HO439 := n0_; have HB := n1_; clear n0_ n1_; clear hb ho20) | ((with_reducible refine gate_dst (N := 8) rfl ?_); (try (refine gate_guard (by rfl) ?_; dsimp only)); refine Kd.R_lit k44 _ 44 ?hg (N := 8) ?hd (xs := ([(⟨0, 0, (⟨#[]⟩ : ByteArray)⟩ : S44)] : List (S44))) (inner := [.int .i64 0, .int .i64 0, .string (⟨#[]⟩ : ByteArray)]) (ok := fun _ => True) (okp := fun _ => True) ?hr ?hp (fun _ hk => hk) trivial (Below.refl _ _) (Nat.le_refl _) (by simp) ?_; (case hd => rfl); (case hg => rfl); (case hr => first | (go_simp; done) | (go_simp; rfl)); (case hp => exact (Reps.c3 (show Kd.M k44 _ _ _ (⟨0, 0, (⟨#[]⟩ : ByteArray)⟩ : S44) [.int .i64 0, .int .i64 0, .string (⟨#[]⟩ : ByteArray)] from (k44_mkM _ _ _ (⟨0, 0, (⟨#[]⟩ : ByteArray)⟩ : S44) )) (Reps.none _ _))); intro v441 w21 ho22 hb hg_ hnew_; clear hg_ hnew_; (first | rw [← Ny440.out] at ho22 | (simp only [Int.reduceToNat] at ho22; rw [← Ny440.out] at ho22)); have n0_ := Aside0.mk (Kd.R_elder' (by (with_reducible repeat (first | apply Kd.R_alloc | apply Kd.R_drewN | apply Kd.R_drew)); exact HO439.out) (Kd.R_base ho22) hb); have n1_ := Aside0.mk (Kd.R_lower (Kd.R_new' ho22 (Kd.R_lt (by (with_reducible repeat (first | apply Kd.R_alloc | apply Kd.R_drewN | apply Kd.R_drew)); exact HO439.out))) (below_size (by repeat (first | (with_reducible first | exact HB.out | apply below_alloc | apply pw_below_drewN | apply below_drew1) | exact HB.out)))); have n2_ := Aside0.mk (below_step (by repeat (first | (with_reducible first | exact HB.out | apply below_alloc | apply pw_below_drewN | apply below_drew1) | exact HB.out)) hb); clear HO439; clear HB; have HO439 := n0_; have HO442 := n1_; have HB := n2_; clear n0_ n1_ n2_; clear hb ho22) | ((with_reducible refine gate_callee (f := 28) rfl ?_); refine goesL_ (some 9) rfl rfl Tryd.func28 (by kernel_rfl) rfl #[.int .i64 2] rfl (by (try simp only [List.map_toArray, List.map_cons, List.map_nil]); first | done | rfl | (simp only [List.length_drop, List.length_take]; rfl)) ?_; (with_reducible refine (value_Num.calls 2 t443 t444 t445 _ A2.out).mono ?_); rintro e w23 ⟨rfl, hb⟩; refine ⟨_, rfl, ?_⟩; have n0_ := Aside0.mk (Kd.R_below (by (with_reducible repeat (first | apply Kd.R_alloc | apply Kd.R_drewN | apply Kd.R_drew)); exact HO439.out) hb); have n1_ := Aside0.mk (Kd.R_below (by (with_reducible repeat (first | apply Kd.R_alloc | apply Kd.R_drewN | apply Kd.R_drew)); exact HO442.out) hb); have n2_ := Aside0.mk (below_step (by repeat (first | (with_reducible first | exact HB.out | apply below_alloc | apply pw_below_drewN | apply below_drew1) | exact HB.out)) hb); clear HO439; clear HO442; clear HB; have HO439 := n0_; have HO442 := n1_; have HB := n2_; clear n0_ n1_ n2_; (try clear hb); (try clear hb2); (try clear hk); (try clear hi)) | ((with_reducible refine gate_dst (N := 10) rfl ?_); (try (refine gate_guard (by rfl) ?_; dsimp only)); refine Kd.R_lit k44 _ 44 ?hg (N := 10) ?hd (xs := ([(⟨t443, t444, t445⟩ : S44)] : List (S44))) (inner := [.int .i64 t443, .int .i64 t444, .string t445]) (ok := fun _ => True) (okp := fun _ => True) ?hr ?hp (fun _ hk => hk) trivial (Below.refl _ _) (Nat.le_refl _) (by simp) ?_; (case hd => rfl); (case hg => rfl); (case hr => first | (go_simp; done) | (go_simp; rfl)); (case hp => exact (Reps.c3 (show Kd.M k44 _ _ _ (⟨t443, t444, t445⟩ : S44) [.int .i64 t443, .int .i64 t444, .string t445] from (k44_mkM _ _ _ (⟨t443, t444, t445⟩ : S44) )) (Reps.none _ _))); intro v447 w24 ho25 hb hg_ hnew_; clear hg_ hnew_; (first | rw [← Ny446.out] at ho25 | (simp only [Int.reduceToNat] at ho25; rw [← Ny446.out] at ho25)); have n0_ := Aside0.mk (Kd.R_elder' (by (with_reducible repeat (first | apply Kd.R_alloc | apply Kd.R_drewN | apply Kd.R_drew)); exact HO439.out) (Kd.R_base ho25) hb); have n1_ := Aside0.mk (Kd.R_elder' (by (with_reducible repeat (first | apply Kd.R_alloc | apply Kd.R_drewN | apply Kd.R_drew)); exact HO442.out) (Kd.R_base ho25) hb); have n2_ := Aside0.mk (Kd.R_lower (Kd.R_new' (Kd.R_new' ho25 (Kd.R_lt (by (with_reducible repeat (first | apply Kd.R_alloc | apply Kd.R_drewN | apply Kd.R_drew)); exact HO439.out))) (Kd.R_lt (by (with_reducible repeat (first | apply Kd.R_alloc | apply Kd.R_drewN | apply Kd.R_drew)); exact HO442.out))) (below_size (by repeat (first | (with_reducible first | exact HB.out | apply below_alloc | apply pw_below_drewN | apply below_drew1) | exact HB.out)))); have n3_ := Aside0.mk (below_step (by repeat (first | (with_reducible first | exact HB.out | apply below_alloc | apply pw_below_drewN | apply below_drew1) | exact HB.out)) hb); clear HO439; clear HO442; clear HB; have HO439 := n0_; have HO442 := n1_; have HO448 := n2_; have HB := n3_; clear n0_ n1_ n2_ n3_; clear hb ho25; obtain ⟨Ao26, co26, eo26⟩ := Kd.R_slice HO439.out; subst eo26; obtain ⟨Ao27, co27, eo27⟩ := Kd.R_slice HO442.out; subst eo27; obtain ⟨Ao28, co28, eo28⟩ := Kd.R_slice HO448.out; subst eo28) | ((with_reducible refine gate_dst (N := 11) rfl ?_); (try (refine gate_guard (by rfl) ?_; dsimp only)); refine Kd.N_lit (Kd.slice 44 k44) _ 33 ?hg (N' := 11) ?hd (xs := ([y437, y440, y446] : List (List (S44)))) (inner := [.slice Ao26 y437.length co26, .slice Ao27 y440.length co27, .slice Ao28 y446.length co28]) (ok := (fun _ => True)) (okp := (fun _ => True)) ?hr ?hp (fun _ hk => hk) ((show ∀ k_, w24.heap.size ≤ k_ → (fun _ => True) k_ from fun k_ hk => trivial) _ (Nat.le_refl _)) (Below.refl _ _) (Nat.le_refl _) (by simp) ?_; (case hd => rfl); (case hg => rfl); (case hr => first | (go_simp; done) | (go_simp; rfl)); (case hp => exact (Reps.one (show Kd.FK (Kd.slice 44 k44) _ _ y437 [.slice Ao26 y437.length co26] from (Kd.FK_slice_mk (Kd.R_reads' (Kd.R_mono (ok' := (fun _ => True)) (HO439.out) (fun k_ hk => trivial))).2.1 (Kd.R_F (Kd.R_mono (ok' := (fun _ => True)) (HO439.out) (fun k_ hk => trivial))))) (Reps.one (show Kd.FK (Kd.slice 44 k44) _ _ y440 [.slice Ao27 y440.length co27] from (Kd.FK_slice_mk (Kd.R_reads' (Kd.R_mono (ok' := (fun _ => True)) (HO442.out) (fun k_ hk => trivial))).2.1 (Kd.R_F (Kd.R_mono (ok' := (fun _ => True)) (HO442.out) (fun k_ hk => trivial))))) (Reps.one (show Kd.FK (Kd.slice 44 k44) _ _ y446 [.slice Ao28 y446.length co28] from (Kd.FK_slice_mk (Kd.R_reads' (Kd.R_mono (ok' := (fun _ => True)) (HO448.out) (fun k_ hk => trivial))).2.1 (Kd.R_F (Kd.R_mono (ok' := (fun _ => True)) (HO448.out) (fun k_ hk => trivial))))) (Reps.none _ _))))); intro v450 w29 ho30 hb hg_ hnew_; clear hg_ hnew_; (first | rw [← Ny449.out] at ho30 | (simp only [Int.reduceToNat] at ho30; rw [← Ny449.out] at ho30)); have n0_ := Aside0.mk (Kd.N_lower ho30 (below_size (by repeat (first | (with_reducible first | exact HB.out | apply below_alloc | apply pw_below_drewN | apply below_drew1) | exact HB.out)))); have n1_ := Aside0.mk (below_step (by repeat (first | (with_reducible first | exact HB.out | apply below_alloc | apply pw_below_drewN | apply below_drew1) | exact HB.out)) hb); clear HB; clear HO439; clear HO442; clear HO448; have HO451 := n0_; have HB := n1_; clear n0_ n1_; clear hb ho30) | ((with_reducible refine gate_callee (f := 28) rfl ?_); refine goesL_ (some 12) rfl rfl Tryd.func28 (by kernel_rfl) rfl #[.int .i64 2] rfl (by (try simp only [List.map_toArray, List.map_cons, List.map_nil]); first | done | rfl | (simp only [List.length_drop, List.length_take]; rfl)) ?_; (with_reducible refine (value_Num.calls 2 t452 t453 t454 _ A3.out).mono ?_); rintro e w31 ⟨rfl, hb⟩; refine ⟨_, rfl, ?_⟩; have n0_ := Aside0.mk (Kd.N_below (by (with_reducible repeat (first | apply Kd.N_alloc | apply Kd.N_drewN | apply Kd.N_drew)); exact HO451.out) hb); have n1_ := Aside0.mk (below_step (by repeat (first | (with_reducible first | exact HB.out | apply below_alloc | apply pw_below_drewN | apply below_drew1) | exact HB.out)) hb); clear HO451; clear HB; have HO451 := n0_; have HB := n1_; clear n0_ n1_; (try clear hb); (try clear hb2); (try clear hk); (try clear hi)) | ((with_reducible refine gate_dst (N := 13) rfl ?_); (try (refine gate_guard (by rfl) ?_; dsimp only)); refine Kd.R_lit k44 _ 44 ?hg (N := 13) ?hd (xs := ([(⟨t452, t453, t454⟩ : S44)] : List (S44))) (inner := [.int .i64 t452, .int .i64 t453, .string t454]) (ok := fun _ => True) (okp := fun _ => True) ?hr ?hp (fun _ hk => hk) trivial (Below.refl _ _) (Nat.le_refl _) (by simp) ?_; (case hd => rfl); (case hg => rfl); (case hr => first | (go_simp; done) | (go_simp; rfl)); (case hp => exact (Reps.c3 (show Kd.M k44 _ _ _ (⟨t452, t453, t454⟩ : S44) [.int .i64 t452, .int .i64 t453, .string t454] from (k44_mkM _ _ _ (⟨t452, t453, t454⟩ : S44) )) (Reps.none _ _))); intro v456 w32 ho33 hb hg_ hnew_; clear hg_ hnew_; (first | rw [← Ny455.out] at ho33 | (simp only [Int.reduceToNat] at ho33; rw [← Ny455.out] at ho33)); have n0_ := Aside0.mk (Kd.N_elder' (by (with_reducible repeat (first | apply Kd.N_alloc | apply Kd.N_drewN | apply Kd.N_drew)); exact HO451.out) (Kd.R_base ho33) hb); have n1_ := Aside0.mk (Kd.R_lower ho33 (below_size (by repeat (first | (with_reducible first | exact HB.out | apply below_alloc | apply pw_below_drewN | apply below_drew1) | exact HB.out)))); have n2_ := Aside0.mk (below_step (by repeat (first | (with_reducible first | exact HB.out | apply below_alloc | apply pw_below_drewN | apply below_drew1) | exact HB.out)) hb); clear HO451; clear HB; have HO451 := n0_; have HO457 := n1_; have HB := n2_; clear n0_ n1_ n2_; clear hb ho33) | ((with_reducible refine gate_callee (f := 28) rfl ?_); refine goesL_ (some 14) rfl rfl Tryd.func28 (by kernel_rfl) rfl #[.int .i64 1] rfl (by (try simp only [List.map_toArray, List.map_cons, List.map_nil]); first | done | rfl | (simp only [List.length_drop, List.length_take]; rfl)) ?_; (with_reducible refine (value_Num.calls 1 t458 t459 t460 _ A4.out).mono ?_); rintro e w34 ⟨rfl, hb⟩; refine ⟨_, rfl, ?_⟩; have n0_ := Aside0.mk (Kd.N_below (by (with_reducible repeat (first | apply Kd.N_alloc | apply Kd.N_drewN | apply Kd.N_drew)); exact HO451.out) hb); have n1_ := Aside0.mk (Kd.R_below (by (with_reducible repeat (first | apply Kd.R_alloc | apply Kd.R_drewN | apply Kd.R_drew)); exact HO457.out) hb); have n2_ := Aside0.mk (below_step (by repeat (first | (with_reducible first | exact HB.out | apply below_alloc | apply pw_below_drewN | apply below_drew1) | exact HB.out)) hb); clear HO451; clear HO457; clear HB; have HO451 := n0_; have HO457 := n1_; have HB := n2_; clear n0_ n1_ n2_; (try clear hb); (try clear hb2); (try clear hk); (try clear hi)) | ((with_reducible refine gate_dst (N := 15) rfl ?_); (try (refine gate_guard (by rfl) ?_; dsimp only)); refine Kd.R_lit k44 _ 44 ?hg (N := 15) ?hd (xs := ([(⟨t458, t459, t460⟩ : S44)] : List (S44))) (inner := [.int .i64 t458, .int .i64 t459, .string t460]) (ok := fun _ => True) (okp := fun _ => True) ?hr ?hp (fun _ hk => hk) trivial (Below.refl _ _) (Nat.le_refl _) (by simp) ?_; (case hd => rfl); (case hg => rfl); (case hr => first | (go_simp; done) | (go_simp; rfl)); (case hp => exact (Reps.c3 (show Kd.M k44 _ _ _ (⟨t458, t459, t460⟩ : S44) [.int .i64 t458, .int .i64 t459, .string t460] from (k44_mkM _ _ _ (⟨t458, t459, t460⟩ : S44) )) (Reps.none _ _))); intro v462 w35 ho36 hb hg_ hnew_; clear hg_ hnew_; (first | rw [← Ny461.out] at ho36 | (simp only [Int.reduceToNat] at ho36; rw [← Ny461.out] at ho36)); have n0_ := Aside0.mk (Kd.N_elder' (by (with_reducible repeat (first | apply Kd.N_alloc | apply Kd.N_drewN | apply Kd.N_drew)); exact HO451.out) (Kd.R_base ho36) hb); have n1_ := Aside0.mk (Kd.R_elder' (by (with_reducible repeat (first | apply Kd.R_alloc | apply Kd.R_drewN | apply Kd.R_drew)); exact HO457.out) (Kd.R_base ho36) hb); have n2_ := Aside0.mk (Kd.R_lower (Kd.R_new' ho36 (Kd.R_lt (by (with_reducible repeat (first | apply Kd.R_alloc | apply Kd.R_drewN | apply Kd.R_drew)); exact HO457.out))) (below_size (by repeat (first | (with_reducible first | exact HB.out | apply below_alloc | apply pw_below_drewN | apply below_drew1) | exact HB.out)))); have n3_ := Aside0.mk (below_step (by repeat (first | (with_reducible first | exact HB.out | apply below_alloc | apply pw_below_drewN | apply below_drew1) | exact HB.out)) hb); clear HO451; clear HO457; clear HB; have HO451 := n0_; have HO457 := n1_; have HO463 := n2_; have HB := n3_; clear n0_ n1_ n2_ n3_; clear hb ho36) | ((with_reducible refine gate_callee (f := 28) rfl ?_); refine goesL_ (some 16) rfl rfl Tryd.func28 (by kernel_rfl) rfl #[.int .i64 1] rfl (by (try simp only [List.map_toArray, List.map_cons, List.map_nil]); first | done | rfl | (simp only [List.length_drop, List.length_take]; rfl)) ?_; (with_reducible refine (value_Num.calls 1 t464 t465 t466 _ A5.out).mono ?_); rintro e w37 ⟨rfl, hb⟩; refine ⟨_, rfl, ?_⟩; have n0_ := Aside0.mk (Kd.N_below (by (with_reducible repeat (first | apply Kd.N_alloc | apply Kd.N_drewN | apply Kd.N_drew)); exact HO451.out) hb); have n1_ := Aside0.mk (Kd.R_below (by (with_reducible repeat (first | apply Kd.R_alloc | apply Kd.R_drewN | apply Kd.R_drew)); exact HO457.out) hb); have n2_ := Aside0.mk (Kd.R_below (by (with_reducible repeat (first | apply Kd.R_alloc | apply Kd.R_drewN | apply Kd.R_drew)); exact HO463.out) hb); have n3_ := Aside0.mk (below_step (by repeat (first | (with_reducible first | exact HB.out | apply below_alloc | apply pw_below_drewN | apply below_drew1) | exact HB.out)) hb); clear HO451; clear HO457; clear HO463; clear HB; have HO451 := n0_; have HO457 := n1_; have HO463 := n2_; have HB := n3_; clear n0_ n1_ n2_ n3_; (try clear hb); (try clear hb2); (try clear hk); (try clear hi)) | ((with_reducible refine gate_dst (N := 17) rfl ?_); (try (refine gate_guard (by rfl) ?_; dsimp only)); refine Kd.R_lit k44 _ 44 ?hg (N := 17) ?hd (xs := ([(⟨t464, t465, t466⟩ : S44)] : List (S44))) (inner := [.int .i64 t464, .int .i64 t465, .string t466]) (ok := fun _ => True) (okp := fun _ => True) ?hr ?hp (fun _ hk => hk) trivial (Below.refl _ _) (Nat.le_refl _) (by simp) ?_; (case hd => rfl); (case hg => rfl); (case hr => first | (go_simp; done) | (go_simp; rfl)); (case hp => exact (Reps.c3 (show Kd.M k44 _ _ _ (⟨t464, t465, t466⟩ : S44) [.int .i64 t464, .int .i64 t465, .string t466] from (k44_mkM _ _ _ (⟨t464, t465, t466⟩ : S44) )) (Reps.none _ _))); intro v468 w38 ho39 hb hg_ hnew_; clear hg_ hnew_; (first | rw [← Ny467.out] at ho39 | (simp only [Int.reduceToNat] at ho39; rw [← Ny467.out] at ho39)); have n0_ := Aside0.mk (Kd.N_elder' (by (with_reducible repeat (first | apply Kd.N_alloc | apply Kd.N_drewN | apply Kd.N_drew)); exact HO451.out) (Kd.R_base ho39) hb); have n1_ := Aside0.mk (Kd.R_elder' (by (with_reducible repeat (first | apply Kd.R_alloc | apply Kd.R_drewN | apply Kd.R_drew)); exact HO457.out) (Kd.R_base ho39) hb); have n2_ := Aside0.mk (Kd.R_elder' (by (with_reducible repeat (first | apply Kd.R_alloc | apply Kd.R_drewN | apply Kd.R_drew)); exact HO463.out) (Kd.R_base ho39) hb); have n3_ := Aside0.mk (Kd.R_lower (Kd.R_new' (Kd.R_new' ho39 (Kd.R_lt (by (with_reducible repeat (first | apply Kd.R_alloc | apply Kd.R_drewN | apply Kd.R_drew)); exact HO457.out))) (Kd.R_lt (by (with_reducible repeat (first | apply Kd.R_alloc | apply Kd.R_drewN | apply Kd.R_drew)); exact HO463.out))) (below_size (by repeat (first | (with_reducible first | exact HB.out | apply below_alloc | apply pw_below_drewN | apply below_drew1) | exact HB.out)))); have n4_ := Aside0.mk (below_step (by repeat (first | (with_reducible first | exact HB.out | apply below_alloc | apply pw_below_drewN | apply below_drew1) | exact HB.out)) hb); clear HO451; clear HO457; clear HO463; clear HB; have HO451 := n0_; have HO457 := n1_; have HO463 := n2_; have HO469 := n3_; have HB := n4_; clear n0_ n1_ n2_ n3_ n4_; clear hb ho39; obtain ⟨Ao40, co40, eo40⟩ := Kd.R_slice HO457.out; subst eo40; obtain ⟨Ao41, co41, eo41⟩ := Kd.R_slice HO463.out; subst eo41; obtain ⟨Ao42, co42, eo42⟩ := Kd.R_slice HO469.out; subst eo42) | ((with_reducible refine gate_dst (N := 18) rfl ?_); (try (refine gate_guard (by rfl) ?_; dsimp only)); refine Kd.N_lit (Kd.slice 44 k44) _ 33 ?hg (N' := 18) ?hd (xs := ([y455, y461, y467] : List (List (S44)))) (inner := [.slice Ao40 y455.length co40, .slice Ao41 y461.length co41, .slice Ao42 y467.length co42]) (ok := (fun k_ => some k_ ≠ (v450 : Value).ownBlock)) (okp := (fun k_ => some k_ ≠ (v450 : Value).ownBlock)) ?hr ?hp (fun _ hk => hk) ((show ∀ k_, w38.heap.size ≤ k_ → (fun k_ => some k_ ≠ (v450 : Value).ownBlock) k_ from fun k_ hk => Kd.fresh' (Kd.N_lt (by (with_reducible repeat (first | apply Kd.N_alloc | apply Kd.N_drewN | apply Kd.N_drew)); exact HO451.out)) k_ hk) _ (Nat.le_refl _)) (Below.refl _ _) (Nat.le_refl _) (by simp) ?_; (case hd => rfl); (case hg => rfl); (case hr => first | (go_simp; done) | (go_simp; rfl)); (case hp => exact (Reps.one (show Kd.FK (Kd.slice 44 k44) _ _ y455 [.slice Ao40 y455.length co40] from (Kd.FK_slice_mk (Kd.R_reads' (Kd.R_mono (ok' := (fun k_ => some k_ ≠ (v450 : Value).ownBlock)) (Kd.R_apart' (HO457.out) (Kd.N_typed HO451.out) (by decide)) (fun k_ hk => hk.2))).2.1 (Kd.R_F (Kd.R_mono (ok' := (fun k_ => some k_ ≠ (v450 : Value).ownBlock)) (Kd.R_apart' (HO457.out) (Kd.N_typed HO451.out) (by decide)) (fun k_ hk => hk.2))))) (Reps.one (show Kd.FK (Kd.slice 44 k44) _ _ y461 [.slice Ao41 y461.length co41] from (Kd.FK_slice_mk (Kd.R_reads' (Kd.R_mono (ok' := (fun k_ => some k_ ≠ (v450 : Value).ownBlock)) (Kd.R_apart' (HO463.out) (Kd.N_typed HO451.out) (by decide)) (fun k_ hk => hk.2))).2.1 (Kd.R_F (Kd.R_mono (ok' := (fun k_ => some k_ ≠ (v450 : Value).ownBlock)) (Kd.R_apart' (HO463.out) (Kd.N_typed HO451.out) (by decide)) (fun k_ hk => hk.2))))) (Reps.one (show Kd.FK (Kd.slice 44 k44) _ _ y467 [.slice Ao42 y467.length co42] from (Kd.FK_slice_mk (Kd.R_reads' (Kd.R_mono (ok' := (fun k_ => some k_ ≠ (v450 : Value).ownBlock)) (Kd.R_apart' (HO469.out) (Kd.N_typed HO451.out) (by decide)) (fun k_ hk => hk.2))).2.1 (Kd.R_F (Kd.R_mono (ok' := (fun k_ => some k_ ≠ (v450 : Value).ownBlock)) (Kd.R_apart' (HO469.out) (Kd.N_typed HO451.out) (by decide)) (fun k_ hk => hk.2))))) (Reps.none _ _))))); intro v471 w43 ho44 hb hg_ hnew_; clear hg_ hnew_; (first | rw [← Ny470.out] at ho44 | (simp only [Int.reduceToNat] at ho44; rw [← Ny470.out] at ho44)); have n0_ := Aside0.mk (Kd.N_elder' (by (with_reducible repeat (first | apply Kd.N_alloc | apply Kd.N_drewN | apply Kd.N_drew)); exact HO451.out) (Kd.N_base ho44) hb); have n1_ := Aside0.mk (Kd.N_lower ho44 (below_size (by repeat (first | (with_reducible first | exact HB.out | apply below_alloc | apply pw_below_drewN | apply below_drew1) | exact HB.out)))); have n2_ := Aside0.mk (below_step (by repeat (first | (with_reducible first | exact HB.out | apply below_alloc | apply pw_below_drewN | apply below_drew1) | exact HB.out)) hb); clear HO451; clear HB; clear HO457; clear HO463; clear HO469; have HO451 := n0_; have HO472 := n1_; have HB := n2_; clear n0_ n1_ n2_; clear hb ho44) | ((with_reducible refine gate_dst (N := 22) rfl ?_); (try (refine gate_guard (by rfl) ?_; dsimp only)); refine Kd.R_lit k40 _ 40 ?hg (N := 22) ?hd (xs := ([(⟨0, 1⟩ : S40), (⟨0, 2⟩ : S40), (⟨2, 0⟩ : S40)] : List (S40))) (inner := [.int .i64 0, .int .i64 1, .int .i64 0, .int .i64 2, .int .i64 2, .int .i64 0]) (ok := fun _ => True) (okp := fun _ => True) ?hr ?hp (fun _ hk => hk) trivial (Below.refl _ _) (Nat.le_refl _) (by simp) ?_; (case hd => rfl); (case hg => rfl); (case hr => first | (go_simp; done) | (go_simp; rfl)); (case hp => exact (Reps.c2 (show Kd.M k40 _ _ _ (⟨0, 1⟩ : S40) [.int .i64 0, .int .i64 1] from (k40_mkM _ _ _ (⟨0, 1⟩ : S40) )) (Reps.c2 (show Kd.M k40 _ _ _ (⟨0, 2⟩ : S40) [.int .i64 0, .int .i64 2] from (k40_mkM _ _ _ (⟨0, 2⟩ : S40) )) (Reps.c2 (show Kd.M k40 _ _ _ (⟨2, 0⟩ : S40) [.int .i64 2, .int .i64 0] from (k40_mkM _ _ _ (⟨2, 0⟩ : S40) )) (Reps.none _ _))))); intro v474 w45 ho46 hb hg_ hnew_; clear hg_ hnew_; (first | rw [← Ny473.out] at ho46 | (simp only [Int.reduceToNat] at ho46; rw [← Ny473.out] at ho46)); have n0_ := Aside0.mk (Kd.N_elder' (by (with_reducible repeat (first | apply Kd.N_alloc | apply Kd.N_drewN | apply Kd.N_drew)); exact HO451.out) (Kd.R_base ho46) hb); have n1_ := Aside0.mk (Kd.N_elder' (by (with_reducible repeat (first | apply Kd.N_alloc | apply Kd.N_drewN | apply Kd.N_drew)); exact HO472.out) (Kd.R_base ho46) hb); have n2_ := Aside0.mk (Kd.R_lower ho46 (below_size (by repeat (first | (with_reducible first | exact HB.out | apply below_alloc | apply pw_below_drewN | apply below_drew1) | exact HB.out)))); have n3_ := Aside0.mk (below_step (by repeat (first | (with_reducible first | exact HB.out | apply below_alloc | apply pw_below_drewN | apply below_drew1) | exact HB.out)) hb); clear HO451; clear HO472; clear HB; have HO451 := n0_; have HO472 := n1_; have HO475 := n2_; have HB := n3_; clear n0_ n1_ n2_ n3_; clear hb ho46; obtain ⟨Ao47, co47, eo47⟩ := Kd.R_slice HO475.out; subst eo47) | ((with_reducible refine gate_callee (f := 25) rfl ?_); refine goesL_ (some 24) rfl rfl Tryd.func25 (by kernel_rfl) rfl #[.int .i64 3, .slice Ao47 y473.length co47] rfl (by (try simp only [List.map_toArray, List.map_cons, List.map_nil]); first | done | rfl | (simp only [List.length_drop, List.length_take]; rfl)) ?_; (with_reducible refine (joiner_Alone.calls 3 _ _ y473 t476 _ ?side1 ?side2 A6.out).mono ?_); (case side1 => repeat (first | exact (Kd.R_reads' HO475.out).2.2 | (with_reducible refine Kd.C_alloc ?_ _) | (with_reducible refine Kd.C_drewN ?_ _) | (with_reducible refine Kd.C_drew ?_))); (case side2 => exact (Kd.R_reads' HO475.out).2.1); rintro e w48 ⟨v477, rfl, ho0, hb⟩; refine ⟨_, rfl, ?_⟩; have n0_ := Aside0.mk (Kd.N_elder' (by (with_reducible repeat (first | apply Kd.N_alloc | apply Kd.N_drewN | apply Kd.N_drew)); exact HO451.out) (Kd.R_base ho0) hb); have n1_ := Aside0.mk (Kd.N_elder' (by (with_reducible repeat (first | apply Kd.N_alloc | apply Kd.N_drewN | apply Kd.N_drew)); exact HO472.out) (Kd.R_base ho0) hb); have n2_ := Aside0.mk (Kd.R_below (by (with_reducible repeat (first | apply Kd.R_alloc | apply Kd.R_drewN | apply Kd.R_drew)); exact HO475.out) hb); have n3_ := Aside0.mk (Kd.R_lower ho0 (below_size (by repeat (first | (with_reducible first | exact HB.out | apply below_alloc | apply pw_below_drewN | apply below_drew1) | exact HB.out)))); have n4_ := Aside0.mk (below_step (by repeat (first | (with_reducible first | exact HB.out | apply below_alloc | apply pw_below_drewN | apply below_drew1) | exact HB.out)) hb); clear HO451; clear HO472; clear HO475; clear HB; have HO451 := n0_; have HO472 := n1_; have HO475 := n2_; have HO478 := n3_; have HB := n4_; clear n0_ n1_ n2_ n3_ n4_; (try clear hb); (try clear hb2); (try clear hk); (try clear hi); (try clear ho0); obtain ⟨Ao49, co49, eo49⟩ := Kd.N_slice HO451.out; subst eo49; obtain ⟨Ao50, co50, eo50⟩ := Kd.N_slice HO472.out; subst eo50) | ((with_reducible refine gate_callee (f := 22) rfl ?_); refine goesL_ (some 27) rfl rfl Tryd.func22 (by kernel_rfl) rfl #[.slice Ao49 y449.length co49, .slice Ao50 y470.length co50] rfl (by (try simp only [List.map_toArray, List.map_cons, List.map_nil]); first | done | rfl | (simp only [List.length_drop, List.length_take]; rfl)) ?_; (with_reducible refine (joiner_Nest.calls k _ _ y449 _ _ y470 t479 _ ?side1 ?side2 ?side3 ?side4 A7.out).mono ?_); (case side1 => repeat (first | exact (Kd.N_reads' HO451.out).2.2 | (with_reducible refine Kd.C_alloc ?_ _) | (with_reducible refine Kd.C_drewN ?_ _) | (with_reducible refine Kd.C_drew ?_))); (case side2 => exact (Kd.N_reads' HO451.out).2.1); (case side3 => repeat (first | exact (Kd.N_reads' HO472.out).2.2 | (with_reducible refine Kd.C_alloc ?_ _) | (with_reducible refine Kd.C_drewN ?_ _) | (with_reducible refine Kd.C_drew ?_))); (case side4 => exact (Kd.N_reads' HO472.out).2.1); rintro e w51 ⟨v480, rfl, ho0, hb⟩; refine ⟨_, rfl, ?_⟩; have n0_ := Aside0.mk (Kd.N_elder' (by (with_reducible repeat (first | apply Kd.N_alloc | apply Kd.N_drewN | apply Kd.N_drew)); exact HO451.out) (Kd.R_base ho0) hb); have n1_ := Aside0.mk (Kd.N_elder' (by (with_reducible repeat (first | apply Kd.N_alloc | apply Kd.N_drewN | apply Kd.N_drew)); exact HO472.out) (Kd.R_base ho0) hb); have n2_ := Aside0.mk (Kd.R_elder' (by (with_reducible repeat (first | apply Kd.R_alloc | apply Kd.R_drewN | apply Kd.R_drew)); exact HO475.out) (Kd.R_base ho0) hb); have n3_ := Aside0.mk (Kd.R_below (by (with_reducible repeat (first | apply Kd.R_alloc | apply Kd.R_drewN | apply Kd.R_drew)); exact HO478.out) hb); have n4_ := Aside0.mk (Kd.R_lower (Kd.R_new' ho0 (Kd.R_lt (by (with_reducible repeat (first | apply Kd.R_alloc | apply Kd.R_drewN | apply Kd.R_drew)); exact HO475.out))) (below_size (by repeat (first | (with_reducible first | exact HB.out | apply below_alloc | apply pw_below_drewN | apply below_drew1) | exact HB.out)))); have n5_ := Aside0.mk (below_step (by repeat (first | (with_reducible first | exact HB.out | apply below_alloc | apply pw_below_drewN | apply below_drew1) | exact HB.out)) hb); clear HO451; clear HO472; clear HO475; clear HO478; clear HB; have HO451 := n0_; have HO472 := n1_; have HO475 := n2_; have HO478 := n3_; have HO481 := n4_; have HB := n5_; clear n0_ n1_ n2_ n3_ n4_ n5_; (try clear hb); (try clear hb2); (try clear hk); (try clear hi); (try clear ho0); obtain ⟨Ao52, co52, eo52⟩ := Kd.R_slice HO481.out; subst eo52) | ((with_reducible refine gate_callee (f := 21) rfl ?_); refine goesL_ (some 29) rfl rfl Tryd.func21 (by kernel_rfl) rfl #[.slice Ao52 t479.length co52, .slice Ao47 y473.length co47] rfl (by (try simp only [List.map_toArray, List.map_cons, List.map_nil]); first | done | rfl | (simp only [List.length_drop, List.length_take]; rfl)) ?_; (with_reducible refine (tabellionref32_Same.calls k _ _ t479 _ _ y473 true _ ?side1 ?side2 ?side3 ?side4 A8.out).mono ?_); (case side1 => repeat (first | exact (Kd.R_reads' HO481.out).2.2 | (with_reducible refine Kd.C_alloc ?_ _) | (with_reducible refine Kd.C_drewN ?_ _) | (with_reducible refine Kd.C_drew ?_))); (case side2 => exact (Kd.R_reads' HO481.out).2.1); (case side3 => repeat (first | exact (Kd.R_reads' HO475.out).2.2 | (with_reducible refine Kd.C_alloc ?_ _) | (with_reducible refine Kd.C_drewN ?_ _) | (with_reducible refine Kd.C_drew ?_))); (case side4 => exact (Kd.R_reads' HO475.out).2.1); rintro e w' ⟨rfl, ⟨nd, rfl⟩⟩; refine ⟨_, rfl, ?_⟩) | (go_at_call 23; (with_reducible refine (joiner_Hash.calls _ _ y449 _ _ y470 t483 _ ?side1 ?side2 ?side3 ?side4 A10.out ?tab).mono ?_); (case tab => exact (tab_of HTAB.out (by repeat (first | (with_reducible first | exact HB.out | apply below_alloc | apply pw_below_drewN | apply below_drew1) | exact HB.out)))); (case side1 => repeat (first | exact (Kd.N_reads' HO451.out).2.2 | (with_reducible refine Kd.C_alloc ?_ _) | (with_reducible refine Kd.C_drewN ?_ _) | (with_reducible refine Kd.C_drew ?_))); (case side2 => exact (Kd.N_reads' HO451.out).2.1); (case side3 => repeat (first | exact (Kd.N_reads' HO472.out).2.2 | (with_reducible refine Kd.C_alloc ?_ _) | (with_reducible refine Kd.C_drewN ?_ _) | (with_reducible refine Kd.C_drew ?_))); (case side4 => exact (Kd.N_reads' HO472.out).2.1); rintro e w53 ⟨v484, rfl, ho0, hb⟩; have n0_ := Aside0.mk (Kd.N_elder' (by (with_reducible repeat (first | apply Kd.N_alloc | apply Kd.N_drewN | apply Kd.N_drew)); exact HO451.out) (Kd.R_base ho0) hb); have n1_ := Aside0.mk (Kd.N_elder' (by (with_reducible repeat (first | apply Kd.N_alloc | apply Kd.N_drewN | apply Kd.N_drew)); exact HO472.out) (Kd.R_base ho0) hb); have n2_ := Aside0.mk (Kd.R_elder' (by (with_reducible repeat (first | apply Kd.R_alloc | apply Kd.R_drewN | apply Kd.R_drew)); exact HO475.out) (Kd.R_base ho0) hb); have n3_ := Aside0.mk (Kd.R_below (by (with_reducible repeat (first | apply Kd.R_alloc | apply Kd.R_drewN | apply Kd.R_drew)); exact HO478.out) hb); have n4_ := Aside0.mk (Kd.R_elder' (by (with_reducible repeat (first | apply Kd.R_alloc | apply Kd.R_drewN | apply Kd.R_drew)); exact HO481.out) (Kd.R_base ho0) hb); have n5_ := Aside0.mk (Kd.R_lower (Kd.R_new' (Kd.R_new' ho0 (Kd.R_lt (by (with_reducible repeat (first | apply Kd.R_alloc | apply Kd.R_drewN | apply Kd.R_drew)); exact HO475.out))) (Kd.R_lt (by (with_reducible repeat (first | apply Kd.R_alloc | apply Kd.R_drewN | apply Kd.R_drew)); exact HO481.out))) (below_size (by repeat (first | (with_reducible first | exact HB.out | apply below_alloc | apply pw_below_drewN | apply below_drew1) | exact HB.out)))); have n6_ := Aside0.mk (below_step (by repeat (first | (with_reducible first | exact HB.out | apply below_alloc | apply pw_below_drewN | apply below_drew1) | exact HB.out)) hb); clear HO451; clear HO472; clear HO475; clear HO478; clear HO481; clear HB; have HO451 := n0_; have HO472 := n1_; have HO475 := n2_; have HO478 := n3_; have HO481 := n4_; have HO485 := n5_; have HB := n6_; clear n0_ n1_ n2_ n3_ n4_ n5_ n6_; (try clear hb); (try clear hb2); (try clear hk); (try clear hi); (try clear ho0); obtain ⟨Ao54, co54, eo54⟩ := Kd.R_slice HO485.out; subst eo54) | (go_at_call 21; (with_reducible refine (tabellionref32_Same.calls k _ _ t483 _ _ y473 true _ ?side1 ?side2 ?side3 ?side4 A11.out).mono ?_); (case side1 => repeat (first | exact (Kd.R_reads' HO485.out).2.2 | (with_reducible refine Kd.C_alloc ?_ _) | (with_reducible refine Kd.C_drewN ?_ _) | (with_reducible refine Kd.C_drew ?_))); (case side2 => exact (Kd.R_reads' HO485.out).2.1); (case side3 => repeat (first | exact (Kd.R_reads' HO475.out).2.2 | (with_reducible refine Kd.C_alloc ?_ _) | (with_reducible refine Kd.C_drewN ?_ _) | (with_reducible refine Kd.C_drew ?_))); (case side4 => exact (Kd.R_reads' HO475.out).2.1); rintro e w' ⟨rfl, ⟨nd, rfl⟩⟩) | (go_at_call 24; (with_reducible refine (joiner_Merge.calls _ _ y449 _ _ y470 t487 _ ?side1 ?side2 ?side3 ?side4 A13.out).mono ?_); (case side1 => repeat (first | exact (Kd.N_reads' HO451.out).2.2 | (with_reducible refine Kd.C_alloc ?_ _) | (with_reducible refine Kd.C_drewN ?_ _) | (with_reducible refine Kd.C_drew ?_))); (case side2 => exact (Kd.N_reads' HO451.out).2.1); (case side3 => repeat (first | exact (Kd.N_reads' HO472.out).2.2 | (with_reducible refine Kd.C_alloc ?_ _) | (with_reducible refine Kd.C_drewN ?_ _) | (with_reducible refine Kd.C_drew ?_))); (case side4 => exact (Kd.N_reads' HO472.out).2.1); rintro e w55 ⟨v488, rfl, ho0, hb⟩; have n0_ := Aside0.mk (Kd.N_elder' (by (with_reducible repeat (first | apply Kd.N_alloc | apply Kd.N_drewN | apply Kd.N_drew)); exact HO451.out) (Kd.R_base ho0) hb); have n1_ := Aside0.mk (Kd.N_elder' (by (with_reducible repeat (first | apply Kd.N_alloc | apply Kd.N_drewN | apply Kd.N_drew)); exact HO472.out) (Kd.R_base ho0) hb); have n2_ := Aside0.mk (Kd.R_elder' (by (with_reducible repeat (first | apply Kd.R_alloc | apply Kd.R_drewN | apply Kd.R_drew)); exact HO475.out) (Kd.R_base ho0) hb); have n3_ := Aside0.mk (Kd.R_below (by (with_reducible repeat (first | apply Kd.R_alloc | apply Kd.R_drewN | apply Kd.R_drew)); exact HO478.out) hb); have n4_ := Aside0.mk (Kd.R_elder' (by (with_reducible repeat (first | apply Kd.R_alloc | apply Kd.R_drewN | apply Kd.R_drew)); exact HO481.out) (Kd.R_base ho0) hb); have n5_ := Aside0.mk (Kd.R_elder' (by (with_reducible repeat (first | apply Kd.R_alloc | apply Kd.R_drewN | apply Kd.R_drew)); exact HO485.out) (Kd.R_base ho0) hb); have n6_ := Aside0.mk (Kd.R_lower (Kd.R_new' (Kd.R_new' (Kd.R_new' ho0 (Kd.R_lt (by (with_reducible repeat (first | apply Kd.R_alloc | apply Kd.R_drewN | apply Kd.R_drew)); exact HO475.out))) (Kd.R_lt (by (with_reducible repeat (first | apply Kd.R_alloc | apply Kd.R_drewN | apply Kd.R_drew)); exact HO481.out))) (Kd.R_lt (by (with_reducible repeat (first | apply Kd.R_alloc | apply Kd.R_drewN | apply Kd.R_drew)); exact HO485.out))) (below_size (by repeat (first | (with_reducible first | exact HB.out | apply below_alloc | apply pw_below_drewN | apply below_drew1) | exact HB.out)))); have n7_ := Aside0.mk (below_step (by repeat (first | (with_reducible first | exact HB.out | apply below_alloc | apply pw_below_drewN | apply below_drew1) | exact HB.out)) hb); clear HO451; clear HO472; clear HO475; clear HO478; clear HO481; clear HO485; clear HB; have HO451 := n0_; have HO472 := n1_; have HO475 := n2_; have HO478 := n3_; have HO481 := n4_; have HO485 := n5_; have HO489 := n6_; have HB := n7_; clear n0_ n1_ n2_ n3_ n4_ n5_ n6_ n7_; (try clear hb); (try clear hb2); (try clear hk); (try clear hi); (try clear ho0); obtain ⟨Ao56, co56, eo56⟩ := Kd.R_slice HO489.out; subst eo56) | (go_at_call 21; (with_reducible refine (tabellionref32_Same.calls k _ _ t487 _ _ y473 true _ ?side1 ?side2 ?side3 ?side4 A14.out).mono ?_); (case side1 => repeat (first | exact (Kd.R_reads' HO489.out).2.2 | (with_reducible refine Kd.C_alloc ?_ _) | (with_reducible refine Kd.C_drewN ?_ _) | (with_reducible refine Kd.C_drew ?_))); (case side2 => exact (Kd.R_reads' HO489.out).2.1); (case side3 => repeat (first | exact (Kd.R_reads' HO475.out).2.2 | (with_reducible refine Kd.C_alloc ?_ _) | (with_reducible refine Kd.C_drewN ?_ _) | (with_reducible refine Kd.C_drew ?_))); (case side4 => exact (Kd.R_reads' HO475.out).2.1); rintro e w' ⟨rfl, ⟨nd, rfl⟩⟩; obtain ⟨Ao57, co57, eo57⟩ := Kd.R_slice HO478.out; subst eo57; have p491 : 0 ≤ (0 : Int) := (by omega); have q491 : 0 < (t476.length : Int) := of_decide_eq_true (by first | (with_reducible assumption) | assumption); obtain ⟨ad491, e491, hx491_0⟩ := Kd.at_int (Kd.R_reads' HO478.out).2.2 0 p491 q491; cases e491; have qi491 : (0 < t476.length) = True := eq_true (by omega); (try rw [show ((0 : Int)).toNat = 0 from rfl] at hx491_0); (try rw [Addr.add_zero'] at hx491_0); replace p491 := eq_true p491; replace q491 := eq_true q491))
      go_ret
      exact ⟨by first | rfl | (simp [errW_none, errW_some] <;> rfl) | (simp [*, errW_none, errW_some] <;> rfl), by repeat (first | (with_reducible first | exact HB.out | apply below_alloc | apply pw_below_drewN | apply below_drew1) | exact HB.out)⟩
     ·
      rw [if_neg c17] at H
      exact absurd H (by simp)
    ·
     rw [if_neg c16] at H
     have c16b0 : ((t476.length : Int) == 1) = false := beq_eq_false_iff_ne.mpr c16
     have c16b1 : ((t476.length : Int) != 1) = true := bne_iff_ne.mpr c16
     obtain rfl := Option.some.inj H
     go_enter Tryd.func19, Tryd.ntmps19
     go_wp2_with (first | ((with_reducible refine gate_callee (f := 28) rfl ?_); refine goesL_ (some 5) rfl rfl Tryd.func28 (by kernel_rfl) rfl #[.int .i64 1] rfl (by (try simp only [List.map_toArray, List.map_cons, List.map_nil]); first | done | rfl | (simp only [List.length_drop, List.length_take]; rfl)) ?_; (with_reducible refine (value_Num.calls 1 t434 t435 t436 _ A1.out).mono ?_); rintro e w58 ⟨rfl, hb⟩; refine ⟨_, rfl, ?_⟩; have n0_ := Aside0.mk (below_step (by repeat (first | (with_reducible first | exact HB.out | apply below_alloc | apply pw_below_drewN | apply below_drew1) | exact HB.out)) hb); clear HB; have HB := n0_; clear n0_; (try clear hb); (try clear hb2); (try clear hk); (try clear hi)) | ((with_reducible refine gate_dst (N := 6) rfl ?_); (try (refine gate_guard (by rfl) ?_; dsimp only)); refine Kd.R_lit k44 _ 44 ?hg (N := 6) ?hd (xs := ([(⟨t434, t435, t436⟩ : S44)] : List (S44))) (inner := [.int .i64 t434, .int .i64 t435, .string t436]) (ok := fun _ => True) (okp := fun _ => True) ?hr ?hp (fun _ hk => hk) trivial (Below.refl _ _) (Nat.le_refl _) (by simp) ?_; (case hd => rfl); (case hg => rfl); (case hr => first | (go_simp; done) | (go_simp; rfl)); (case hp => exact (Reps.c3 (show Kd.M k44 _ _ _ (⟨t434, t435, t436⟩ : S44) [.int .i64 t434, .int .i64 t435, .string t436] from (k44_mkM _ _ _ (⟨t434, t435, t436⟩ : S44) )) (Reps.none _ _))); intro v438 w59 ho60 hb hg_ hnew_; clear hg_ hnew_; (first | rw [← Ny437.out] at ho60 | (simp only [Int.reduceToNat] at ho60; rw [← Ny437.out] at ho60)); have n0_ := Aside0.mk (Kd.R_lower ho60 (below_size (by repeat (first | (with_reducible first | exact HB.out | apply below_alloc | apply pw_below_drewN | apply below_drew1) | exact HB.out)))); have n1_ := Aside0.mk (below_step (by repeat (first | (with_reducible first | exact HB.out | apply below_alloc | apply pw_below_drewN | apply below_drew1) | exact HB.out)) hb); clear HB; have HO439 := n0_; have HB := n1_; clear n0_ n1_; clear hb ho60) | ((with_reducible refine gate_dst (N := 8) rfl ?_); (try (refine gate_guard (by rfl) ?_; dsimp only)); refine Kd.R_lit k44 _ 44 ?hg (N := 8) ?hd (xs := ([(⟨0, 0, (⟨#[]⟩ : ByteArray)⟩ : S44)] : List (S44))) (inner := [.int .i64 0, .int .i64 0, .string (⟨#[]⟩ : ByteArray)]) (ok := fun _ => True) (okp := fun _ => True) ?hr ?hp (fun _ hk => hk) trivial (Below.refl _ _) (Nat.le_refl _) (by simp) ?_; (case hd => rfl); (case hg => rfl); (case hr => first | (go_simp; done) | (go_simp; rfl)); (case hp => exact (Reps.c3 (show Kd.M k44 _ _ _ (⟨0, 0, (⟨#[]⟩ : ByteArray)⟩ : S44) [.int .i64 0, .int .i64 0, .string (⟨#[]⟩ : ByteArray)] from (k44_mkM _ _ _ (⟨0, 0, (⟨#[]⟩ : ByteArray)⟩ : S44) )) (Reps.none _ _))); intro v441 w61 ho62 hb hg_ hnew_; clear hg_ hnew_; (first | rw [← Ny440.out] at ho62 | (simp only [Int.reduceToNat] at ho62; rw [← Ny440.out] at ho62)); have n0_ := Aside0.mk (Kd.R_elder' (by (with_reducible repeat (first | apply Kd.R_alloc | apply Kd.R_drewN | apply Kd.R_drew)); exact HO439.out) (Kd.R_base ho62) hb); have n1_ := Aside0.mk (Kd.R_lower (Kd.R_new' ho62 (Kd.R_lt (by (with_reducible repeat (first | apply Kd.R_alloc | apply Kd.R_drewN | apply Kd.R_drew)); exact HO439.out))) (below_size (by repeat (first | (with_reducible first | exact HB.out | apply below_alloc | apply pw_below_drewN | apply below_drew1) | exact HB.out)))); have n2_ := Aside0.mk (below_step (by repeat (first | (with_reducible first | exact HB.out | apply below_alloc | apply pw_below_drewN | apply below_drew1) | exact HB.out)) hb); clear HO439; clear HB; have HO439 := n0_; have HO442 := n1_; have HB := n2_; clear n0_ n1_ n2_; clear hb ho62) | ((with_reducible refine gate_callee (f := 28) rfl ?_); refine goesL_ (some 9) rfl rfl Tryd.func28 (by kernel_rfl) rfl #[.int .i64 2] rfl (by (try simp only [List.map_toArray, List.map_cons, List.map_nil]); first | done | rfl | (simp only [List.length_drop, List.length_take]; rfl)) ?_; (with_reducible refine (value_Num.calls 2 t443 t444 t445 _ A2.out).mono ?_); rintro e w63 ⟨rfl, hb⟩; refine ⟨_, rfl, ?_⟩; have n0_ := Aside0.mk (Kd.R_below (by (with_reducible repeat (first | apply Kd.R_alloc | apply Kd.R_drewN | apply Kd.R_drew)); exact HO439.out) hb); have n1_ := Aside0.mk (Kd.R_below (by (with_reducible repeat (first | apply Kd.R_alloc | apply Kd.R_drewN | apply Kd.R_drew)); exact HO442.out) hb); have n2_ := Aside0.mk (below_step (by repeat (first | (with_reducible first | exact HB.out | apply below_alloc | apply pw_below_drewN | apply below_drew1) | exact HB.out)) hb); clear HO439; clear HO442; clear HB; have HO439 := n0_; have HO442 := n1_; have HB := n2_; clear n0_ n1_ n2_; (try clear hb); (try clear hb2); (try clear hk); (try clear hi)) | ((with_reducible refine gate_dst (N := 10) rfl ?_); (try (refine gate_guard (by rfl) ?_; dsimp only)); refine Kd.R_lit k44 _ 44 ?hg (N := 10) ?hd (xs := ([(⟨t443, t444, t445⟩ : S44)] : List (S44))) (inner := [.int .i64 t443, .int .i64 t444, .string t445]) (ok := fun _ => True) (okp := fun _ => True) ?hr ?hp (fun _ hk => hk) trivial (Below.refl _ _) (Nat.le_refl _) (by simp) ?_; (case hd => rfl); (case hg => rfl); (case hr => first | (go_simp; done) | (go_simp; rfl)); (case hp => exact (Reps.c3 (show Kd.M k44 _ _ _ (⟨t443, t444, t445⟩ : S44) [.int .i64 t443, .int .i64 t444, .string t445] from (k44_mkM _ _ _ (⟨t443, t444, t445⟩ : S44) )) (Reps.none _ _))); intro v447 w64 ho65 hb hg_ hnew_; clear hg_ hnew_; (first | rw [← Ny446.out] at ho65 | (simp only [Int.reduceToNat] at ho65; rw [← Ny446.out] at ho65)); have n0_ := Aside0.mk (Kd.R_elder' (by (with_reducible repeat (first | apply Kd.R_alloc | apply Kd.R_drewN | apply Kd.R_drew)); exact HO439.out) (Kd.R_base ho65) hb); have n1_ := Aside0.mk (Kd.R_elder' (by (with_reducible repeat (first | apply Kd.R_alloc | apply Kd.R_drewN | apply Kd.R_drew)); exact HO442.out) (Kd.R_base ho65) hb); have n2_ := Aside0.mk (Kd.R_lower (Kd.R_new' (Kd.R_new' ho65 (Kd.R_lt (by (with_reducible repeat (first | apply Kd.R_alloc | apply Kd.R_drewN | apply Kd.R_drew)); exact HO439.out))) (Kd.R_lt (by (with_reducible repeat (first | apply Kd.R_alloc | apply Kd.R_drewN | apply Kd.R_drew)); exact HO442.out))) (below_size (by repeat (first | (with_reducible first | exact HB.out | apply below_alloc | apply pw_below_drewN | apply below_drew1) | exact HB.out)))); have n3_ := Aside0.mk (below_step (by repeat (first | (with_reducible first | exact HB.out | apply below_alloc | apply pw_below_drewN | apply below_drew1) | exact HB.out)) hb); clear HO439; clear HO442; clear HB; have HO439 := n0_; have HO442 := n1_; have HO448 := n2_; have HB := n3_; clear n0_ n1_ n2_ n3_; clear hb ho65; obtain ⟨Ao66, co66, eo66⟩ := Kd.R_slice HO439.out; subst eo66; obtain ⟨Ao67, co67, eo67⟩ := Kd.R_slice HO442.out; subst eo67; obtain ⟨Ao68, co68, eo68⟩ := Kd.R_slice HO448.out; subst eo68) | ((with_reducible refine gate_dst (N := 11) rfl ?_); (try (refine gate_guard (by rfl) ?_; dsimp only)); refine Kd.N_lit (Kd.slice 44 k44) _ 33 ?hg (N' := 11) ?hd (xs := ([y437, y440, y446] : List (List (S44)))) (inner := [.slice Ao66 y437.length co66, .slice Ao67 y440.length co67, .slice Ao68 y446.length co68]) (ok := (fun _ => True)) (okp := (fun _ => True)) ?hr ?hp (fun _ hk => hk) ((show ∀ k_, w64.heap.size ≤ k_ → (fun _ => True) k_ from fun k_ hk => trivial) _ (Nat.le_refl _)) (Below.refl _ _) (Nat.le_refl _) (by simp) ?_; (case hd => rfl); (case hg => rfl); (case hr => first | (go_simp; done) | (go_simp; rfl)); (case hp => exact (Reps.one (show Kd.FK (Kd.slice 44 k44) _ _ y437 [.slice Ao66 y437.length co66] from (Kd.FK_slice_mk (Kd.R_reads' (Kd.R_mono (ok' := (fun _ => True)) (HO439.out) (fun k_ hk => trivial))).2.1 (Kd.R_F (Kd.R_mono (ok' := (fun _ => True)) (HO439.out) (fun k_ hk => trivial))))) (Reps.one (show Kd.FK (Kd.slice 44 k44) _ _ y440 [.slice Ao67 y440.length co67] from (Kd.FK_slice_mk (Kd.R_reads' (Kd.R_mono (ok' := (fun _ => True)) (HO442.out) (fun k_ hk => trivial))).2.1 (Kd.R_F (Kd.R_mono (ok' := (fun _ => True)) (HO442.out) (fun k_ hk => trivial))))) (Reps.one (show Kd.FK (Kd.slice 44 k44) _ _ y446 [.slice Ao68 y446.length co68] from (Kd.FK_slice_mk (Kd.R_reads' (Kd.R_mono (ok' := (fun _ => True)) (HO448.out) (fun k_ hk => trivial))).2.1 (Kd.R_F (Kd.R_mono (ok' := (fun _ => True)) (HO448.out) (fun k_ hk => trivial))))) (Reps.none _ _))))); intro v450 w69 ho70 hb hg_ hnew_; clear hg_ hnew_; (first | rw [← Ny449.out] at ho70 | (simp only [Int.reduceToNat] at ho70; rw [← Ny449.out] at ho70)); have n0_ := Aside0.mk (Kd.N_lower ho70 (below_size (by repeat (first | (with_reducible first | exact HB.out | apply below_alloc | apply pw_below_drewN | apply below_drew1) | exact HB.out)))); have n1_ := Aside0.mk (below_step (by repeat (first | (with_reducible first | exact HB.out | apply below_alloc | apply pw_below_drewN | apply below_drew1) | exact HB.out)) hb); clear HB; clear HO439; clear HO442; clear HO448; have HO451 := n0_; have HB := n1_; clear n0_ n1_; clear hb ho70) | ((with_reducible refine gate_callee (f := 28) rfl ?_); refine goesL_ (some 12) rfl rfl Tryd.func28 (by kernel_rfl) rfl #[.int .i64 2] rfl (by (try simp only [List.map_toArray, List.map_cons, List.map_nil]); first | done | rfl | (simp only [List.length_drop, List.length_take]; rfl)) ?_; (with_reducible refine (value_Num.calls 2 t452 t453 t454 _ A3.out).mono ?_); rintro e w71 ⟨rfl, hb⟩; refine ⟨_, rfl, ?_⟩; have n0_ := Aside0.mk (Kd.N_below (by (with_reducible repeat (first | apply Kd.N_alloc | apply Kd.N_drewN | apply Kd.N_drew)); exact HO451.out) hb); have n1_ := Aside0.mk (below_step (by repeat (first | (with_reducible first | exact HB.out | apply below_alloc | apply pw_below_drewN | apply below_drew1) | exact HB.out)) hb); clear HO451; clear HB; have HO451 := n0_; have HB := n1_; clear n0_ n1_; (try clear hb); (try clear hb2); (try clear hk); (try clear hi)) | ((with_reducible refine gate_dst (N := 13) rfl ?_); (try (refine gate_guard (by rfl) ?_; dsimp only)); refine Kd.R_lit k44 _ 44 ?hg (N := 13) ?hd (xs := ([(⟨t452, t453, t454⟩ : S44)] : List (S44))) (inner := [.int .i64 t452, .int .i64 t453, .string t454]) (ok := fun _ => True) (okp := fun _ => True) ?hr ?hp (fun _ hk => hk) trivial (Below.refl _ _) (Nat.le_refl _) (by simp) ?_; (case hd => rfl); (case hg => rfl); (case hr => first | (go_simp; done) | (go_simp; rfl)); (case hp => exact (Reps.c3 (show Kd.M k44 _ _ _ (⟨t452, t453, t454⟩ : S44) [.int .i64 t452, .int .i64 t453, .string t454] from (k44_mkM _ _ _ (⟨t452, t453, t454⟩ : S44) )) (Reps.none _ _))); intro v456 w72 ho73 hb hg_ hnew_; clear hg_ hnew_; (first | rw [← Ny455.out] at ho73 | (simp only [Int.reduceToNat] at ho73; rw [← Ny455.out] at ho73)); have n0_ := Aside0.mk (Kd.N_elder' (by (with_reducible repeat (first | apply Kd.N_alloc | apply Kd.N_drewN | apply Kd.N_drew)); exact HO451.out) (Kd.R_base ho73) hb); have n1_ := Aside0.mk (Kd.R_lower ho73 (below_size (by repeat (first | (with_reducible first | exact HB.out | apply below_alloc | apply pw_below_drewN | apply below_drew1) | exact HB.out)))); have n2_ := Aside0.mk (below_step (by repeat (first | (with_reducible first | exact HB.out | apply below_alloc | apply pw_below_drewN | apply below_drew1) | exact HB.out)) hb); clear HO451; clear HB; have HO451 := n0_; have HO457 := n1_; have HB := n2_; clear n0_ n1_ n2_; clear hb ho73) | ((with_reducible refine gate_callee (f := 28) rfl ?_); refine goesL_ (some 14) rfl rfl Tryd.func28 (by kernel_rfl) rfl #[.int .i64 1] rfl (by (try simp only [List.map_toArray, List.map_cons, List.map_nil]); first | done | rfl | (simp only [List.length_drop, List.length_take]; rfl)) ?_; (with_reducible refine (value_Num.calls 1 t458 t459 t460 _ A4.out).mono ?_); rintro e w74 ⟨rfl, hb⟩; refine ⟨_, rfl, ?_⟩; have n0_ := Aside0.mk (Kd.N_below (by (with_reducible repeat (first | apply Kd.N_alloc | apply Kd.N_drewN | apply Kd.N_drew)); exact HO451.out) hb); have n1_ := Aside0.mk (Kd.R_below (by (with_reducible repeat (first | apply Kd.R_alloc | apply Kd.R_drewN | apply Kd.R_drew)); exact HO457.out) hb); have n2_ := Aside0.mk (below_step (by repeat (first | (with_reducible first | exact HB.out | apply below_alloc | apply pw_below_drewN | apply below_drew1) | exact HB.out)) hb); clear HO451; clear HO457; clear HB; have HO451 := n0_; have HO457 := n1_; have HB := n2_; clear n0_ n1_ n2_; (try clear hb); (try clear hb2); (try clear hk); (try clear hi)) | ((with_reducible refine gate_dst (N := 15) rfl ?_); (try (refine gate_guard (by rfl) ?_; dsimp only)); refine Kd.R_lit k44 _ 44 ?hg (N := 15) ?hd (xs := ([(⟨t458, t459, t460⟩ : S44)] : List (S44))) (inner := [.int .i64 t458, .int .i64 t459, .string t460]) (ok := fun _ => True) (okp := fun _ => True) ?hr ?hp (fun _ hk => hk) trivial (Below.refl _ _) (Nat.le_refl _) (by simp) ?_; (case hd => rfl); (case hg => rfl); (case hr => first | (go_simp; done) | (go_simp; rfl)); (case hp => exact (Reps.c3 (show Kd.M k44 _ _ _ (⟨t458, t459, t460⟩ : S44) [.int .i64 t458, .int .i64 t459, .string t460] from (k44_mkM _ _ _ (⟨t458, t459, t460⟩ : S44) )) (Reps.none _ _))); intro v462 w75 ho76 hb hg_ hnew_; clear hg_ hnew_; (first | rw [← Ny461.out] at ho76 | (simp only [Int.reduceToNat] at ho76; rw [← Ny461.out] at ho76)); have n0_ := Aside0.mk (Kd.N_elder' (by (with_reducible repeat (first | apply Kd.N_alloc | apply Kd.N_drewN | apply Kd.N_drew)); exact HO451.out) (Kd.R_base ho76) hb); have n1_ := Aside0.mk (Kd.R_elder' (by (with_reducible repeat (first | apply Kd.R_alloc | apply Kd.R_drewN | apply Kd.R_drew)); exact HO457.out) (Kd.R_base ho76) hb); have n2_ := Aside0.mk (Kd.R_lower (Kd.R_new' ho76 (Kd.R_lt (by (with_reducible repeat (first | apply Kd.R_alloc | apply Kd.R_drewN | apply Kd.R_drew)); exact HO457.out))) (below_size (by repeat (first | (with_reducible first | exact HB.out | apply below_alloc | apply pw_below_drewN | apply below_drew1) | exact HB.out)))); have n3_ := Aside0.mk (below_step (by repeat (first | (with_reducible first | exact HB.out | apply below_alloc | apply pw_below_drewN | apply below_drew1) | exact HB.out)) hb); clear HO451; clear HO457; clear HB; have HO451 := n0_; have HO457 := n1_; have HO463 := n2_; have HB := n3_; clear n0_ n1_ n2_ n3_; clear hb ho76) | ((with_reducible refine gate_callee (f := 28) rfl ?_); refine goesL_ (some 16) rfl rfl Tryd.func28 (by kernel_rfl) rfl #[.int .i64 1] rfl (by (try simp only [List.map_toArray, List.map_cons, List.map_nil]); first | done | rfl | (simp only [List.length_drop, List.length_take]; rfl)) ?_; (with_reducible refine (value_Num.calls 1 t464 t465 t466 _ A5.out).mono ?_); rintro e w77 ⟨rfl, hb⟩; refine ⟨_, rfl, ?_⟩; have n0_ := Aside0.mk (Kd.N_below (by (with_reducible repeat (first | apply Kd.N_alloc | apply Kd.N_drewN | apply Kd.N_drew)); exact HO451.out) hb); have n1_ := Aside0.mk (Kd.R_below (by (with_reducible repeat (first | apply Kd.R_alloc | apply Kd.R_drewN | apply Kd.R_drew)); exact HO457.out) hb); have n2_ := Aside0.mk (Kd.R_below (by (with_reducible repeat (first | apply Kd.R_alloc | apply Kd.R_drewN | apply Kd.R_drew)); exact HO463.out) hb); have n3_ := Aside0.mk (below_step (by repeat (first | (with_reducible first | exact HB.out | apply below_alloc | apply pw_below_drewN | apply below_drew1) | exact HB.out)) hb); clear HO451; clear HO457; clear HO463; clear HB; have HO451 := n0_; have HO457 := n1_; have HO463 := n2_; have HB := n3_; clear n0_ n1_ n2_ n3_; (try clear hb); (try clear hb2); (try clear hk); (try clear hi)) | ((with_reducible refine gate_dst (N := 17) rfl ?_); (try (refine gate_guard (by rfl) ?_; dsimp only)); refine Kd.R_lit k44 _ 44 ?hg (N := 17) ?hd (xs := ([(⟨t464, t465, t466⟩ : S44)] : List (S44))) (inner := [.int .i64 t464, .int .i64 t465, .string t466]) (ok := fun _ => True) (okp := fun _ => True) ?hr ?hp (fun _ hk => hk) trivial (Below.refl _ _) (Nat.le_refl _) (by simp) ?_; (case hd => rfl); (case hg => rfl); (case hr => first | (go_simp; done) | (go_simp; rfl)); (case hp => exact (Reps.c3 (show Kd.M k44 _ _ _ (⟨t464, t465, t466⟩ : S44) [.int .i64 t464, .int .i64 t465, .string t466] from (k44_mkM _ _ _ (⟨t464, t465, t466⟩ : S44) )) (Reps.none _ _))); intro v468 w78 ho79 hb hg_ hnew_; clear hg_ hnew_; (first | rw [← Ny467.out] at ho79 | (simp only [Int.reduceToNat] at ho79; rw [← Ny467.out] at ho79)); have n0_ := Aside0.mk (Kd.N_elder' (by (with_reducible repeat (first | apply Kd.N_alloc | apply Kd.N_drewN | apply Kd.N_drew)); exact HO451.out) (Kd.R_base ho79) hb); have n1_ := Aside0.mk (Kd.R_elder' (by (with_reducible repeat (first | apply Kd.R_alloc | apply Kd.R_drewN | apply Kd.R_drew)); exact HO457.out) (Kd.R_base ho79) hb); have n2_ := Aside0.mk (Kd.R_elder' (by (with_reducible repeat (first | apply Kd.R_alloc | apply Kd.R_drewN | apply Kd.R_drew)); exact HO463.out) (Kd.R_base ho79) hb); have n3_ := Aside0.mk (Kd.R_lower (Kd.R_new' (Kd.R_new' ho79 (Kd.R_lt (by (with_reducible repeat (first | apply Kd.R_alloc | apply Kd.R_drewN | apply Kd.R_drew)); exact HO457.out))) (Kd.R_lt (by (with_reducible repeat (first | apply Kd.R_alloc | apply Kd.R_drewN | apply Kd.R_drew)); exact HO463.out))) (below_size (by repeat (first | (with_reducible first | exact HB.out | apply below_alloc | apply pw_below_drewN | apply below_drew1) | exact HB.out)))); have n4_ := Aside0.mk (below_step (by repeat (first | (with_reducible first | exact HB.out | apply below_alloc | apply pw_below_drewN | apply below_drew1) | exact HB.out)) hb); clear HO451; clear HO457; clear HO463; clear HB; have HO451 := n0_; have HO457 := n1_; have HO463 := n2_; have HO469 := n3_; have HB := n4_; clear n0_ n1_ n2_ n3_ n4_; clear hb ho79; obtain ⟨Ao80, co80, eo80⟩ := Kd.R_slice HO457.out; subst eo80; obtain ⟨Ao81, co81, eo81⟩ := Kd.R_slice HO463.out; subst eo81; obtain ⟨Ao82, co82, eo82⟩ := Kd.R_slice HO469.out; subst eo82) | ((with_reducible refine gate_dst (N := 18) rfl ?_); (try (refine gate_guard (by rfl) ?_; dsimp only)); refine Kd.N_lit (Kd.slice 44 k44) _ 33 ?hg (N' := 18) ?hd (xs := ([y455, y461, y467] : List (List (S44)))) (inner := [.slice Ao80 y455.length co80, .slice Ao81 y461.length co81, .slice Ao82 y467.length co82]) (ok := (fun k_ => some k_ ≠ (v450 : Value).ownBlock)) (okp := (fun k_ => some k_ ≠ (v450 : Value).ownBlock)) ?hr ?hp (fun _ hk => hk) ((show ∀ k_, w78.heap.size ≤ k_ → (fun k_ => some k_ ≠ (v450 : Value).ownBlock) k_ from fun k_ hk => Kd.fresh' (Kd.N_lt (by (with_reducible repeat (first | apply Kd.N_alloc | apply Kd.N_drewN | apply Kd.N_drew)); exact HO451.out)) k_ hk) _ (Nat.le_refl _)) (Below.refl _ _) (Nat.le_refl _) (by simp) ?_; (case hd => rfl); (case hg => rfl); (case hr => first | (go_simp; done) | (go_simp; rfl)); (case hp => exact (Reps.one (show Kd.FK (Kd.slice 44 k44) _ _ y455 [.slice Ao80 y455.length co80] from (Kd.FK_slice_mk (Kd.R_reads' (Kd.R_mono (ok' := (fun k_ => some k_ ≠ (v450 : Value).ownBlock)) (Kd.R_apart' (HO457.out) (Kd.N_typed HO451.out) (by decide)) (fun k_ hk => hk.2))).2.1 (Kd.R_F (Kd.R_mono (ok' := (fun k_ => some k_ ≠ (v450 : Value).ownBlock)) (Kd.R_apart' (HO457.out) (Kd.N_typed HO451.out) (by decide)) (fun k_ hk => hk.2))))) (Reps.one (show Kd.FK (Kd.slice 44 k44) _ _ y461 [.slice Ao81 y461.length co81] from (Kd.FK_slice_mk (Kd.R_reads' (Kd.R_mono (ok' := (fun k_ => some k_ ≠ (v450 : Value).ownBlock)) (Kd.R_apart' (HO463.out) (Kd.N_typed HO451.out) (by decide)) (fun k_ hk => hk.2))).2.1 (Kd.R_F (Kd.R_mono (ok' := (fun k_ => some k_ ≠ (v450 : Value).ownBlock)) (Kd.R_apart' (HO463.out) (Kd.N_typed HO451.out) (by decide)) (fun k_ hk => hk.2))))) (Reps.one (show Kd.FK (Kd.slice 44 k44) _ _ y467 [.slice Ao82 y467.length co82] from (Kd.FK_slice_mk (Kd.R_reads' (Kd.R_mono (ok' := (fun k_ => some k_ ≠ (v450 : Value).ownBlock)) (Kd.R_apart' (HO469.out) (Kd.N_typed HO451.out) (by decide)) (fun k_ hk => hk.2))).2.1 (Kd.R_F (Kd.R_mono (ok' := (fun k_ => some k_ ≠ (v450 : Value).ownBlock)) (Kd.R_apart' (HO469.out) (Kd.N_typed HO451.out) (by decide)) (fun k_ hk => hk.2))))) (Reps.none _ _))))); intro v471 w83 ho84 hb hg_ hnew_; clear hg_ hnew_; (first | rw [← Ny470.out] at ho84 | (simp only [Int.reduceToNat] at ho84; rw [← Ny470.out] at ho84)); have n0_ := Aside0.mk (Kd.N_elder' (by (with_reducible repeat (first | apply Kd.N_alloc | apply Kd.N_drewN | apply Kd.N_drew)); exact HO451.out) (Kd.N_base ho84) hb); have n1_ := Aside0.mk (Kd.N_lower ho84 (below_size (by repeat (first | (with_reducible first | exact HB.out | apply below_alloc | apply pw_below_drewN | apply below_drew1) | exact HB.out)))); have n2_ := Aside0.mk (below_step (by repeat (first | (with_reducible first | exact HB.out | apply below_alloc | apply pw_below_drewN | apply below_drew1) | exact HB.out)) hb); clear HO451; clear HB; clear HO457; clear HO463; clear HO469; have HO451 := n0_; have HO472 := n1_; have HB := n2_; clear n0_ n1_ n2_; clear hb ho84) | ((with_reducible refine gate_dst (N := 22) rfl ?_); (try (refine gate_guard (by rfl) ?_; dsimp only)); refine Kd.R_lit k40 _ 40 ?hg (N := 22) ?hd (xs := ([(⟨0, 1⟩ : S40), (⟨0, 2⟩ : S40), (⟨2, 0⟩ : S40)] : List (S40))) (inner := [.int .i64 0, .int .i64 1, .int .i64 0, .int .i64 2, .int .i64 2, .int .i64 0]) (ok := fun _ => True) (okp := fun _ => True) ?hr ?hp (fun _ hk => hk) trivial (Below.refl _ _) (Nat.le_refl _) (by simp) ?_; (case hd => rfl); (case hg => rfl); (case hr => first | (go_simp; done) | (go_simp; rfl)); (case hp => exact (Reps.c2 (show Kd.M k40 _ _ _ (⟨0, 1⟩ : S40) [.int .i64 0, .int .i64 1] from (k40_mkM _ _ _ (⟨0, 1⟩ : S40) )) (Reps.c2 (show Kd.M k40 _ _ _ (⟨0, 2⟩ : S40) [.int .i64 0, .int .i64 2] from (k40_mkM _ _ _ (⟨0, 2⟩ : S40) )) (Reps.c2 (show Kd.M k40 _ _ _ (⟨2, 0⟩ : S40) [.int .i64 2, .int .i64 0] from (k40_mkM _ _ _ (⟨2, 0⟩ : S40) )) (Reps.none _ _))))); intro v474 w85 ho86 hb hg_ hnew_; clear hg_ hnew_; (first | rw [← Ny473.out] at ho86 | (simp only [Int.reduceToNat] at ho86; rw [← Ny473.out] at ho86)); have n0_ := Aside0.mk (Kd.N_elder' (by (with_reducible repeat (first | apply Kd.N_alloc | apply Kd.N_drewN | apply Kd.N_drew)); exact HO451.out) (Kd.R_base ho86) hb); have n1_ := Aside0.mk (Kd.N_elder' (by (with_reducible repeat (first | apply Kd.N_alloc | apply Kd.N_drewN | apply Kd.N_drew)); exact HO472.out) (Kd.R_base ho86) hb); have n2_ := Aside0.mk (Kd.R_lower ho86 (below_size (by repeat (first | (with_reducible first | exact HB.out | apply below_alloc | apply pw_below_drewN | apply below_drew1) | exact HB.out)))); have n3_ := Aside0.mk (below_step (by repeat (first | (with_reducible first | exact HB.out | apply below_alloc | apply pw_below_drewN | apply below_drew1) | exact HB.out)) hb); clear HO451; clear HO472; clear HB; have HO451 := n0_; have HO472 := n1_; have HO475 := n2_; have HB := n3_; clear n0_ n1_ n2_ n3_; clear hb ho86; obtain ⟨Ao87, co87, eo87⟩ := Kd.R_slice HO475.out; subst eo87) | ((with_reducible refine gate_callee (f := 25) rfl ?_); refine goesL_ (some 24) rfl rfl Tryd.func25 (by kernel_rfl) rfl #[.int .i64 3, .slice Ao87 y473.length co87] rfl (by (try simp only [List.map_toArray, List.map_cons, List.map_nil]); first | done | rfl | (simp only [List.length_drop, List.length_take]; rfl)) ?_; (with_reducible refine (joiner_Alone.calls 3 _ _ y473 t476 _ ?side1 ?side2 A6.out).mono ?_); (case side1 => repeat (first | exact (Kd.R_reads' HO475.out).2.2 | (with_reducible refine Kd.C_alloc ?_ _) | (with_reducible refine Kd.C_drewN ?_ _) | (with_reducible refine Kd.C_drew ?_))); (case side2 => exact (Kd.R_reads' HO475.out).2.1); rintro e w88 ⟨v477, rfl, ho0, hb⟩; refine ⟨_, rfl, ?_⟩; have n0_ := Aside0.mk (Kd.N_elder' (by (with_reducible repeat (first | apply Kd.N_alloc | apply Kd.N_drewN | apply Kd.N_drew)); exact HO451.out) (Kd.R_base ho0) hb); have n1_ := Aside0.mk (Kd.N_elder' (by (with_reducible repeat (first | apply Kd.N_alloc | apply Kd.N_drewN | apply Kd.N_drew)); exact HO472.out) (Kd.R_base ho0) hb); have n2_ := Aside0.mk (Kd.R_below (by (with_reducible repeat (first | apply Kd.R_alloc | apply Kd.R_drewN | apply Kd.R_drew)); exact HO475.out) hb); have n3_ := Aside0.mk (Kd.R_lower ho0 (below_size (by repeat (first | (with_reducible first | exact HB.out | apply below_alloc | apply pw_below_drewN | apply below_drew1) | exact HB.out)))); have n4_ := Aside0.mk (below_step (by repeat (first | (with_reducible first | exact HB.out | apply below_alloc | apply pw_below_drewN | apply below_drew1) | exact HB.out)) hb); clear HO451; clear HO472; clear HO475; clear HB; have HO451 := n0_; have HO472 := n1_; have HO475 := n2_; have HO478 := n3_; have HB := n4_; clear n0_ n1_ n2_ n3_ n4_; (try clear hb); (try clear hb2); (try clear hk); (try clear hi); (try clear ho0); obtain ⟨Ao89, co89, eo89⟩ := Kd.N_slice HO451.out; subst eo89; obtain ⟨Ao90, co90, eo90⟩ := Kd.N_slice HO472.out; subst eo90) | ((with_reducible refine gate_callee (f := 22) rfl ?_); refine goesL_ (some 27) rfl rfl Tryd.func22 (by kernel_rfl) rfl #[.slice Ao89 y449.length co89, .slice Ao90 y470.length co90] rfl (by (try simp only [List.map_toArray, List.map_cons, List.map_nil]); first | done | rfl | (simp only [List.length_drop, List.length_take]; rfl)) ?_; (with_reducible refine (joiner_Nest.calls k _ _ y449 _ _ y470 t479 _ ?side1 ?side2 ?side3 ?side4 A7.out).mono ?_); (case side1 => repeat (first | exact (Kd.N_reads' HO451.out).2.2 | (with_reducible refine Kd.C_alloc ?_ _) | (with_reducible refine Kd.C_drewN ?_ _) | (with_reducible refine Kd.C_drew ?_))); (case side2 => exact (Kd.N_reads' HO451.out).2.1); (case side3 => repeat (first | exact (Kd.N_reads' HO472.out).2.2 | (with_reducible refine Kd.C_alloc ?_ _) | (with_reducible refine Kd.C_drewN ?_ _) | (with_reducible refine Kd.C_drew ?_))); (case side4 => exact (Kd.N_reads' HO472.out).2.1); rintro e w91 ⟨v480, rfl, ho0, hb⟩; refine ⟨_, rfl, ?_⟩; have n0_ := Aside0.mk (Kd.N_elder' (by (with_reducible repeat (first | apply Kd.N_alloc | apply Kd.N_drewN | apply Kd.N_drew)); exact HO451.out) (Kd.R_base ho0) hb); have n1_ := Aside0.mk (Kd.N_elder' (by (with_reducible repeat (first | apply Kd.N_alloc | apply Kd.N_drewN | apply Kd.N_drew)); exact HO472.out) (Kd.R_base ho0) hb); have n2_ := Aside0.mk (Kd.R_elder' (by (with_reducible repeat (first | apply Kd.R_alloc | apply Kd.R_drewN | apply Kd.R_drew)); exact HO475.out) (Kd.R_base ho0) hb); have n3_ := Aside0.mk (Kd.R_below (by (with_reducible repeat (first | apply Kd.R_alloc | apply Kd.R_drewN | apply Kd.R_drew)); exact HO478.out) hb); have n4_ := Aside0.mk (Kd.R_lower (Kd.R_new' ho0 (Kd.R_lt (by (with_reducible repeat (first | apply Kd.R_alloc | apply Kd.R_drewN | apply Kd.R_drew)); exact HO475.out))) (below_size (by repeat (first | (with_reducible first | exact HB.out | apply below_alloc | apply pw_below_drewN | apply below_drew1) | exact HB.out)))); have n5_ := Aside0.mk (below_step (by repeat (first | (with_reducible first | exact HB.out | apply below_alloc | apply pw_below_drewN | apply below_drew1) | exact HB.out)) hb); clear HO451; clear HO472; clear HO475; clear HO478; clear HB; have HO451 := n0_; have HO472 := n1_; have HO475 := n2_; have HO478 := n3_; have HO481 := n4_; have HB := n5_; clear n0_ n1_ n2_ n3_ n4_ n5_; (try clear hb); (try clear hb2); (try clear hk); (try clear hi); (try clear ho0); obtain ⟨Ao92, co92, eo92⟩ := Kd.R_slice HO481.out; subst eo92) | ((with_reducible refine gate_callee (f := 21) rfl ?_); refine goesL_ (some 29) rfl rfl Tryd.func21 (by kernel_rfl) rfl #[.slice Ao92 t479.length co92, .slice Ao87 y473.length co87] rfl (by (try simp only [List.map_toArray, List.map_cons, List.map_nil]); first | done | rfl | (simp only [List.length_drop, List.length_take]; rfl)) ?_; (with_reducible refine (tabellionref32_Same.calls k _ _ t479 _ _ y473 true _ ?side1 ?side2 ?side3 ?side4 A8.out).mono ?_); (case side1 => repeat (first | exact (Kd.R_reads' HO481.out).2.2 | (with_reducible refine Kd.C_alloc ?_ _) | (with_reducible refine Kd.C_drewN ?_ _) | (with_reducible refine Kd.C_drew ?_))); (case side2 => exact (Kd.R_reads' HO481.out).2.1); (case side3 => repeat (first | exact (Kd.R_reads' HO475.out).2.2 | (with_reducible refine Kd.C_alloc ?_ _) | (with_reducible refine Kd.C_drewN ?_ _) | (with_reducible refine Kd.C_drew ?_))); (case side4 => exact (Kd.R_reads' HO475.out).2.1); rintro e w' ⟨rfl, ⟨nd, rfl⟩⟩; refine ⟨_, rfl, ?_⟩) | (go_at_call 23; (with_reducible refine (joiner_Hash.calls _ _ y449 _ _ y470 t483 _ ?side1 ?side2 ?side3 ?side4 A10.out ?tab).mono ?_); (case tab => exact (tab_of HTAB.out (by repeat (first | (with_reducible first | exact HB.out | apply below_alloc | apply pw_below_drewN | apply below_drew1) | exact HB.out)))); (case side1 => repeat (first | exact (Kd.N_reads' HO451.out).2.2 | (with_reducible refine Kd.C_alloc ?_ _) | (with_reducible refine Kd.C_drewN ?_ _) | (with_reducible refine Kd.C_drew ?_))); (case side2 => exact (Kd.N_reads' HO451.out).2.1); (case side3 => repeat (first | exact (Kd.N_reads' HO472.out).2.2 | (with_reducible refine Kd.C_alloc ?_ _) | (with_reducible refine Kd.C_drewN ?_ _) | (with_reducible refine Kd.C_drew ?_))); (case side4 => exact (Kd.N_reads' HO472.out).2.1); rintro e w93 ⟨v484, rfl, ho0, hb⟩; have n0_ := Aside0.mk (Kd.N_elder' (by (with_reducible repeat (first | apply Kd.N_alloc | apply Kd.N_drewN | apply Kd.N_drew)); exact HO451.out) (Kd.R_base ho0) hb); have n1_ := Aside0.mk (Kd.N_elder' (by (with_reducible repeat (first | apply Kd.N_alloc | apply Kd.N_drewN | apply Kd.N_drew)); exact HO472.out) (Kd.R_base ho0) hb); have n2_ := Aside0.mk (Kd.R_elder' (by (with_reducible repeat (first | apply Kd.R_alloc | apply Kd.R_drewN | apply Kd.R_drew)); exact HO475.out) (Kd.R_base ho0) hb); have n3_ := Aside0.mk (Kd.R_below (by (with_reducible repeat (first | apply Kd.R_alloc | apply Kd.R_drewN | apply Kd.R_drew)); exact HO478.out) hb); have n4_ := Aside0.mk (Kd.R_elder' (by (with_reducible repeat (first | apply Kd.R_alloc | apply Kd.R_drewN | apply Kd.R_drew)); exact HO481.out) (Kd.R_base ho0) hb); have n5_ := Aside0.mk (Kd.R_lower (Kd.R_new' (Kd.R_new' ho0 (Kd.R_lt (by (with_reducible repeat (first | apply Kd.R_alloc | apply Kd.R_drewN | apply Kd.R_drew)); exact HO475.out))) (Kd.R_lt (by (with_reducible repeat (first | apply Kd.R_alloc | apply Kd.R_drewN | apply Kd.R_drew)); exact HO481.out))) (below_size (by repeat (first | (with_reducible first | exact HB.out | apply below_alloc | apply pw_below_drewN | apply below_drew1) | exact HB.out)))); have n6_ := Aside0.mk (below_step (by repeat (first | (with_reducible first | exact HB.out | apply below_alloc | apply pw_below_drewN | apply below_drew1) | exact HB.out)) hb); clear HO451; clear HO472; clear HO475; clear HO478; clear HO481; clear HB; have HO451 := n0_; have HO472 := n1_; have HO475 := n2_; have HO478 := n3_; have HO481 := n4_; have HO485 := n5_; have HB := n6_; clear n0_ n1_ n2_ n3_ n4_ n5_ n6_; (try clear hb); (try clear hb2); (try clear hk); (try clear hi); (try clear ho0); obtain ⟨Ao94, co94, eo94⟩ := Kd.R_slice HO485.out; subst eo94) | (go_at_call 21; (with_reducible refine (tabellionref32_Same.calls k _ _ t483 _ _ y473 true _ ?side1 ?side2 ?side3 ?side4 A11.out).mono ?_); (case side1 => repeat (first | exact (Kd.R_reads' HO485.out).2.2 | (with_reducible refine Kd.C_alloc ?_ _) | (with_reducible refine Kd.C_drewN ?_ _) | (with_reducible refine Kd.C_drew ?_))); (case side2 => exact (Kd.R_reads' HO485.out).2.1); (case side3 => repeat (first | exact (Kd.R_reads' HO475.out).2.2 | (with_reducible refine Kd.C_alloc ?_ _) | (with_reducible refine Kd.C_drewN ?_ _) | (with_reducible refine Kd.C_drew ?_))); (case side4 => exact (Kd.R_reads' HO475.out).2.1); rintro e w' ⟨rfl, ⟨nd, rfl⟩⟩) | (go_at_call 24; (with_reducible refine (joiner_Merge.calls _ _ y449 _ _ y470 t487 _ ?side1 ?side2 ?side3 ?side4 A13.out).mono ?_); (case side1 => repeat (first | exact (Kd.N_reads' HO451.out).2.2 | (with_reducible refine Kd.C_alloc ?_ _) | (with_reducible refine Kd.C_drewN ?_ _) | (with_reducible refine Kd.C_drew ?_))); (case side2 => exact (Kd.N_reads' HO451.out).2.1); (case side3 => repeat (first | exact (Kd.N_reads' HO472.out).2.2 | (with_reducible refine Kd.C_alloc ?_ _) | (with_reducible refine Kd.C_drewN ?_ _) | (with_reducible refine Kd.C_drew ?_))); (case side4 => exact (Kd.N_reads' HO472.out).2.1); rintro e w95 ⟨v488, rfl, ho0, hb⟩; have n0_ := Aside0.mk (Kd.N_elder' (by (with_reducible repeat (first | apply Kd.N_alloc | apply Kd.N_drewN | apply Kd.N_drew)); exact HO451.out) (Kd.R_base ho0) hb); have n1_ := Aside0.mk (Kd.N_elder' (by (with_reducible repeat (first | apply Kd.N_alloc | apply Kd.N_drewN | apply Kd.N_drew)); exact HO472.out) (Kd.R_base ho0) hb); have n2_ := Aside0.mk (Kd.R_elder' (by (with_reducible repeat (first | apply Kd.R_alloc | apply Kd.R_drewN | apply Kd.R_drew)); exact HO475.out) (Kd.R_base ho0) hb); have n3_ := Aside0.mk (Kd.R_below (by (with_reducible repeat (first | apply Kd.R_alloc | apply Kd.R_drewN | apply Kd.R_drew)); exact HO478.out) hb); have n4_ := Aside0.mk (Kd.R_elder' (by (with_reducible repeat (first | apply Kd.R_alloc | apply Kd.R_drewN | apply Kd.R_drew)); exact HO481.out) (Kd.R_base ho0) hb); have n5_ := Aside0.mk (Kd.R_elder' (by (with_reducible repeat (first | apply Kd.R_alloc | apply Kd.R_drewN | apply Kd.R_drew)); exact HO485.out) (Kd.R_base ho0) hb); have n6_ := Aside0.mk (Kd.R_lower (Kd.R_new' (Kd.R_new' (Kd.R_new' ho0 (Kd.R_lt (by (with_reducible repeat (first | apply Kd.R_alloc | apply Kd.R_drewN | apply Kd.R_drew)); exact HO475.out))) (Kd.R_lt (by (with_reducible repeat (first | apply Kd.R_alloc | apply Kd.R_drewN | apply Kd.R_drew)); exact HO481.out))) (Kd.R_lt (by (with_reducible repeat (first | apply Kd.R_alloc | apply Kd.R_drewN | apply Kd.R_drew)); exact HO485.out))) (below_size (by repeat (first | (with_reducible first | exact HB.out | apply below_alloc | apply pw_below_drewN | apply below_drew1) | exact HB.out)))); have n7_ := Aside0.mk (below_step (by repeat (first | (with_reducible first | exact HB.out | apply below_alloc | apply pw_below_drewN | apply below_drew1) | exact HB.out)) hb); clear HO451; clear HO472; clear HO475; clear HO478; clear HO481; clear HO485; clear HB; have HO451 := n0_; have HO472 := n1_; have HO475 := n2_; have HO478 := n3_; have HO481 := n4_; have HO485 := n5_; have HO489 := n6_; have HB := n7_; clear n0_ n1_ n2_ n3_ n4_ n5_ n6_ n7_; (try clear hb); (try clear hb2); (try clear hk); (try clear hi); (try clear ho0); obtain ⟨Ao96, co96, eo96⟩ := Kd.R_slice HO489.out; subst eo96) | (go_at_call 21; (with_reducible refine (tabellionref32_Same.calls k _ _ t487 _ _ y473 true _ ?side1 ?side2 ?side3 ?side4 A14.out).mono ?_); (case side1 => repeat (first | exact (Kd.R_reads' HO489.out).2.2 | (with_reducible refine Kd.C_alloc ?_ _) | (with_reducible refine Kd.C_drewN ?_ _) | (with_reducible refine Kd.C_drew ?_))); (case side2 => exact (Kd.R_reads' HO489.out).2.1); (case side3 => repeat (first | exact (Kd.R_reads' HO475.out).2.2 | (with_reducible refine Kd.C_alloc ?_ _) | (with_reducible refine Kd.C_drewN ?_ _) | (with_reducible refine Kd.C_drew ?_))); (case side4 => exact (Kd.R_reads' HO475.out).2.1); rintro e w' ⟨rfl, ⟨nd, rfl⟩⟩; obtain ⟨Ao97, co97, eo97⟩ := Kd.R_slice HO478.out; subst eo97))
     go_ret
     exact ⟨by first | rfl | (simp [errW_none, errW_some] <;> rfl) | (simp [*, errW_none, errW_some] <;> rfl), by repeat (first | (with_reducible first | exact HB.out | apply below_alloc | apply pw_below_drewN | apply below_drew1) | exact HB.out)⟩
   ·
    replace c15 := Bool.eq_false_iff.mpr c15
    subst c15
    have H1 : (some false) = some r := by rw [if_neg (show ¬ (false = true) by decide)] at H; exact H
    exact absurd H1 (by rw [HRT.out]; simp)
  ·
   replace c12 := Bool.eq_false_iff.mpr c12
   subst c12
   have H1 : (some false) = some r := by rw [if_neg (show ¬ (false = true) by decide)] at H; exact H
   exact absurd H1 (by rw [HRT.out]; simp)
 ·
  replace c9 := Bool.eq_false_iff.mpr c9
  subst c9
  have H1 : (some false) = some r := by rw [if_neg (show ¬ (false = true) by decide)] at H; exact H
  exact absurd H1 (by rw [HRT.out]; simp)

end Go.Proofs.YtnllgjloimoebaaDoor.X
