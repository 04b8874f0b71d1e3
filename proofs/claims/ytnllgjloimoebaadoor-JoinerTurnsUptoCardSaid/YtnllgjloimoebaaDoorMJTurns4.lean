/- With the lists exchanged the pairs are exchanged, each pair occurs once, and with more keys on one side no pair is lost; for arguments of bulk at most 1048576. Part 5 of 5. -/
import Derived.Test.YtnllgjloimoebaaDoorMJTurns0
import Derived.Test.YtnllgjloimoebaaDoorMJTurns3
import Derived.Test.YtnllgjloimoebaaDoorMJTurns1
import Derived.Test.YtnllgjloimoebaaDoorMJTurns2
import Derived.Test.YtnllgjloimoebaaDoorCards
import Derived.Test.YtnllgjloimoebaaDoorTie
import Derived.WalkKit
import Derived.ProofKit
import Derived.OpenShut
import Derived.Carry

-- By xprint.py (this session's own program over the kit's print): not trusted: Lean checks it.
namespace Go.Proofs.YtnllgjloimoebaaDoor.X
open Go.RowKit Go.Proofs.YtnllgjloimoebaaDoorW.PrintWords Go.Proofs.YtnllgjloimoebaaDoorW.PrintLast Go.Proofs.YtnllgjloimoebaaDoorW.PrintMore
attribute [local go_sem] max2_int min2_int max_two min_two max_three min_three max_four min_four   -- for this text's walks alone
set_option linter.unusedVariables false
set_option linter.unusedSimpArgs false

attribute [local go_sem high] eqA40
/-! ### tabellionlaw32_JoinerTurns: function 7 -/
mutual
def tabellionlaw32_JoinerTurns.j0 : Nat → List (List (S44)) → List (List (S44)) → List (S44) → Bool → Option (Bool)
 | 0, _, _, _, _ => none
 | k + 1, x0, x1, x2, x24 => if x24 = true then ((tabellionlaw32_awake.f k).bind fun t537 => (some t537)) else ((joiner_Merge.f x0 x1).bind fun t538 => ((joiner_Hash.f x1 x0).bind fun t541 => (if (t538.length : Int) = (t541.length : Int) then (tabellionlaw32_JoinerTurns.l0 k x0 x1 x2 t538 t541 0) else (some false))))
def tabellionlaw32_JoinerTurns.l0 : Nat → List (List (S44)) → List (List (S44)) → List (S44) → List (S40) → List (S40) → Int → Option (Bool)
 | 0, _, _, _, _, _, _ => none
 | k + 1, x0, x1, x2, x7, x8, x9 => if x9 < (x7.length : Int) then (if 0 ≤ x9 then (if ((rd_T40 x7 x9).f0) < 0 then (tabellionlaw32_JoinerTurns.j2 k x0 x1 x2 x7 x8 x9 ((rd_T40 x7 x9).f0) ((rd_T40 x7 x9).f1) true) else (if ((rd_T40 x7 x9).f0) ≥ (x0.length : Int) then (tabellionlaw32_JoinerTurns.j2 k x0 x1 x2 x7 x8 x9 ((rd_T40 x7 x9).f0) ((rd_T40 x7 x9).f1) true) else (if ((rd_T40 x7 x9).f1) < 0 then (tabellionlaw32_JoinerTurns.j2 k x0 x1 x2 x7 x8 x9 ((rd_T40 x7 x9).f0) ((rd_T40 x7 x9).f1) true) else (if ((rd_T40 x7 x9).f1) ≥ (x1.length : Int) then (tabellionlaw32_JoinerTurns.j2 k x0 x1 x2 x7 x8 x9 ((rd_T40 x7 x9).f0) ((rd_T40 x7 x9).f1) true) else (if 0 ≤ ((rd_T40 x7 x9).f0) then (if ((rd_T40 x7 x9).f0) < (x0.length : Int) then (if 0 ≤ ((rd_T40 x7 x9).f1) then (if ((rd_T40 x7 x9).f1) < (x1.length : Int) then ((value_Orders.f k (rd_L4 x0 ((rd_T40 x7 x9).f0)) (rd_L4 x1 ((rd_T40 x7 x9).f1))).bind fun t548 => (tabellionlaw32_JoinerTurns.j2 k x0 x1 x2 x7 x8 x9 ((rd_T40 x7 x9).f0) ((rd_T40 x7 x9).f1) (t548 != 0))) else (none)) else (none)) else (none)) else (none)))))) else (none)) else ((some (([] : List (List (S44))) : List (List (S44)))).bind fun y553 => (if y553.length + x0.length < 5864062014805 then ((some (y553 ++ x0 : List (List (S44)))).bind fun y556 => (if y556.length < 5864062014805 then ((joiner_Nest.f k (y556 ++ [x2]) x1).bind fun t562 => (tabellionlaw32_JoinerTurns.l2 k x0 x7 t562 0 0)) else (none))) else (none)))
def tabellionlaw32_JoinerTurns.j2 : Nat → List (List (S44)) → List (List (S44)) → List (S44) → List (S40) → List (S40) → Int → Int → Int → Bool → Option (Bool)
 | 0, _, _, _, _, _, _, _, _, _ => none
 | k + 1, x0, x1, x2, x7, x8, x9, x10, x11, x82 => if x82 = true then (some false) else (if x9 > 0 then (if 0 ≤ (wrap64 (x9 - 1)) then (if (wrap64 (x9 - 1)) < (x7.length : Int) then (if ((rd_T40 x7 (wrap64 (x9 - 1))).f0) > x10 then (tabellionlaw32_JoinerTurns.j3 k x0 x1 x2 x7 x8 x9 x10 x11 true) else (if ((rd_T40 x7 (wrap64 (x9 - 1))).f0) = x10 then (tabellionlaw32_JoinerTurns.j3 k x0 x1 x2 x7 x8 x9 x10 x11 (decide (((rd_T40 x7 (wrap64 (x9 - 1))).f1) ≥ x11))) else (tabellionlaw32_JoinerTurns.j3 k x0 x1 x2 x7 x8 x9 x10 x11 false))) else (none)) else (none)) else (tabellionlaw32_JoinerTurns.j3 k x0 x1 x2 x7 x8 x9 x10 x11 false))
def tabellionlaw32_JoinerTurns.j3 : Nat → List (List (S44)) → List (List (S44)) → List (S44) → List (S40) → List (S40) → Int → Int → Int → Bool → Option (Bool)
 | 0, _, _, _, _, _, _, _, _, _ => none
 | k + 1, x0, x1, x2, x7, x8, x9, x10, x11, x114 => if x114 = true then (some false) else (tabellionlaw32_JoinerTurns.l1 k x0 x1 x2 x7 x8 x9 x10 x11 0 0)
def tabellionlaw32_JoinerTurns.l1 : Nat → List (List (S44)) → List (List (S44)) → List (S44) → List (S40) → List (S40) → Int → Int → Int → Int → Int → Option (Bool)
 | 0, _, _, _, _, _, _, _, _, _, _ => none
 | k + 1, x0, x1, x2, x7, x8, x9, x10, x11, x12, x13 => if x13 < (x8.length : Int) then (if 0 ≤ x13 then (if (((rd_T40 x8 x13).f0) == x11 && (((rd_T40 x8 x13).f1) == x10)) = true then (tabellionlaw32_JoinerTurns.l1 k x0 x1 x2 x7 x8 x9 x10 x11 (wrap64 (x12 + 1)) (wrap64 (x13 + 1))) else (tabellionlaw32_JoinerTurns.l1 k x0 x1 x2 x7 x8 x9 x10 x11 x12 (wrap64 (x13 + 1)))) else (none)) else (if x12 = 1 then (tabellionlaw32_JoinerTurns.l0 k x0 x1 x2 x7 x8 (wrap64 (x9 + 1))) else (some false))
def tabellionlaw32_JoinerTurns.l2 : Nat → List (List (S44)) → List (S40) → List (S40) → Int → Int → Option (Bool)
 | 0, _, _, _, _, _ => none
 | k + 1, x0, x7, x14, x15, x16 => if x16 < (x14.length : Int) then (if 0 ≤ x16 then (if ((rd_T40 x14 x16).f0) < (x0.length : Int) then (if x15 ≥ (x7.length : Int) then (some false) else (if 0 ≤ x15 then (if x15 < (x7.length : Int) then (if (!(((rd_T40 x7 x15).f0) == ((rd_T40 x14 x16).f0)) || (!(((rd_T40 x7 x15).f1) == ((rd_T40 x14 x16).f1)))) = true then (some false) else (tabellionlaw32_JoinerTurns.l2 k x0 x7 x14 (wrap64 (x15 + 1)) (wrap64 (x16 + 1)))) else (none)) else (none))) else (tabellionlaw32_JoinerTurns.l2 k x0 x7 x14 x15 (wrap64 (x16 + 1)))) else (none)) else (if x15 = (x7.length : Int) then ((tabellionlaw32_awake.f k).bind fun t565 => (some t565)) else (some false))
end
def tabellionlaw32_JoinerTurns.f (k : Nat) (l0 : List (List (S44))) (l1 : List (List (S44))) (l2 : List (S44)) : Option (Bool) := if (l0.length : Int) > 40 then (tabellionlaw32_JoinerTurns.j0 k l0 l1 l2 true) else (tabellionlaw32_JoinerTurns.j0 k l0 l1 l2 (decide ((l1.length : Int) > 40)))
def tabellionlaw32_JoinerTurns.T9 : Bool × List (List Nat × List Nat) := (true, [([], []), ([], []), ([0, 1], [0, 1]), ([2], [2]), ([3], [3]), ([], []), ([], []), ([5, 6], [5, 6]), ([7], [7]), ([8], [8]), ([4, 0, 1, 2, 3, 4], [4]), ([9, 10, 0, 1, 2, 3, 4, 5, 6, 7, 8, 9, 10], [9])])
def tabellionlaw32_JoinerTurns.B9 : List Nat := [0, 0, 3, 7, 15, 0, 0, 96, 224, 480, 31, 2047]
theorem tabellionlaw32_JoinerTurns.tab9 : rtab .any (opsOf Tryd.f7 9) = tabellionlaw32_JoinerTurns.T9 := by kernel_rfl
theorem tabellionlaw32_JoinerTurns.bits9 : waitsOk tabellionlaw32_JoinerTurns.T9.2 tabellionlaw32_JoinerTurns.B9 = true := by kernel_rfl
def tabellionlaw32_JoinerTurns.T10 : Bool × List (List Nat × List Nat) := (true, [([], []), ([0], [0]), ([1], [1]), ([2], [2]), ([2], [2]), ([4, 2], [2, 4]), ([3, 5, 2], [2, 3, 5]), ([2, 6], [2, 6]), ([7, 2], [7]), ([8], [8]), ([9, 8], [8, 9]), ([8, 10], [8, 10]), ([11, 8], [11]), ([12], [12]), ([12], [12]), ([14, 12], [12, 14]), ([13, 15, 12], [12, 13, 15]), ([12, 16], [12, 16]), ([17, 12], [17]), ([18], [18]), ([18], [18]), ([19, 20, 18], [18, 19, 20]), ([21, 18], [18, 21]), ([18], [18]), ([18], [18]), ([23, 24, 18], [18, 23, 24]), ([25, 18], [18, 25]), ([22, 26, 18, 18], [18, 22, 26]), ([27, 18], [18, 27]), ([18, 28], [18, 28])])
def tabellionlaw32_JoinerTurns.B10 : List Nat := [0, 1, 3, 7, 7, 23, 63, 127, 255, 511, 1023, 2047, 4095, 8191, 8191, 24575, 65535, 131071, 262143, 524287, 524287, 2097151, 4194303, 524287, 524287, 25690111, 59244543, 134217727, 268435455, 536870911]
theorem tabellionlaw32_JoinerTurns.tab10 : rtab .any (opsOf Tryd.f7 10) = tabellionlaw32_JoinerTurns.T10 := by kernel_rfl
theorem tabellionlaw32_JoinerTurns.bits10 : waitsOk tabellionlaw32_JoinerTurns.T10.2 tabellionlaw32_JoinerTurns.B10 = true := by kernel_rfl
def tabellionlaw32_JoinerTurns.T28 : Bool × List (List Nat × List Nat) := (true, [([], []), ([], []), ([1], [1]), ([0, 2], [0, 2]), ([3], [3]), ([4], [4]), ([4], [4]), ([5, 6, 4], [4, 5, 6]), ([7, 4], [4, 7]), ([4], [4]), ([4], [4]), ([9, 10, 4], [4, 9, 10]), ([11, 4], [4, 11]), ([8, 12, 4], [4, 8, 12]), ([4, 13], [4, 13])])
def tabellionlaw32_JoinerTurns.B28 : List Nat := [0, 0, 2, 7, 15, 31, 31, 127, 255, 31, 31, 1567, 3615, 8191, 16383]
theorem tabellionlaw32_JoinerTurns.tab28 : rtab .any (opsOf Tryd.f7 28) = tabellionlaw32_JoinerTurns.T28 := by kernel_rfl
theorem tabellionlaw32_JoinerTurns.bits28 : waitsOk tabellionlaw32_JoinerTurns.T28.2 tabellionlaw32_JoinerTurns.B28 = true := by kernel_rfl
theorem tabellionlaw32_JoinerTurns.j2t (k : Nat) (x0 x1 : List (List (S44))) (x2 : List (S44)) (x7 x8 : List (S40)) (x9 x10 x11 : Int) {r : Bool} (h : tabellionlaw32_JoinerTurns.j2 k x0 x1 x2 x7 x8 x9 x10 x11 true = some r) : false = r := by
 cases k with
 | zero => simp [tabellionlaw32_JoinerTurns.j2] at h
 | succ k => rw [tabellionlaw32_JoinerTurns.j2, if_pos rfl] at h; exact Option.some.inj h
set_option maxHeartbeats 8000000 in
set_option maxRecDepth 100000 in
theorem tabellionlaw32_JoinerTurns.calls (k : Nat) (P0_ : Nat → Prop) (A0 : Option Addr) (c0 : Nat) (l0 : List (List (S44))) (A1 : Option Addr) (c1 : Nat) (l1 : List (List (S44))) (P2_ : Nat → Prop) (A2 : Option Addr) (c2 : Nat) (l2 : List (S44)) (r : Bool) (w : World) (hs0 : Kd.V (Kd.slice 44 k44) 33 w w.heap.size (fun k_ => P0_ k_) (.slice A0 l0.length c0) l0) (hr1 : Kd.C (Kd.slice 44 k44) w A1 l1.length l1) (hc1 : l1.length ≤ c1) (hs2 : Kd.V k44 44 w w.heap.size (fun k_ => P2_ k_) (.slice A2 l2.length c2) l2) (h : tabellionlaw32_JoinerTurns.f k l0 l1 l2 = some r) (htab : Tab w) (hrt : r = true) :
  Calls Tryd.prog 7 #[.slice A0 l0.length c0, .slice A1 l1.length c1, .slice A2 l2.length c2] w fun e w' => e = .returned (.bool r) ∧ Below w.heap.size w w' := by
 have HRT := Aside0.mk hrt
 clear hrt
 have HTAB := Aside0.mk htab
 clear htab
 have hu40 := Tryd.underlying40
 have HO0 := Aside0.mk (show Kd.V (Kd.slice 44 k44) 33 w w.heap.size (fun k_ => ((P0_ k_ ∨ P2_ k_) ∨ w.heap.size ≤ k_)) (.slice A0 l0.length c0) l0 from Kd.V_mono hs0 (fun k_ hk => .inl (.inl hk)))
 have HR1 := Aside0.mk hr1
 have HC1 := Aside0.mk hc1
 clear hr1 hc1
 have HO2 := Aside0.mk (show Kd.V k44 44 w w.heap.size (fun k_ => ((P0_ k_ ∨ P2_ k_) ∨ w.heap.size ≤ k_)) (.slice A2 l2.length c2) l2 from Kd.V_mono hs2 (fun k_ hk => .inl (.inr hk)))
 have HB := Aside0.mk (Below.refl w.heap.size w)
 have H : (if (l0.length : Int) > 40 then (tabellionlaw32_JoinerTurns.j0 k l0 l1 l2 true) else (tabellionlaw32_JoinerTurns.j0 k l0 l1 l2 (decide ((l1.length : Int) > 40)))) = some r := h
 clear h
 have HC4 := Aside0.mk H
 clear H
 go_enter Tryd.func7, Tryd.ntmps7
 go_upto_region 1 with (fail)
 go_cut [24] (fun v24 wc => ∃ (kq : Nat) (x24_3 : Bool), v24 = .bool x24_3 ∧ Aside0 (tabellionlaw32_JoinerTurns.j0 kq l0 l1 l2 x24_3 = some r) ∧ Aside0 (kq ≤ k) ∧ Aside0 (Kd.V (Kd.slice 44 k44) 33 wc w.heap.size (fun k_ => ((P0_ k_ ∨ P2_ k_) ∨ w.heap.size ≤ k_)) (.slice A0 l0.length c0) l0) ∧ Aside0 (Kd.V k44 44 wc w.heap.size (fun k_ => ((P0_ k_ ∨ P2_ k_) ∨ w.heap.size ≤ k_)) (.slice A2 l2.length c2) l2) ∧ Aside0 (Below w.heap.size w wc))
 case first =>
  have H := HC4.out
  clear HC4
  by_cases c5 : (l0.length : Int) > 40
  ·
   rw [if_pos c5] at H
   have c5b0 : decide (40 < (l0.length : Int)) = true := decide_eq_true c5
   have c5b1 : decide (40 < l0.length) = true := decide_eq_true (by omega)
   clear c5
   (first | rw [c5b0] | (simp only [i64_w, i32_w]; rw [c5b0]) | skip)
   have H' := Aside0.mk H
   clear H
   go_wp2
   go_meet
   case rel => exact ⟨_, (true), (by first | rfl | (simp; done) | (simp [*]; done)), H', ⟨by first | omega | exact Nat.le_refl _⟩, ⟨by (with_reducible repeat (first | apply Kd.V_alloc | apply Kd.V_drewN | apply Kd.V_drew)); exact HO0.out⟩, ⟨by (with_reducible repeat (first | apply Kd.V_alloc | apply Kd.V_drewN | apply Kd.V_drew)); exact HO2.out⟩, ⟨by repeat (first | (with_reducible first | exact HB.out | apply below_alloc | apply pw_below_drewN | apply below_drew1) | exact HB.out)⟩⟩
  ·
   rw [if_neg c5] at H
   have c5b0 : decide (40 < (l0.length : Int)) = false := decide_eq_false c5
   have c5b1 : decide (40 < l0.length) = false := decide_eq_false (by omega)
   clear c5
   (first | rw [c5b0] | (simp only [i64_w, i32_w]; rw [c5b0]) | skip)
   have H' := Aside0.mk H
   clear H
   go_wp2
   go_meet
   case rel => exact ⟨_, (decide ((l1.length : Int) > 40)), (by first | rfl | (simp; done) | (simp [*]; done)), H', ⟨by first | omega | exact Nat.le_refl _⟩, ⟨by (with_reducible repeat (first | apply Kd.V_alloc | apply Kd.V_drewN | apply Kd.V_drew)); exact HO0.out⟩, ⟨by (with_reducible repeat (first | apply Kd.V_alloc | apply Kd.V_drewN | apply Kd.V_drew)); exact HO2.out⟩, ⟨by repeat (first | (with_reducible first | exact HB.out | apply below_alloc | apply pw_below_drewN | apply below_drew1) | exact HB.out)⟩⟩
 case rest =>
  clear HC4
  try clear c1
  try clear c2
  try clear p2
  try clear c5
  try clear c5b0
  try clear c5b1
  obtain ⟨kq, x24_3, rfl, HA, HJ3, HO_0, HO_2, HB⟩ := hcut
  cases kq with
  | zero => exact absurd HA.out (by simp [tabellionlaw32_JoinerTurns.j0])
  | succ kj3 =>
   have H := HA.out
   clear HA
   simp only [tabellionlaw32_JoinerTurns.j0] at H
   by_cases c6 : x24_3 = true
   ·
    subst c6
    have H1 : ((tabellionlaw32_awake.f kj3).bind fun t537 => (some t537)) = some r := by rw [if_pos rfl] at H; exact H
    clear H
    have H := H1
    clear H1
    replace H := Option.bind_eq_some_iff.mp H
    obtain ⟨t537, A70, H⟩ := H
    replace H : (some t537) = some r := H
    have A7 := Aside0.mk A70
    clear A70
    obtain rfl := Option.some.inj H
    go_wp2_with (first | ((with_reducible refine gate_callee (f := 19) rfl ?_); refine goesL_ (some 25) rfl rfl Tryd.func19 (by kernel_rfl) rfl #[] rfl (by (try simp only [List.map_toArray, List.map_cons, List.map_nil]); first | done | rfl | (simp only [List.length_drop, List.length_take]; rfl)) ?_; (with_reducible refine (tabellionlaw32_awake.calls kj3  t537 _ A7.out ?tab (by first | rfl | exact HRT.out)).mono ?_); (case tab => exact (tab_of HTAB.out (by repeat (first | (with_reducible first | exact HB.out | apply below_alloc | apply pw_below_drewN | apply below_drew1) | exact HB.out)))); rintro e w8 ⟨rfl, hb⟩; refine ⟨_, rfl, ?_⟩; have n0_ := Aside0.mk (Kd.V_below (by (with_reducible repeat (first | apply Kd.V_alloc | apply Kd.V_drewN | apply Kd.V_drew)); exact HO_0.out) hb); have n1_ := Aside0.mk (Kd.V_below (by (with_reducible repeat (first | apply Kd.V_alloc | apply Kd.V_drewN | apply Kd.V_drew)); exact HO_2.out) hb); have n2_ := Aside0.mk (below_step (by repeat (first | (with_reducible first | exact HB.out | apply below_alloc | apply pw_below_drewN | apply below_drew1) | exact HB.out)) hb); clear HO_0; clear HO_2; clear HB; have HO_0 := n0_; have HO_2 := n1_; have HB := n2_; clear n0_ n1_ n2_; (try clear hb); (try clear hb2); (try clear hk); (try clear hi)))
    go_ret
    exact ⟨by first | rfl | (simp [errW_none, errW_some] <;> rfl) | (simp [*, errW_none, errW_some] <;> rfl), by repeat (first | (with_reducible first | exact HB.out | apply below_alloc | apply pw_below_drewN | apply below_drew1) | exact HB.out)⟩
   ·
    replace c6 := Bool.eq_false_iff.mpr c6
    subst c6
    have H1 : ((joiner_Merge.f l0 l1).bind fun t538 => ((joiner_Hash.f l1 l0).bind fun t541 => (if (t538.length : Int) = (t541.length : Int) then (tabellionlaw32_JoinerTurns.l0 kj3 l0 l1 l2 t538 t541 0) else (some false)))) = some r := by rw [if_neg (show ¬ (false = true) by decide)] at H; exact H
    clear H
    have H := H1
    clear H1
    replace H := Option.bind_eq_some_iff.mp H
    obtain ⟨t538, A90, H⟩ := H
    replace H : ((joiner_Hash.f l1 l0).bind fun t541 => (if (t538.length : Int) = (t541.length : Int) then (tabellionlaw32_JoinerTurns.l0 kj3 l0 l1 l2 t538 t541 0) else (some false))) = some r := H
    have A9 := Aside0.mk A90
    clear A90
    replace H := Option.bind_eq_some_iff.mp H
    obtain ⟨t541, A100, H⟩ := H
    replace H : (if (t538.length : Int) = (t541.length : Int) then (tabellionlaw32_JoinerTurns.l0 kj3 l0 l1 l2 t538 t541 0) else (some false)) = some r := H
    have A10 := Aside0.mk A100
    clear A100
    by_cases c11 : (t538.length : Int) = (t541.length : Int)
    ·
     rw [if_pos c11] at H
     have c11b0 : ((t538.length : Int) == (t541.length : Int)) = true := beq_iff_eq.mpr c11
     have c11b1 : ((t538.length : Int) != (t541.length : Int)) = false := bne_eq_false_iff_eq.mpr c11
     have c11b2 : (t538.length == t541.length) = true := by first | simpa using c11 | (simp at c11 ⊢; omega)
     clear c11
     have H' := Aside0.mk H
     clear H
     go_wp2_with (first | ((with_reducible refine gate_callee (f := 24) rfl ?_); refine goesL_ (some 28) rfl rfl Tryd.func24 (by kernel_rfl) rfl #[.slice A0 l0.length c0, .slice A1 l1.length c1] rfl (by (try simp only [List.map_toArray, List.map_cons, List.map_nil]); first | done | rfl | (simp only [List.length_drop, List.length_take]; rfl)) ?_; (with_reducible refine (joiner_Merge.calls _ _ l0 _ _ l1 t538 _ ?side1 ?side2 ?side3 ?side4 A9.out).mono ?_); (case side1 => repeat (first | exact (Kd.V_reads' HO_0.out).2.2 | (with_reducible refine Kd.C_alloc ?_ _) | (with_reducible refine Kd.C_drewN ?_ _) | (with_reducible refine Kd.C_drew ?_))); (case side2 => exact (Kd.V_reads' HO_0.out).2.1); (case side3 => repeat (first | exact (Kd.C_below HR1.out HB.out) | (with_reducible refine Kd.C_alloc ?_ _) | (with_reducible refine Kd.C_drewN ?_ _) | (with_reducible refine Kd.C_drew ?_))); (case side4 => exact HC1.out); rintro e w12 ⟨v539, rfl, ho0, hb⟩; refine ⟨_, rfl, ?_⟩; have n0_ := Aside0.mk (Kd.V_elder' (by (with_reducible repeat (first | apply Kd.V_alloc | apply Kd.V_drewN | apply Kd.V_drew)); exact HO_0.out) (Kd.R_base ho0) hb); have n1_ := Aside0.mk (Kd.V_elder' (by (with_reducible repeat (first | apply Kd.V_alloc | apply Kd.V_drewN | apply Kd.V_drew)); exact HO_2.out) (Kd.R_base ho0) hb); have n2_ := Aside0.mk (Kd.R_lower (Kd.R_newM (M := fun k_ => (w.heap.size ≤ k_)) ho0 (below_size (by repeat (first | (with_reducible first | exact HB.out | apply below_alloc | apply pw_below_drewN | apply below_drew1) | exact HB.out))) (fun k_ h_ => h_)) (below_size (by repeat (first | (with_reducible first | exact HB.out | apply below_alloc | apply pw_below_drewN | apply below_drew1) | exact HB.out)))); have n3_ := Aside0.mk (below_step (by repeat (first | (with_reducible first | exact HB.out | apply below_alloc | apply pw_below_drewN | apply below_drew1) | exact HB.out)) hb); clear HO_0; clear HO_2; clear HB; have HO_0 := n0_; have HO_2 := n1_; have HO540 := n2_; have HB := n3_; clear n0_ n1_ n2_ n3_; (try clear hb); (try clear hb2); (try clear hk); (try clear hi); (try clear ho0)) | ((with_reducible refine gate_callee (f := 23) rfl ?_); refine goesL_ (some 31) rfl rfl Tryd.func23 (by kernel_rfl) rfl #[.slice A1 l1.length c1, .slice A0 l0.length c0] rfl (by (try simp only [List.map_toArray, List.map_cons, List.map_nil]); first | done | rfl | (simp only [List.length_drop, List.length_take]; rfl)) ?_; (with_reducible refine (joiner_Hash.calls _ _ l1 _ _ l0 t541 _ ?side1 ?side2 ?side3 ?side4 A10.out ?tab).mono ?_); (case tab => exact (tab_of HTAB.out (by repeat (first | (with_reducible first | exact HB.out | apply below_alloc | apply pw_below_drewN | apply below_drew1) | exact HB.out)))); (case side1 => repeat (first | exact (Kd.C_below HR1.out HB.out) | (with_reducible refine Kd.C_alloc ?_ _) | (with_reducible refine Kd.C_drewN ?_ _) | (with_reducible refine Kd.C_drew ?_))); (case side2 => exact HC1.out); (case side3 => repeat (first | exact (Kd.V_reads' HO_0.out).2.2 | (with_reducible refine Kd.C_alloc ?_ _) | (with_reducible refine Kd.C_drewN ?_ _) | (with_reducible refine Kd.C_drew ?_))); (case side4 => exact (Kd.V_reads' HO_0.out).2.1); rintro e w13 ⟨v542, rfl, ho0, hb⟩; refine ⟨_, rfl, ?_⟩; have n0_ := Aside0.mk (Kd.V_elder' (by (with_reducible repeat (first | apply Kd.V_alloc | apply Kd.V_drewN | apply Kd.V_drew)); exact HO_0.out) (Kd.R_base ho0) hb); have n1_ := Aside0.mk (Kd.V_elder' (by (with_reducible repeat (first | apply Kd.V_alloc | apply Kd.V_drewN | apply Kd.V_drew)); exact HO_2.out) (Kd.R_base ho0) hb); have n2_ := Aside0.mk (Kd.R_elder' (by (with_reducible repeat (first | apply Kd.R_alloc | apply Kd.R_drewN | apply Kd.R_drew)); exact HO540.out) (Kd.R_base ho0) hb); have n3_ := Aside0.mk (Kd.R_lower (Kd.R_new' (Kd.R_newM (M := fun k_ => (w.heap.size ≤ k_)) ho0 (below_size (by repeat (first | (with_reducible first | exact HB.out | apply below_alloc | apply pw_below_drewN | apply below_drew1) | exact HB.out))) (fun k_ h_ => h_)) (Kd.R_lt (by (with_reducible repeat (first | apply Kd.R_alloc | apply Kd.R_drewN | apply Kd.R_drew)); exact HO540.out))) (below_size (by repeat (first | (with_reducible first | exact HB.out | apply below_alloc | apply pw_below_drewN | apply below_drew1) | exact HB.out)))); have n4_ := Aside0.mk (below_step (by repeat (first | (with_reducible first | exact HB.out | apply below_alloc | apply pw_below_drewN | apply below_drew1) | exact HB.out)) hb); clear HO_0; clear HO_2; clear HO540; clear HB; have HO_0 := n0_; have HO_2 := n1_; have HO540 := n2_; have HO543 := n3_; have HB := n4_; clear n0_ n1_ n2_ n3_ n4_; (try clear hb); (try clear hb2); (try clear hk); (try clear hi); (try clear ho0); obtain ⟨Ao14, co14, eo14⟩ := Kd.R_slice HO540.out; subst eo14; obtain ⟨Ao15, co15, eo15⟩ := Kd.R_slice HO543.out; subst eo15))
     go_loopg [9] kj3 (fun kq v9 w' => ∃ (x9_2 : Int), v9 = .int .i64 x9_2 ∧ Aside0 (tabellionlaw32_JoinerTurns.l0 kq l0 l1 l2 t538 t541 x9_2 = some r) ∧ Aside0 (kq ≤ kj3) ∧ Aside0 (Kd.V (Kd.slice 44 k44) 33 w' w.heap.size (fun k_ => ((P0_ k_ ∨ P2_ k_) ∨ w.heap.size ≤ k_) ∧ some k_ ≠ ((.slice Ao14 t538.length co14) : Value).ownBlock ∧ some k_ ≠ ((.slice Ao15 t541.length co15) : Value).ownBlock) (.slice A0 l0.length c0) l0) ∧ Aside0 (Kd.V k44 44 w' w.heap.size (fun k_ => ((P0_ k_ ∨ P2_ k_) ∨ w.heap.size ≤ k_) ∧ some k_ ≠ ((.slice Ao14 t538.length co14) : Value).ownBlock ∧ some k_ ≠ ((.slice Ao15 t541.length co15) : Value).ownBlock) (.slice A2 l2.length c2) l2) ∧ Aside0 (Kd.R k40 40 w' w.heap.size (fun k_ => (w.heap.size ≤ k_) ∧ some k_ ≠ ((.slice Ao15 t541.length co15) : Value).ownBlock) (.slice Ao14 t538.length co14) t538) ∧ Aside0 (Kd.R k40 40 w' w.heap.size (fun k_ => (w.heap.size ≤ k_) ∧ some k_ ≠ ((.slice Ao14 t538.length co14) : Value).ownBlock) (.slice Ao15 t541.length co15) t541) ∧ Aside0 (Below w.heap.size w w'))
     case atStart => exact ⟨(0), (by first | rfl | (simp; done) | (simp [*]; done)), H', ⟨Nat.le_refl _⟩, ⟨by (with_reducible repeat (first | apply Kd.V_alloc | apply Kd.V_drewN | apply Kd.V_drew)); exact Kd.V_mono HO_0.out (fun _ hk => ⟨hk.1.1, ⟨hk.1.2, hk.2⟩⟩)⟩, ⟨by (with_reducible repeat (first | apply Kd.V_alloc | apply Kd.V_drewN | apply Kd.V_drew)); exact Kd.V_mono HO_2.out (fun _ hk => ⟨hk.1.1, ⟨hk.1.2, hk.2⟩⟩)⟩, ⟨by (with_reducible repeat (first | apply Kd.R_alloc | apply Kd.R_drewN | apply Kd.R_drew)); exact Kd.R_mono HO540.out (fun _ hk => ⟨hk.1.1, hk.2⟩)⟩, ⟨by (with_reducible repeat (first | apply Kd.R_alloc | apply Kd.R_drewN | apply Kd.R_drew)); exact Kd.R_mono HO543.out (fun _ hk => ⟨hk.1.1, hk.2⟩)⟩, ⟨by repeat (first | (with_reducible first | exact HB.out | apply below_alloc | apply pw_below_drewN | apply below_drew1) | exact HB.out)⟩⟩
     case round =>
      clear H'
      try clear c1
      try clear c2
      try clear p2
      try clear c5
      try clear c5b0
      try clear c5b1
      try clear c6
      try clear c7
      try clear c11
      try clear c11b0
      try clear c11b1
      try clear c11b2
      try clear p2
      obtain ⟨x9_2, rfl, HA, HK2, HO_0, HO_2, HO_7, HO_8, HB⟩ := hrel
      cases gk with
      | zero => exact absurd HA.out (by simp [tabellionlaw32_JoinerTurns.l0])
      | succ k2 =>
       have H := HA.out
       clear HA
       simp only [tabellionlaw32_JoinerTurns.l0] at H
       by_cases c16 : x9_2 < (t538.length : Int)
       ·
        rw [if_pos c16] at H
        have c16b0 : decide (x9_2 < (t538.length : Int)) = true := decide_eq_true c16
        clear c16
        by_cases c17 : 0 ≤ x9_2
        ·
         rw [if_pos c17] at H
         have c17b0 : decide (0 ≤ x9_2) = true := decide_eq_true c17
         clear c17
         have HC18 := Aside0.mk H
         clear H
         try go_wp2
         have n0_ := Aside0.mk (Kd.V_drew HO_0.out)
         have n1_ := Aside0.mk (Kd.V_drew HO_2.out)
         have n2_ := Aside0.mk (Kd.R_drew HO_7.out)
         have n3_ := Aside0.mk (Kd.R_drew HO_8.out)
         have n4_ := Aside0.mk (below_drew1 HB.out)
         clear HO_0
         clear HO_2
         clear HO_7
         clear HO_8
         clear HB
         have HO_0 := n0_
         have HO_2 := n1_
         have HO_7 := n2_
         have HO_8 := n3_
         have HB := n4_
         clear n0_ n1_ n2_ n3_ n4_
         have p544 : 0 ≤ (x9_2 : Int) := of_decide_eq_true (by first | (with_reducible assumption) | assumption)
         have q544 : x9_2 < (t538.length : Int) := of_decide_eq_true (by first | (with_reducible assumption) | assumption)
         obtain ⟨ad544, e544, hx544_0, hx544_1⟩ := at_T40 (Kd.R_reads' HO_7.out).2.2 x9_2 p544 q544
         cases e544
         replace p544 := eq_true p544
         replace q544 := eq_true q544
         have p545 : 0 ≤ (x9_2 : Int) := of_decide_eq_true (by first | (with_reducible assumption) | assumption)
         have q545 : x9_2 < (t538.length : Int) := of_decide_eq_true (by first | (with_reducible assumption) | assumption)
         obtain ⟨ad545, e545, hx545_0, hx545_1⟩ := at_T40 (Kd.R_reads' HO_7.out).2.2 x9_2 p545 q545
         obtain rfl : ad544 = ad545 := (by injection e545)
         replace p545 := eq_true p545
         replace q545 := eq_true q545
         refine start_ (n := 12) (S := fun w' => w'.cell? (ad544.add ((x9_2).toNat * 2)) = some (.int .i64 ((rd_T40 t538 x9_2).f0)) ∧ w'.cell? ⟨(ad544.add ((x9_2).toNat * 2)).block, (ad544.add ((x9_2).toNat * 2)).off + 1, none⟩ = some (.int .i64 ((rd_T40 t538 x9_2).f1)) ∧ w'.cell? (ad544.add ((x9_2).toNat * 2)) = some (.int .i64 ((rd_T40 t538 x9_2).f0)) ∧ w'.cell? ⟨(ad544.add ((x9_2).toNat * 2)).block, (ad544.add ((x9_2).toNat * 2)).off + 1, none⟩ = some (.int .i64 ((rd_T40 t538 x9_2).f1))) (ds := []) #[false, false, false, false, false, false, false, false, false, false, false, false] (by kernel_rfl) rfl rfl ⟨hx544_0, hx544_1, hx545_0, hx545_1⟩ (fun hHeld => ?_); refine with_tabW tabellionlaw32_JoinerTurns.tab9 tabellionlaw32_JoinerTurns.bits9 (fun HT_ HW_ => ?_)
         generalize wr.drew = w19 at HO_0 HO_2 HO_7 HO_8 HB hx544_0 hx544_1 hx545_0 hx545_1 hHeld ⊢
         refine pure_ (i := 0) (N := some 43) (v := ?_) (a' := ?_) #[true, false, false, false, false, false, false, false, false, false, false, false] rfl rfl (any_of HT_.out (by kernel_rfl)) (fun _ _ _ h => h) (Or.inl ⟨by rfl, ?_⟩) ?_ ?_
         rotate_left
         ·
          intro w'
          go_simp
          with_reducible rfl
         rotate_left
         ·
          simp only [Act.put, List.setIfInBounds_toArray, List.set_cons_zero, List.set_cons_succ, i64_w, i32_w]
          rfl
         refine pure_ (i := 1) (N := some 44) (v := ?_) (a' := ?_) #[true, true, false, false, false, false, false, false, false, false, false, false] rfl rfl (any_of HT_.out (by kernel_rfl)) (fun _ _ _ h => h) (Or.inl ⟨by rfl, ?_⟩) ?_ ?_
         rotate_left
         ·
          intro w'
          go_simp
          with_reducible rfl
         rotate_left
         ·
          simp only [Act.put, List.setIfInBounds_toArray, List.set_cons_zero, List.set_cons_succ, i64_w, i32_w]
          rfl
         refine pure_ (i := 2) (N := some 45) (v := ?_) (a' := ?_) #[true, true, true, false, false, false, false, false, false, false, false, false] rfl rfl (any_of HT_.out (by kernel_rfl)) (fun _ _ _ h => h) (Or.inl ⟨by rfl, ?_⟩) ?_ ?_
         rotate_left
         ·
          intro w'
          go_simp
          with_reducible rfl
         rotate_left
         ·
          simp only [Act.put, List.setIfInBounds_toArray, List.set_cons_zero, List.set_cons_succ, i64_w, i32_w]
          rfl
         refine pure_ (i := 3) (N := some 46) (v := ?_) (a' := ?_) #[true, true, true, true, false, false, false, false, false, false, false, false] rfl rfl (any_of HT_.out (by kernel_rfl)) (fun _ _ _ h => h) (Or.inl ⟨by rfl, ?_⟩) ?_ ?_
         rotate_left
         ·
          intro w'
          go_simp
          with_reducible rfl
         rotate_left
         ·
          simp only [Act.put, List.setIfInBounds_toArray, List.set_cons_zero, List.set_cons_succ, i64_w, i32_w]
          rfl
         refine pure_ (i := 5) (N := some 48) (v := ?_) (a' := ?_) #[true, true, true, true, false, true, false, false, false, false, false, false] rfl rfl (any_of HT_.out (by kernel_rfl)) (fun _ _ _ h => h) (Or.inl ⟨by rfl, ?_⟩) ?_ ?_
         rotate_left
         ·
          intro w'
          go_simp
          with_reducible rfl
         rotate_left
         ·
          simp only [Act.put, List.setIfInBounds_toArray, List.set_cons_zero, List.set_cons_succ, i64_w, i32_w]
          rfl
         refine pure_ (i := 6) (N := some 49) (v := ?_) (a' := ?_) #[true, true, true, true, false, true, true, false, false, false, false, false] rfl rfl (any_of HT_.out (by kernel_rfl)) (fun _ _ _ h => h) (Or.inl ⟨by rfl, ?_⟩) ?_ ?_
         rotate_left
         ·
          intro w'
          go_simp
          with_reducible rfl
         rotate_left
         ·
          simp only [Act.put, List.setIfInBounds_toArray, List.set_cons_zero, List.set_cons_succ, i64_w, i32_w]
          rfl
         refine pure_ (i := 7) (N := some 50) (v := ?_) (a' := ?_) #[true, true, true, true, false, true, true, true, false, false, false, false] rfl rfl (any_of HT_.out (by kernel_rfl)) (fun _ _ _ h => h) (Or.inl ⟨by rfl, ?_⟩) ?_ ?_
         rotate_left
         ·
          intro w'
          go_simp
          with_reducible rfl
         rotate_left
         ·
          simp only [Act.put, List.setIfInBounds_toArray, List.set_cons_zero, List.set_cons_succ, i64_w, i32_w]
          rfl
         refine pure_ (i := 8) (N := some 51) (v := ?_) (a' := ?_) #[true, true, true, true, false, true, true, true, true, false, false, false] rfl rfl (any_of HT_.out (by kernel_rfl)) (fun _ _ _ h => h) (Or.inl ⟨by rfl, ?_⟩) ?_ ?_
         rotate_left
         ·
          intro w'
          go_simp
          with_reducible rfl
         rotate_left
         ·
          simp only [Act.put, List.setIfInBounds_toArray, List.set_cons_zero, List.set_cons_succ, i64_w, i32_w]
          rfl
         refine take_ (i := 4) (N := some 47) (v := ?_) (a' := ?_) #[true, true, true, true, true, true, true, true, true, false, false, false] rfl rfl (take_ofW HT_.out HW_.out (by kernel_rfl)) (fun _ _ _ h => h) (Or.inl ⟨by rfl, ?_⟩) hHeld ?_ ?_
         rotate_left
         ·
          rintro w' ⟨s0, s1, s2, s3⟩
          go_simp
          with_reducible rfl
         rotate_left
         ·
          simp only [Act.put, List.setIfInBounds_toArray, List.set_cons_zero, List.set_cons_succ, i64_w, i32_w]
          rfl
         refine pure_ (i := 10) (N := some 10) (v := ?_) (a' := ?_) #[true, true, true, true, true, true, true, true, true, false, true, false] rfl rfl (any_of HT_.out (by kernel_rfl)) (fun _ _ _ h => h) (Or.inl ⟨by rfl, ?_⟩) ?_ ?_
         rotate_left
         ·
          intro w'
          go_simp
          with_reducible rfl
         rotate_left
         ·
          simp only [Act.put, List.setIfInBounds_toArray, List.set_cons_zero, List.set_cons_succ, i64_w, i32_w]
          rfl
         refine take_ (i := 9) (N := some 52) (v := ?_) (a' := ?_) #[true, true, true, true, true, true, true, true, true, true, true, false] rfl rfl (take_ofW HT_.out HW_.out (by kernel_rfl)) (fun _ _ _ h => h) (Or.inl ⟨by rfl, ?_⟩) hHeld ?_ ?_
         rotate_left
         ·
          rintro w' ⟨s0, s1, s2, s3⟩
          go_simp
          with_reducible rfl
         rotate_left
         ·
          simp only [Act.put, List.setIfInBounds_toArray, List.set_cons_zero, List.set_cons_succ, i64_w, i32_w]
          rfl
         refine pure_ (i := 11) (N := some 11) (v := ?_) (a' := ?_) #[true, true, true, true, true, true, true, true, true, true, true, true] rfl rfl (any_of HT_.out (by kernel_rfl)) (fun _ _ _ h => h) (Or.inl ⟨by rfl, ?_⟩) ?_ ?_
         rotate_left
         ·
          intro w'
          go_simp
          with_reducible rfl
         rotate_left
         ·
          simp only [Act.put, List.setIfInBounds_toArray, List.set_cons_zero, List.set_cons_succ, i64_w, i32_w]
          rfl
         refine done_ (done_of HT_.out (by kernel_rfl)) ?_
         go_upto_region 10 with (fail)
         go_cut [82] (fun v82 wc => ∃ (kq : Nat) (x82_17 : Bool), v82 = .bool x82_17 ∧ Aside0 (tabellionlaw32_JoinerTurns.j2 kq l0 l1 l2 t538 t541 x9_2 ((rd_T40 t538 x9_2).f0) ((rd_T40 t538 x9_2).f1) x82_17 = some r) ∧ Aside0 (kq ≤ k2) ∧ Aside0 (Kd.V (Kd.slice 44 k44) 33 wc w.heap.size (fun k_ => ((P0_ k_ ∨ P2_ k_) ∨ w.heap.size ≤ k_) ∧ some k_ ≠ ((.slice (some ad544) t538.length co14) : Value).ownBlock ∧ some k_ ≠ ((.slice Ao15 t541.length co15) : Value).ownBlock) (.slice A0 l0.length c0) l0) ∧ Aside0 (Kd.V k44 44 wc w.heap.size (fun k_ => ((P0_ k_ ∨ P2_ k_) ∨ w.heap.size ≤ k_) ∧ some k_ ≠ ((.slice (some ad544) t538.length co14) : Value).ownBlock ∧ some k_ ≠ ((.slice Ao15 t541.length co15) : Value).ownBlock) (.slice A2 l2.length c2) l2) ∧ Aside0 (Kd.R k40 40 wc w.heap.size (fun k_ => (w.heap.size ≤ k_) ∧ some k_ ≠ ((.slice Ao15 t541.length co15) : Value).ownBlock) (.slice (some ad544) t538.length co14) t538) ∧ Aside0 (Kd.R k40 40 wc w.heap.size (fun k_ => (w.heap.size ≤ k_) ∧ some k_ ≠ ((.slice (some ad544) t538.length co14) : Value).ownBlock) (.slice Ao15 t541.length co15) t541) ∧ Aside0 (Below w.heap.size w wc))
         case first =>
          have H := HC18.out
          clear HC18
          by_cases c20 : ((rd_T40 t538 x9_2).f0) < 0
          ·
           rw [if_pos c20] at H
           exact absurd (tabellionlaw32_JoinerTurns.j2t _ _ _ _ _ _ _ _ _ H) (by rw [HRT.out]; simp)
          ·
           rw [if_neg c20] at H
           have c20b0 : decide (((rd_T40 t538 x9_2).f0) < 0) = false := decide_eq_false c20
           clear c20
           (first | rw [c20b0] | (simp only [i64_w, i32_w]; rw [c20b0]) | skip)
           by_cases c22 : ((rd_T40 t538 x9_2).f0) ≥ (l0.length : Int)
           ·
            rw [if_pos c22] at H
            exact absurd (tabellionlaw32_JoinerTurns.j2t _ _ _ _ _ _ _ _ _ H) (by rw [HRT.out]; simp)
           ·
            rw [if_neg c22] at H
            have c22b0 : decide ((l0.length : Int) ≤ ((rd_T40 t538 x9_2).f0)) = false := decide_eq_false c22
            clear c22
            by_cases c24 : ((rd_T40 t538 x9_2).f1) < 0
            ·
             rw [if_pos c24] at H
             exact absurd (tabellionlaw32_JoinerTurns.j2t _ _ _ _ _ _ _ _ _ H) (by rw [HRT.out]; simp)
            ·
             rw [if_neg c24] at H
             have c24b0 : decide (((rd_T40 t538 x9_2).f1) < 0) = false := decide_eq_false c24
             clear c24
             by_cases c26 : ((rd_T40 t538 x9_2).f1) ≥ (l1.length : Int)
             ·
              rw [if_pos c26] at H
              exact absurd (tabellionlaw32_JoinerTurns.j2t _ _ _ _ _ _ _ _ _ H) (by rw [HRT.out]; simp)
             ·
              rw [if_neg c26] at H
              have c26b0 : decide ((l1.length : Int) ≤ ((rd_T40 t538 x9_2).f1)) = false := decide_eq_false c26
              clear c26
              by_cases c28 : 0 ≤ ((rd_T40 t538 x9_2).f0)
              ·
               rw [if_pos c28] at H
               have c28b0 : decide (0 ≤ ((rd_T40 t538 x9_2).f0)) = true := decide_eq_true c28
               clear c28
               by_cases c29 : ((rd_T40 t538 x9_2).f0) < (l0.length : Int)
               ·
                rw [if_pos c29] at H
                have c29b0 : decide (((rd_T40 t538 x9_2).f0) < (l0.length : Int)) = true := decide_eq_true c29
                clear c29
                by_cases c30 : 0 ≤ ((rd_T40 t538 x9_2).f1)
                ·
                 rw [if_pos c30] at H
                 have c30b0 : decide (0 ≤ ((rd_T40 t538 x9_2).f1)) = true := decide_eq_true c30
                 clear c30
                 by_cases c31 : ((rd_T40 t538 x9_2).f1) < (l1.length : Int)
                 ·
                  rw [if_pos c31] at H
                  have c31b0 : decide (((rd_T40 t538 x9_2).f1) < (l1.length : Int)) = true := decide_eq_true c31
                  clear c31
                  replace H := Option.bind_eq_some_iff.mp H
                  obtain ⟨t548, A320, H⟩ := H
                  replace H : (tabellionlaw32_JoinerTurns.j2 k2 l0 l1 l2 t538 t541 x9_2 ((rd_T40 t538 x9_2).f0) ((rd_T40 t538 x9_2).f1) (t548 != 0)) = some r := H
                  have A32 := Aside0.mk A320
                  clear A320
                  have H' := Aside0.mk H
                  clear H
                  try go_wp2
                  have n0_ := Aside0.mk (Kd.V_drew HO_0.out)
                  have n1_ := Aside0.mk (Kd.V_drew HO_2.out)
                  have n2_ := Aside0.mk (Kd.R_drew HO_7.out)
                  have n3_ := Aside0.mk (Kd.R_drew HO_8.out)
                  have n4_ := Aside0.mk (below_drew1 HB.out)
                  clear HO_0
                  clear HO_2
                  clear HO_7
                  clear HO_8
                  clear HB
                  have HO_0 := n0_
                  have HO_2 := n1_
                  have HO_7 := n2_
                  have HO_8 := n3_
                  have HB := n4_
                  clear n0_ n1_ n2_ n3_ n4_
                  have p546 : 0 ≤ (((rd_T40 t538 x9_2).f0) : Int) := of_decide_eq_true (by first | (with_reducible assumption) | assumption)
                  have q546 : ((rd_T40 t538 x9_2).f0) < (l0.length : Int) := of_decide_eq_true (by first | (with_reducible assumption) | assumption)
                  obtain ⟨ad546, A546_0, c546_0, e546, hx546_0, hl546_0, hi546_0⟩ := at_L4 (Kd.V_reads' HO_0.out).2.2 ((rd_T40 t538 x9_2).f0) p546 q546
                  cases e546
                  obtain ⟨ce546, hce546, hMe546, hcc546⟩ := Kd.V_get HO_0.out [] ((rd_T40 t538 x9_2).f0) p546 (by first | exact q546 | exact of_decide_eq_true (by first | (with_reducible assumption) | assumption) | (have e_ := (Kd.V_reads' HO_0.out).1; omega))
                  obtain ⟨ua546_0, uc546_0, rfl, ul546_0, ge546_0⟩ := Kd.FK_slice_open hMe546
                  have hv546_0 := hcc546 0 _ rfl
                  rw [Nat.add_zero, show ((Kd.slice 44 k44)).sz = 1 from rfl, Nat.mul_one] at hv546_0
                  replace hv546_0 := Option.some.inj (hv546_0.symm.trans hx546_0)
                  injection hv546_0 with hva_ hvn_ hvc_
                  rw [hva_] at ge546_0
                  rw [hvc_] at ul546_0
                  have HL546_0 := Aside0.mk (show Kd.V k44 44 _ w.heap.size _ _ (rd_L4 l0 ((rd_T40 t538 x9_2).f0)) from Kd.V_mk ul546_0 ge546_0)
                  clear hva_ hvn_ hvc_ ge546_0 ul546_0
                  clear hcc546 hce546
                  have HR546_0 := Aside0.mk hi546_0
                  have HC546_0 := Aside0.mk hl546_0
                  clear hi546_0 hl546_0
                  replace p546 := eq_true p546
                  replace q546 := eq_true q546
                  have p547 : 0 ≤ (((rd_T40 t538 x9_2).f1) : Int) := of_decide_eq_true (by first | (with_reducible assumption) | assumption)
                  have q547 : ((rd_T40 t538 x9_2).f1) < (l1.length : Int) := of_decide_eq_true (by first | (with_reducible assumption) | assumption)
                  obtain ⟨ad547, A547_0, c547_0, e547, hx547_0, hl547_0, hi547_0⟩ := at_L4 HR1.out ((rd_T40 t538 x9_2).f1) p547 q547
                  have hw547_0 := hx547_0
                  cases e547
                  replace hx547_0 := (HB.out.cell (World.block_lt_of_cell? w _ hx547_0)).trans hx547_0
                  have HR547_0 := Aside0.mk hi547_0
                  have HC547_0 := Aside0.mk hl547_0
                  clear hi547_0 hl547_0
                  replace p547 := eq_true p547
                  replace q547 := eq_true q547
                  refine start_ (n := 30) (S := fun w' => w'.cell? (ad546.add (((rd_T40 t538 x9_2).f0)).toNat) = some (.slice A546_0 (rd_L4 l0 ((rd_T40 t538 x9_2).f0)).length c546_0) ∧ w'.cell? (ad547.add (((rd_T40 t538 x9_2).f1)).toNat) = some (.slice A547_0 (rd_L4 l1 ((rd_T40 t538 x9_2).f1)).length c547_0)) (ds := []) #[false, false, false, false, false, false, false, false, false, false, false, false, false, false, false, false, false, false, false, false, false, false, false, false, false, false, false, false, false, false] (by kernel_rfl) rfl rfl ⟨hx546_0, ((HB.out.cell (World.block_lt_of_cell? w _ hw547_0)).trans hw547_0)⟩ (fun hHeld => ?_); refine with_tabW tabellionlaw32_JoinerTurns.tab10 tabellionlaw32_JoinerTurns.bits10 (fun HT_ HW_ => ?_)
                  generalize w19.drew = w33 at HO_0 HO_2 HO_7 HO_8 HB HL546_0 HR546_0 HR547_0 hx546_0 hx547_0 hHeld ⊢
                  refine pure_ (i := 0) (N := some 53) (v := ?_) (a' := ?_) #[true, false, false, false, false, false, false, false, false, false, false, false, false, false, false, false, false, false, false, false, false, false, false, false, false, false, false, false, false, false] rfl rfl (any_of HT_.out (by kernel_rfl)) (fun _ _ _ h => h) (Or.inl ⟨by rfl, ?_⟩) ?_ ?_
                  rotate_left
                  ·
                   intro w'
                   go_simp
                   with_reducible rfl
                  rotate_left
                  ·
                   simp only [Act.put, List.setIfInBounds_toArray, List.set_cons_zero, List.set_cons_succ, i64_w, i32_w]
                   rfl
                  refine pure_ (i := 1) (N := some 54) (v := ?_) (a' := ?_) #[true, true, false, false, false, false, false, false, false, false, false, false, false, false, false, false, false, false, false, false, false, false, false, false, false, false, false, false, false, false] rfl rfl (any_of HT_.out (by kernel_rfl)) (fun _ _ _ h => h) (Or.inl ⟨by rfl, ?_⟩) ?_ ?_
                  rotate_left
                  ·
                   intro w'
                   go_simp
                   with_reducible rfl
                  rotate_left
                  ·
                   simp only [Act.put, List.setIfInBounds_toArray, List.set_cons_zero, List.set_cons_succ, i64_w, i32_w]
                   rfl
                  refine pure_ (i := 2) (N := some 55) (v := ?_) (a' := ?_) #[true, true, true, false, false, false, false, false, false, false, false, false, false, false, false, false, false, false, false, false, false, false, false, false, false, false, false, false, false, false] rfl rfl (any_of HT_.out (by kernel_rfl)) (fun _ _ _ h => h) (Or.inl ⟨by rfl, ?_⟩) ?_ ?_
                  rotate_left
                  ·
                   intro w'
                   go_simp
                   with_reducible rfl
                  rotate_left
                  ·
                   simp only [Act.put, List.setIfInBounds_toArray, List.set_cons_zero, List.set_cons_succ, i64_w, i32_w]
                   rfl
                  refine pure_ (i := 3) (N := some 56) (v := ?_) (a' := ?_) #[true, true, true, true, false, false, false, false, false, false, false, false, false, false, false, false, false, false, false, false, false, false, false, false, false, false, false, false, false, false] rfl rfl (any_of HT_.out (by kernel_rfl)) (fun _ _ _ h => h) (Or.inl ⟨by rfl, ?_⟩) ?_ ?_
                  rotate_left
                  ·
                   intro w'
                   go_simp
                   with_reducible rfl
                  rotate_left
                  ·
                   simp only [Act.put, List.setIfInBounds_toArray, List.set_cons_zero, List.set_cons_succ, i64_w, i32_w]
                   rfl
                  refine pure_ (i := 4) (N := some 57) (v := ?_) (a' := ?_) #[true, true, true, true, true, false, false, false, false, false, false, false, false, false, false, false, false, false, false, false, false, false, false, false, false, false, false, false, false, false] rfl rfl (any_of HT_.out (by kernel_rfl)) (fun _ _ _ h => h) (Or.inl ⟨by rfl, ?_⟩) ?_ ?_
                  rotate_left
                  ·
                   intro w'
                   go_simp
                   with_reducible rfl
                  rotate_left
                  ·
                   simp only [Act.put, List.setIfInBounds_toArray, List.set_cons_zero, List.set_cons_succ, i64_w, i32_w]
                   rfl
                  refine pure_ (i := 5) (N := some 58) (v := ?_) (a' := ?_) #[true, true, true, true, true, true, false, false, false, false, false, false, false, false, false, false, false, false, false, false, false, false, false, false, false, false, false, false, false, false] rfl rfl (any_of HT_.out (by kernel_rfl)) (fun _ _ _ h => h) (Or.inl ⟨by rfl, ?_⟩) ?_ ?_
                  rotate_left
                  ·
                   intro w'
                   go_simp
                   with_reducible rfl
                  rotate_left
                  ·
                   simp only [Act.put, List.setIfInBounds_toArray, List.set_cons_zero, List.set_cons_succ, i64_w, i32_w]
                   rfl
                  refine pure_ (i := 6) (N := some 59) (v := ?_) (a' := ?_) #[true, true, true, true, true, true, true, false, false, false, false, false, false, false, false, false, false, false, false, false, false, false, false, false, false, false, false, false, false, false] rfl rfl (any_of HT_.out (by kernel_rfl)) (fun _ _ _ h => h) (Or.inl ⟨by rfl, ?_⟩) ?_ ?_
                  rotate_left
                  ·
                   intro w'
                   go_simp
                   with_reducible rfl
                  rotate_left
                  ·
                   simp only [Act.put, List.setIfInBounds_toArray, List.set_cons_zero, List.set_cons_succ, i64_w, i32_w]
                   rfl
                  refine pure_ (i := 7) (N := some 60) (v := ?_) (a' := ?_) #[true, true, true, true, true, true, true, true, false, false, false, false, false, false, false, false, false, false, false, false, false, false, false, false, false, false, false, false, false, false] rfl rfl (any_of HT_.out (by kernel_rfl)) (fun _ _ _ h => h) (Or.inl ⟨by rfl, ?_⟩) ?_ ?_
                  rotate_left
                  ·
                   intro w'
                   go_simp
                   with_reducible rfl
                  rotate_left
                  ·
                   simp only [Act.put, List.setIfInBounds_toArray, List.set_cons_zero, List.set_cons_succ, i64_w, i32_w]
                   rfl
                  refine pure_ (i := 8) (N := some 61) (v := ?_) (a' := ?_) #[true, true, true, true, true, true, true, true, true, false, false, false, false, false, false, false, false, false, false, false, false, false, false, false, false, false, false, false, false, false] rfl rfl (any_of HT_.out (by kernel_rfl)) (fun _ _ _ h => h) (Or.inl ⟨by rfl, ?_⟩) ?_ ?_
                  rotate_left
                  ·
                   intro w'
                   go_simp
                   with_reducible rfl
                  rotate_left
                  ·
                   simp only [Act.put, List.setIfInBounds_toArray, List.set_cons_zero, List.set_cons_succ, i64_w, i32_w]
                   rfl
                  refine pure_ (i := 9) (N := some 62) (v := ?_) (a' := ?_) #[true, true, true, true, true, true, true, true, true, true, false, false, false, false, false, false, false, false, false, false, false, false, false, false, false, false, false, false, false, false] rfl rfl (any_of HT_.out (by kernel_rfl)) (fun _ _ _ h => h) (Or.inl ⟨by rfl, ?_⟩) ?_ ?_
                  rotate_left
                  ·
                   intro w'
                   go_simp
                   with_reducible rfl
                  rotate_left
                  ·
                   simp only [Act.put, List.setIfInBounds_toArray, List.set_cons_zero, List.set_cons_succ, i64_w, i32_w]
                   rfl
                  refine pure_ (i := 10) (N := some 63) (v := ?_) (a' := ?_) #[true, true, true, true, true, true, true, true, true, true, true, false, false, false, false, false, false, false, false, false, false, false, false, false, false, false, false, false, false, false] rfl rfl (any_of HT_.out (by kernel_rfl)) (fun _ _ _ h => h) (Or.inl ⟨by rfl, ?_⟩) ?_ ?_
                  rotate_left
                  ·
                   intro w'
                   go_simp
                   with_reducible rfl
                  rotate_left
                  ·
                   simp only [Act.put, List.setIfInBounds_toArray, List.set_cons_zero, List.set_cons_succ, i64_w, i32_w]
                   rfl
                  refine pure_ (i := 11) (N := some 64) (v := ?_) (a' := ?_) #[true, true, true, true, true, true, true, true, true, true, true, true, false, false, false, false, false, false, false, false, false, false, false, false, false, false, false, false, false, false] rfl rfl (any_of HT_.out (by kernel_rfl)) (fun _ _ _ h => h) (Or.inl ⟨by rfl, ?_⟩) ?_ ?_
                  rotate_left
                  ·
                   intro w'
                   go_simp
                   with_reducible rfl
                  rotate_left
                  ·
                   simp only [Act.put, List.setIfInBounds_toArray, List.set_cons_zero, List.set_cons_succ, i64_w, i32_w]
                   rfl
                  refine pure_ (i := 12) (N := some 65) (v := ?_) (a' := ?_) #[true, true, true, true, true, true, true, true, true, true, true, true, true, false, false, false, false, false, false, false, false, false, false, false, false, false, false, false, false, false] rfl rfl (any_of HT_.out (by kernel_rfl)) (fun _ _ _ h => h) (Or.inl ⟨by rfl, ?_⟩) ?_ ?_
                  rotate_left
                  ·
                   intro w'
                   go_simp
                   with_reducible rfl
                  rotate_left
                  ·
                   simp only [Act.put, List.setIfInBounds_toArray, List.set_cons_zero, List.set_cons_succ, i64_w, i32_w]
                   rfl
                  refine pure_ (i := 13) (N := some 66) (v := ?_) (a' := ?_) #[true, true, true, true, true, true, true, true, true, true, true, true, true, true, false, false, false, false, false, false, false, false, false, false, false, false, false, false, false, false] rfl rfl (any_of HT_.out (by kernel_rfl)) (fun _ _ _ h => h) (Or.inl ⟨by rfl, ?_⟩) ?_ ?_
                  rotate_left
                  ·
                   intro w'
                   go_simp
                   with_reducible rfl
                  rotate_left
                  ·
                   simp only [Act.put, List.setIfInBounds_toArray, List.set_cons_zero, List.set_cons_succ, i64_w, i32_w]
                   rfl
                  refine pure_ (i := 14) (N := some 67) (v := ?_) (a' := ?_) #[true, true, true, true, true, true, true, true, true, true, true, true, true, true, true, false, false, false, false, false, false, false, false, false, false, false, false, false, false, false] rfl rfl (any_of HT_.out (by kernel_rfl)) (fun _ _ _ h => h) (Or.inl ⟨by rfl, ?_⟩) ?_ ?_
                  rotate_left
                  ·
                   intro w'
                   go_simp
                   with_reducible rfl
                  rotate_left
                  ·
                   simp only [Act.put, List.setIfInBounds_toArray, List.set_cons_zero, List.set_cons_succ, i64_w, i32_w]
                   rfl
                  refine pure_ (i := 15) (N := some 68) (v := ?_) (a' := ?_) #[true, true, true, true, true, true, true, true, true, true, true, true, true, true, true, true, false, false, false, false, false, false, false, false, false, false, false, false, false, false] rfl rfl (any_of HT_.out (by kernel_rfl)) (fun _ _ _ h => h) (Or.inl ⟨by rfl, ?_⟩) ?_ ?_
                  rotate_left
                  ·
                   intro w'
                   go_simp
                   with_reducible rfl
                  rotate_left
                  ·
                   simp only [Act.put, List.setIfInBounds_toArray, List.set_cons_zero, List.set_cons_succ, i64_w, i32_w]
                   rfl
                  refine pure_ (i := 16) (N := some 69) (v := ?_) (a' := ?_) #[true, true, true, true, true, true, true, true, true, true, true, true, true, true, true, true, true, false, false, false, false, false, false, false, false, false, false, false, false, false] rfl rfl (any_of HT_.out (by kernel_rfl)) (fun _ _ _ h => h) (Or.inl ⟨by rfl, ?_⟩) ?_ ?_
                  rotate_left
                  ·
                   intro w'
                   go_simp
                   with_reducible rfl
                  rotate_left
                  ·
                   simp only [Act.put, List.setIfInBounds_toArray, List.set_cons_zero, List.set_cons_succ, i64_w, i32_w]
                   rfl
                  refine pure_ (i := 17) (N := some 70) (v := ?_) (a' := ?_) #[true, true, true, true, true, true, true, true, true, true, true, true, true, true, true, true, true, true, false, false, false, false, false, false, false, false, false, false, false, false] rfl rfl (any_of HT_.out (by kernel_rfl)) (fun _ _ _ h => h) (Or.inl ⟨by rfl, ?_⟩) ?_ ?_
                  rotate_left
                  ·
                   intro w'
                   go_simp
                   with_reducible rfl
                  rotate_left
                  ·
                   simp only [Act.put, List.setIfInBounds_toArray, List.set_cons_zero, List.set_cons_succ, i64_w, i32_w]
                   rfl
                  refine pure_ (i := 18) (N := some 71) (v := ?_) (a' := ?_) #[true, true, true, true, true, true, true, true, true, true, true, true, true, true, true, true, true, true, true, false, false, false, false, false, false, false, false, false, false, false] rfl rfl (any_of HT_.out (by kernel_rfl)) (fun _ _ _ h => h) (Or.inl ⟨by rfl, ?_⟩) ?_ ?_
                  rotate_left
                  ·
                   intro w'
                   go_simp
                   with_reducible rfl
                  rotate_left
                  ·
                   simp only [Act.put, List.setIfInBounds_toArray, List.set_cons_zero, List.set_cons_succ, i64_w, i32_w]
                   rfl
                  refine pure_ (i := 19) (N := some 72) (v := ?_) (a' := ?_) #[true, true, true, true, true, true, true, true, true, true, true, true, true, true, true, true, true, true, true, true, false, false, false, false, false, false, false, false, false, false] rfl rfl (any_of HT_.out (by kernel_rfl)) (fun _ _ _ h => h) (Or.inl ⟨by rfl, ?_⟩) ?_ ?_
                  rotate_left
                  ·
                   intro w'
                   go_simp
                   with_reducible rfl
                  rotate_left
                  ·
                   simp only [Act.put, List.setIfInBounds_toArray, List.set_cons_zero, List.set_cons_succ, i64_w, i32_w]
                   rfl
                  refine pure_ (i := 20) (N := some 73) (v := ?_) (a' := ?_) #[true, true, true, true, true, true, true, true, true, true, true, true, true, true, true, true, true, true, true, true, true, false, false, false, false, false, false, false, false, false] rfl rfl (any_of HT_.out (by kernel_rfl)) (fun _ _ _ h => h) (Or.inl ⟨by rfl, ?_⟩) ?_ ?_
                  rotate_left
                  ·
                   intro w'
                   go_simp
                   with_reducible rfl
                  rotate_left
                  ·
                   simp only [Act.put, List.setIfInBounds_toArray, List.set_cons_zero, List.set_cons_succ, i64_w, i32_w]
                   rfl
                  refine pure_ (i := 21) (N := some 74) (v := ?_) (a' := ?_) #[true, true, true, true, true, true, true, true, true, true, true, true, true, true, true, true, true, true, true, true, true, true, false, false, false, false, false, false, false, false] rfl rfl (any_of HT_.out (by kernel_rfl)) (fun _ _ _ h => h) (Or.inl ⟨by rfl, ?_⟩) ?_ ?_
                  rotate_left
                  ·
                   intro w'
                   go_simp
                   with_reducible rfl
                  rotate_left
                  ·
                   simp only [Act.put, List.setIfInBounds_toArray, List.set_cons_zero, List.set_cons_succ, i64_w, i32_w]
                   rfl
                  refine pure_ (i := 23) (N := some 76) (v := ?_) (a' := ?_) #[true, true, true, true, true, true, true, true, true, true, true, true, true, true, true, true, true, true, true, true, true, true, false, true, false, false, false, false, false, false] rfl rfl (any_of HT_.out (by kernel_rfl)) (fun _ _ _ h => h) (Or.inl ⟨by rfl, ?_⟩) ?_ ?_
                  rotate_left
                  ·
                   intro w'
                   go_simp
                   with_reducible rfl
                  rotate_left
                  ·
                   simp only [Act.put, List.setIfInBounds_toArray, List.set_cons_zero, List.set_cons_succ, i64_w, i32_w]
                   rfl
                  refine pure_ (i := 24) (N := some 77) (v := ?_) (a' := ?_) #[true, true, true, true, true, true, true, true, true, true, true, true, true, true, true, true, true, true, true, true, true, true, false, true, true, false, false, false, false, false] rfl rfl (any_of HT_.out (by kernel_rfl)) (fun _ _ _ h => h) (Or.inl ⟨by rfl, ?_⟩) ?_ ?_
                  rotate_left
                  ·
                   intro w'
                   go_simp
                   with_reducible rfl
                  rotate_left
                  ·
                   simp only [Act.put, List.setIfInBounds_toArray, List.set_cons_zero, List.set_cons_succ, i64_w, i32_w]
                   rfl
                  refine pure_ (i := 25) (N := some 78) (v := ?_) (a' := ?_) #[true, true, true, true, true, true, true, true, true, true, true, true, true, true, true, true, true, true, true, true, true, true, false, true, true, true, false, false, false, false] rfl rfl (any_of HT_.out (by kernel_rfl)) (fun _ _ _ h => h) (Or.inl ⟨by rfl, ?_⟩) ?_ ?_
                  rotate_left
                  ·
                   intro w'
                   go_simp
                   with_reducible rfl
                  rotate_left
                  ·
                   simp only [Act.put, List.setIfInBounds_toArray, List.set_cons_zero, List.set_cons_succ, i64_w, i32_w]
                   rfl
                  refine take_ (i := 22) (N := some 75) (v := ?_) (a' := ?_) #[true, true, true, true, true, true, true, true, true, true, true, true, true, true, true, true, true, true, true, true, true, true, true, true, true, true, false, false, false, false] rfl rfl (take_ofW HT_.out HW_.out (by kernel_rfl)) (fun _ _ _ h => h) (Or.inl ⟨by rfl, ?_⟩) hHeld ?_ ?_
                  rotate_left
                  ·
                   rintro w' ⟨s0, s1⟩
                   go_simp
                   with_reducible rfl
                  rotate_left
                  ·
                   simp only [Act.put, List.setIfInBounds_toArray, List.set_cons_zero, List.set_cons_succ, i64_w, i32_w]
                   rfl
                  refine take_ (i := 26) (N := some 79) (v := ?_) (a' := ?_) #[true, true, true, true, true, true, true, true, true, true, true, true, true, true, true, true, true, true, true, true, true, true, true, true, true, true, true, false, false, false] rfl rfl (take_ofW HT_.out HW_.out (by kernel_rfl)) (fun _ _ _ h => h) (Or.inl ⟨by rfl, ?_⟩) hHeld ?_ ?_
                  rotate_left
                  ·
                   rintro w' ⟨s0, s1⟩
                   go_simp
                   with_reducible rfl
                  rotate_left
                  ·
                   simp only [Act.put, List.setIfInBounds_toArray, List.set_cons_zero, List.set_cons_succ, i64_w, i32_w]
                   rfl
                  refine one_ (i := 27) (N := some 80) #[true, true, true, true, true, true, true, true, true, true, true, true, true, true, true, true, true, true, true, true, true, true, true, true, true, true, true, true, false, false] rfl rfl (one_of HT_.out (by kernel_rfl)) (by decide) (fun K hK => ?_)
                  refine goes_ Tryd.func18 (by kernel_rfl) rfl #[.slice A546_0 (rd_L4 l0 ((rd_T40 t538 x9_2).f0)).length c546_0, .slice A547_0 (rd_L4 l1 ((rd_T40 t538 x9_2).f1)).length c547_0] (by rfl) rfl rfl (by (try simp only [List.map_toArray, List.map_cons, List.map_nil]); first | done | rfl | (simp only [List.length_drop, List.length_take]; rfl)) ?_
                  with_reducible refine (value_Orders.calls k2 _ _ (rd_L4 l0 ((rd_T40 t538 x9_2).f0)) _ _ (rd_L4 l1 ((rd_T40 t538 x9_2).f1)) t548 _ ?side1 ?side2 ?side3 ?side4 A32.out).mono ?_
                  (case side1 => repeat (first | exact (by repeat (first | (with_reducible exact HR546_0.out) | (with_reducible refine Kd.C_alloc ?_ _) | (with_reducible refine Kd.C_drewN ?_ _) | (with_reducible refine Kd.C_drew ?_) | exact HR546_0.out)) | (with_reducible refine Kd.C_alloc ?_ _) | (with_reducible refine Kd.C_drewN ?_ _) | (with_reducible refine Kd.C_drew ?_)))
                  (case side2 => exact HC546_0.out)
                  (case side3 => repeat (first | exact (Kd.C_below HR547_0.out HB.out) | (with_reducible refine Kd.C_alloc ?_ _) | (with_reducible refine Kd.C_drewN ?_ _) | (with_reducible refine Kd.C_drew ?_)))
                  (case side4 => exact HC547_0.out)
                  rintro e w34 ⟨rfl, hb⟩
                  have HS0_ := (hb.cell (World.block_lt_of_cell? _ _ (hHeld.1))).trans (hHeld.1)
                  refine ⟨_, rfl, ?_⟩
                  have n0_ := Aside0.mk (Kd.V_below (by (with_reducible repeat (first | apply Kd.V_alloc | apply Kd.V_drewN | apply Kd.V_drew)); exact HO_0.out) hb)
                  have n1_ := Aside0.mk (Kd.V_below (by (with_reducible repeat (first | apply Kd.V_alloc | apply Kd.V_drewN | apply Kd.V_drew)); exact HO_2.out) hb)
                  have n2_ := Aside0.mk (Kd.R_below (by (with_reducible repeat (first | apply Kd.R_alloc | apply Kd.R_drewN | apply Kd.R_drew)); exact HO_7.out) hb)
                  have n3_ := Aside0.mk (Kd.R_below (by (with_reducible repeat (first | apply Kd.R_alloc | apply Kd.R_drewN | apply Kd.R_drew)); exact HO_8.out) hb)
                  have n4_ := Aside0.mk (Kd.V_below (by (with_reducible repeat (first | apply Kd.V_alloc | apply Kd.V_drewN | apply Kd.V_drew)); exact HL546_0.out) hb)
                  have n5_ := Aside0.mk (Kd.C_below (by repeat (first | (with_reducible exact HR546_0.out) | (with_reducible refine Kd.C_alloc ?_ _) | (with_reducible refine Kd.C_drewN ?_ _) | (with_reducible refine Kd.C_drew ?_) | exact HR546_0.out)) hb)
                  have n6_ := Aside0.mk (below_step (by repeat (first | (with_reducible first | exact HB.out | apply below_alloc | apply pw_below_drewN | apply below_drew1) | exact HB.out)) hb)
                  clear HO_0
                  clear HO_2
                  clear HO_7
                  clear HO_8
                  clear HL546_0
                  clear HR546_0
                  clear HB
                  have HO_0 := n0_
                  have HO_2 := n1_
                  have HO_7 := n2_
                  have HO_8 := n3_
                  have HL546_0 := n4_
                  have HR546_0 := n5_
                  have HB := n6_
                  clear n0_ n1_ n2_ n3_ n4_ n5_ n6_
                  (try clear hb)
                  (try clear hb2)
                  (try clear hk)
                  (try clear hi)
                  refine hK.out _ _ ⟨HS0_, ((HB.out.cell (World.block_lt_of_cell? w _ hw547_0)).trans hw547_0)⟩ (fun hHeld => ?_)
                  clear hK K
                  refine norm_ (a' := ?_) ?_ ?_
                  rotate_left
                  ·
                   show Act.put _ (some 80) _ = _
                   simp only [Act.put, List.setIfInBounds_toArray, List.set_cons_zero, List.set_cons_succ, i64_w, i32_w]
                   rfl
                  refine pure_ (i := 28) (N := some 81) (v := ?_) (a' := ?_) #[true, true, true, true, true, true, true, true, true, true, true, true, true, true, true, true, true, true, true, true, true, true, true, true, true, true, true, true, true, false] rfl rfl (any_of HT_.out (by kernel_rfl)) (fun _ _ _ h => h) (Or.inl ⟨by rfl, ?_⟩) ?_ ?_
                  rotate_left
                  ·
                   intro w'
                   go_simp
                   with_reducible rfl
                  rotate_left
                  ·
                   simp only [Act.put, List.setIfInBounds_toArray, List.set_cons_zero, List.set_cons_succ, i64_w, i32_w]
                   rfl
                  refine pure_ (i := 29) (N := some 82) (v := ?_) (a' := ?_) #[true, true, true, true, true, true, true, true, true, true, true, true, true, true, true, true, true, true, true, true, true, true, true, true, true, true, true, true, true, true] rfl rfl (any_of HT_.out (by kernel_rfl)) (fun _ _ _ h => h) (Or.inl ⟨by rfl, ?_⟩) ?_ ?_
                  rotate_left
                  ·
                   intro w'
                   go_simp
                   with_reducible rfl
                  rotate_left
                  ·
                   simp only [Act.put, List.setIfInBounds_toArray, List.set_cons_zero, List.set_cons_succ, i64_w, i32_w]
                   rfl
                  refine done_ (done_of HT_.out (by kernel_rfl)) ?_
                  try go_wp2
                  go_meet
                  case rel => exact ⟨_, ((t548 != 0)), (by first | rfl | (simp; done) | (simp [*]; done)), H', ⟨by have := HJ3.out; have := HK2.out; first | omega | exact Nat.le_refl _⟩, ⟨by (with_reducible repeat (first | apply Kd.V_alloc | apply Kd.V_drewN | apply Kd.V_drew)); exact HO_0.out⟩, ⟨by (with_reducible repeat (first | apply Kd.V_alloc | apply Kd.V_drewN | apply Kd.V_drew)); exact HO_2.out⟩, ⟨by (with_reducible repeat (first | apply Kd.R_alloc | apply Kd.R_drewN | apply Kd.R_drew)); exact HO_7.out⟩, ⟨by (with_reducible repeat (first | apply Kd.R_alloc | apply Kd.R_drewN | apply Kd.R_drew)); exact HO_8.out⟩, ⟨by repeat (first | (with_reducible first | exact HB.out | apply below_alloc | apply pw_below_drewN | apply below_drew1) | exact HB.out)⟩⟩
                 ·
                  rw [if_neg c31] at H
                  exact absurd H (by simp)
                ·
                 rw [if_neg c30] at H
                 exact absurd H (by simp)
               ·
                rw [if_neg c29] at H
                exact absurd H (by simp)
              ·
               rw [if_neg c28] at H
               exact absurd H (by simp)
         case rest =>
          clear HC18
          try clear c1
          try clear c2
          try clear p2
          try clear c3
          try clear c5
          try clear p5
          try clear q5
          try clear hx5
          try clear c18
          try clear c24
          try clear c24b0
          try clear c26
          try clear c26b0
          try clear c28
          try clear c28b0
          try clear c29
          try clear c29b0
          try clear c30
          try clear c30b0
          try clear c31
          try clear c31b0
          try clear hx546_0
          try clear hx547_0
          try clear p546
          try clear p547
          try clear q546
          try clear q547
          obtain ⟨kq, x82_17, rfl, HA, HJ17, HO_0, HO_2, HO_7, HO_8, HB⟩ := hcut
          cases kq with
          | zero => exact absurd HA.out (by simp [tabellionlaw32_JoinerTurns.j2])
          | succ kj17 =>
           have H := HA.out
           clear HA
           simp only [tabellionlaw32_JoinerTurns.j2] at H
           by_cases c35 : x82_17 = true
           ·
            subst c35
            have H1 : (some false) = some r := by rw [if_pos rfl] at H; exact H
            exact absurd H1 (by rw [HRT.out]; simp)
           ·
            replace c35 := Bool.eq_false_iff.mpr c35
            subst c35
            have H1 : (if x9_2 > 0 then (if 0 ≤ (wrap64 (x9_2 - 1)) then (if (wrap64 (x9_2 - 1)) < (t538.length : Int) then (if ((rd_T40 t538 (wrap64 (x9_2 - 1))).f0) > ((rd_T40 t538 x9_2).f0) then (tabellionlaw32_JoinerTurns.j3 kj17 l0 l1 l2 t538 t541 x9_2 ((rd_T40 t538 x9_2).f0) ((rd_T40 t538 x9_2).f1) true) else (if ((rd_T40 t538 (wrap64 (x9_2 - 1))).f0) = ((rd_T40 t538 x9_2).f0) then (tabellionlaw32_JoinerTurns.j3 kj17 l0 l1 l2 t538 t541 x9_2 ((rd_T40 t538 x9_2).f0) ((rd_T40 t538 x9_2).f1) (decide (((rd_T40 t538 (wrap64 (x9_2 - 1))).f1) ≥ ((rd_T40 t538 x9_2).f1)))) else (tabellionlaw32_JoinerTurns.j3 kj17 l0 l1 l2 t538 t541 x9_2 ((rd_T40 t538 x9_2).f0) ((rd_T40 t538 x9_2).f1) false))) else (none)) else (none)) else (tabellionlaw32_JoinerTurns.j3 kj17 l0 l1 l2 t538 t541 x9_2 ((rd_T40 t538 x9_2).f0) ((rd_T40 t538 x9_2).f1) false)) = some r := by rw [if_neg (show ¬ (false = true) by decide)] at H; exact H
            clear H
            have H := H1
            clear H1
            have HC36 := Aside0.mk H
            clear H
            go_upto_region 12 with (fail)
            go_cut [114] (fun v114 wc => ∃ (kq : Nat) (x114_35 : Bool), v114 = .bool x114_35 ∧ Aside0 (tabellionlaw32_JoinerTurns.j3 kq l0 l1 l2 t538 t541 x9_2 ((rd_T40 t538 x9_2).f0) ((rd_T40 t538 x9_2).f1) x114_35 = some r) ∧ Aside0 (kq ≤ kj17) ∧ Aside0 (Kd.V (Kd.slice 44 k44) 33 wc w.heap.size (fun k_ => ((P0_ k_ ∨ P2_ k_) ∨ w.heap.size ≤ k_) ∧ some k_ ≠ ((.slice (some ad544) t538.length co14) : Value).ownBlock ∧ some k_ ≠ ((.slice Ao15 t541.length co15) : Value).ownBlock) (.slice A0 l0.length c0) l0) ∧ Aside0 (Kd.V k44 44 wc w.heap.size (fun k_ => ((P0_ k_ ∨ P2_ k_) ∨ w.heap.size ≤ k_) ∧ some k_ ≠ ((.slice (some ad544) t538.length co14) : Value).ownBlock ∧ some k_ ≠ ((.slice Ao15 t541.length co15) : Value).ownBlock) (.slice A2 l2.length c2) l2) ∧ Aside0 (Kd.R k40 40 wc w.heap.size (fun k_ => (w.heap.size ≤ k_) ∧ some k_ ≠ ((.slice Ao15 t541.length co15) : Value).ownBlock) (.slice (some ad544) t538.length co14) t538) ∧ Aside0 (Kd.R k40 40 wc w.heap.size (fun k_ => (w.heap.size ≤ k_) ∧ some k_ ≠ ((.slice (some ad544) t538.length co14) : Value).ownBlock) (.slice Ao15 t541.length co15) t541) ∧ Aside0 (Below w.heap.size w wc))
            case first =>
             have H := HC36.out
             clear HC36
             by_cases c37 : x9_2 > 0
             ·
              rw [if_pos c37] at H
              have c37b0 : decide (0 < x9_2) = true := decide_eq_true c37
              clear c37
              (first | rw [c37b0] | (simp only [i64_w, i32_w]; rw [c37b0]) | skip)
              obtain ⟨ji38, hji38⟩ : ∃ j_ : Int, (wrap64 (x9_2 - 1)) = j_ := ⟨_, rfl⟩
              replace H : (if 0 ≤ (ji38) then (if (ji38) < (t538.length : Int) then (if ((rd_T40 t538 (ji38)).f0) > ((rd_T40 t538 x9_2).f0) then (tabellionlaw32_JoinerTurns.j3 kj17 l0 l1 l2 t538 t541 x9_2 ((rd_T40 t538 x9_2).f0) ((rd_T40 t538 x9_2).f1) true) else (if ((rd_T40 t538 (ji38)).f0) = ((rd_T40 t538 x9_2).f0) then (tabellionlaw32_JoinerTurns.j3 kj17 l0 l1 l2 t538 t541 x9_2 ((rd_T40 t538 x9_2).f0) ((rd_T40 t538 x9_2).f1) (decide (((rd_T40 t538 (ji38)).f1) ≥ ((rd_T40 t538 x9_2).f1)))) else (tabellionlaw32_JoinerTurns.j3 kj17 l0 l1 l2 t538 t541 x9_2 ((rd_T40 t538 x9_2).f0) ((rd_T40 t538 x9_2).f1) false))) else (none)) else (none)) = some r := by first | (rw [hji38] at H; exact H) | (simp only [hji38] at H ⊢; exact H)
              have hji38w : (IntKind.i64.wrap (x9_2 - 1)) = ji38 := (i64_w _).trans hji38
              by_cases c39 : 0 ≤ (ji38)
              ·
               rw [if_pos c39] at H
               have c39b0 : decide (0 ≤ (ji38)) = true := decide_eq_true c39
               clear c39
               by_cases c40 : (ji38) < (t538.length : Int)
               ·
                rw [if_pos c40] at H
                have c40b0 : decide ((ji38) < (t538.length : Int)) = true := decide_eq_true c40
                clear c40
                by_cases c41 : ((rd_T40 t538 (ji38)).f0) > ((rd_T40 t538 x9_2).f0)
                ·
                 rw [if_pos c41] at H
                 have c41b0 : decide (((rd_T40 t538 x9_2).f0) < ((rd_T40 t538 (ji38)).f0)) = true := decide_eq_true c41
                 clear c41
                 have H' := Aside0.mk H
                 clear H
                 have p549 : 0 ≤ ((ji38) : Int) := of_decide_eq_true (by first | (with_reducible assumption) | assumption)
                 have q549 : (ji38) < (t538.length : Int) := of_decide_eq_true (by first | (with_reducible assumption) | assumption)
                 obtain ⟨ad549, e549, hx549_0, hx549_1⟩ := at_T40 (Kd.R_reads' HO_7.out).2.2 (ji38) p549 q549
                 obtain rfl : ad544 = ad549 := (by injection e549)
                 replace p549 := eq_true p549
                 replace q549 := eq_true q549
                 go_wp2
                 go_meet
                 case rel => exact ⟨_, (true), (by first | rfl | (simp; done) | (simp [*]; done)), H', ⟨by have := HJ3.out; have := HK2.out; have := HJ17.out; first | omega | exact Nat.le_refl _⟩, ⟨by (with_reducible repeat (first | apply Kd.V_alloc | apply Kd.V_drewN | apply Kd.V_drew)); exact HO_0.out⟩, ⟨by (with_reducible repeat (first | apply Kd.V_alloc | apply Kd.V_drewN | apply Kd.V_drew)); exact HO_2.out⟩, ⟨by (with_reducible repeat (first | apply Kd.R_alloc | apply Kd.R_drewN | apply Kd.R_drew)); exact HO_7.out⟩, ⟨by (with_reducible repeat (first | apply Kd.R_alloc | apply Kd.R_drewN | apply Kd.R_drew)); exact HO_8.out⟩, ⟨by repeat (first | (with_reducible first | exact HB.out | apply below_alloc | apply pw_below_drewN | apply below_drew1) | exact HB.out)⟩⟩
                ·
                 rw [if_neg c41] at H
                 have c41b0 : decide (((rd_T40 t538 x9_2).f0) < ((rd_T40 t538 (ji38)).f0)) = false := decide_eq_false c41
                 clear c41
                 by_cases c42 : ((rd_T40 t538 (ji38)).f0) = ((rd_T40 t538 x9_2).f0)
                 ·
                  rw [if_pos c42] at H
                  have c42b0 : (((rd_T40 t538 (ji38)).f0) == ((rd_T40 t538 x9_2).f0)) = true := beq_iff_eq.mpr c42
                  have c42b1 : (((rd_T40 t538 (ji38)).f0) != ((rd_T40 t538 x9_2).f0)) = false := bne_eq_false_iff_eq.mpr c42
                  clear c42
                  have H' := Aside0.mk H
                  clear H
                  have p549 : 0 ≤ ((ji38) : Int) := of_decide_eq_true (by first | (with_reducible assumption) | assumption)
                  have q549 : (ji38) < (t538.length : Int) := of_decide_eq_true (by first | (with_reducible assumption) | assumption)
                  obtain ⟨ad549, e549, hx549_0, hx549_1⟩ := at_T40 (Kd.R_reads' HO_7.out).2.2 (ji38) p549 q549
                  obtain rfl : ad544 = ad549 := (by injection e549)
                  replace p549 := eq_true p549
                  replace q549 := eq_true q549
                  have p550 : 0 ≤ ((ji38) : Int) := of_decide_eq_true (by first | (with_reducible assumption) | assumption)
                  have q550 : (ji38) < (t538.length : Int) := of_decide_eq_true (by first | (with_reducible assumption) | assumption)
                  obtain ⟨ad550, e550, hx550_0, hx550_1⟩ := at_T40 (Kd.R_reads' HO_7.out).2.2 (ji38) p550 q550
                  obtain rfl : ad544 = ad550 := (by injection e550)
                  replace p550 := eq_true p550
                  replace q550 := eq_true q550
                  have p551 : 0 ≤ ((ji38) : Int) := of_decide_eq_true (by first | (with_reducible assumption) | assumption)
                  have q551 : (ji38) < (t538.length : Int) := of_decide_eq_true (by first | (with_reducible assumption) | assumption)
                  obtain ⟨ad551, e551, hx551_0, hx551_1⟩ := at_T40 (Kd.R_reads' HO_7.out).2.2 (ji38) p551 q551
                  obtain rfl : ad544 = ad551 := (by injection e551)
                  replace p551 := eq_true p551
                  replace q551 := eq_true q551
                  go_wp2
                  go_meet
                  case rel => exact ⟨_, (decide (((rd_T40 t538 (ji38)).f1) ≥ ((rd_T40 t538 x9_2).f1))), (by first | rfl | (simp; done) | (simp only [← hji38] <;> (first | rfl | simp)) | (simp [*]; done)), H', ⟨by have := HJ3.out; have := HK2.out; have := HJ17.out; first | omega | exact Nat.le_refl _⟩, ⟨by (with_reducible repeat (first | apply Kd.V_alloc | apply Kd.V_drewN | apply Kd.V_drew)); exact HO_0.out⟩, ⟨by (with_reducible repeat (first | apply Kd.V_alloc | apply Kd.V_drewN | apply Kd.V_drew)); exact HO_2.out⟩, ⟨by (with_reducible repeat (first | apply Kd.R_alloc | apply Kd.R_drewN | apply Kd.R_drew)); exact HO_7.out⟩, ⟨by (with_reducible repeat (first | apply Kd.R_alloc | apply Kd.R_drewN | apply Kd.R_drew)); exact HO_8.out⟩, ⟨by repeat (first | (with_reducible first | exact HB.out | apply below_alloc | apply pw_below_drewN | apply below_drew1) | exact HB.out)⟩⟩
                 ·
                  rw [if_neg c42] at H
                  have c42b0 : (((rd_T40 t538 (ji38)).f0) == ((rd_T40 t538 x9_2).f0)) = false := beq_eq_false_iff_ne.mpr c42
                  have c42b1 : (((rd_T40 t538 (ji38)).f0) != ((rd_T40 t538 x9_2).f0)) = true := bne_iff_ne.mpr c42
                  have H' := Aside0.mk H
                  clear H
                  have p549 : 0 ≤ ((ji38) : Int) := of_decide_eq_true (by first | (with_reducible assumption) | assumption)
                  have q549 : (ji38) < (t538.length : Int) := of_decide_eq_true (by first | (with_reducible assumption) | assumption)
                  obtain ⟨ad549, e549, hx549_0, hx549_1⟩ := at_T40 (Kd.R_reads' HO_7.out).2.2 (ji38) p549 q549
                  obtain rfl : ad544 = ad549 := (by injection e549)
                  replace p549 := eq_true p549
                  replace q549 := eq_true q549
                  have p550 : 0 ≤ ((ji38) : Int) := of_decide_eq_true (by first | (with_reducible assumption) | assumption)
                  have q550 : (ji38) < (t538.length : Int) := of_decide_eq_true (by first | (with_reducible assumption) | assumption)
                  obtain ⟨ad550, e550, hx550_0, hx550_1⟩ := at_T40 (Kd.R_reads' HO_7.out).2.2 (ji38) p550 q550
                  obtain rfl : ad544 = ad550 := (by injection e550)
                  replace p550 := eq_true p550
                  replace q550 := eq_true q550
                  go_wp2
                  go_meet
                  case rel => exact ⟨_, (false), (by first | rfl | (simp; done) | (simp [*]; done)), H', ⟨by have := HJ3.out; have := HK2.out; have := HJ17.out; first | omega | exact Nat.le_refl _⟩, ⟨by (with_reducible repeat (first | apply Kd.V_alloc | apply Kd.V_drewN | apply Kd.V_drew)); exact HO_0.out⟩, ⟨by (with_reducible repeat (first | apply Kd.V_alloc | apply Kd.V_drewN | apply Kd.V_drew)); exact HO_2.out⟩, ⟨by (with_reducible repeat (first | apply Kd.R_alloc | apply Kd.R_drewN | apply Kd.R_drew)); exact HO_7.out⟩, ⟨by (with_reducible repeat (first | apply Kd.R_alloc | apply Kd.R_drewN | apply Kd.R_drew)); exact HO_8.out⟩, ⟨by repeat (first | (with_reducible first | exact HB.out | apply below_alloc | apply pw_below_drewN | apply below_drew1) | exact HB.out)⟩⟩
               ·
                rw [if_neg c40] at H
                exact absurd H (by simp)
              ·
               rw [if_neg c39] at H
               exact absurd H (by simp)
             ·
              rw [if_neg c37] at H
              have c37b0 : decide (0 < x9_2) = false := decide_eq_false c37
              clear c37
              (first | rw [c37b0] | (simp only [i64_w, i32_w]; rw [c37b0]) | skip)
              have H' := Aside0.mk H
              clear H
              go_wp2
              go_meet
              case rel => exact ⟨_, (false), (by first | rfl | (simp; done) | (simp [*]; done)), H', ⟨by have := HJ3.out; have := HK2.out; have := HJ17.out; first | omega | exact Nat.le_refl _⟩, ⟨by (with_reducible repeat (first | apply Kd.V_alloc | apply Kd.V_drewN | apply Kd.V_drew)); exact HO_0.out⟩, ⟨by (with_reducible repeat (first | apply Kd.V_alloc | apply Kd.V_drewN | apply Kd.V_drew)); exact HO_2.out⟩, ⟨by (with_reducible repeat (first | apply Kd.R_alloc | apply Kd.R_drewN | apply Kd.R_drew)); exact HO_7.out⟩, ⟨by (with_reducible repeat (first | apply Kd.R_alloc | apply Kd.R_drewN | apply Kd.R_drew)); exact HO_8.out⟩, ⟨by repeat (first | (with_reducible first | exact HB.out | apply below_alloc | apply pw_below_drewN | apply below_drew1) | exact HB.out)⟩⟩
            case rest =>
             clear HC36
             try clear c1
             try clear c2
             try clear p2
             try clear c3
             try clear c4
             try clear c5
             try clear p5
             try clear q5
             try clear hx5
             try clear p6
             try clear c18
             try clear c24
             try clear c24b0
             try clear c26
             try clear c26b0
             try clear c28
             try clear c28b0
             try clear c29
             try clear c29b0
             try clear c30
             try clear c30b0
             try clear c31
             try clear c31b0
             try clear c35
             try clear c37
             try clear c37b0
             try clear c39
             try clear c39b0
             try clear c40
             try clear c40b0
             try clear c41
             try clear c41b0
             try clear c42
             try clear c42b0
             try clear c42b1
             try clear hx546_0
             try clear hx547_0
             try clear hx549_0
             try clear hx549_1
             try clear hx550_0
             try clear hx550_1
             try clear hx551_0
             try clear hx551_1
             try clear p2
             try clear p5
             try clear p546
             try clear p547
             try clear p549
             try clear p550
             try clear p551
             try clear q5
             try clear q546
             try clear q547
             try clear q549
             try clear q550
             try clear q551
             obtain ⟨kq, x114_35, rfl, HA, HJ35, HO_0, HO_2, HO_7, HO_8, HB⟩ := hcut
             cases kq with
             | zero => exact absurd HA.out (by simp [tabellionlaw32_JoinerTurns.j3])
             | succ kj35 =>
              have H := HA.out
              clear HA
              simp only [tabellionlaw32_JoinerTurns.j3] at H
              by_cases c43 : x114_35 = true
              ·
               subst c43
               have H1 : (some false) = some r := by rw [if_pos rfl] at H; exact H
               exact absurd H1 (by rw [HRT.out]; simp)
              ·
               replace c43 := Bool.eq_false_iff.mpr c43
               subst c43
               have H1 : (tabellionlaw32_JoinerTurns.l1 kj35 l0 l1 l2 t538 t541 x9_2 ((rd_T40 t538 x9_2).f0) ((rd_T40 t538 x9_2).f1) 0 0) = some r := by rw [if_neg (show ¬ (false = true) by decide)] at H; exact H
               clear H
               have H := H1
               clear H1
               have H' := Aside0.mk H
               clear H
               go_wp2
               go_loopg [12, 13] kj35 (fun kq v12 v13 w' => ∃ (x12_5 : Int) (x13_5 : Int), v12 = .int .i64 x12_5 ∧ v13 = .int .i64 x13_5 ∧ Aside0 (tabellionlaw32_JoinerTurns.l1 kq l0 l1 l2 t538 t541 x9_2 ((rd_T40 t538 x9_2).f0) ((rd_T40 t538 x9_2).f1) x12_5 x13_5 = some r) ∧ Aside0 (kq ≤ kj35) ∧ Aside0 (Kd.V (Kd.slice 44 k44) 33 w' w.heap.size (fun k_ => ((P0_ k_ ∨ P2_ k_) ∨ w.heap.size ≤ k_) ∧ some k_ ≠ ((.slice (some ad544) t538.length co14) : Value).ownBlock ∧ some k_ ≠ ((.slice Ao15 t541.length co15) : Value).ownBlock) (.slice A0 l0.length c0) l0) ∧ Aside0 (Kd.V k44 44 w' w.heap.size (fun k_ => ((P0_ k_ ∨ P2_ k_) ∨ w.heap.size ≤ k_) ∧ some k_ ≠ ((.slice (some ad544) t538.length co14) : Value).ownBlock ∧ some k_ ≠ ((.slice Ao15 t541.length co15) : Value).ownBlock) (.slice A2 l2.length c2) l2) ∧ Aside0 (Kd.R k40 40 w' w.heap.size (fun k_ => (w.heap.size ≤ k_) ∧ some k_ ≠ ((.slice Ao15 t541.length co15) : Value).ownBlock) (.slice (some ad544) t538.length co14) t538) ∧ Aside0 (Kd.R k40 40 w' w.heap.size (fun k_ => (w.heap.size ≤ k_) ∧ some k_ ≠ ((.slice (some ad544) t538.length co14) : Value).ownBlock) (.slice Ao15 t541.length co15) t541) ∧ Aside0 (Below w.heap.size w w'))
               case atStart => exact ⟨(0), (0), (by first | rfl | (simp; done) | (simp [*]; done)), (by first | rfl | (simp; done) | (simp [*]; done)), H', ⟨Nat.le_refl _⟩, ⟨by (with_reducible repeat (first | apply Kd.V_alloc | apply Kd.V_drewN | apply Kd.V_drew)); exact HO_0.out⟩, ⟨by (with_reducible repeat (first | apply Kd.V_alloc | apply Kd.V_drewN | apply Kd.V_drew)); exact HO_2.out⟩, ⟨by (with_reducible repeat (first | apply Kd.R_alloc | apply Kd.R_drewN | apply Kd.R_drew)); exact HO_7.out⟩, ⟨by (with_reducible repeat (first | apply Kd.R_alloc | apply Kd.R_drewN | apply Kd.R_drew)); exact HO_8.out⟩, ⟨by repeat (first | (with_reducible first | exact HB.out | apply below_alloc | apply pw_below_drewN | apply below_drew1) | exact HB.out)⟩⟩
               case round =>
                clear H'
                try clear c1
                try clear c2
                try clear p2
                try clear c3
                try clear c4
                try clear c5
                try clear p5
                try clear q5
                try clear hx5
                try clear p6
                try clear c18
                try clear c24
                try clear c24b0
                try clear c26
                try clear c26b0
                try clear c28
                try clear c28b0
                try clear c29
                try clear c29b0
                try clear c30
                try clear c30b0
                try clear c31
                try clear c31b0
                try clear c35
                try clear c37
                try clear c37b0
                try clear c39
                try clear c39b0
                try clear c40
                try clear c40b0
                try clear c41
                try clear c41b0
                try clear c42
                try clear c42b0
                try clear c42b1
                try clear c43
                try clear hx546_0
                try clear hx547_0
                try clear hx549_0
                try clear hx549_1
                try clear hx550_0
                try clear hx550_1
                try clear hx551_0
                try clear hx551_1
                try clear p2
                try clear p5
                try clear p546
                try clear p547
                try clear p549
                try clear p550
                try clear p551
                try clear p6
                try clear q5
                try clear q546
                try clear q547
                try clear q549
                try clear q550
                try clear q551
                obtain ⟨x12_5, x13_5, rfl, rfl, HA, HK5, HO_0, HO_2, HO_7, HO_8, HB⟩ := hrel
                cases gk with
                | zero => exact absurd HA.out (by simp [tabellionlaw32_JoinerTurns.l1])
                | succ k5 =>
                 have H := HA.out
                 clear HA
                 simp only [tabellionlaw32_JoinerTurns.l1] at H
                 by_cases c44 : x13_5 < (t541.length : Int)
                 ·
                  rw [if_pos c44] at H
                  have c44b0 : decide (x13_5 < (t541.length : Int)) = true := decide_eq_true c44
                  clear c44
                  by_cases c45 : 0 ≤ x13_5
                  ·
                   rw [if_pos c45] at H
                   have c45b0 : decide (0 ≤ x13_5) = true := decide_eq_true c45
                   clear c45
                   by_cases c46 : (((rd_T40 t541 x13_5).f0) == ((rd_T40 t538 x9_2).f1) && (((rd_T40 t541 x13_5).f1) == ((rd_T40 t538 x9_2).f0))) = true
                   ·
                    rw [if_pos c46] at H
                    have c46b0 : (((rd_T40 t541 x13_5).f0) == ((rd_T40 t538 x9_2).f1) && (((rd_T40 t541 x13_5).f1) == ((rd_T40 t538 x9_2).f0))) = true := c46
                    (try (have c46b1 : decide (((rd_T40 t541 x13_5).f0) = ((rd_T40 t538 x9_2).f1) && (((rd_T40 t541 x13_5).f1) == ((rd_T40 t538 x9_2).f0))) = true := by simpa using c46))
                    (try (have c46b2 : (((rd_T40 t541 x13_5).f0) == ((rd_T40 t538 x9_2).f1) && (((rd_T40 t541 x13_5).f1) == ((rd_T40 t538 x9_2).f0))) = true := by simpa using c46))
                    clear c46
                    have H' := Aside0.mk H
                    clear H
                    have p552 : 0 ≤ (x13_5 : Int) := of_decide_eq_true (by first | (with_reducible assumption) | assumption)
                    have q552 : x13_5 < (t541.length : Int) := of_decide_eq_true (by first | (with_reducible assumption) | assumption)
                    obtain ⟨ad552, e552, hx552_0, hx552_1⟩ := at_T40 (Kd.R_reads' HO_8.out).2.2 x13_5 p552 q552
                    cases e552
                    replace p552 := eq_true p552
                    replace q552 := eq_true q552
                    go_wp2
                    go_roundg k5
                    case measure => have := HJ3.out; have := HK2.out; have := HJ17.out; have := HJ35.out; have := HK5.out; omega
                    case rel => exact ⟨(wrap64 (x12_5 + 1)), (wrap64 (x13_5 + 1)), (by first | rfl | (simp; done) | (simp [*]; done)), (by first | rfl | (simp; done) | (simp [*]; done)), H', ⟨by have := HJ3.out; have := HK2.out; have := HJ17.out; have := HJ35.out; have := HK5.out; omega⟩, ⟨by (with_reducible repeat (first | apply Kd.V_alloc | apply Kd.V_drewN | apply Kd.V_drew)); exact HO_0.out⟩, ⟨by (with_reducible repeat (first | apply Kd.V_alloc | apply Kd.V_drewN | apply Kd.V_drew)); exact HO_2.out⟩, ⟨by (with_reducible repeat (first | apply Kd.R_alloc | apply Kd.R_drewN | apply Kd.R_drew)); exact HO_7.out⟩, ⟨by (with_reducible repeat (first | apply Kd.R_alloc | apply Kd.R_drewN | apply Kd.R_drew)); exact HO_8.out⟩, ⟨by repeat (first | (with_reducible first | exact HB.out | apply below_alloc | apply pw_below_drewN | apply below_drew1) | exact HB.out)⟩⟩
                   ·
                    rw [if_neg c46] at H
                    have c46b0 : (((rd_T40 t541 x13_5).f0) == ((rd_T40 t538 x9_2).f1) && (((rd_T40 t541 x13_5).f1) == ((rd_T40 t538 x9_2).f0))) = false := by simpa using c46
                    (try (have c46b1 : decide (((rd_T40 t541 x13_5).f0) = ((rd_T40 t538 x9_2).f1) && (((rd_T40 t541 x13_5).f1) == ((rd_T40 t538 x9_2).f0))) = false := by simpa using c46))
                    (try (have c46b2 : (((rd_T40 t541 x13_5).f0) == ((rd_T40 t538 x9_2).f1) && (((rd_T40 t541 x13_5).f1) == ((rd_T40 t538 x9_2).f0))) = false := by simpa using c46))
                    (try (have c46b3 : ¬ (((rd_T40 t541 x13_5).f0) = ((rd_T40 t538 x9_2).f1) && (((rd_T40 t541 x13_5).f1) == ((rd_T40 t538 x9_2).f0))) := by simpa using c46))
                    clear c46
                    have H' := Aside0.mk H
                    clear H
                    have p552 : 0 ≤ (x13_5 : Int) := of_decide_eq_true (by first | (with_reducible assumption) | assumption)
                    have q552 : x13_5 < (t541.length : Int) := of_decide_eq_true (by first | (with_reducible assumption) | assumption)
                    obtain ⟨ad552, e552, hx552_0, hx552_1⟩ := at_T40 (Kd.R_reads' HO_8.out).2.2 x13_5 p552 q552
                    cases e552
                    replace p552 := eq_true p552
                    replace q552 := eq_true q552
                    go_wp2
                    go_roundg k5
                    case measure => have := HJ3.out; have := HK2.out; have := HJ17.out; have := HJ35.out; have := HK5.out; omega
                    case rel => exact ⟨(x12_5), (wrap64 (x13_5 + 1)), (by first | rfl | (simp; done) | (simp [*]; done)), (by first | rfl | (simp; done) | (simp [*]; done)), H', ⟨by have := HJ3.out; have := HK2.out; have := HJ17.out; have := HJ35.out; have := HK5.out; omega⟩, ⟨by (with_reducible repeat (first | apply Kd.V_alloc | apply Kd.V_drewN | apply Kd.V_drew)); exact HO_0.out⟩, ⟨by (with_reducible repeat (first | apply Kd.V_alloc | apply Kd.V_drewN | apply Kd.V_drew)); exact HO_2.out⟩, ⟨by (with_reducible repeat (first | apply Kd.R_alloc | apply Kd.R_drewN | apply Kd.R_drew)); exact HO_7.out⟩, ⟨by (with_reducible repeat (first | apply Kd.R_alloc | apply Kd.R_drewN | apply Kd.R_drew)); exact HO_8.out⟩, ⟨by repeat (first | (with_reducible first | exact HB.out | apply below_alloc | apply pw_below_drewN | apply below_drew1) | exact HB.out)⟩⟩
                  ·
                   rw [if_neg c45] at H
                   exact absurd H (by simp)
                 ·
                  rw [if_neg c44] at H
                  have c44b0 : decide (x13_5 < (t541.length : Int)) = false := decide_eq_false c44
                  clear c44
                  by_cases c47 : x12_5 = 1
                  ·
                   rw [if_pos c47] at H
                   have c47b0 : (x12_5 == 1) = true := beq_iff_eq.mpr c47
                   have c47b1 : (x12_5 != 1) = false := bne_eq_false_iff_eq.mpr c47
                   clear c47
                   have H' := Aside0.mk H
                   clear H
                   go_wp2
                   go_roundg k5
                   case measure => have := HJ3.out; have := HK2.out; have := HJ17.out; have := HJ35.out; have := HK5.out; omega
                   case rel => exact ⟨(wrap64 (x9_2 + 1)), (by first | rfl | (simp; done) | (simp [*]; done)), H', ⟨by have := HJ3.out; have := HK2.out; have := HJ17.out; have := HJ35.out; have := HK5.out; omega⟩, ⟨by (with_reducible repeat (first | apply Kd.V_alloc | apply Kd.V_drewN | apply Kd.V_drew)); exact HO_0.out⟩, ⟨by (with_reducible repeat (first | apply Kd.V_alloc | apply Kd.V_drewN | apply Kd.V_drew)); exact HO_2.out⟩, ⟨by (with_reducible repeat (first | apply Kd.R_alloc | apply Kd.R_drewN | apply Kd.R_drew)); exact HO_7.out⟩, ⟨by (with_reducible repeat (first | apply Kd.R_alloc | apply Kd.R_drewN | apply Kd.R_drew)); exact HO_8.out⟩, ⟨by repeat (first | (with_reducible first | exact HB.out | apply below_alloc | apply pw_below_drewN | apply below_drew1) | exact HB.out)⟩⟩
                  ·
                   rw [if_neg c47] at H
                   exact absurd (Option.some.inj H) (by rw [HRT.out]; simp)
        ·
         rw [if_neg c17] at H
         exact absurd H (by simp)
       ·
        rw [if_neg c16] at H
        have c16b0 : decide (x9_2 < (t538.length : Int)) = false := decide_eq_false c16
        clear c16
        obtain ⟨y553, hy553⟩ : ∃ y_ : List (List (S44)), y_ = (([] : List (List (S44)))) := ⟨_, rfl⟩
        replace H : (if y553.length + l0.length < 5864062014805 then ((some (y553 ++ l0 : List (List (S44)))).bind fun y556 => (if y556.length < 5864062014805 then ((joiner_Nest.f k2 (y556 ++ [l2]) l1).bind fun t562 => (tabellionlaw32_JoinerTurns.l2 k2 l0 t538 t562 0 0)) else (none))) else (none)) = some r := by first | (rw [hy553]; with_reducible exact H) | (have H2_ := (Option.bind_some _ _).symm.trans H; rw [hy553]; with_reducible exact H2_) | (have H2_ := (Option.bind_some _ _).symm.trans H; with_reducible exact H2_) | with_reducible exact H | (rw [hy553]; exact H) | exact H
        have Ny553 := Aside0.mk hy553
        clear hy553
        by_cases c48 : y553.length + l0.length < 5864062014805
        ·
         rw [if_pos c48] at H
         have LMc48 := Aside0.mk c48
         clear c48
         obtain ⟨y556, hy556⟩ : ∃ y_ : List (List (S44)), y_ = (y553 ++ l0) := ⟨_, rfl⟩
         replace H : (if y556.length < 5864062014805 then ((joiner_Nest.f k2 (y556 ++ [l2]) l1).bind fun t562 => (tabellionlaw32_JoinerTurns.l2 k2 l0 t538 t562 0 0)) else (none)) = some r := by first | (rw [hy556]; with_reducible exact H) | (have H2_ := (Option.bind_some _ _).symm.trans H; rw [hy556]; with_reducible exact H2_) | (have H2_ := (Option.bind_some _ _).symm.trans H; with_reducible exact H2_) | with_reducible exact H | (rw [hy556]; exact H) | exact H
         have Ny556 := Aside0.mk hy556
         clear hy556
         by_cases c49 : y556.length < 5864062014805
         ·
          rw [if_pos c49] at H
          have LMc49 := Aside0.mk c49
          clear c49
          obtain ⟨y559, hy559⟩ : ∃ y_ : List (List (S44)), y_ = (y556 ++ [l2]) := ⟨_, rfl⟩
          replace H : ((joiner_Nest.f k2 y559 l1).bind fun t562 => (tabellionlaw32_JoinerTurns.l2 k2 l0 t538 t562 0 0)) = some r := by first | (rw [hy559]; with_reducible exact H) | (have H2_ := (Option.bind_some _ _).symm.trans H; rw [hy559]; with_reducible exact H2_) | (have H2_ := (Option.bind_some _ _).symm.trans H; with_reducible exact H2_) | with_reducible exact H | (rw [hy559]; exact H) | exact H
          have Ny559 := Aside0.mk hy559
          clear hy559
          replace H := Option.bind_eq_some_iff.mp H
          obtain ⟨t562, A500, H⟩ := H
          replace H : (tabellionlaw32_JoinerTurns.l2 k2 l0 t538 t562 0 0) = some r := H
          have A50 := Aside0.mk A500
          clear A500
          have H' := Aside0.mk H
          clear H
          go_wp2_with (first | ((with_reducible refine gate_dst (N := 133) rfl ?_); (try (refine gate_guard (by rfl) ?_; dsimp only)); refine Kd.N_lit (Kd.slice 44 k44) _ 33 ?hg (N' := 133) ?hd (xs := ([] : List (List (S44)))) (inner := []) (ok := (fun k_ => ((P0_ k_ ∨ P2_ k_) ∨ w.heap.size ≤ k_) ∧ some k_ ≠ (.slice Ao14 t538.length co14 : Value).ownBlock ∧ some k_ ≠ (.slice Ao15 t541.length co15 : Value).ownBlock)) (okp := (fun k_ => ((P0_ k_ ∨ P2_ k_) ∨ w.heap.size ≤ k_) ∧ some k_ ≠ (.slice Ao14 t538.length co14 : Value).ownBlock ∧ some k_ ≠ (.slice Ao15 t541.length co15 : Value).ownBlock)) ?hr ?hp (fun _ hk => hk) ((show ∀ k_, wr.heap.size ≤ k_ → (fun k_ => ((P0_ k_ ∨ P2_ k_) ∨ w.heap.size ≤ k_) ∧ some k_ ≠ (.slice Ao14 t538.length co14 : Value).ownBlock ∧ some k_ ≠ (.slice Ao15 t541.length co15 : Value).ownBlock) k_ from fun k_ hk => ⟨(.inr (Nat.le_trans (below_size (by repeat (first | (with_reducible first | exact HB.out | apply below_alloc | apply pw_below_drewN | apply below_drew1) | exact HB.out))) hk)), Kd.fresh' (Kd.R_lt (by (with_reducible repeat (first | apply Kd.R_alloc | apply Kd.R_drewN | apply Kd.R_drew)); exact HO_7.out)) k_ hk, Kd.fresh' (Kd.R_lt (by (with_reducible repeat (first | apply Kd.R_alloc | apply Kd.R_drewN | apply Kd.R_drew)); exact HO_8.out)) k_ hk⟩) _ (Nat.le_refl _)) (Below.refl _ _) (Nat.le_refl _) (by simp) ?_; (case hd => rfl); (case hg => rfl); (case hr => first | (go_simp; done) | (go_simp; rfl)); (case hp => exact (Reps.none _ _)); intro v554 w51 ho52 hb hg_ hnew_; clear hg_ hnew_; (first | rw [← Ny553.out] at ho52 | (simp only [Int.reduceToNat] at ho52; rw [← Ny553.out] at ho52)); have n0_ := Aside0.mk (Kd.V_elder' (by (with_reducible repeat (first | apply Kd.V_alloc | apply Kd.V_drewN | apply Kd.V_drew)); exact HO_0.out) (Kd.N_base ho52) hb); have n1_ := Aside0.mk (Kd.V_elder' (by (with_reducible repeat (first | apply Kd.V_alloc | apply Kd.V_drewN | apply Kd.V_drew)); exact HO_2.out) (Kd.N_base ho52) hb); have n2_ := Aside0.mk (Kd.R_below (by (with_reducible repeat (first | apply Kd.R_alloc | apply Kd.R_drewN | apply Kd.R_drew)); exact HO_7.out) hb); have n3_ := Aside0.mk (Kd.R_below (by (with_reducible repeat (first | apply Kd.R_alloc | apply Kd.R_drewN | apply Kd.R_drew)); exact HO_8.out) hb); have n4_ := Aside0.mk (Kd.N_lower ho52 (below_size (by repeat (first | (with_reducible first | exact HB.out | apply below_alloc | apply pw_below_drewN | apply below_drew1) | exact HB.out)))); have n5_ := Aside0.mk (below_step (by repeat (first | (with_reducible first | exact HB.out | apply below_alloc | apply pw_below_drewN | apply below_drew1) | exact HB.out)) hb); clear HO_0; clear HO_2; clear HO_7; clear HO_8; clear HB; have HO_0 := n0_; have HO_2 := n1_; have HO_7 := n2_; have HO_8 := n3_; have HO555 := n4_; have HB := n5_; clear n0_ n1_ n2_ n3_ n4_ n5_; clear hb ho52) | ((with_reducible refine gate_builtin (b := .append) (xs := #[.tmp 133, .tmp 134]) rfl ?_); (try (refine gate_guard (by rfl) ?_; dsimp only)); at_builtin; refine Kd.N_append_rows (Kd.slice 44 k44) (w0 := w) w.heap.size rfl (.tmp 133) (.tmp 134) 22 33 (.slice none 0 0) 24 rfl Tryd.underlying22 info33 rfl (by decide) (by omega) v554 y553 l0 _ _ _ (fun k_ => ((P0_ k_ ∨ P2_ k_) ∨ w.heap.size ≤ k_) ∧ some k_ ≠ (.slice Ao14 t538.length co14 : Value).ownBlock ∧ some k_ ≠ (.slice Ao15 t541.length co15 : Value).ownBlock) (fun k_ => ((fun k_ => ((P0_ k_ ∨ P2_ k_) ∨ w.heap.size ≤ k_) ∧ some k_ ≠ (.slice Ao14 t538.length co14 : Value).ownBlock ∧ some k_ ≠ (.slice Ao15 t541.length co15 : Value).ownBlock)) k_ ∧ some k_ ≠ (v554 : Value).ownBlock) rfl rfl ?aO ?aR (fun _ hk => hk) ?aF ?aB ?aS ?aL ?_; (case aR => exact (by skip; exact Kd.V_F (Kd.V_mono (ok' := (fun k_ => ((fun k_ => ((P0_ k_ ∨ P2_ k_) ∨ w.heap.size ≤ k_) ∧ some k_ ≠ (.slice Ao14 t538.length co14 : Value).ownBlock ∧ some k_ ≠ (.slice Ao15 t541.length co15 : Value).ownBlock)) k_ ∧ some k_ ≠ (v554 : Value).ownBlock)) (HO_0.out) (fun k_ hk => ⟨⟨hk.1.1, ⟨hk.1.2.1, hk.1.2.2⟩⟩, hk.2⟩)))); (case aB => exact (by repeat (first | (with_reducible first | exact HB.out | apply below_alloc | apply pw_below_drewN | apply below_drew1) | exact HB.out))); (case aF => exact (fun k_ hk => ⟨(.inr (Nat.le_trans (below_size (by repeat (first | (with_reducible first | exact HB.out | apply below_alloc | apply pw_below_drewN | apply below_drew1) | exact HB.out))) hk)), Kd.fresh' (Kd.R_lt (by (with_reducible repeat (first | apply Kd.R_alloc | apply Kd.R_drewN | apply Kd.R_drew)); exact HO_7.out)) k_ hk, Kd.fresh' (Kd.R_lt (by (with_reducible repeat (first | apply Kd.R_alloc | apply Kd.R_drewN | apply Kd.R_drew)); exact HO_8.out)) k_ hk⟩)); (case aO => exact (by (with_reducible repeat (first | apply Kd.N_alloc | apply Kd.N_drewN | apply Kd.N_drew)); exact HO555.out)); (case aS => exact (below_size (by repeat (first | (with_reducible first | exact HB.out | apply below_alloc | apply pw_below_drewN | apply below_drew1) | exact HB.out)))); (case aL => have := LMc48.out; omega); intro v557 w53 ho hb hg hat; rw [← Ny556.out] at ho; have n0_ := Aside0.mk (Kd.V_afterv (ok := (fun k_ => ((P0_ k_ ∨ P2_ k_) ∨ w.heap.size ≤ k_) ∧ some k_ ≠ (.slice Ao14 t538.length co14 : Value).ownBlock ∧ some k_ ≠ (.slice Ao15 t541.length co15 : Value).ownBlock)) (by (with_reducible repeat (first | apply Kd.V_alloc | apply Kd.V_drewN | apply Kd.V_drew)); exact HO_0.out) hg hat); have n1_ := Aside0.mk (Kd.V_afterv (ok := (fun k_ => ((P0_ k_ ∨ P2_ k_) ∨ w.heap.size ≤ k_) ∧ some k_ ≠ (.slice Ao14 t538.length co14 : Value).ownBlock ∧ some k_ ≠ (.slice Ao15 t541.length co15 : Value).ownBlock)) (by (with_reducible repeat (first | apply Kd.V_alloc | apply Kd.V_drewN | apply Kd.V_drew)); exact HO_2.out) hg hat); have n2_ := Aside0.mk (Kd.R_over' (by (with_reducible repeat (first | apply Kd.R_alloc | apply Kd.R_drewN | apply Kd.R_drew)); exact HO_7.out) (Kd.N_typed (by (with_reducible repeat (first | apply Kd.N_alloc | apply Kd.N_drewN | apply Kd.N_drew)); exact HO555.out)) (by decide) hg); have n3_ := Aside0.mk (Kd.R_over' (by (with_reducible repeat (first | apply Kd.R_alloc | apply Kd.R_drewN | apply Kd.R_drew)); exact HO_8.out) (Kd.N_typed (by (with_reducible repeat (first | apply Kd.N_alloc | apply Kd.N_drewN | apply Kd.N_drew)); exact HO555.out)) (by decide) hg); have n4_ := Aside0.mk (hb); have n5_ := Aside0.mk (ho); clear HO_0; clear HO_2; clear HO_7; clear HO_8; clear HB; clear HO555; have HO_0 := n0_; have HO_2 := n1_; have HO_7 := n2_; have HO_8 := n3_; have HB := n4_; have HO558 := n5_; clear n0_ n1_ n2_ n3_ n4_ n5_; clear ho hb hg hat) | ((with_reducible refine gate_builtin (b := .append) (xs := #[.tmp 135, .tmp 137]) rfl ?_); (try (refine gate_guard (by rfl) ?_; dsimp only)); at_builtin; refine Kd.N_append (Kd.slice 44 k44) (w0 := w) w.heap.size rfl (.tmp 135) (.tmp 137) 22 33 (.slice none 0 0) 24 rfl Tryd.underlying22 info33 rfl (by decide) (by omega) v557 y556 l2 [.slice A2 l2.length c2] (fun k_ => ((P0_ k_ ∨ P2_ k_) ∨ w.heap.size ≤ k_) ∧ some k_ ≠ (.slice Ao14 t538.length co14 : Value).ownBlock ∧ some k_ ≠ (.slice Ao15 t541.length co15 : Value).ownBlock) (fun k_ => ((fun k_ => ((P0_ k_ ∨ P2_ k_) ∨ w.heap.size ≤ k_) ∧ some k_ ≠ (.slice Ao14 t538.length co14 : Value).ownBlock ∧ some k_ ≠ (.slice Ao15 t541.length co15 : Value).ownBlock)) k_ ∧ some k_ ≠ (v557 : Value).ownBlock) rfl rfl ?aP (fun _ hk => hk) ?aF ?aO ?aB ?aS ?aL ?_; (case aP => exact (Kd.FK_slice_mk (Kd.V_reads' (Kd.V_mono (ok' := (fun k_ => ((fun k_ => ((P0_ k_ ∨ P2_ k_) ∨ w.heap.size ≤ k_) ∧ some k_ ≠ (.slice Ao14 t538.length co14 : Value).ownBlock ∧ some k_ ≠ (.slice Ao15 t541.length co15 : Value).ownBlock)) k_ ∧ some k_ ≠ (v557 : Value).ownBlock)) (HO_2.out) (fun k_ hk => ⟨⟨hk.1.1, ⟨hk.1.2.1, hk.1.2.2⟩⟩, hk.2⟩))).2.1 (Kd.V_F (Kd.V_mono (ok' := (fun k_ => ((fun k_ => ((P0_ k_ ∨ P2_ k_) ∨ w.heap.size ≤ k_) ∧ some k_ ≠ (.slice Ao14 t538.length co14 : Value).ownBlock ∧ some k_ ≠ (.slice Ao15 t541.length co15 : Value).ownBlock)) k_ ∧ some k_ ≠ (v557 : Value).ownBlock)) (HO_2.out) (fun k_ hk => ⟨⟨hk.1.1, ⟨hk.1.2.1, hk.1.2.2⟩⟩, hk.2⟩))))); (case aB => exact (by repeat (first | (with_reducible first | exact HB.out | apply below_alloc | apply pw_below_drewN | apply below_drew1) | exact HB.out))); (case aF => exact (fun k_ hk => ⟨(.inr (Nat.le_trans (below_size (by repeat (first | (with_reducible first | exact HB.out | apply below_alloc | apply pw_below_drewN | apply below_drew1) | exact HB.out))) hk)), Kd.fresh' (Kd.R_lt (by (with_reducible repeat (first | apply Kd.R_alloc | apply Kd.R_drewN | apply Kd.R_drew)); exact HO_7.out)) k_ hk, Kd.fresh' (Kd.R_lt (by (with_reducible repeat (first | apply Kd.R_alloc | apply Kd.R_drewN | apply Kd.R_drew)); exact HO_8.out)) k_ hk⟩)); (case aO => exact (by (with_reducible repeat (first | apply Kd.N_alloc | apply Kd.N_drewN | apply Kd.N_drew)); exact HO558.out)); (case aS => exact (below_size (by repeat (first | (with_reducible first | exact HB.out | apply below_alloc | apply pw_below_drewN | apply below_drew1) | exact HB.out)))); (case aL => have := LMc49.out; omega); intro v560 w54 ho hb hg hat; rw [← Ny559.out] at ho; have n0_ := Aside0.mk (Kd.V_afterv (ok := (fun k_ => ((P0_ k_ ∨ P2_ k_) ∨ w.heap.size ≤ k_) ∧ some k_ ≠ (.slice Ao14 t538.length co14 : Value).ownBlock ∧ some k_ ≠ (.slice Ao15 t541.length co15 : Value).ownBlock)) (by (with_reducible repeat (first | apply Kd.V_alloc | apply Kd.V_drewN | apply Kd.V_drew)); exact HO_0.out) hg hat); have n1_ := Aside0.mk (Kd.V_afterv (ok := (fun k_ => ((P0_ k_ ∨ P2_ k_) ∨ w.heap.size ≤ k_) ∧ some k_ ≠ (.slice Ao14 t538.length co14 : Value).ownBlock ∧ some k_ ≠ (.slice Ao15 t541.length co15 : Value).ownBlock)) (by (with_reducible repeat (first | apply Kd.V_alloc | apply Kd.V_drewN | apply Kd.V_drew)); exact HO_2.out) hg hat); have n2_ := Aside0.mk (Kd.R_over' (by (with_reducible repeat (first | apply Kd.R_alloc | apply Kd.R_drewN | apply Kd.R_drew)); exact HO_7.out) (Kd.N_typed (by (with_reducible repeat (first | apply Kd.N_alloc | apply Kd.N_drewN | apply Kd.N_drew)); exact HO558.out)) (by decide) hg); have n3_ := Aside0.mk (Kd.R_over' (by (with_reducible repeat (first | apply Kd.R_alloc | apply Kd.R_drewN | apply Kd.R_drew)); exact HO_8.out) (Kd.N_typed (by (with_reducible repeat (first | apply Kd.N_alloc | apply Kd.N_drewN | apply Kd.N_drew)); exact HO558.out)) (by decide) hg); have n4_ := Aside0.mk (hb); have n5_ := Aside0.mk (ho); clear HO_0; clear HO_2; clear HO_7; clear HO_8; clear HB; clear HO558; have HO_0 := n0_; have HO_2 := n1_; have HO_7 := n2_; have HO_8 := n3_; have HB := n4_; have HO561 := n5_; clear n0_ n1_ n2_ n3_ n4_ n5_; clear ho hb hg hat; obtain ⟨Ao55, co55, eo55⟩ := Kd.N_slice HO561.out; subst eo55) | ((with_reducible refine gate_callee (f := 22) rfl ?_); refine goesL_ (some 140) rfl rfl Tryd.func22 (by kernel_rfl) rfl #[.slice Ao55 y559.length co55, .slice A1 l1.length c1] rfl (by (try simp only [List.map_toArray, List.map_cons, List.map_nil]); first | done | rfl | (simp only [List.length_drop, List.length_take]; rfl)) ?_; (with_reducible refine (joiner_Nest.calls k2 _ _ y559 _ _ l1 t562 _ ?side1 ?side2 ?side3 ?side4 A50.out).mono ?_); (case side1 => repeat (first | exact (Kd.N_reads' HO561.out).2.2 | (with_reducible refine Kd.C_alloc ?_ _) | (with_reducible refine Kd.C_drewN ?_ _) | (with_reducible refine Kd.C_drew ?_))); (case side2 => exact (Kd.N_reads' HO561.out).2.1); (case side3 => repeat (first | exact (Kd.C_below HR1.out HB.out) | (with_reducible refine Kd.C_alloc ?_ _) | (with_reducible refine Kd.C_drewN ?_ _) | (with_reducible refine Kd.C_drew ?_))); (case side4 => exact HC1.out); rintro e w56 ⟨v563, rfl, ho0, hb⟩; refine ⟨_, rfl, ?_⟩; have n0_ := Aside0.mk (Kd.V_elder' (by (with_reducible repeat (first | apply Kd.V_alloc | apply Kd.V_drewN | apply Kd.V_drew)); exact HO_0.out) (Kd.R_base ho0) hb); have n1_ := Aside0.mk (Kd.V_elder' (by (with_reducible repeat (first | apply Kd.V_alloc | apply Kd.V_drewN | apply Kd.V_drew)); exact HO_2.out) (Kd.R_base ho0) hb); have n2_ := Aside0.mk (Kd.R_elder' (by (with_reducible repeat (first | apply Kd.R_alloc | apply Kd.R_drewN | apply Kd.R_drew)); exact HO_7.out) (Kd.R_base ho0) hb); have n3_ := Aside0.mk (Kd.R_elder' (by (with_reducible repeat (first | apply Kd.R_alloc | apply Kd.R_drewN | apply Kd.R_drew)); exact HO_8.out) (Kd.R_base ho0) hb); have n4_ := Aside0.mk (Kd.N_elder' (by (with_reducible repeat (first | apply Kd.N_alloc | apply Kd.N_drewN | apply Kd.N_drew)); exact HO561.out) (Kd.R_base ho0) hb); have n5_ := Aside0.mk (Kd.R_lower (Kd.R_new' (Kd.R_new' (Kd.R_newM (M := fun k_ => (w.heap.size ≤ k_)) ho0 (below_size (by repeat (first | (with_reducible first | exact HB.out | apply below_alloc | apply pw_below_drewN | apply below_drew1) | exact HB.out))) (fun k_ h_ => h_)) (Kd.R_lt (by (with_reducible repeat (first | apply Kd.R_alloc | apply Kd.R_drewN | apply Kd.R_drew)); exact HO_7.out))) (Kd.R_lt (by (with_reducible repeat (first | apply Kd.R_alloc | apply Kd.R_drewN | apply Kd.R_drew)); exact HO_8.out))) (below_size (by repeat (first | (with_reducible first | exact HB.out | apply below_alloc | apply pw_below_drewN | apply below_drew1) | exact HB.out)))); have n6_ := Aside0.mk (below_step (by repeat (first | (with_reducible first | exact HB.out | apply below_alloc | apply pw_below_drewN | apply below_drew1) | exact HB.out)) hb); clear HO_0; clear HO_2; clear HO_7; clear HO_8; clear HO561; clear HB; have HO_0 := n0_; have HO_2 := n1_; have HO_7 := n2_; have HO_8 := n3_; have HO561 := n4_; have HO564 := n5_; have HB := n6_; clear n0_ n1_ n2_ n3_ n4_ n5_ n6_; (try clear hb); (try clear hb2); (try clear hk); (try clear hi); (try clear ho0)))
          go_loopg [15, 16] k2 (fun kq v15 v16 w' => ∃ (x15_3 : Int) (x16_3 : Int), v15 = .int .i64 x15_3 ∧ v16 = .int .i64 x16_3 ∧ Aside0 (tabellionlaw32_JoinerTurns.l2 kq l0 t538 t562 x15_3 x16_3 = some r) ∧ Aside0 (kq ≤ k2) ∧ Aside0 (Kd.V (Kd.slice 44 k44) 33 w' w.heap.size (fun k_ => ((P0_ k_ ∨ P2_ k_) ∨ w.heap.size ≤ k_) ∧ some k_ ≠ ((.slice Ao14 t538.length co14) : Value).ownBlock ∧ some k_ ≠ (v563 : Value).ownBlock) (.slice A0 l0.length c0) l0) ∧ Aside0 (Kd.R k40 40 w' w.heap.size (fun k_ => (w.heap.size ≤ k_) ∧ some k_ ≠ (v563 : Value).ownBlock) (.slice Ao14 t538.length co14) t538) ∧ Aside0 (Kd.R k40 40 w' w.heap.size (fun k_ => (w.heap.size ≤ k_) ∧ some k_ ≠ ((.slice Ao14 t538.length co14) : Value).ownBlock) v563 t562) ∧ Aside0 (Below w.heap.size w w'))
          case atStart => exact ⟨(0), (0), (by first | rfl | (simp; done) | (simp [*]; done)), (by first | rfl | (simp; done) | (simp [*]; done)), H', ⟨Nat.le_refl _⟩, ⟨by (with_reducible repeat (first | apply Kd.V_alloc | apply Kd.V_drewN | apply Kd.V_drew)); exact Kd.V_mono HO_0.out (fun _ hk => ⟨hk.1.1.1, ⟨hk.1.1.2.1, hk.2⟩⟩)⟩, ⟨by (with_reducible repeat (first | apply Kd.R_alloc | apply Kd.R_drewN | apply Kd.R_drew)); exact Kd.R_mono HO_7.out (fun _ hk => ⟨hk.1.1, hk.2⟩)⟩, ⟨by (with_reducible repeat (first | apply Kd.R_alloc | apply Kd.R_drewN | apply Kd.R_drew)); exact Kd.R_mono HO564.out (fun _ hk => ⟨hk.1.1.1, hk.1.2⟩)⟩, ⟨by repeat (first | (with_reducible first | exact HB.out | apply below_alloc | apply pw_below_drewN | apply below_drew1) | exact HB.out)⟩⟩
          case round =>
           clear H'
           try clear c1
           try clear c2
           try clear p2
           try clear c3
           try clear c4
           try clear c5
           try clear p5
           try clear q5
           try clear hx5
           try clear p6
           try clear c16
           try clear c16b0
           try clear c17
           try clear c18
           try clear c22
           try clear c24
           try clear c24b0
           try clear c26
           try clear c26b0
           try clear c28
           try clear c28b0
           try clear c29
           try clear c29b0
           try clear c30
           try clear c30b0
           try clear c31
           try clear c31b0
           try clear c35
           try clear c37
           try clear c37b0
           try clear c39
           try clear c39b0
           try clear c40
           try clear c40b0
           try clear c41
           try clear c41b0
           try clear c42
           try clear c42b0
           try clear c42b1
           try clear c43
           try clear c44
           try clear c44b0
           try clear c45
           try clear c45b0
           try clear c46
           try clear c46b0
           try clear c46b1
           try clear c46b2
           try clear c47
           try clear c47b0
           try clear c47b1
           try clear c48
           try clear c49
           try clear c54
           try clear p54
           try clear q54
           try clear hx54
           try clear p55
           try clear q55
           try clear hx55
           try clear hx546_0
           try clear hx547_0
           try clear hx549_0
           try clear hx549_1
           try clear hx550_0
           try clear hx550_1
           try clear hx551_0
           try clear hx551_1
           try clear hx552_0
           try clear hx552_1
           try clear p2
           try clear p5
           try clear p546
           try clear p547
           try clear p549
           try clear p550
           try clear p551
           try clear p552
           try clear p6
           try clear q5
           try clear q546
           try clear q547
           try clear q549
           try clear q550
           try clear q551
           try clear q552
           obtain ⟨x15_3, x16_3, rfl, rfl, HA, HK3, HO_0, HO_7, HO_14, HB⟩ := hrel
           cases gk with
           | zero => exact absurd HA.out (by simp [tabellionlaw32_JoinerTurns.l2])
           | succ k3 =>
            have H := HA.out
            clear HA
            simp only [tabellionlaw32_JoinerTurns.l2] at H
            by_cases c57 : x16_3 < (t562.length : Int)
            ·
             rw [if_pos c57] at H
             have c57b0 : decide (x16_3 < (t562.length : Int)) = true := decide_eq_true c57
             clear c57
             by_cases c58 : 0 ≤ x16_3
             ·
              rw [if_pos c58] at H
              have c58b0 : decide (0 ≤ x16_3) = true := decide_eq_true c58
              clear c58
              by_cases c59 : ((rd_T40 t562 x16_3).f0) < (l0.length : Int)
              ·
               rw [if_pos c59] at H
               have c59b0 : decide (((rd_T40 t562 x16_3).f0) < (l0.length : Int)) = true := decide_eq_true c59
               clear c59
               by_cases c60 : x15_3 ≥ (t538.length : Int)
               ·
                rw [if_pos c60] at H
                exact absurd (Option.some.inj H) (by rw [HRT.out]; simp)
               ·
                rw [if_neg c60] at H
                have c60b0 : decide ((t538.length : Int) ≤ x15_3) = false := decide_eq_false c60
                clear c60
                by_cases c63 : 0 ≤ x15_3
                ·
                 rw [if_pos c63] at H
                 have c63b0 : decide (0 ≤ x15_3) = true := decide_eq_true c63
                 clear c63
                 by_cases c64 : x15_3 < (t538.length : Int)
                 ·
                  rw [if_pos c64] at H
                  have c64b0 : decide (x15_3 < (t538.length : Int)) = true := decide_eq_true c64
                  clear c64
                  by_cases c65 : (!(((rd_T40 t538 x15_3).f0) == ((rd_T40 t562 x16_3).f0)) || (!(((rd_T40 t538 x15_3).f1) == ((rd_T40 t562 x16_3).f1)))) = true
                  ·
                   rw [if_pos c65] at H
                   exact absurd (Option.some.inj H) (by rw [HRT.out]; simp)
                  ·
                   rw [if_neg c65] at H
                   have c65b0 : (!(((rd_T40 t538 x15_3).f0) == ((rd_T40 t562 x16_3).f0)) || (!(((rd_T40 t538 x15_3).f1) == ((rd_T40 t562 x16_3).f1)))) = false := by simpa using c65
                   clear c65
                   have H' := Aside0.mk H
                   clear H
                   obtain ⟨Ao68, co68, eo68⟩ := Kd.R_slice HO_14.out
                   subst eo68
                   have p566 : 0 ≤ (x16_3 : Int) := of_decide_eq_true (by first | (with_reducible assumption) | assumption)
                   have q566 : x16_3 < (t562.length : Int) := of_decide_eq_true (by first | (with_reducible assumption) | assumption)
                   obtain ⟨ad566, e566, hx566_0, hx566_1⟩ := at_T40 (Kd.R_reads' HO_14.out).2.2 x16_3 p566 q566
                   cases e566
                   replace p566 := eq_true p566
                   replace q566 := eq_true q566
                   try go_wp2
                   have n0_ := Aside0.mk (Kd.V_drew HO_0.out)
                   have n1_ := Aside0.mk (Kd.R_drew HO_7.out)
                   have n2_ := Aside0.mk (Kd.R_drew HO_14.out)
                   have n3_ := Aside0.mk (below_drew1 HB.out)
                   clear HO_0
                   clear HO_7
                   clear HO_14
                   clear HB
                   have HO_0 := n0_
                   have HO_7 := n1_
                   have HO_14 := n2_
                   have HB := n3_
                   clear n0_ n1_ n2_ n3_
                   have p567 : 0 ≤ (x15_3 : Int) := of_decide_eq_true (by first | (with_reducible assumption) | assumption)
                   have q567 : x15_3 < (t538.length : Int) := of_decide_eq_true (by first | (with_reducible assumption) | assumption)
                   obtain ⟨ad567, e567, hx567_0, hx567_1⟩ := at_T40 (Kd.R_reads' HO_7.out).2.2 x15_3 p567 q567
                   cases e567
                   replace p567 := eq_true p567
                   replace q567 := eq_true q567
                   have p568 : 0 ≤ (x16_3 : Int) := of_decide_eq_true (by first | (with_reducible assumption) | assumption)
                   have q568 : x16_3 < (t562.length : Int) := of_decide_eq_true (by first | (with_reducible assumption) | assumption)
                   obtain ⟨ad568, e568, hx568_0, hx568_1⟩ := at_T40 (Kd.R_reads' HO_14.out).2.2 x16_3 p568 q568
                   obtain rfl : ad566 = ad568 := (by injection e568)
                   replace p568 := eq_true p568
                   replace q568 := eq_true q568
                   refine start_ (n := 15) (S := fun w' => w'.cell? (ad567.add ((x15_3).toNat * 2)) = some (.int .i64 ((rd_T40 t538 x15_3).f0)) ∧ w'.cell? ⟨(ad567.add ((x15_3).toNat * 2)).block, (ad567.add ((x15_3).toNat * 2)).off + 1, none⟩ = some (.int .i64 ((rd_T40 t538 x15_3).f1)) ∧ w'.cell? (ad566.add ((x16_3).toNat * 2)) = some (.int .i64 ((rd_T40 t562 x16_3).f0)) ∧ w'.cell? ⟨(ad566.add ((x16_3).toNat * 2)).block, (ad566.add ((x16_3).toNat * 2)).off + 1, none⟩ = some (.int .i64 ((rd_T40 t562 x16_3).f1))) (ds := []) #[false, false, false, false, false, false, false, false, false, false, false, false, false, false, false] (by kernel_rfl) rfl rfl ⟨hx567_0, hx567_1, hx568_0, hx568_1⟩ (fun hHeld => ?_); refine with_tabW tabellionlaw32_JoinerTurns.tab28 tabellionlaw32_JoinerTurns.bits28 (fun HT_ HW_ => ?_)
                   generalize wr.drew = w69 at HO_0 HO_7 HO_14 HB hx567_0 hx567_1 hx568_0 hx568_1 hHeld ⊢
                   refine pure_ (i := 0) (N := some 155) (v := ?_) (a' := ?_) #[true, false, false, false, false, false, false, false, false, false, false, false, false, false, false] rfl rfl (any_of HT_.out (by kernel_rfl)) (fun _ _ _ h => h) (Or.inl ⟨by rfl, ?_⟩) ?_ ?_
                   rotate_left
                   ·
                    intro w'
                    go_simp
                    with_reducible rfl
                   rotate_left
                   ·
                    simp only [Act.put, List.setIfInBounds_toArray, List.set_cons_zero, List.set_cons_succ, i64_w, i32_w]
                    rfl
                   refine pure_ (i := 1) (N := some 156) (v := ?_) (a' := ?_) #[true, true, false, false, false, false, false, false, false, false, false, false, false, false, false] rfl rfl (any_of HT_.out (by kernel_rfl)) (fun _ _ _ h => h) (Or.inl ⟨by rfl, ?_⟩) ?_ ?_
                   rotate_left
                   ·
                    intro w'
                    go_simp
                    with_reducible rfl
                   rotate_left
                   ·
                    simp only [Act.put, List.setIfInBounds_toArray, List.set_cons_zero, List.set_cons_succ, i64_w, i32_w]
                    rfl
                   refine pure_ (i := 2) (N := some 157) (v := ?_) (a' := ?_) #[true, true, true, false, false, false, false, false, false, false, false, false, false, false, false] rfl rfl (any_of HT_.out (by kernel_rfl)) (fun _ _ _ h => h) (Or.inl ⟨by rfl, ?_⟩) ?_ ?_
                   rotate_left
                   ·
                    intro w'
                    go_simp
                    with_reducible rfl
                   rotate_left
                   ·
                    simp only [Act.put, List.setIfInBounds_toArray, List.set_cons_zero, List.set_cons_succ, i64_w, i32_w]
                    rfl
                   refine pure_ (i := 3) (N := some 158) (v := ?_) (a' := ?_) #[true, true, true, true, false, false, false, false, false, false, false, false, false, false, false] rfl rfl (any_of HT_.out (by kernel_rfl)) (fun _ _ _ h => h) (Or.inl ⟨by rfl, ?_⟩) ?_ ?_
                   rotate_left
                   ·
                    intro w'
                    go_simp
                    with_reducible rfl
                   rotate_left
                   ·
                    simp only [Act.put, List.setIfInBounds_toArray, List.set_cons_zero, List.set_cons_succ, i64_w, i32_w]
                    rfl
                   refine pure_ (i := 4) (N := some 159) (v := ?_) (a' := ?_) #[true, true, true, true, true, false, false, false, false, false, false, false, false, false, false] rfl rfl (any_of HT_.out (by kernel_rfl)) (fun _ _ _ h => h) (Or.inl ⟨by rfl, ?_⟩) ?_ ?_
                   rotate_left
                   ·
                    intro w'
                    go_simp
                    with_reducible rfl
                   rotate_left
                   ·
                    simp only [Act.put, List.setIfInBounds_toArray, List.set_cons_zero, List.set_cons_succ, i64_w, i32_w]
                    rfl
                   refine pure_ (i := 5) (N := some 160) (v := ?_) (a' := ?_) #[true, true, true, true, true, true, false, false, false, false, false, false, false, false, false] rfl rfl (any_of HT_.out (by kernel_rfl)) (fun _ _ _ h => h) (Or.inl ⟨by rfl, ?_⟩) ?_ ?_
                   rotate_left
                   ·
                    intro w'
                    go_simp
                    with_reducible rfl
                   rotate_left
                   ·
                    simp only [Act.put, List.setIfInBounds_toArray, List.set_cons_zero, List.set_cons_succ, i64_w, i32_w]
                    rfl
                   refine pure_ (i := 6) (N := some 161) (v := ?_) (a' := ?_) #[true, true, true, true, true, true, true, false, false, false, false, false, false, false, false] rfl rfl (any_of HT_.out (by kernel_rfl)) (fun _ _ _ h => h) (Or.inl ⟨by rfl, ?_⟩) ?_ ?_
                   rotate_left
                   ·
                    intro w'
                    go_simp
                    with_reducible rfl
                   rotate_left
                   ·
                    simp only [Act.put, List.setIfInBounds_toArray, List.set_cons_zero, List.set_cons_succ, i64_w, i32_w]
                    rfl
                   refine pure_ (i := 7) (N := some 162) (v := ?_) (a' := ?_) #[true, true, true, true, true, true, true, true, false, false, false, false, false, false, false] rfl rfl (any_of HT_.out (by kernel_rfl)) (fun _ _ _ h => h) (Or.inl ⟨by rfl, ?_⟩) ?_ ?_
                   rotate_left
                   ·
                    intro w'
                    go_simp
                    with_reducible rfl
                   rotate_left
                   ·
                    simp only [Act.put, List.setIfInBounds_toArray, List.set_cons_zero, List.set_cons_succ, i64_w, i32_w]
                    rfl
                   refine pure_ (i := 9) (N := some 164) (v := ?_) (a' := ?_) #[true, true, true, true, true, true, true, true, false, true, false, false, false, false, false] rfl rfl (any_of HT_.out (by kernel_rfl)) (fun _ _ _ h => h) (Or.inl ⟨by rfl, ?_⟩) ?_ ?_
                   rotate_left
                   ·
                    intro w'
                    go_simp
                    with_reducible rfl
                   rotate_left
                   ·
                    simp only [Act.put, List.setIfInBounds_toArray, List.set_cons_zero, List.set_cons_succ, i64_w, i32_w]
                    rfl
                   refine pure_ (i := 10) (N := some 165) (v := ?_) (a' := ?_) #[true, true, true, true, true, true, true, true, false, true, true, false, false, false, false] rfl rfl (any_of HT_.out (by kernel_rfl)) (fun _ _ _ h => h) (Or.inl ⟨by rfl, ?_⟩) ?_ ?_
                   rotate_left
                   ·
                    intro w'
                    go_simp
                    with_reducible rfl
                   rotate_left
                   ·
                    simp only [Act.put, List.setIfInBounds_toArray, List.set_cons_zero, List.set_cons_succ, i64_w, i32_w]
                    rfl
                   refine pure_ (i := 11) (N := some 166) (v := ?_) (a' := ?_) #[true, true, true, true, true, true, true, true, false, true, true, true, false, false, false] rfl rfl (any_of HT_.out (by kernel_rfl)) (fun _ _ _ h => h) (Or.inl ⟨by rfl, ?_⟩) ?_ ?_
                   rotate_left
                   ·
                    intro w'
                    go_simp
                    with_reducible rfl
                   rotate_left
                   ·
                    simp only [Act.put, List.setIfInBounds_toArray, List.set_cons_zero, List.set_cons_succ, i64_w, i32_w]
                    rfl
                   refine take_ (i := 8) (N := some 163) (v := ?_) (a' := ?_) #[true, true, true, true, true, true, true, true, true, true, true, true, false, false, false] rfl rfl (take_ofW HT_.out HW_.out (by kernel_rfl)) (fun _ _ _ h => h) (Or.inl ⟨by rfl, ?_⟩) hHeld ?_ ?_
                   rotate_left
                   ·
                    rintro w' ⟨s0, s1, s2, s3⟩
                    go_simp
                    with_reducible rfl
                   rotate_left
                   ·
                    simp only [Act.put, List.setIfInBounds_toArray, List.set_cons_zero, List.set_cons_succ, i64_w, i32_w]
                    rfl
                   refine take_ (i := 12) (N := some 167) (v := ?_) (a' := ?_) #[true, true, true, true, true, true, true, true, true, true, true, true, true, false, false] rfl rfl (take_ofW HT_.out HW_.out (by kernel_rfl)) (fun _ _ _ h => h) (Or.inl ⟨by rfl, ?_⟩) hHeld ?_ ?_
                   rotate_left
                   ·
                    rintro w' ⟨s0, s1, s2, s3⟩
                    go_simp
                    with_reducible rfl
                   rotate_left
                   ·
                    simp only [Act.put, List.setIfInBounds_toArray, List.set_cons_zero, List.set_cons_succ, i64_w, i32_w]
                    rfl
                   refine pure_ (i := 13) (N := some 168) (v := ?_) (a' := ?_) #[true, true, true, true, true, true, true, true, true, true, true, true, true, true, false] rfl rfl (any_of HT_.out (by kernel_rfl)) (fun _ _ _ h => h) (Or.inl ⟨by rfl, ?_⟩) ?_ ?_
                   rotate_left
                   ·
                    intro w'
                    go_simp
                    with_reducible rfl
                   rotate_left
                   ·
                    simp only [Act.put, List.setIfInBounds_toArray, List.set_cons_zero, List.set_cons_succ, i64_w, i32_w]
                    rfl
                   refine pure_ (i := 14) (N := some 169) (v := ?_) (a' := ?_) #[true, true, true, true, true, true, true, true, true, true, true, true, true, true, true] rfl rfl (any_of HT_.out (by kernel_rfl)) (fun _ _ _ h => h) (Or.inl ⟨by rfl, ?_⟩) ?_ ?_
                   rotate_left
                   ·
                    intro w'
                    go_simp
                    with_reducible rfl
                   rotate_left
                   ·
                    simp only [Act.put, List.setIfInBounds_toArray, List.set_cons_zero, List.set_cons_succ, i64_w, i32_w]
                    rfl
                   refine done_ (done_of HT_.out (by kernel_rfl)) ?_
                   try go_wp2
                   go_roundg k3
                   case measure => have := HJ3.out; have := HK2.out; have := HK3.out; omega
                   case rel => exact ⟨(wrap64 (x15_3 + 1)), (wrap64 (x16_3 + 1)), (by first | rfl | (simp; done) | (simp [*]; done)), (by first | rfl | (simp; done) | (simp [*]; done)), H', ⟨by have := HJ3.out; have := HK2.out; have := HK3.out; omega⟩, ⟨by (with_reducible repeat (first | apply Kd.V_alloc | apply Kd.V_drewN | apply Kd.V_drew)); exact HO_0.out⟩, ⟨by (with_reducible repeat (first | apply Kd.R_alloc | apply Kd.R_drewN | apply Kd.R_drew)); exact HO_7.out⟩, ⟨by (with_reducible repeat (first | apply Kd.R_alloc | apply Kd.R_drewN | apply Kd.R_drew)); exact HO_14.out⟩, ⟨by repeat (first | (with_reducible first | exact HB.out | apply below_alloc | apply pw_below_drewN | apply below_drew1) | exact HB.out)⟩⟩
                 ·
                  rw [if_neg c64] at H
                  exact absurd H (by simp)
                ·
                 rw [if_neg c63] at H
                 exact absurd H (by simp)
              ·
               rw [if_neg c59] at H
               have c59b0 : decide (((rd_T40 t562 x16_3).f0) < (l0.length : Int)) = false := decide_eq_false c59
               clear c59
               have H' := Aside0.mk H
               clear H
               obtain ⟨Ao70, co70, eo70⟩ := Kd.R_slice HO_14.out
               subst eo70
               have p566 : 0 ≤ (x16_3 : Int) := of_decide_eq_true (by first | (with_reducible assumption) | assumption)
               have q566 : x16_3 < (t562.length : Int) := of_decide_eq_true (by first | (with_reducible assumption) | assumption)
               obtain ⟨ad566, e566, hx566_0, hx566_1⟩ := at_T40 (Kd.R_reads' HO_14.out).2.2 x16_3 p566 q566
               cases e566
               replace p566 := eq_true p566
               replace q566 := eq_true q566
               go_wp2
               go_roundg k3
               case measure => have := HJ3.out; have := HK2.out; have := HK3.out; omega
               case rel => exact ⟨(x15_3), (wrap64 (x16_3 + 1)), (by first | rfl | (simp; done) | (simp [*]; done)), (by first | rfl | (simp; done) | (simp [*]; done)), H', ⟨by have := HJ3.out; have := HK2.out; have := HK3.out; omega⟩, ⟨by (with_reducible repeat (first | apply Kd.V_alloc | apply Kd.V_drewN | apply Kd.V_drew)); exact HO_0.out⟩, ⟨by (with_reducible repeat (first | apply Kd.R_alloc | apply Kd.R_drewN | apply Kd.R_drew)); exact HO_7.out⟩, ⟨by (with_reducible repeat (first | apply Kd.R_alloc | apply Kd.R_drewN | apply Kd.R_drew)); exact HO_14.out⟩, ⟨by repeat (first | (with_reducible first | exact HB.out | apply below_alloc | apply pw_below_drewN | apply below_drew1) | exact HB.out)⟩⟩
             ·
              rw [if_neg c58] at H
              exact absurd H (by simp)
            ·
             rw [if_neg c57] at H
             have c57b0 : decide (x16_3 < (t562.length : Int)) = false := decide_eq_false c57
             clear c57
             by_cases c71 : x15_3 = (t538.length : Int)
             ·
              rw [if_pos c71] at H
              have c71b0 : (x15_3 == (t538.length : Int)) = true := beq_iff_eq.mpr c71
              have c71b1 : (x15_3 != (t538.length : Int)) = false := bne_eq_false_iff_eq.mpr c71
              clear c71
              replace H := Option.bind_eq_some_iff.mp H
              obtain ⟨t565, A720, H⟩ := H
              replace H : (some t565) = some r := H
              have A72 := Aside0.mk A720
              clear A720
              obtain rfl := Option.some.inj H
              obtain ⟨Ao73, co73, eo73⟩ := Kd.R_slice HO_14.out
              subst eo73
              go_wp2_with (first | (go_at_call 19; (with_reducible refine (tabellionlaw32_awake.calls k3  t565 _ A72.out ?tab (by first | rfl | exact HRT.out)).mono ?_); (case tab => exact (tab_of HTAB.out (by repeat (first | (with_reducible first | exact HB.out | apply below_alloc | apply pw_below_drewN | apply below_drew1) | exact HB.out)))); rintro e w74 ⟨rfl, hb⟩; have n0_ := Aside0.mk (Kd.V_below (by (with_reducible repeat (first | apply Kd.V_alloc | apply Kd.V_drewN | apply Kd.V_drew)); exact HO_0.out) hb); have n1_ := Aside0.mk (Kd.R_below (by (with_reducible repeat (first | apply Kd.R_alloc | apply Kd.R_drewN | apply Kd.R_drew)); exact HO_7.out) hb); have n2_ := Aside0.mk (Kd.R_below (by (with_reducible repeat (first | apply Kd.R_alloc | apply Kd.R_drewN | apply Kd.R_drew)); exact HO_14.out) hb); have n3_ := Aside0.mk (below_step (by repeat (first | (with_reducible first | exact HB.out | apply below_alloc | apply pw_below_drewN | apply below_drew1) | exact HB.out)) hb); clear HO_0; clear HO_7; clear HO_14; clear HB; have HO_0 := n0_; have HO_7 := n1_; have HO_14 := n2_; have HB := n3_; clear n0_ n1_ n2_ n3_; (try clear hb); (try clear hb2); (try clear hk); (try clear hi)))
              go_ret
              exact ⟨by first | rfl | (simp [errW_none, errW_some] <;> rfl) | (simp [*, errW_none, errW_some] <;> rfl), by repeat (first | (with_reducible first | exact HB.out | apply below_alloc | apply pw_below_drewN | apply below_drew1) | exact HB.out)⟩
             ·
              rw [if_neg c71] at H
              exact absurd (Option.some.inj H) (by rw [HRT.out]; simp)
         ·
          rw [if_neg c49] at H
          exact absurd H (by simp)
        ·
         rw [if_neg c48] at H
         exact absurd H (by simp)
    ·
     rw [if_neg c11] at H
     exact absurd (Option.some.inj H) (by rw [HRT.out]; simp)
end Go.Proofs.YtnllgjloimoebaaDoor.X

/- Two small laws: a sorted list is one; a row that can be a key is short. -/
set_option linter.unusedVariables false
set_option linter.unusedSimpArgs false
namespace Go.Proofs.YtnllgjloimoebaaDoor.X
open Go.RowKit Go.Proofs.YtnllgjloimoebaaDoorW.PrintWords

theorem keyable_short {r : List S44} (h : keyable r = true) : short r := by
  have h1 := keyable_len h
  unfold keyable at h
  rw [Bool.and_eq_true] at h
  have h2 := rowOK_of h.1
  exact ⟨by omega, fun x hx => by have := (h2.2 x hx).2.2; omega⟩
theorem pw_unique {α : Type} {lt : α → α → Prop} (hasym : ∀ a b, lt a b → ¬ lt b a) : ∀ {a b : List α}, a.Perm b → a.Pairwise lt → b.Pairwise lt → a = b
  | [], b, hp, _, _ => (List.nil_perm.1 hp).symm
  | x :: a, [], hp, _, _ => absurd hp.length_eq (by simp)
  | x :: a, y :: b, hp, ha, hb => by
    rw [List.pairwise_cons] at ha hb
    have e : x = y := by
      have hx : x ∈ y :: b := hp.mem_iff.1 (List.mem_cons_self ..)
      have hy : y ∈ x :: a := hp.mem_iff.2 (List.mem_cons_self ..)
      rcases List.mem_cons.1 hx with h | h
      · exact h
      · rcases List.mem_cons.1 hy with h2 | h2
        · exact h2.symm
        · exact absurd (ha.1 y h2) (hasym _ _ (hb.1 x h))
    subst e
    rw [pw_unique hasym (List.Perm.cons_inv hp) ha.2 hb.2]
end Go.Proofs.YtnllgjloimoebaaDoor.X

-- By xprint.py (this session's own program over the kit's print): not trusted: Lean checks it.
namespace Go.Proofs.YtnllgjloimoebaaDoor.X
open Go.RowKit Go.Proofs.YtnllgjloimoebaaDoorW.PrintWords Go.Proofs.YtnllgjloimoebaaDoorW.PrintLast Go.Proofs.YtnllgjloimoebaaDoorW.PrintMore
attribute [local go_sem] max2_int min2_int max_two min_two max_three min_three max_four min_four   -- for this text's walks alone
set_option linter.unusedVariables false
set_option linter.unusedSimpArgs false

/-! ### tabellionref32_meet: function 36 -/
def tabellionref32_meet.l0 : Nat → List (S44) → List (S44) → Int → Option (Bool)
 | 0, _, _, _ => none
 | k + 1, x0, x1, x5 => if x5 < (x0.length : Int) then (if 0 ≤ x5 then (if ((rd_T44 x0 x5).f0) = 0 then (some false) else (tabellionref32_meet.l0 k x0 x1 (wrap64 (x5 + 1)))) else (none)) else ((tabellionref03_Orders.f k x0 x1).bind fun t493 => (some (t493 == 0)))
def tabellionref32_meet.f (k : Nat) (l0 : List (S44)) (l1 : List (S44)) : Option (Bool) := tabellionref32_meet.l0 k l0 l1 0
set_option maxHeartbeats 8000000 in
set_option maxRecDepth 100000 in
theorem tabellionref32_meet.calls (k : Nat) (A0 : Option Addr) (c0 : Nat) (l0 : List (S44)) (A1 : Option Addr) (c1 : Nat) (l1 : List (S44)) (r : Bool) (w : World) (hr0 : Kd.C k44 w A0 l0.length l0) (hc0 : l0.length ≤ c0) (hr1 : Kd.C k44 w A1 l1.length l1) (hc1 : l1.length ≤ c1) (h : tabellionref32_meet.f k l0 l1 = some r) :
  Calls Tryd.prog 36 #[.slice A0 l0.length c0, .slice A1 l1.length c1] w fun e w' => e = .returned (.bool r) ∧ Below w.heap.size w w' := by
 have HR0 := Aside0.mk hr0
 have HC0 := Aside0.mk hc0
 clear hr0 hc0
 have HR1 := Aside0.mk hr1
 have HC1 := Aside0.mk hc1
 clear hr1 hc1
 have HB := Aside0.mk (Below.refl w.heap.size w)
 have H : (tabellionref32_meet.l0 k l0 l1 0) = some r := h
 clear h
 have H' := Aside0.mk H
 clear H
 go_enter Tryd.func36, Tryd.ntmps36
 go_wp2
 go_loopg [5] k (fun kq v5 w' => ∃ (x5_1 : Int), v5 = .int .i64 x5_1 ∧ Aside0 (tabellionref32_meet.l0 kq l0 l1 x5_1 = some r) ∧ Aside0 (kq ≤ k) ∧ Aside0 (Below w.heap.size w w'))
 case atStart => exact ⟨(0), (by first | rfl | (simp; done) | (simp [*]; done)), H', ⟨Nat.le_refl _⟩, ⟨by repeat (first | (with_reducible first | exact HB.out | apply below_alloc | apply pw_below_drewN | apply below_drew1) | exact HB.out)⟩⟩
 case round =>
  clear H'
  try clear c1
  try clear p2
  obtain ⟨x5_1, rfl, HA, HK1, HB⟩ := hrel
  cases gk with
  | zero => exact absurd HA.out (by simp [tabellionref32_meet.l0])
  | succ k1 =>
   have H := HA.out
   clear HA
   simp only [tabellionref32_meet.l0] at H
   by_cases c3 : x5_1 < (l0.length : Int)
   ·
    rw [if_pos c3] at H
    have c3b0 : decide (x5_1 < (l0.length : Int)) = true := decide_eq_true c3
    clear c3
    by_cases c4 : 0 ≤ x5_1
    ·
     rw [if_pos c4] at H
     have c4b0 : decide (0 ≤ x5_1) = true := decide_eq_true c4
     clear c4
     by_cases c5 : ((rd_T44 l0 x5_1).f0) = 0
     ·
      rw [if_pos c5] at H
      have c5b0 : (((rd_T44 l0 x5_1).f0) == 0) = true := beq_iff_eq.mpr c5
      have c5b1 : (((rd_T44 l0 x5_1).f0) != 0) = false := bne_eq_false_iff_eq.mpr c5
      clear c5
      obtain rfl := Option.some.inj H
      have p492 : 0 ≤ (x5_1 : Int) := of_decide_eq_true (by first | (with_reducible assumption) | assumption)
      have q492 : x5_1 < (l0.length : Int) := of_decide_eq_true (by first | (with_reducible assumption) | assumption)
      obtain ⟨ad492, e492, hx492_0, hx492_1, hx492_2⟩ := at_T44 HR0.out x5_1 p492 q492
      cases e492
      replace hx492_0 := (HB.out.cell (World.block_lt_of_cell? w _ hx492_0)).trans hx492_0
      replace hx492_1 := (HB.out.cell (World.block_lt_of_cell? w _ hx492_1)).trans hx492_1
      replace hx492_2 := (HB.out.cell (World.block_lt_of_cell? w _ hx492_2)).trans hx492_2
      replace p492 := eq_true p492
      replace q492 := eq_true q492
      go_wp2
      go_ret
      exact ⟨by first | rfl | (simp [errW_none, errW_some] <;> rfl) | (simp [*, errW_none, errW_some] <;> rfl), by repeat (first | (with_reducible first | exact HB.out | apply below_alloc | apply pw_below_drewN | apply below_drew1) | exact HB.out)⟩
     ·
      rw [if_neg c5] at H
      have c5b0 : (((rd_T44 l0 x5_1).f0) == 0) = false := beq_eq_false_iff_ne.mpr c5
      have c5b1 : (((rd_T44 l0 x5_1).f0) != 0) = true := bne_iff_ne.mpr c5
      have H' := Aside0.mk H
      clear H
      have p492 : 0 ≤ (x5_1 : Int) := of_decide_eq_true (by first | (with_reducible assumption) | assumption)
      have q492 : x5_1 < (l0.length : Int) := of_decide_eq_true (by first | (with_reducible assumption) | assumption)
      obtain ⟨ad492, e492, hx492_0, hx492_1, hx492_2⟩ := at_T44 HR0.out x5_1 p492 q492
      cases e492
      replace hx492_0 := (HB.out.cell (World.block_lt_of_cell? w _ hx492_0)).trans hx492_0
      replace hx492_1 := (HB.out.cell (World.block_lt_of_cell? w _ hx492_1)).trans hx492_1
      replace hx492_2 := (HB.out.cell (World.block_lt_of_cell? w _ hx492_2)).trans hx492_2
      replace p492 := eq_true p492
      replace q492 := eq_true q492
      go_wp2
      go_roundg k1
      case measure => have := HK1.out; omega
      case rel => exact ⟨(wrap64 (x5_1 + 1)), (by first | rfl | (simp; done) | (simp [*]; done)), H', ⟨by have := HK1.out; omega⟩, ⟨by repeat (first | (with_reducible first | exact HB.out | apply below_alloc | apply pw_below_drewN | apply below_drew1) | exact HB.out)⟩⟩
    ·
     rw [if_neg c4] at H
     exact absurd H (by simp)
   ·
    rw [if_neg c3] at H
    have c3b0 : decide (x5_1 < (l0.length : Int)) = false := decide_eq_false c3
    clear c3
    replace H := Option.bind_eq_some_iff.mp H
    obtain ⟨t493, A60, H⟩ := H
    replace H : (some (t493 == 0)) = some r := H
    have A6 := Aside0.mk A60
    clear A60
    obtain rfl := Option.some.inj H
    go_wp2_with (first | ((with_reducible refine gate_callee (f := 30) rfl ?_); refine goesL_ (some 20) rfl rfl Tryd.func30 (by kernel_rfl) rfl #[.slice A0 l0.length c0, .slice A1 l1.length c1] rfl (by (try simp only [List.map_toArray, List.map_cons, List.map_nil]); first | done | rfl | (simp only [List.length_drop, List.length_take]; rfl)) ?_; (with_reducible refine (tabellionref03_Orders.calls k1 _ _ l0 _ _ l1 t493 _ ?side1 ?side2 ?side3 ?side4 A6.out).mono ?_); (case side1 => repeat (first | exact (Kd.C_below HR0.out HB.out) | (with_reducible refine Kd.C_alloc ?_ _) | (with_reducible refine Kd.C_drewN ?_ _) | (with_reducible refine Kd.C_drew ?_))); (case side2 => exact HC0.out); (case side3 => repeat (first | exact (Kd.C_below HR1.out HB.out) | (with_reducible refine Kd.C_alloc ?_ _) | (with_reducible refine Kd.C_drewN ?_ _) | (with_reducible refine Kd.C_drew ?_))); (case side4 => exact HC1.out); rintro e w7 ⟨rfl, hb⟩; refine ⟨_, rfl, ?_⟩; have n0_ := Aside0.mk (below_step (by repeat (first | (with_reducible first | exact HB.out | apply below_alloc | apply pw_below_drewN | apply below_drew1) | exact HB.out)) hb); clear HB; have HB := n0_; clear n0_; (try clear hb); (try clear hb2); (try clear hk); (try clear hi)))
    go_ret
    exact ⟨by first | rfl | (simp [errW_none, errW_some] <;> rfl) | (simp [*, errW_none, errW_some] <;> rfl), by repeat (first | (with_reducible first | exact HB.out | apply below_alloc | apply pw_below_drewN | apply below_drew1) | exact HB.out)⟩

end Go.Proofs.YtnllgjloimoebaaDoor.X

-- By xprint.py (this session's own program over the kit's print): not trusted: Lean checks it.
namespace Go.Proofs.YtnllgjloimoebaaDoor.X
open Go.RowKit Go.Proofs.YtnllgjloimoebaaDoorW.PrintWords Go.Proofs.YtnllgjloimoebaaDoorW.PrintLast Go.Proofs.YtnllgjloimoebaaDoorW.PrintMore
attribute [local go_sem] max2_int min2_int max_two min_two max_three min_three max_four min_four   -- for this text's walks alone
set_option linter.unusedVariables false
set_option linter.unusedSimpArgs false

/-! ### tabellionref32_Nest: function 20 -/
mutual
def tabellionref32_Nest.l0 : Nat → List (List (S44)) → List (List (S44)) → List (S40) → Int → Option ((List (S40)))
 | 0, _, _, _, _ => none
 | k + 1, x0, x1, x5, x6 => if x6 < (x0.length : Int) then (tabellionref32_Nest.l1 k x0 x1 x5 x6 0) else (some x5)
def tabellionref32_Nest.l1 : Nat → List (List (S44)) → List (List (S44)) → List (S40) → Int → Int → Option ((List (S40)))
 | 0, _, _, _, _, _ => none
 | k + 1, x0, x1, x5, x6, x7 => if x7 < (x1.length : Int) then (if 0 ≤ x6 then (if x6 < (x0.length : Int) then (if 0 ≤ x7 then ((tabellionref32_meet.f k (rd_L4 x0 x6) (rd_L4 x1 x7)).bind fun t496 => (if t496 = true then (if x5.length < 8796093022208 then (tabellionref32_Nest.l1 k x0 x1 (x5 ++ [(⟨x6, x7⟩ : S40)]) x6 (wrap64 (x7 + 1))) else (none)) else (tabellionref32_Nest.l1 k x0 x1 x5 x6 (wrap64 (x7 + 1))))) else (none)) else (none)) else (none)) else (tabellionref32_Nest.l0 k x0 x1 x5 (wrap64 (x6 + 1)))
end
def tabellionref32_Nest.f (k : Nat) (l0 : List (List (S44))) (l1 : List (List (S44))) : Option ((List (S40))) := tabellionref32_Nest.l0 k l0 l1 ([] : List (S40)) 0
def tabellionref32_Nest.T8 : Bool × List (List Nat × List Nat) := (true, [([], []), ([], []), ([0, 1], [0, 1]), ([2], [2]), ([], []), ([], []), ([4, 5], [4, 5]), ([6], [6]), ([3, 7], [3, 7])])
def tabellionref32_Nest.B8 : List Nat := [0, 0, 3, 7, 0, 0, 48, 112, 255]
theorem tabellionref32_Nest.tab8 : rtab .any (opsOf Tryd.f20 8) = tabellionref32_Nest.T8 := by kernel_rfl
theorem tabellionref32_Nest.bits8 : waitsOk tabellionref32_Nest.T8.2 tabellionref32_Nest.B8 = true := by kernel_rfl
end Go.Proofs.YtnllgjloimoebaaDoor.X

/- Nest, Hash and Merge are the document's: all pairs of places whose keys meet, in order. -/
set_option linter.unusedVariables false
set_option linter.unusedSimpArgs false
namespace Go.Proofs.YtnllgjloimoebaaDoor.X
open Go.RowKit Go.Proofs.YtnllgjloimoebaaDoorW.PrintWords

/-- two keys meet -/
def meetP (a b : List S44) : Bool := wholeP a && (rcmp a b == 0)
theorem meetP_iff {a b : List S44} : meetP a b = true ↔ wholeP a = true ∧ a = b := by
  unfold meetP
  rw [Bool.and_eq_true, beq_iff_eq, rcmp_zero]
theorem meet_ev (a b : List S44) (ha : a.length ≤ 1099511627776) (hb : b.length ≤ 1099511627776) : Ev (fun k => joiner_meet.f k a b) (meetP a b) := by
  unfold joiner_meet.f joiner_whole.f
  rw [if_pos ha, if_pos hb]
  refine Ev.bind (v := wholeP a) (Ev.const _) ?_
  by_cases h1 : wholeP a = true
  · refine Ev.congr ?_ (fun k => by rw [if_pos h1])
    refine Ev.bind (v := wholeP b) (Ev.const _) ?_
    by_cases h2 : wholeP b = true
    · refine Ev.congr ?_ (fun k => by rw [if_pos h2])
      refine Ev.bind (orders_ev a b (by omega)) ?_
      unfold meetP
      rw [h1, Bool.true_and]
      exact Ev.const _
    · refine Ev.congr (Ev.const _) (fun k => ?_)
      rw [if_neg h2]
      congr 1
      symm
      rw [Bool.eq_false_iff]
      intro h
      have := meetP_iff.1 h
      exact h2 (this.2 ▸ h1)
  · refine Ev.congr (Ev.const _) (fun k => ?_)
    rw [if_neg h1]
    congr 1
    symm
    rw [Bool.eq_false_iff]
    intro h
    exact h1 (meetP_iff.1 h).1
theorem rmeet_loop (a b : List S44) (ha : short a) : ∀ (n i : Nat), a.length - i = n → i ≤ a.length → Ev (fun k => tabellionref32_meet.l0 k a b (i : Int)) ((a.drop i).all (fun x => !nullV x) && (rcmp a b == 0))
  | n, i, hn, hi => by
    have hw := w64 i (by have := ha.1; omega)
    refine Ev.succ ?_ (fun k => by rw [tabellionref32_meet.l0, hw])
    by_cases h1 : i < a.length
    · refine Ev.congr ?_ (fun k => by rw [if_pos (by omega : (i : Int) < (a.length : Int)), if_pos (by omega : (0 : Int) ≤ (i : Int)), getD_T44])
      rw [drop_getD a z44 i h1, List.all_cons]
      by_cases h2 : (a.getD i z44).f0 = 0
      · refine Ev.congr (Ev.const _) (fun k => ?_)
        rw [if_pos h2]
        have : nullV (a.getD i z44) = true := by unfold nullV; rw [h2]; rfl
        rw [this]
        rfl
      · have : nullV (a.getD i z44) = false := by unfold nullV; exact beq_eq_false_iff_ne.2 h2
        rw [this]
        match n, hn with
        | n + 1, hn =>
          exact Ev.congr (rmeet_loop a b ha n (i + 1) (by omega) (by omega)) (fun k => by rw [if_neg h2])
        | 0, hn => omega
    · rw [List.drop_eq_nil_of_le (by omega : a.length ≤ i)]
      refine Ev.congr ?_ (fun k => by rw [if_neg (by omega : ¬ (i : Int) < (a.length : Int))])
      exact Ev.bind (rorders_ev a b ha) (Ev.const _)
theorem rmeet_ev (a b : List S44) (ha : short a) : Ev (fun k => tabellionref32_meet.f k a b) (meetP a b) := rmeet_loop a b ha _ 0 rfl (Nat.zero_le _)

/-! ### the pairs, in order -/
def rowFrom (a : List S44) (i : Int) : Nat → List (List S44) → List S40
  | _, [] => []
  | j, b :: bs => if meetP a b then ⟨i, (j : Int)⟩ :: rowFrom a i (j + 1) bs else rowFrom a i (j + 1) bs
def nestFrom (r : List (List S44)) : Nat → List (List S44) → List S40
  | _, [] => []
  | i, a :: ys => rowFrom a (i : Int) 0 r ++ nestFrom r (i + 1) ys
def nestP (l r : List (List S44)) : List S40 := nestFrom r 0 l
theorem rowFrom_len (a : List S44) (i : Int) : ∀ j bs, (rowFrom a i j bs).length ≤ bs.length
  | _, [] => by simp [rowFrom]
  | j, b :: bs => by
    have := rowFrom_len a i (j + 1) bs
    unfold rowFrom
    split <;> simp <;> omega
theorem rowFrom_snoc (a : List S44) (i : Int) (b : List S44) : ∀ j bs, rowFrom a i j (bs ++ [b]) = rowFrom a i j bs ++ (if meetP a b then [⟨i, ((j + bs.length : Nat) : Int)⟩] else [])
  | j, [] => by simp [rowFrom]
  | j, c :: bs => by
    have h := rowFrom_snoc a i b (j + 1) bs
    have e : j + 1 + bs.length = j + (c :: bs).length := by simp; omega
    rw [e] at h
    rw [List.cons_append, rowFrom, rowFrom, h]
    split <;> simp
theorem nestFrom_snoc (r : List (List S44)) (a : List S44) : ∀ i ys, nestFrom r i (ys ++ [a]) = nestFrom r i ys ++ rowFrom a ((i + ys.length : Nat) : Int) 0 r
  | i, [] => by simp [nestFrom]
  | i, c :: ys => by
    have h := nestFrom_snoc r a (i + 1) ys
    have e : i + 1 + ys.length = i + (c :: ys).length := by simp; omega
    rw [e] at h
    rw [List.cons_append, nestFrom, nestFrom, h, List.append_assoc]

def lens (l : List (List S44)) : Prop := l.length ≤ 1048576 ∧ ∀ r ∈ l, r.length ≤ 1099511627776
theorem lens_rd {l : List (List S44)} (h : lens l) (i : Nat) : (l.getD i []).length ≤ 1099511627776 := by
  by_cases hi : i < l.length
  · exact h.2 _ (getD_mem _ _ _ hi)
  · rw [List.getD_eq_getElem?_getD, List.getElem?_eq_none (by omega)]; simp
theorem rd4 (l : List (List S44)) (i : Nat) : rd_L4 l (i : Int) = l.getD i [] := by unfold rd_L4; rw [Int.toNat_natCast]

theorem nest_l1 (l r : List (List S44)) (hl : lens l) (hr : lens r) (i : Nat) (hi : i < l.length) (L I : Int) (v : List S40) : ∀ (n j : Nat) (o : List S40), r.length - j = n → j ≤ r.length → o.length ≤ i * 1048576 + j →
    (∀ o', o' = o ++ rowFrom (l.getD i []) (i : Int) j (r.drop j) → Ev (fun k => joiner_Nest.l0 k l r o' L (wrap64 (I + 1))) v) → Ev (fun k => joiner_Nest.l1 k l r o (i : Int) L I (r.length : Int) (j : Int)) v
  | n, j, o, hn, hj, ho, hv => by
    have hil := hl.1
    have hrl := hr.1
    have hm : i * 1048576 ≤ 1099511627776 := by omega
    have hol : o.length < 8796093022208 := by clear hv; omega
    refine Ev.succ ?_ (fun k => by rw [joiner_Nest.l1, w64 j (by omega)])
    by_cases h1 : j < r.length
    · rw [drop_getD r [] j h1] at hv
      refine Ev.congr ?_ (fun k => by rw [if_pos (by omega : (j : Int) < (r.length : Int)), if_pos (by omega : (0 : Int) ≤ (i : Int)), if_pos (by omega : (i : Int) < (l.length : Int)), if_pos (by omega : (0 : Int) ≤ (j : Int)), if_pos (by omega : (j : Int) < (r.length : Int)), rd4, rd4])
      refine Ev.bind (meet_ev _ _ (lens_rd hl i) (lens_rd hr j)) ?_
      match n, hn with
      | n + 1, hn =>
        by_cases h2 : meetP (l.getD i []) (r.getD j []) = true
        · refine Ev.congr ?_ (fun k => by rw [if_pos h2, if_pos hol])
          refine nest_l1 l r hl hr i hi L I v n (j + 1) _ (by clear hv hol; omega) (by clear hv hol; omega) (by clear hv hol; rw [List.length_append, List.length_singleton]; omega) (fun o' ho' => hv o' ?_)
          rw [ho', rowFrom, if_pos h2, List.append_assoc, List.singleton_append]
        · refine Ev.congr ?_ (fun k => by rw [if_neg h2])
          refine nest_l1 l r hl hr i hi L I v n (j + 1) _ (by omega) (by omega) (by omega) (fun o' ho' => hv o' ?_)
          rw [ho', rowFrom, if_neg h2]
      | 0, hn => omega
    · rw [List.drop_eq_nil_of_le (by omega : r.length ≤ j), rowFrom, List.append_nil] at hv
      exact Ev.congr (hv _ rfl) (fun k => by rw [if_neg (by omega : ¬ (j : Int) < (r.length : Int))])
theorem nest_l0 (l r : List (List S44)) (hl : lens l) (hr : lens r) : ∀ (n i : Nat) (o : List S40), l.length - i = n → i ≤ l.length → o.length ≤ i * 1048576 →
    Ev (fun k => joiner_Nest.l0 k l r o (l.length : Int) (i : Int)) (o ++ nestFrom r i (l.drop i))
  | n, i, o, hn, hi, ho => by
    have hil := hl.1
    refine Ev.succ ?_ (fun k => by rw [joiner_Nest.l0])
    by_cases h1 : i < l.length
    · rw [drop_getD l [] i h1, nestFrom, ← List.append_assoc]
      refine Ev.congr ?_ (fun k => by rw [if_pos (by omega : (i : Int) < (l.length : Int))])
      refine nest_l1 l r hl hr i h1 _ _ _ _ 0 o rfl (Nat.zero_le _) (by rw [Nat.add_zero]; exact ho) (fun o' ho' => ?_)
      rw [w64 i (by omega)]
      rw [List.drop_zero] at ho'
      subst ho'
      match n, hn with
      | n + 1, hn =>
        refine nest_l0 l r hl hr n (i + 1) _ (by omega) (by omega) ?_
        have := rowFrom_len (l.getD i []) (i : Int) 0 r
        have := hr.1
        rw [List.length_append, Nat.succ_mul]; omega
      | 0, hn => omega
    · rw [List.drop_eq_nil_of_le (by omega : l.length ≤ i), nestFrom, List.append_nil]
      exact Ev.congr (Ev.const _) (fun k => by rw [if_neg (by omega : ¬ (i : Int) < (l.length : Int))])
theorem nest_ev (l r : List (List S44)) (hl : lens l) (hr : lens r) : Ev (fun k => joiner_Nest.f k l r) (nestP l r) := nest_l0 l r hl hr _ 0 [] rfl (Nat.zero_le _) (by simp)

theorem rnest_l1 (l r : List (List S44)) (hl : lens l) (hr : lens r) (hs : shorts l) (i : Nat) (hi : i < l.length) (v : List S40) : ∀ (n j : Nat) (o : List S40), r.length - j = n → j ≤ r.length → o.length ≤ i * 1048576 + j →
    (∀ o', o' = o ++ rowFrom (l.getD i []) (i : Int) j (r.drop j) → Ev (fun k => tabellionref32_Nest.l0 k l r o' ((i + 1 : Nat) : Int)) v) → Ev (fun k => tabellionref32_Nest.l1 k l r o (i : Int) (j : Int)) v
  | n, j, o, hn, hj, ho, hv => by
    have hil := hl.1
    have hrl := hr.1
    have hm : i * 1048576 ≤ 1099511627776 := by omega
    have hol : o.length < 8796093022208 := by clear hv; omega
    refine Ev.succ ?_ (fun k => by rw [tabellionref32_Nest.l1, w64 j (by omega), w64 i (by omega)])
    by_cases h1 : j < r.length
    · rw [drop_getD r [] j h1] at hv
      refine Ev.congr ?_ (fun k => by rw [if_pos (by omega : (j : Int) < (r.length : Int)), if_pos (by omega : (0 : Int) ≤ (i : Int)), if_pos (by omega : (i : Int) < (l.length : Int)), if_pos (by omega : (0 : Int) ≤ (j : Int))])
      have hsi := shorts_rd hs (i : Int)
      refine Ev.bind (rmeet_ev _ _ hsi) ?_
      rw [rd4, rd4]
      match n, hn with
      | n + 1, hn =>
        by_cases h2 : meetP (l.getD i []) (r.getD j []) = true
        · refine Ev.congr ?_ (fun k => by rw [if_pos h2, if_pos hol])
          refine rnest_l1 l r hl hr hs i hi v n (j + 1) _ (by clear hv hol; omega) (by clear hv hol; omega) (by clear hv hol; rw [List.length_append, List.length_singleton]; omega) (fun o' ho' => hv o' ?_)
          rw [ho', rowFrom, if_pos h2, List.append_assoc, List.singleton_append]
        · refine Ev.congr ?_ (fun k => by rw [if_neg h2])
          refine rnest_l1 l r hl hr hs i hi v n (j + 1) _ (by omega) (by omega) (by omega) (fun o' ho' => hv o' ?_)
          rw [ho', rowFrom, if_neg h2]
      | 0, hn => omega
    · rw [List.drop_eq_nil_of_le (by omega : r.length ≤ j), rowFrom, List.append_nil] at hv
      exact Ev.congr (hv _ rfl) (fun k => by rw [if_neg (by omega : ¬ (j : Int) < (r.length : Int))])
theorem rnest_l0 (l r : List (List S44)) (hl : lens l) (hr : lens r) (hs : shorts l) : ∀ (n i : Nat) (o : List S40), l.length - i = n → i ≤ l.length → o.length ≤ i * 1048576 →
    Ev (fun k => tabellionref32_Nest.l0 k l r o (i : Int)) (o ++ nestFrom r i (l.drop i))
  | n, i, o, hn, hi, ho => by
    have hil := hl.1
    refine Ev.succ ?_ (fun k => by rw [tabellionref32_Nest.l0])
    by_cases h1 : i < l.length
    · rw [drop_getD l [] i h1, nestFrom, ← List.append_assoc]
      refine Ev.congr ?_ (fun k => by rw [if_pos (by omega : (i : Int) < (l.length : Int))])
      refine rnest_l1 l r hl hr hs i h1 _ _ 0 o rfl (Nat.zero_le _) (by rw [Nat.add_zero]; exact ho) (fun o' ho' => ?_)
      rw [List.drop_zero] at ho'
      subst ho'
      match n, hn with
      | n + 1, hn =>
        refine rnest_l0 l r hl hr hs n (i + 1) _ (by omega) (by omega) ?_
        have := rowFrom_len (l.getD i []) (i : Int) 0 r
        have := hr.1
        rw [List.length_append, Nat.succ_mul]; omega
      | 0, hn => omega
    · rw [List.drop_eq_nil_of_le (by omega : l.length ≤ i), nestFrom, List.append_nil]
      exact Ev.congr (Ev.const _) (fun k => by rw [if_neg (by omega : ¬ (i : Int) < (l.length : Int))])
theorem rnest_ev (l r : List (List S44)) (hl : lens l) (hr : lens r) (hs : shorts l) : Ev (fun k => tabellionref32_Nest.f k l r) (nestP l r) := rnest_l0 l r hl hr hs _ 0 [] rfl (Nat.zero_le _) (by simp)

/-! ### Hash -/
theorem take_succ_getD (l : List (List S44)) (k : Nat) (h : k < l.length) : l.take (k + 1) = l.take k ++ [l.getD k []] := by
  rw [List.take_succ_eq_append_getElem h, List.getD_eq_getElem?_getD, List.getElem?_eq_getElem h]; rfl
theorem ktext_inj2 : ∀ {a b : List S44}, ktext a = ktext b → a = b
  | [], [], _ => rfl
  | [], y :: b, h => by
    exfalso
    have h1 : (32 : UInt8) ∈ ktext (y :: b) := by unfold ktext; rw [List.flatMap_cons]; unfold vtext; simp
    rw [← h] at h1
    simp [ktext] at h1
  | x :: a, [], h => by
    exfalso
    have h1 : (32 : UInt8) ∈ ktext (x :: a) := by unfold ktext; rw [List.flatMap_cons]; unfold vtext; simp
    rw [h] at h1
    simp [ktext] at h1
  | x :: a, y :: b, h => by
    unfold ktext at h
    rw [List.flatMap_cons, List.flatMap_cons] at h
    obtain ⟨h1, h2⟩ := vtext_inj h
    rw [h1, ktext_inj2 h2]
theorem hashF_row (r : List (List S44)) (a : List S44) (ha : wholeP a = true) (i : Int) : ∀ m, m ≤ r.length → (hashF r m (ktext a)).map (fun j => (⟨i, j⟩ : S40)) = rowFrom a i 0 (r.take m)
  | 0, _ => by simp [hashF, rowFrom]
  | m + 1, h => by
    rw [take_succ_getD r m (by omega), rowFrom_snoc, ← hashF_row r a ha i m (by omega), hashF]
    rw [show 0 + (r.take m).length = m by rw [List.length_take]; omega]
    show List.map _ (if wholeP (r.getD m []) = true ∧ ktext a = ktext (r.getD m []) then hashF r m (ktext a) ++ [(m : Int)] else hashF r m (ktext a)) = _
    by_cases h1 : meetP a (r.getD m []) = true
    · have h2 := meetP_iff.1 h1
      have h3 : wholeP (r.getD m []) = true := h2.2 ▸ ha
      have h4 : ktext a = ktext (r.getD m []) := by rw [← h2.2]
      rw [if_pos (And.intro h3 h4), if_pos h1, List.map_append]; rfl
    · rw [if_neg (fun h => h1 (meetP_iff.2 ⟨ha, ktext_inj2 h.2⟩)), if_neg h1, List.append_nil]
theorem rowFrom_null (a : List S44) (ha : ¬ wholeP a = true) (i : Int) : ∀ j bs, rowFrom a i j bs = []
  | _, [] => rfl
  | j, b :: bs => by
    rw [rowFrom, if_neg (fun h => ha (meetP_iff.1 h).1)]
    exact rowFrom_null a ha i (j + 1) bs
theorem hashP_from (l r : List (List S44)) : ∀ m, m ≤ l.length → hashP l r m = nestFrom r 0 (l.take m)
  | 0, _ => rfl
  | m + 1, h => by
    rw [take_succ_getD l m (by omega), nestFrom_snoc, ← hashP_from l r m (by omega), hashP]
    rw [show 0 + (l.take m).length = m by rw [List.length_take]; omega]
    by_cases h1 : wholeP (l.getD m []) = true
    · rw [if_pos h1, hashF_row r _ h1 _ r.length (Nat.le_refl _), List.take_length]
    · rw [if_neg h1, rowFrom_null _ h1, List.append_nil]
theorem hashP_eq (l r : List (List S44)) : hashP l r l.length = nestP l r := by rw [hashP_from l r _ (Nat.le_refl _), List.take_length]; rfl

/-! ### Merge -/
/-- the pairs of places whose keys are one -/
def rowX (l r : List (List S44)) (B : List Int) (p : Int) : List S40 := (B.filter fun q => rcmp (rd_L4 l p) (rd_L4 r q) == 0).map fun q => ⟨p, q⟩
def pairsP (l r : List (List S44)) (A B : List Int) : List S40 := A.flatMap (rowX l r B)
theorem rowX_from (l r : List (List S44)) (p : Nat) (hp : wholeP (l.getD p []) = true) : ∀ m, m ≤ r.length → rowX l r (wholesTo r m) (p : Int) = rowFrom (l.getD p []) (p : Int) 0 (r.take m)
  | 0, _ => by simp [rowX, wholesTo, rowFrom]
  | m + 1, h => by
    rw [take_succ_getD r m (by omega), rowFrom_snoc, ← rowX_from l r p hp m (by omega), wholesTo]
    rw [show 0 + (r.take m).length = m by rw [List.length_take]; omega]
    unfold rowX
    by_cases h1 : meetP (l.getD p []) (r.getD m []) = true
    · have h2 := meetP_iff.1 h1
      have h3 : ((r.getD m []).all fun x => !nullV x) = true := h2.2 ▸ hp
      rw [if_pos h3, if_pos h1, List.filter_append, List.map_append]
      congr 1
      rw [List.filter_cons, if_pos (by rw [rd4, rd4, ← h2.2, rcmp_self]; rfl)]
      rfl
    · rw [if_neg h1, List.append_nil]
      split
      · rw [List.filter_append, List.filter_cons, if_neg (by
          intro h
          rw [rd4, rd4, beq_iff_eq, rcmp_zero] at h
          exact h1 (meetP_iff.2 ⟨hp, h⟩)), List.filter_nil, List.append_nil]
      · rfl
theorem pairsP_from (l r : List (List S44)) : ∀ m, m ≤ l.length → pairsP l r (wholesTo l m) (wholesTo r r.length) = nestFrom r 0 (l.take m)
  | 0, _ => by simp [pairsP, wholesTo, nestFrom]
  | m + 1, h => by
    rw [take_succ_getD l m (by omega), nestFrom_snoc, ← pairsP_from l r m (by omega), wholesTo]
    rw [show 0 + (l.take m).length = m by rw [List.length_take]; omega]
    unfold pairsP
    show List.flatMap _ (if wholeP (l.getD m []) = true then wholesTo l m ++ [(m : Int)] else wholesTo l m) = _
    by_cases h1 : wholeP (l.getD m []) = true
    · rw [if_pos h1, List.flatMap_append, List.flatMap_singleton, rowX_from l r m h1 _ (Nat.le_refl _), List.take_length]
    · rw [if_neg h1, rowFrom_null _ h1, List.append_nil]
theorem pairsP_eq (l r : List (List S44)) : pairsP l r (wholesTo l l.length) (wholesTo r r.length) = nestP l r := by rw [pairsP_from l r _ (Nat.le_refl _), List.take_length]; rfl

theorem rcmp_le_lt {a b c : List S44} (h1 : rcmp a b ≤ 0) (h2 : rcmp b c < 0) : rcmp a c < 0 := by
  by_cases h : rcmp a b = 0
  · rw [rcmp_zero.1 h]; exact h2
  · exact rcmp_trans (by omega) h2
theorem rcmp_lt_le {a b c : List S44} (h1 : rcmp a b < 0) (h2 : rcmp b c ≤ 0) : rcmp a c < 0 := by
  by_cases h : rcmp b c = 0
  · rw [← rcmp_zero.1 h]; exact h1
  · exact rcmp_trans h1 (by omega)
theorem takeWhile_take {α : Type} (p : α → Bool) : ∀ l : List α, l.take (l.takeWhile p).length = l.takeWhile p
  | [] => rfl
  | x :: l => by
    by_cases h : p x = true
    · rw [List.takeWhile_cons_of_pos h, List.length_cons, List.take_succ_cons, takeWhile_take p l]
    · rw [List.takeWhile_cons_of_neg h]; rfl
theorem takeWhile_drop {α : Type} (p : α → Bool) : ∀ l : List α, l.drop (l.takeWhile p).length = l.dropWhile p
  | [] => rfl
  | x :: l => by
    by_cases h : p x = true
    · rw [List.takeWhile_cons_of_pos h, List.length_cons, List.drop_succ_cons, takeWhile_drop p l, List.dropWhile_cons_of_pos h]
    · rw [List.takeWhile_cons_of_neg h, List.dropWhile_cons_of_neg h]; rfl
/-- a run of one key, and what follows it -/
theorem run_split (l : List (List S44)) (a : List Int) (hs : a.Pairwise fun x y => rcmp (rd_L4 l x) (rd_L4 l y) ≤ 0) (i : Nat) (hi : i < a.length) :
    (∀ x ∈ (a.drop i).take (runN l a i), rd_L4 l x = rd_L4 l (rd a (i : Int))) ∧ (∀ y ∈ a.drop (i + runN l a i), rcmp (rd_L4 l (rd a (i : Int))) (rd_L4 l y) < 0) ∧ (∀ x ∈ a.drop i, rcmp (rd_L4 l (rd a (i : Int))) (rd_L4 l x) ≤ 0) := by
  have hd : a.drop i = rd a (i : Int) :: a.drop (i + 1) := by
    rw [drop_getD a 0 i hi]; unfold rd; rw [Int.toNat_natCast]
  have hp := hs.sublist (List.drop_sublist i a)
  rw [hd, List.pairwise_cons] at hp
  refine ⟨?_, ?_, ?_⟩
  · intro x hx
    rw [hd] at hx
    unfold runN at hx
    rw [Nat.add_comm, List.take_succ_cons, takeWhile_take] at hx
    rcases List.mem_cons.1 hx with h | h
    · rw [h]
    · have h2 := List.all_eq_true.1 List.all_takeWhile x h
      rw [beq_iff_eq, rcmp_zero] at h2
      exact h2.symm
  · intro y hy
    unfold runN at hy
    rw [← Nat.add_assoc, ← List.drop_drop, takeWhile_drop] at hy
    have hsub := List.dropWhile_sublist (l := a.drop (i + 1)) (fun p => rcmp (rd_L4 l (rd a (i : Int))) (rd_L4 l p) == 0)
    have hp2 := hp.2.sublist hsub
    cases hc : (a.drop (i + 1)).dropWhile (fun p => rcmp (rd_L4 l (rd a (i : Int))) (rd_L4 l p) == 0) with
    | nil => rw [hc] at hy; simp at hy
    | cons z zs =>
      have hz : rcmp (rd_L4 l (rd a (i : Int))) (rd_L4 l z) < 0 := by
        have h1 := hp.1 z (hsub.subset (by rw [hc]; simp))
        have h2 := List.head?_dropWhile_not (fun p => rcmp (rd_L4 l (rd a (i : Int))) (rd_L4 l p) == 0) (a.drop (i + 1))
        rw [hc] at h2
        simp at h2
        omega
      rw [hc] at hy hp2
      rcases List.mem_cons.1 hy with h | h
      · rw [h]; exact hz
      · exact rcmp_lt_le hz ((List.pairwise_cons.1 hp2).1 y h)
  · intro x hx
    rw [hd] at hx
    rcases List.mem_cons.1 hx with h | h
    · rw [h, rcmp_self]; exact Int.le_refl _
    · exact hp.1 x h
theorem crossP_flat (a b : List Int) (i k n : Nat) : ∀ m, i + m ≤ a.length → crossP a b i k n m = ((a.drop i).take m).flatMap (fun p => rowP p b k n)
  | 0, _ => by simp [crossP]
  | m + 1, h => by
    rw [crossP, crossP_flat a b i k n m (by omega), List.take_succ_eq_append_getElem (by rw [List.length_drop]; omega), List.flatMap_append, List.flatMap_singleton]
    congr 2
    rw [List.getElem_drop]
    unfold rd
    rw [Int.toNat_natCast, List.getD_eq_getElem?_getD, List.getElem?_eq_getElem (by omega)]
    rfl
theorem rowX_none (l r : List (List S44)) (B : List Int) (p : Int) (h : ∀ q ∈ B, rcmp (rd_L4 l p) (rd_L4 r q) ≠ 0) : rowX l r B p = [] := by
  unfold rowX
  rw [List.filter_eq_nil_iff.2 (fun q hq => by rw [beq_iff_eq]; exact h q hq)]; rfl
theorem rowX_app (l r : List (List S44)) (B C : List Int) (p : Int) : rowX l r (B ++ C) p = rowX l r B p ++ rowX l r C p := by
  unfold rowX
  rw [List.filter_append, List.map_append]
theorem pairs_nil (l r : List (List S44)) (A B : List Int) (h : ∀ p ∈ A, ∀ q ∈ B, rcmp (rd_L4 l p) (rd_L4 r q) ≠ 0) : pairsP l r A B = [] := by
  unfold pairsP
  rw [List.flatMap_eq_nil_iff]
  exact fun p hp => rowX_none l r B p (h p hp)
theorem pairs_right (l r : List (List S44)) (A B C : List Int) (h : ∀ p ∈ A, ∀ q ∈ B, rcmp (rd_L4 l p) (rd_L4 r q) ≠ 0) : pairsP l r A (B ++ C) = pairsP l r A C := by
  induction A with
  | nil => rfl
  | cons x A ih =>
    unfold pairsP at *
    rw [List.flatMap_cons, List.flatMap_cons, rowX_app, rowX_none l r B x (h x (by simp)), List.nil_append, ih (fun p hp => h p (by simp [hp]))]
theorem pairs_left (l r : List (List S44)) (A B C : List Int) (h : ∀ p ∈ A, ∀ q ∈ C, rcmp (rd_L4 l p) (rd_L4 r q) ≠ 0) : pairsP l r A (B ++ C) = pairsP l r A B := by
  induction A with
  | nil => rfl
  | cons x A ih =>
    unfold pairsP at *
    rw [List.flatMap_cons, List.flatMap_cons, rowX_app, rowX_none l r C x (h x (by simp)), List.append_nil, ih (fun p hp => h p (by simp [hp]))]
theorem pairs_all (l r : List (List S44)) (A B : List Int) (h : ∀ p ∈ A, ∀ q ∈ B, rcmp (rd_L4 l p) (rd_L4 r q) = 0) : pairsP l r A B = A.flatMap (fun p => B.map fun q => (⟨p, q⟩ : S40)) := by
  induction A with
  | nil => rfl
  | cons x A ih =>
    unfold pairsP at *
    rw [List.flatMap_cons, List.flatMap_cons, ih (fun p hp => h p (by simp [hp]))]
    congr 1
    unfold rowX
    rw [List.filter_eq_self.2 (fun q hq => by rw [beq_iff_eq]; exact h x (by simp) q hq)]
theorem pairs_app (l r : List (List S44)) (A B C : List Int) : pairsP l r (A ++ B) C = pairsP l r A C ++ pairsP l r B C := List.flatMap_append ..

theorem mergeGo_eq (l r : List (List S44)) (a b : List Int) (ha : a.Pairwise fun x y => rcmp (rd_L4 l x) (rd_L4 l y) ≤ 0) (hb : b.Pairwise fun x y => rcmp (rd_L4 r x) (rd_L4 r y) ≤ 0) :
    ∀ (f i k : Nat) (o : List S40), (a.length - i) + (b.length - k) ≤ f → mergeGo l r a b f i k o = o ++ pairsP l r (a.drop i) (b.drop k)
  | 0, i, k, o, h => by
    rw [mergeGo, List.drop_eq_nil_of_le (by omega : a.length ≤ i)]
    simp [pairsP]
  | f + 1, i, k, o, h => by
    rw [mergeGo]
    split
    · rename_i hik
      obtain ⟨hi, hk⟩ := hik
      obtain ⟨ha1, ha2, ha3⟩ := run_split l a ha i hi
      obtain ⟨hb1, hb2, hb3⟩ := run_split r b hb k hk
      have hm := runN_le l a i hi
      have hn := runN_le r b k hk
      have hm0 : 1 ≤ runN l a i := by unfold runN; omega
      have hn0 : 1 ≤ runN r b k := by unfold runN; omega
      have ea : a.drop i = (a.drop i).take (runN l a i) ++ a.drop (i + runN l a i) := by
        rw [← List.drop_drop, List.take_append_drop]
      have eb : b.drop k = (b.drop k).take (runN r b k) ++ b.drop (k + runN r b k) := by
        rw [← List.drop_drop, List.take_append_drop]
      obtain ⟨c, hc⟩ : ∃ c, c = rcmp (rd_L4 l (rd a (i : Int))) (rd_L4 r (rd b (k : Int))) := ⟨_, rfl⟩
      have hneg := rcmp_neg (rd_L4 l (rd a (i : Int))) (rd_L4 r (rd b (k : Int)))
      rw [← hc] at hneg ⊢
      rcases Int.lt_trichotomy c 0 with h0 | h0 | h0
      · rw [if_pos (by omega : c ≤ 0), if_neg (by omega : ¬ c ≥ 0), if_neg (by omega : ¬ c = 0), mergeGo_eq l r a b ha hb f _ k o (by omega)]
        have e1 : pairsP l r ((a.drop i).take (runN l a i)) (b.drop k) = [] := pairs_nil l r _ _ (fun p hp q hq => by
          rw [ha1 p hp]
          have := rcmp_lt_le (by omega : rcmp (rd_L4 l (rd a (i : Int))) (rd_L4 r (rd b (k : Int))) < 0) (hb3 q hq)
          omega)
        conv => rhs; rw [ea, pairs_app, e1, List.nil_append]
      · rw [if_pos (by omega : c ≤ 0), if_pos (by omega : c ≥ 0), if_pos h0, mergeGo_eq l r a b ha hb f _ _ _ (by omega), List.append_assoc]
        have hkey : rd_L4 l (rd a (i : Int)) = rd_L4 r (rd b (k : Int)) := rcmp_zero.1 (by omega)
        have e1 : pairsP l r ((a.drop i).take (runN l a i)) (b.drop k) = crossP a b i k (runN r b k) (runN l a i) := by
          rw [crossP_flat a b i k _ _ hm]
          conv => lhs; rw [eb]
          rw [pairs_left l r _ _ _ (fun p hp q hq => by
            rw [ha1 p hp, hkey]
            have := hb2 q hq
            omega), pairs_all l r _ _ (fun p hp q hq => by rw [ha1 p hp, hb1 q hq, hkey, rcmp_self])]
          rfl
        have e2 : pairsP l r (a.drop (i + runN l a i)) (b.drop k) = pairsP l r (a.drop (i + runN l a i)) (b.drop (k + runN r b k)) := by
          conv => lhs; rw [eb]
          rw [pairs_right l r _ _ _ (fun p hp q hq => by
            have h1 := ha2 p hp
            rw [hb1 q hq, ← hkey]
            have := rcmp_neg (rd_L4 l (rd a (i : Int))) (rd_L4 l p)
            omega)]
        conv => rhs; rw [ea, pairs_app, e1, e2]
      · rw [if_neg (by omega : ¬ c ≤ 0), if_pos (by omega : c ≥ 0), if_neg (by omega : ¬ c = 0), mergeGo_eq l r a b ha hb f i _ o (by omega)]
        have e2 : pairsP l r (a.drop i) (b.drop k) = pairsP l r (a.drop i) (b.drop (k + runN r b k)) := by
          conv => lhs; rw [eb]
          rw [pairs_right l r _ _ _ (fun p hp q hq => by
            rw [hb1 q hq]
            have h1 := rcmp_lt_le (by omega : rcmp (rd_L4 r (rd b (k : Int))) (rd_L4 l (rd a (i : Int))) < 0) (ha3 p hp)
            have := rcmp_neg (rd_L4 r (rd b (k : Int))) (rd_L4 l p)
            omega)]
        rw [e2]
    · rename_i hik
      by_cases hi : i < a.length
      · rw [List.drop_eq_nil_of_le (by omega : b.length ≤ k), pairs_nil l r _ _ (by simp), List.append_nil]
      · rw [List.drop_eq_nil_of_le (by omega : a.length ≤ i)]
        simp [pairsP]
theorem ranked_pw (l : List (List S44)) : (rankedP l).Pairwise fun x y => rcmp (rd_L4 l x) (rd_L4 l y) ≤ 0 := by
  have h1 : (rankedP l).Pairwise (fun a b => (!decide (rkc l b a < 0)) = true) := by
    unfold rankedP
    refine List.pairwise_mergeSort (fun a b c h1 h2 => ?_) (fun a b => ?_) _
    · simp only [Bool.not_eq_true', decide_eq_false_iff_not] at *
      intro h
      have e1 := rkc_neg l a b
      by_cases h3 : rkc l a b = 0
      · rw [rkc_zero l h3] at h; exact h2 h
      · exact h2 (rkc_trans l h (by omega))
    · simp only [Bool.or_eq_true, Bool.not_eq_true', decide_eq_false_iff_not]
      have := rkc_neg l a b
      omega
  refine h1.imp ?_
  intro a b h
  simp only [Bool.not_eq_true', decide_eq_false_iff_not] at h
  have e := rcmp_neg (rd_L4 l a) (rd_L4 l b)
  unfold rkc at h
  split at h
  · omega
  · omega
theorem wholesTo_pw (l : List (List S44)) : ∀ k, (wholesTo l k).Pairwise fun x y => x < y
  | 0 => by simp [wholesTo]
  | k + 1 => by
    unfold wholesTo
    split
    · rw [List.pairwise_append]
      refine ⟨wholesTo_pw l k, by simp, fun a ha b hb => ?_⟩
      rw [List.mem_singleton.1 hb]
      have := wholesTo_in l k a ha
      omega
    · exact wholesTo_pw l k
theorem nestP_pw (l r : List (List S44)) : (nestP l r).Pairwise fun x y => pcmp x y < 0 := by
  rw [← pairsP_eq]
  unfold pairsP
  rw [List.pairwise_flatMap]
  refine ⟨fun p hp => ?_, ?_⟩
  · unfold rowX
    rw [List.pairwise_map]
    refine ((wholesTo_pw r r.length).filter _).imp ?_
    intro x y h
    unfold pcmp
    simp only
    rw [if_pos (icmp_zero.2 rfl)]
    exact icmp_lt.2 h
  · refine (wholesTo_pw l l.length).imp ?_
    intro x y h u hu v hv
    unfold rowX at hu hv
    obtain ⟨_, _, rfl⟩ := List.mem_map.1 hu
    obtain ⟨_, _, rfl⟩ := List.mem_map.1 hv
    unfold pcmp
    simp only
    have := icmp_lt.2 h
    rw [if_neg (by omega)]
    exact this
theorem flatMap_perm {α β : Type} {f g : α → List β} : ∀ (A : List α), (∀ p ∈ A, (f p).Perm (g p)) → (A.flatMap f).Perm (A.flatMap g)
  | [], _ => List.Perm.refl _
  | x :: A, h => by
    rw [List.flatMap_cons, List.flatMap_cons]
    exact (h x (by simp)).append (flatMap_perm A (fun p hp => h p (by simp [hp])))
theorem mergeP_eq (l r : List (List S44)) : mergeP l r = nestP l r := by
  have h1 : (mergeP l r).Perm (nestP l r) := by
    unfold mergeP
    refine (List.mergeSort_perm _ _).trans ?_
    rw [mergeGo_eq l r _ _ (ranked_pw l) (ranked_pw r) _ 0 0 [] (by omega), List.nil_append, List.drop_zero, List.drop_zero, ← pairsP_eq]
    unfold pairsP
    refine ((ranked_perm l).flatMap_right _).trans ?_
    exact flatMap_perm _ (fun p hp => by unfold rowX; exact ((ranked_perm r).filter _).map _)
  refine pw_unique (lt := fun x y => pcmp x y < 0) (fun a b h h2 => by have := pcmp_neg a b; omega) h1 ?_ (nestP_pw l r)
  have h2 : (mergeP l r).Pairwise (fun a b => (!decide (pcmp b a < 0)) = true) := by
    unfold mergeP
    refine List.pairwise_mergeSort (fun a b c h1 h2 => ?_) (fun a b => ?_) _
    · simp only [Bool.not_eq_true', decide_eq_false_iff_not] at *
      intro h
      have e1 := pcmp_neg a b
      by_cases h3 : pcmp a b = 0
      · rw [pcmp_zero h3] at h; exact h2 h
      · exact h2 (pcmp_trans h (by omega))
    · simp only [Bool.or_eq_true, Bool.not_eq_true', decide_eq_false_iff_not]
      have := pcmp_neg a b
      omega
  have h3 : (mergeP l r).Pairwise (fun a b => pcmp a b ≠ 0) := h1.symm.pairwise ((nestP_pw l r).imp (fun h => by omega)) (fun {a b} h h2 => h (by have := pcmp_neg a b; omega))
  refine (h2.and h3).imp ?_
  rintro a b ⟨h3, h4⟩
  simp only [Bool.not_eq_true', decide_eq_false_iff_not] at h3
  have := pcmp_neg a b
  omega

/-! ### two lists of pairs are the same -/
theorem same_loop (a b : List S40) (hl : a.length = b.length) (ha : a = b) (hs : a.length ≤ 1099511627776) : ∀ (n i : Nat), a.length - i = n → i ≤ a.length → Ev (fun k => tabellionref32_Same.l0 k a b (i : Int)) true
  | n, i, hn, hi => by
    subst ha
    refine Ev.succ ?_ (fun k => by rw [tabellionref32_Same.l0, w64 i (by omega)])
    by_cases h1 : i < a.length
    · match n, hn with
      | n + 1, hn =>
        refine Ev.congr (same_loop a a rfl rfl hs n (i + 1) (by omega) (by omega)) (fun k => ?_)
        rw [if_pos (by omega : (i : Int) < (a.length : Int)), if_pos (by omega : (0 : Int) ≤ (i : Int)), if_pos (by omega : (i : Int) < (a.length : Int)), if_neg (by simp)]
      | 0, hn => omega
    · exact Ev.congr (Ev.const _) (fun k => by rw [if_neg (by omega : ¬ (i : Int) < (a.length : Int))])
theorem same_ev (a : List S40) (hs : a.length ≤ 1099511627776) : Ev (fun k => tabellionref32_Same.f k a a) true := by
  unfold tabellionref32_Same.f
  exact Ev.congr (same_loop a a rfl rfl hs _ 0 rfl (Nat.zero_le _)) (fun k => by rw [if_pos rfl]; rfl)
theorem nestFrom_len (r : List (List S44)) : ∀ i ys, (nestFrom r i ys).length ≤ ys.length * r.length
  | _, [] => by simp [nestFrom]
  | i, a :: ys => by
    have h1 := nestFrom_len r (i + 1) ys
    have h2 := rowFrom_len a (i : Int) 0 r
    rw [nestFrom, List.length_append, List.length_cons, Nat.succ_mul]; omega
theorem nestP_len (l r : List (List S44)) : (nestP l r).length ≤ l.length * r.length := nestFrom_len r 0 l
end Go.Proofs.YtnllgjloimoebaaDoor.X

/- The pairs, one by one: which they are; turned about; each once. -/
set_option linter.unusedVariables false
set_option linter.unusedSimpArgs false
namespace Go.Proofs.YtnllgjloimoebaaDoor.X
open Go.RowKit Go.Proofs.YtnllgjloimoebaaDoorW.PrintWords

theorem mem_rowFrom (a : List S44) (i : Int) : ∀ (j : Nat) (bs : List (List S44)) (x : S40), x ∈ rowFrom a i j bs ↔ ∃ m, m < bs.length ∧ meetP a (bs.getD m []) = true ∧ x = ⟨i, ((j + m : Nat) : Int)⟩
  | j, [], x => by simp [rowFrom]
  | j, b :: bs, x => by
    have ih := mem_rowFrom a i (j + 1) bs x
    have hS : (∃ m, m < (b :: bs).length ∧ meetP a ((b :: bs).getD m []) = true ∧ x = ⟨i, ((j + m : Nat) : Int)⟩) ↔ ((meetP a b = true ∧ x = ⟨i, (j : Int)⟩) ∨ x ∈ rowFrom a i (j + 1) bs) := by
      rw [ih]
      constructor
      · rintro ⟨m, hm, h1, h2⟩
        match m, hm, h1, h2 with
        | 0, hm, h1, h2 => exact .inl ⟨h1, h2⟩
        | m + 1, hm, h1, h2 => exact .inr ⟨m, by simpa using hm, h1, by rw [h2, show j + (m + 1) = j + 1 + m by omega]⟩
      · rintro (⟨h1, h2⟩ | ⟨m, hm, h1, h2⟩)
        · exact ⟨0, by simp, h1, h2⟩
        · exact ⟨m + 1, by simpa using hm, h1, by rw [h2, show j + (m + 1) = j + 1 + m by omega]⟩
    rw [hS, rowFrom]
    split
    · rename_i h; rw [List.mem_cons]; simp [h]
    · rename_i h; simp [h]
theorem mem_nestFrom (r : List (List S44)) : ∀ (i : Nat) (ys : List (List S44)) (x : S40), x ∈ nestFrom r i ys ↔ ∃ m, m < ys.length ∧ ∃ q, q < r.length ∧ meetP (ys.getD m []) (r.getD q []) = true ∧ x = ⟨((i + m : Nat) : Int), (q : Int)⟩
  | i, [], x => by simp [nestFrom]
  | i, a :: ys, x => by
    have ih := mem_nestFrom r (i + 1) ys x
    rw [nestFrom, List.mem_append, ih, mem_rowFrom]
    constructor
    · rintro (⟨q, hq, h1, h2⟩ | ⟨m, hm, q, hq, h1, h2⟩)
      · exact ⟨0, by simp, q, hq, h1, by rw [h2, Nat.zero_add]; rfl⟩
      · exact ⟨m + 1, by simpa using hm, q, hq, h1, by rw [h2, show i + (m + 1) = i + 1 + m by omega]⟩
    · rintro ⟨m, hm, q, hq, h1, h2⟩
      match m, hm, h1, h2 with
      | 0, hm, h1, h2 => exact .inl ⟨q, hq, h1, by rw [h2, Nat.zero_add]; rfl⟩
      | m + 1, hm, h1, h2 => exact .inr ⟨m, by simpa using hm, q, hq, h1, by rw [h2, show i + (m + 1) = i + 1 + m by omega]⟩
theorem mem_nestP (l r : List (List S44)) (x : S40) : x ∈ nestP l r ↔ ∃ m, m < l.length ∧ ∃ q, q < r.length ∧ meetP (l.getD m []) (r.getD q []) = true ∧ x = ⟨(m : Int), (q : Int)⟩ := by
  unfold nestP
  rw [mem_nestFrom]
  simp only [Nat.zero_add]
theorem meetP_symm (a b : List S44) : meetP a b = meetP b a := by
  rw [Bool.eq_iff_iff, meetP_iff, meetP_iff]
  constructor
  · rintro ⟨h1, rfl⟩; exact ⟨h1, rfl⟩
  · rintro ⟨h1, rfl⟩; exact ⟨h1, rfl⟩
def swap40 (x : S40) : S40 := ⟨x.f1, x.f0⟩
theorem nestP_nodup (l r : List (List S44)) : (nestP l r).Nodup := (nestP_pw l r).imp (fun {a b} h e => by
  rw [e] at h
  have := pcmp_neg b b
  omega)
theorem nestP_swap (l r : List (List S44)) : ((nestP r l).map swap40).Perm (nestP l r) := by
  refine (List.perm_ext_iff_of_nodup ?_ (nestP_nodup l r)).2 (fun x => ?_)
  · unfold List.Nodup
    rw [List.pairwise_map]
    refine (nestP_nodup r l).imp (fun {x y} h e => h ?_)
    obtain ⟨x0, x1⟩ := x
    obtain ⟨y0, y1⟩ := y
    simp only [swap40, S40.mk.injEq] at e
    simp [e.1, e.2]
  · rw [List.mem_map, mem_nestP]
    constructor
    · rintro ⟨y, hy, rfl⟩
      obtain ⟨m, hm, q, hq, h1, rfl⟩ := (mem_nestP r l y).1 hy
      exact ⟨q, hq, m, hm, by rw [meetP_symm]; exact h1, rfl⟩
    · rintro ⟨m, hm, q, hq, h1, rfl⟩
      exact ⟨⟨(q : Int), (m : Int)⟩, (mem_nestP r l _).2 ⟨q, hq, m, hm, by rw [meetP_symm]; exact h1, rfl⟩, rfl⟩
theorem nestP_len_swap (l r : List (List S44)) : (nestP r l).length = (nestP l r).length := by
  have := (nestP_swap l r).length_eq
  rwa [List.length_map] at this
theorem rdT40 (a : List S40) (i : Nat) : rd_T40 a (i : Int) = a.getD i z40 := by unfold rd_T40; rw [Int.toNat_natCast]
def isP (y x : Int) (z : S40) : Bool := z.f0 == y && (z.f1 == x)
theorem countP_one {α : Type} (p : α → Bool) (x : α) (hx : p x = true) : ∀ l : List α, l.Nodup → x ∈ l → (∀ y ∈ l, p y = true → y = x) → l.countP p = 1
  | [], _, h, _ => by simp at h
  | y :: l, hn, hm, hu => by
    have hn' := List.pairwise_cons.1 hn
    by_cases hy : p y = true
    · rw [List.countP_cons_of_pos hy]
      have e := hu y (by simp) hy
      have h0 : l.countP p = 0 := by
        rw [List.countP_eq_zero]
        intro z hz hpz
        exact hn'.1 z hz (e.trans (hu z (by simp [hz]) hpz).symm)
      rw [h0]
    · rw [List.countP_cons_of_neg hy]
      refine countP_one p x hx l hn'.2 ?_ (fun z hz => hu z (by simp [hz]))
      rcases List.mem_cons.1 hm with h | h
      · rw [h] at hx; exact absurd hx hy
      · exact h
theorem count_one (l r : List (List S44)) (x : S40) (h : x ∈ nestP l r) : (nestP r l).countP (isP x.f1 x.f0) = 1 := by
  refine countP_one _ (swap40 x) (by simp [isP, swap40]) _ (nestP_nodup r l) ?_ ?_
  · obtain ⟨m, hm, q, hq, h1, rfl⟩ := (mem_nestP l r x).1 h
    exact (mem_nestP r l _).2 ⟨q, hq, m, hm, by rw [meetP_symm]; exact h1, rfl⟩
  · intro y _ hy
    obtain ⟨x0, x1⟩ := x
    obtain ⟨y0, y1⟩ := y
    simp only [isP, Bool.and_eq_true, beq_iff_eq] at hy
    simp [swap40, hy.1, hy.2]
end Go.Proofs.YtnllgjloimoebaaDoor.X

/- The page's example of chapter 32. -/
set_option linter.unusedVariables false
set_option linter.unusedSimpArgs false
namespace Go.Proofs.YtnllgjloimoebaaDoor.X
open Go.RowKit Go.Proofs.YtnllgjloimoebaaDoorW.PrintWords

def ex32l : List (List S44) := [[⟨2, 1, ⟨#[]⟩⟩], [⟨0, 0, ⟨#[]⟩⟩], [⟨2, 2, ⟨#[]⟩⟩]]
def ex32r : List (List S44) := [[⟨2, 2, ⟨#[]⟩⟩], [⟨2, 1, ⟨#[]⟩⟩], [⟨2, 1, ⟨#[]⟩⟩]]
def ex32w : List S40 := [⟨0, 1⟩, ⟨0, 2⟩, ⟨2, 0⟩]
theorem ex32_nest : nestP ex32l ex32r = ex32w := by
  simp [nestP, nestFrom, rowFrom, ex32l, ex32r, ex32w, meetP_iff, wholeP, nullV]
theorem ex32_alone : aloneP 3 ex32w = [1] := by
  simp [aloneP, aloneTo, ex32w, firsts]
theorem awake32 : Ev (fun k => tabellionlaw32_awake.f k) true := by
  unfold tabellionlaw32_awake.f value_Num.f
  refine Ev.bind (v := (2, 1, (⟨#[]⟩ : ByteArray))) (Ev.const _) ?_
  refine Ev.bind (v := (2, 2, (⟨#[]⟩ : ByteArray))) (Ev.const _) ?_
  refine Ev.bind (v := ex32l) (Ev.const _) ?_
  refine Ev.bind (v := (2, 2, (⟨#[]⟩ : ByteArray))) (Ev.const _) ?_
  refine Ev.bind (v := (2, 1, (⟨#[]⟩ : ByteArray))) (Ev.const _) ?_
  refine Ev.bind (v := (2, 1, (⟨#[]⟩ : ByteArray))) (Ev.const _) ?_
  refine Ev.bind (v := ex32r) (Ev.const _) ?_
  refine Ev.bind (v := ex32w) (Ev.const _) ?_
  refine Ev.bind (v := aloneP 3 ex32w) (Ev.of fun _ => by unfold joiner_Alone.f; rw [if_pos (by decide)]) ?_
  rw [ex32_alone]
  have hl : lens ex32l := ⟨by decide, by decide⟩
  have hr : lens ex32r := ⟨by decide, by decide⟩
  have hok : ((ex32l.all keyable && ex32r.all keyable) && (decide (ex32l.length ≤ 1048576) && decide (ex32r.length ≤ 1048576))) = true := by decide
  have hlen : ex32w.length ≤ 1099511627776 := by decide
  refine Ev.bind (nest_ev ex32l ex32r hl hr) ?_
  rw [ex32_nest]
  refine Ev.bind (same_ev ex32w hlen) ?_
  refine Ev.congr ?_ (fun k => by rw [if_pos rfl])
  refine Ev.bind (v := hashP ex32l ex32r ex32l.length) (Ev.of fun _ => by unfold joiner_Hash.f; rw [if_pos hok]) ?_
  rw [hashP_eq, ex32_nest]
  refine Ev.bind (same_ev ex32w hlen) ?_
  refine Ev.congr ?_ (fun k => by rw [if_pos rfl])
  refine Ev.bind (v := mergeP ex32l ex32r) (Ev.of fun _ => by unfold joiner_Merge.f; rw [if_pos hok]) ?_
  rw [mergeP_eq, ex32_nest]
  refine Ev.bind (same_ev ex32w hlen) ?_
  refine Ev.congr ?_ (fun k => by rw [if_pos rfl])
  exact Ev.congr (Ev.const true) (fun k => by rfl)

theorem keyable_shorts {l : List (List S44)} (h : l.all keyable = true) (hl : l.length ≤ 1048576) : shorts l ∧ lens l := by
  rw [List.all_eq_true] at h
  exact ⟨⟨by omega, fun r hr => keyable_short (h r hr)⟩, hl, fun r hr => (keyable_len (h r hr)).2⟩
end Go.Proofs.YtnllgjloimoebaaDoor.X

/- JoinerTurns in plain Lean: the pairs turned about; each once; none lost with more keys. -/
set_option linter.unusedVariables false
set_option linter.unusedSimpArgs false
namespace Go.Proofs.YtnllgjloimoebaaDoor.X
open Go.RowKit Go.Proofs.YtnllgjloimoebaaDoorW.PrintWords

section
variable (l r : List (List S44)) (m : List S44) (a b : List S40)
theorem jt_l1 (hbl : b.length ≤ 1048576) (i : Nat) (hil : i ≤ 1048576) (x y : Int) (hc : b.countP (isP y x) = 1) (hv : Ev (fun k => tabellionlaw32_JoinerTurns.l0 k l r m a b ((i + 1 : Nat) : Int)) true) :
    ∀ (n j : Nat), b.length - j = n → j ≤ b.length → Ev (fun k => tabellionlaw32_JoinerTurns.l1 k l r m a b (i : Int) x y (((b.take j).countP (isP y x) : Nat) : Int) (j : Int)) true
  | n, j, hn, hj => by
    have hcl : (b.take j).countP (isP y x) ≤ j := Nat.le_trans List.countP_le_length (by rw [List.length_take]; omega)
    refine Ev.succ ?_ (fun k => by rw [tabellionlaw32_JoinerTurns.l1, w64 j (by omega), w64 i (by omega), w64 _ (by omega)])
    by_cases h1 : j < b.length
    · refine Ev.congr ?_ (fun k => by rw [if_pos (by omega : (j : Int) < (b.length : Int)), if_pos (by omega : (0 : Int) ≤ (j : Int)), rdT40])
      match n, hn with
      | n + 1, hn =>
        have ih := jt_l1 hbl i hil x y hc hv n (j + 1) (by omega) (by omega)
        rw [List.take_succ_eq_append_getElem h1, List.countP_append, List.countP_singleton] at ih
        have hg : b.getD j z40 = b[j] := by rw [List.getD_eq_getElem?_getD, List.getElem?_eq_getElem h1]; rfl
        rw [← hg] at ih
        by_cases h2 : isP y x (b.getD j z40) = true
        · rw [if_pos h2] at ih
          exact Ev.congr ih (fun k => by rw [if_pos (show ((b.getD j z40).f0 == y && (b.getD j z40).f1 == x) = true from h2)])
        · rw [if_neg h2, Nat.add_zero] at ih
          exact Ev.congr ih (fun k => by rw [if_neg (show ¬ ((b.getD j z40).f0 == y && (b.getD j z40).f1 == x) = true from h2)])
      | 0, hn => omega
    · refine Ev.congr hv (fun k => ?_)
      rw [if_neg (by omega : ¬ (j : Int) < (b.length : Int)), List.take_of_length_le (by omega), hc, if_pos (show ((1 : Nat) : Int) = 1 from rfl)]
theorem jt_l2 (c : List S40) (tl : List S40) (hc : c = a ++ tl) (hcl : c.length ≤ 1048576) (ha : ∀ z ∈ a, z.f0 < (l.length : Int)) (ht : ∀ z ∈ tl, ¬ z.f0 < (l.length : Int)) :
    ∀ (n i : Nat), c.length - i = n → i ≤ c.length → Ev (fun k => tabellionlaw32_JoinerTurns.l2 k l a c ((min i a.length : Nat) : Int) (i : Int)) true
  | n, i, hn, hi => by
    have hal : c.length = a.length + tl.length := by rw [hc, List.length_append]
    refine Ev.succ ?_ (fun k => by rw [tabellionlaw32_JoinerTurns.l2, w64 i (by omega), w64 _ (by omega)])
    by_cases h1 : i < c.length
    · refine Ev.congr ?_ (fun k => by rw [if_pos (by omega : (i : Int) < (c.length : Int)), if_pos (by omega : (0 : Int) ≤ (i : Int)), rdT40])
      match n, hn with
      | n + 1, hn =>
        have ih := jt_l2 c tl hc hcl ha ht n (i + 1) (by omega) (by omega)
        by_cases h2 : i < a.length
        · have hg : c.getD i z40 = a.getD i z40 := by rw [hc, getD_append_lt _ _ _ _ h2]
          rw [hg]
          have h3 := ha _ (getD_mem a z40 i h2)
          rw [Nat.min_eq_left (by omega : i ≤ a.length)]
          rw [Nat.min_eq_left (by omega : i + 1 ≤ a.length)] at ih
          refine Ev.congr ih (fun k => ?_)
          rw [if_pos h3, if_neg (by omega : ¬ (i : Int) ≥ (a.length : Int)), if_pos (by omega : (0 : Int) ≤ (i : Int)), if_pos (by omega : (i : Int) < (a.length : Int)), rdT40, if_neg (by simp)]
        · have hg : c.getD i z40 ∈ tl := by
            rw [hc, List.getD_eq_getElem?_getD, List.getElem?_append_right (by omega), List.getElem?_eq_getElem (by omega)]
            simp
          rw [Nat.min_eq_right (by omega : a.length ≤ i)]
          rw [Nat.min_eq_right (by omega : a.length ≤ i + 1)] at ih
          exact Ev.congr ih (fun k => by rw [if_neg (ht _ hg)])
      | 0, hn => omega
    · rw [Nat.min_eq_right (by omega : a.length ≤ i)]
      refine Ev.congr ?_ (fun k => by rw [if_neg (by omega : ¬ (i : Int) < (c.length : Int)), if_pos rfl])
      exact Ev.bind awake32 (Ev.const _)
end
theorem nestP_snoc (l r : List (List S44)) (m : List S44) : nestP (l ++ [m]) r = nestP l r ++ rowFrom m (l.length : Int) 0 r := by
  unfold nestP
  rw [nestFrom_snoc, Nat.zero_add]
theorem jt_l0 (l r : List (List S44)) (m : List S44) (h1 : l.all keyable = true) (h2 : r.all keyable = true) (hm : m.length ≤ 1099511627776) (h3 : l.length ≤ 40) (h4 : r.length ≤ 40) :
    ∀ (n i : Nat), (nestP l r).length - i = n → i ≤ (nestP l r).length → Ev (fun k => tabellionlaw32_JoinerTurns.l0 k l r m (nestP l r) (nestP r l) (i : Int)) true
  | n, i, hn, hi => by
    obtain ⟨hsl, hll⟩ := keyable_shorts h1 (by omega)
    obtain ⟨hsr, hlr⟩ := keyable_shorts h2 (by omega)
    have hlen : (nestP l r).length ≤ 1600 := by
      have h5 := nestP_len l r
      have h6 := Nat.mul_le_mul h3 h4
      omega
    refine Ev.succ ?_ (fun k => by rw [tabellionlaw32_JoinerTurns.l0])
    by_cases h5 : i < (nestP l r).length
    · have hmem := getD_mem (nestP l r) z40 i h5
      obtain ⟨p, hp, q, hq, hpq, hx⟩ := (mem_nestP l r _).1 hmem
      have hkey := (meetP_iff.1 hpq).2
      refine Ev.congr (g := fun k => (value_Orders.f k (rd_L4 l (p : Int)) (rd_L4 r (q : Int))).bind (fun t => tabellionlaw32_JoinerTurns.j2 k l r m (nestP l r) (nestP r l) (i : Int) (p : Int) (q : Int) (t != 0))) ?_ (fun k => by
        rw [if_pos (by omega : (i : Int) < ((nestP l r).length : Int)), if_pos (by omega : (0 : Int) ≤ (i : Int)), rdT40, hx]
        show (if (p : Int) < 0 then _ else if (p : Int) ≥ (l.length : Int) then _ else if (q : Int) < 0 then _ else if (q : Int) ≥ (r.length : Int) then _ else if 0 ≤ (p : Int) then (if (p : Int) < (l.length : Int) then (if 0 ≤ (q : Int) then (if (q : Int) < (r.length : Int) then _ else _) else _) else _) else _) = _
        rw [if_neg (by omega : ¬ (p : Int) < 0), if_neg (by omega : ¬ (p : Int) ≥ (l.length : Int)), if_neg (by omega : ¬ (q : Int) < 0), if_neg (by omega : ¬ (q : Int) ≥ (r.length : Int)), if_pos (by omega : (0 : Int) ≤ (p : Int)), if_pos (by omega : (p : Int) < (l.length : Int)), if_pos (by omega : (0 : Int) ≤ (q : Int)), if_pos (by omega : (q : Int) < (r.length : Int))])
      refine Ev.bind (orders_ev _ _ (shorts_rd hsl _).1) ?_
      rw [rd4, rd4, hkey, rcmp_self]
      have hj3 : Ev (fun k => tabellionlaw32_JoinerTurns.j3 k l r m (nestP l r) (nestP r l) (i : Int) (p : Int) (q : Int) false) true := by
        refine Ev.succ ?_ (fun k => by rw [tabellionlaw32_JoinerTurns.j3, if_neg (by simp)])
        match n, hn with
        | n + 1, hn =>
          have ih := jt_l0 l r m h1 h2 hm h3 h4 n (i + 1) (by omega) (by omega)
          have hcnt := count_one l r _ hmem
          rw [hx] at hcnt
          exact jt_l1 l r m (nestP l r) (nestP r l) (by have := nestP_len_swap l r; omega) i (by omega) (p : Int) (q : Int) hcnt ih _ 0 rfl (Nat.zero_le _)
        | 0, hn => omega
      refine Ev.succ ?_ (fun k => by rw [tabellionlaw32_JoinerTurns.j2, if_neg (by simp)])
      by_cases hi0 : i = 0
      · subst hi0
        exact Ev.congr hj3 (fun k => by rw [if_neg (by simp)])
      · obtain ⟨i', rfl⟩ : ∃ i', i = i' + 1 := ⟨i - 1, by omega⟩
        have hw : wrap64 (((i' + 1 : Nat) : Int) - 1) = (i' : Int) := by unfold wrap64; omega
        have hpw := List.pairwise_iff_getElem.1 (nestP_pw l r) i' (i' + 1) (by omega) h5 (by omega)
        have hg1 : (nestP l r)[i' + 1] = ⟨(p : Int), (q : Int)⟩ := by rw [← hx, List.getD_eq_getElem?_getD, List.getElem?_eq_getElem h5]; rfl
        have hg0 : (nestP l r).getD i' z40 = (nestP l r)[i'] := by rw [List.getD_eq_getElem?_getD, List.getElem?_eq_getElem (by omega)]; rfl
        rw [hg1, ← hg0] at hpw
        obtain ⟨u, hu⟩ : ∃ u, u = (nestP l r).getD i' z40 := ⟨_, rfl⟩
        rw [← hu] at hpw
        unfold pcmp at hpw
        simp only at hpw
        refine Ev.congr hj3 (fun k => ?_)
        rw [if_pos (by omega : ((i' + 1 : Nat) : Int) > 0), hw, if_pos (by omega : (0 : Int) ≤ (i' : Int)), if_pos (by omega : (i' : Int) < ((nestP l r).length : Int)), rdT40, ← hu]
        by_cases h6 : icmp u.f0 (p : Int) = 0
        · rw [if_pos h6] at hpw
          have h7 := icmp_zero.1 h6
          have h8 := icmp_lt.1 hpw
          rw [if_neg (by omega : ¬ u.f0 > (p : Int)), if_pos h7, decide_eq_false (by omega : ¬ u.f1 ≥ (q : Int))]
        · rw [if_neg h6] at hpw
          have h8 := icmp_lt.1 hpw
          rw [if_neg (by omega : ¬ u.f0 > (p : Int)), if_neg (by omega : ¬ u.f0 = (p : Int))]
    · refine Ev.congr ?_ (fun k => by rw [if_neg (by omega : ¬ (i : Int) < ((nestP l r).length : Int))])
      refine Ev.bind (v := []) (Ev.const _) ?_
      refine Ev.congr ?_ (fun k => by rw [if_pos (by simp; omega)])
      refine Ev.bind (v := [] ++ l) (Ev.const _) ?_
      rw [List.nil_append]
      refine Ev.congr ?_ (fun k => by rw [if_pos (by omega)])
      have hlm : lens (l ++ [m]) := ⟨by rw [List.length_append, List.length_singleton]; omega, fun x hx => by
        rcases List.mem_append.1 hx with h | h
        · exact hll.2 x h
        · rw [List.mem_singleton.1 h]; exact hm⟩
      refine Ev.bind (nest_ev _ r hlm hlr) ?_
      have hrl := rowFrom_len m (l.length : Int) 0 r
      refine Ev.congr (jt_l2 l (nestP l r) (nestP (l ++ [m]) r) _ (nestP_snoc l r m) ?_ ?_ ?_ _ 0 rfl (Nat.zero_le _)) (fun k => by rw [Nat.zero_min]; rfl)
      · rw [nestP_snoc, List.length_append]; omega
      · intro z hz
        obtain ⟨p, hp, q, hq, _, rfl⟩ := (mem_nestP l r _).1 hz
        show (p : Int) < _
        omega
      · intro z hz
        obtain ⟨q, hq, _, rfl⟩ := (mem_rowFrom _ _ _ _ _).1 hz
        show ¬ (l.length : Int) < _
        omega
theorem turns32 (l r : List (List S44)) (m : List S44) (h1 : l.all keyable = true) (h2 : r.all keyable = true) (hm : m.length ≤ 1099511627776) : Ev (fun k => tabellionlaw32_JoinerTurns.f k l r m) true := by
  have haw : Ev (fun k => tabellionlaw32_JoinerTurns.j0 k l r m true) true := by
    refine Ev.succ ?_ (fun k => by rw [tabellionlaw32_JoinerTurns.j0, if_pos rfl])
    exact Ev.bind awake32 (Ev.const _)
  unfold tabellionlaw32_JoinerTurns.f
  by_cases hl : (l.length : Int) > 40
  · exact Ev.congr haw (fun k => by rw [if_pos hl])
  · by_cases hr : (r.length : Int) > 40
    · exact Ev.congr haw (fun k => by rw [if_neg hl, decide_eq_true hr])
    · have hok : ((l.all keyable && r.all keyable) && (decide (l.length ≤ 1048576) && decide (r.length ≤ 1048576))) = true := by
        rw [h1, h2, decide_eq_true (by omega), decide_eq_true (by omega)]; rfl
      have hok2 : ((r.all keyable && l.all keyable) && (decide (r.length ≤ 1048576) && decide (l.length ≤ 1048576))) = true := by
        rw [h1, h2, decide_eq_true (by omega), decide_eq_true (by omega)]; rfl
      refine Ev.congr ?_ (fun k => by rw [if_neg hl, decide_eq_false hr])
      refine Ev.succ ?_ (fun k => by rw [tabellionlaw32_JoinerTurns.j0, if_neg (by simp)])
      refine Ev.bind (v := mergeP l r) (Ev.of fun _ => by unfold joiner_Merge.f; rw [if_pos hok]) ?_
      refine Ev.bind (v := hashP r l r.length) (Ev.of fun _ => by unfold joiner_Hash.f; rw [if_pos hok2]) ?_
      rw [mergeP_eq, hashP_eq]
      refine Ev.congr (jt_l0 l r m h1 h2 hm (by omega) (by omega) _ 0 rfl (Nat.zero_le _)) (fun k => ?_)
      rw [if_pos (by rw [nestP_len_swap l r])]
      rfl
end Go.Proofs.YtnllgjloimoebaaDoor.X

/- JoinerTurns: the row's statement for what is of bulk at most 1048576, and its card: the walk, the plain law, the opening and the shutting joined. -/
set_option linter.unusedVariables false
namespace Go.Proofs.YtnllgjloimoebaaDoor.joinerTurns
open Go.ChangeShapes Go.WideShapes Go.ChangeAt Go.RowKit Go.Proofs.YtnllgjloimoebaaDoorW.PrintWords Go.Proofs.YtnllgjloimoebaaDoor.X

theorem laidOut : laidOutB Tryd.prog = true := by kernel_rfl

set_option maxRecDepth 100000 in
/-- WHAT THE WALK AND THE PLAIN LAW GIVE, FOR EVERY ARGUMENT WITHIN THE BOUND AND EVERY WORLD THAT HOLDS THE TABLES. -/
theorem contract (H : Type) (enc : TypeId × Value → H) (W : World) (base : Nat) (args : Array Value) (ds gs : List (DataW H)) (before : List MemPlace)
    (hval : ∀ (j : Nat) t v, Tryd.f7.params[j]? = some t → args[j]? = some v → Value.okWide Tryd.prog W .any base t v)
    (hW : DataW.Whole enc Tryd.prog Tryd.f7.params.toList Rows.joinerTurnsSpec.vars false W args.toList ds gs before) (hbk : Rows.uptoSmall H (ds ++ gs) = true) (hL : laidMetH Tryd.prog Rows.joinerTurnsUptoRow.laid W) :
    Calls Tryd.prog 7 args W fun e W' => ∃ v, e = .returned v ∧ Rows.joinerTurnsSpec.post enc Tryd.prog Tryd.f7 false true false false W args v W' := by
  have hW' := hW
  obtain ⟨p, q, hA0, hV, rfl, hfz, hnd⟩ := hW
  have hlt := hW'.lt
  have hA : DataW.TrodAll enc Tryd.prog W 0 (fun _ => true) true Tryd.f7.params.toList args.toList ds p := hA0
  rw [Tryd.params7] at hA hval
  obtain ⟨v0, vs0, d0, ds0, p0, q0, hargs0, rfl, rfl, h0, r0⟩ := trodAll_cons hA
  obtain ⟨v1, vs1, d1, ds1, p1, q1, hargs1, rfl, rfl, h1, r1⟩ := trodAll_cons r0
  obtain ⟨v2, vs2, d2, ds2, p2, q2, hargs2, rfl, rfl, h2, r2⟩ := trodAll_cons r1
  obtain ⟨rfl, rfl, rfl⟩ := trodAll_nil r2
  obtain rfl : args = #[v0, v1, v2] := by cases args; simp_all
  obtain ⟨rfl, rfl⟩ := trodVars_none hV
  obtain ⟨a0, len0, cap0, rfl⟩ := okWide_slice Tryd.underlying22 (hval 0 22 v0 rfl rfl)
  obtain ⟨a1, len1, cap1, rfl⟩ := okWide_slice Tryd.underlying22 (hval 1 22 v1 rfl rfl)
  obtain ⟨a2, len2, cap2, rfl⟩ := okWide_slice Tryd.underlying33 (hval 2 33 v2 rfl rfl)
  clear hA0
  have hbs : Rows.uptoBulk d0 ≤ 1048576 ∧ Rows.uptoBulk d1 ≤ 1048576 ∧ Rows.uptoBulk d2 ≤ 1048576 := by
    simp only [Rows.uptoSmall, List.append_nil, Rows.uptoBulkAll, decide_eq_true_eq] at hbk
    omega
  obtain ⟨hb0, hb1, hb2⟩ := hbs
  obtain ⟨fuel0, ht0⟩ := h0
  obtain ⟨A0, c0, l0, e0, hlc0, hC0, hfit0⟩ := open_rows ht0 hb0
  have ee0 : Value.slice a0 len0 cap0 = Value.slice A0 l0.length c0 := by simpa [Value.cells] using e0
  rw [ee0] at ht0 hW' ⊢
  obtain ⟨fuel1, ht1⟩ := h1
  obtain ⟨A1, c1, l1, e1, hlc1, hC1, hfit1⟩ := open_rows ht1 hb1
  have ee1 : Value.slice a1 len1 cap1 = Value.slice A1 l1.length c1 := by simpa [Value.cells] using e1
  rw [ee1] at ht1 hW' ⊢
  obtain ⟨fuel2, ht2⟩ := h2
  obtain ⟨A2, c2, l2, e2, hlc2, hC2, hfit2⟩ := open_rowB ht2 hb2
  have ee2 : Value.slice a2 len2 cap2 = Value.slice A2 l2.length c2 := by simpa [Value.cells] using e2
  rw [ee2] at ht2 hW' ⊢
  have htab : Tab W := tab_of_laid hL
  obtain ⟨k, hk⟩ := turns32 l0 l1 l2 (rowsFit_all hfit0).1 (rowsFit_all hfit1).1 (by omega)
  refine (tabellionlaw32_JoinerTurns.calls k (fun _ => True) A0 c0 l0 A1 c1 l1 (fun _ => True) A2 c2 l2 true W (Kd.V_mk hlc0 (share_rows hC0)) hC1 hlc1 (Kd.V_mk hlc2 (share_row hC2)) (hk k (Nat.le_refl _)) htab rfl).mono fun e W' ⟨he, hb⟩ => ?_
  subst he
  simp only [List.append_nil] at hW' hlt
  have hargs2 : DataW.TrodAll enc Tryd.prog W' 0 (fun b => decide (b < W.heap.size)) true [22, 22, 33] [.slice A0 l0.length c0, .slice A1 l1.length c1, .slice A2 l2.length c2] [d0, d1, d2] (p0 ++ (p1 ++ (p2 ++ []))) :=
    (trodAll_cons_mk (Below.trod laidOut (by kernel_rfl) (of_decide_eq_true (by kernel_rfl)) ⟨fuel0, ht0⟩ hb (fun x hx => hlt x (by simp [hx]))) (trodAll_cons_mk (Below.trod laidOut (by kernel_rfl) (of_decide_eq_true (by kernel_rfl)) ⟨fuel1, ht1⟩ hb (fun x hx => hlt x (by simp [hx]))) (trodAll_cons_mk (Below.trod laidOut (by kernel_rfl) (of_decide_eq_true (by kernel_rfl)) ⟨fuel2, ht2⟩ hb (fun x hx => hlt x (by simp [hx]))) trodAll_mk0)))
  refine ⟨_, rfl, _, _, _, [], _, [], hW', ?_, hargs2, rfl, hb.frame _, fun h => by cases h⟩
  exact trodAll_cons_mk (shut_bool Tryd.underlying4 _) trodAll_mk0
theorem reads (os : Os) {H : Type} (enc : TypeId × Value → H) : ∃ places, DataW.whole enc Tryd.prog ((laidWorld os).forCall (fun _ _ => 0) ⟨#[], #[.slice none 0 0, .slice none 0 0, .slice none 0 0], []⟩).memory Tryd.f7.params.toList Rows.joinerTurnsSpec.vars false (#[.slice none 0 0, .slice none 0 0, .slice none 0 0] : Array Value).toList 8 = some ([.nil, .nil, .nil], [], places) :=
  ⟨[], by kernel_rfl⟩
theorem laid_met (os : Os) : laidMet Tryd.prog laidList ((laidWorld os).forCall (fun _ _ => 0) ⟨#[], #[.slice none 0 0, .slice none 0 0, .slice none 0 0], []⟩).memory :=
  laidMet_of_run3 8 (by kernel_rfl) (by kernel_rfl) (by kernel_rfl)

set_option maxRecDepth 100000 in
theorem liftedUpto (os : Os) (started : os.Started) (H : Type) (enc : TypeId × Value → H) (F : Stop.Interp) :
    ReturnsInHanded {} Tryd.checked os 7 .any ((Rows.OpenSpec.upto Rows.joinerTurnsSpec).preRow enc Tryd.prog Tryd.f7 Rows.joinerTurnsUptoRow.domain false Rows.joinerTurnsUptoRow.laid) (((Rows.OpenSpec.upto Rows.joinerTurnsSpec).at F).post enc Tryd.prog Tryd.f7 false true false false) := by
  obtain ⟨places, hx⟩ := reads os enc
  refine returnsInHanded_of_row (C := Tryd.checked) (s := Rows.OpenSpec.upto Rows.joinerTurnsSpec) own started (by kernel_rfl) Tryd.func7
    (witness_row_at (enc := enc) (C := Tryd.checked) false (laidWorld os) #[.slice none 0 0, .slice none 0 0, .slice none 0 0] rfl (by kernel_rfl) (by kernel_rfl) (by kernel_rfl)
      (OpenSpec.preRow_of_cond 8 hx (by kernel_rfl) (fun k hk => by cases hk; kernel_rfl) (by kernel_rfl) (laid_met os))) ?_
  intro W base args ds gs before hval hW _ hcond _ hL _ _
  exact contract H enc W base args ds gs before hval hW (hcond _ rfl) hL

theorem saidUpto : Rows.JoinerTurnsUptoSaid :=
  OpenClaim.holds_of_cond 7 Tryd.f7 rfl rfl rfl rfl rfl rfl rfl ⟨rfl, rfl, rfl, rfl, rfl⟩ rfl rfl rfl rfl rfl (by kernel_rfl) Tryd.func7 (by kernel_rfl)
    (of_decide_eq_true (by kernel_rfl)) (by unfold Func.isWrapper; first | (rw [if_pos (by decide +kernel)]; kernel_rfl) | (rw [if_neg (by decide +kernel)]; exact ⟨rfl, rfl⟩))
    (fun os started H enc _ F => by rw [OpenClaim.pre_eq_preRow]; exact liftedUpto os started H enc F)

/-- No parameter wants a stand-in; the program's own looks are off: what the card asks. -/
theorem plain (f : FuncId) (fn : Func) (hf : Tryd.pinned.checked.prog.funcNamed Rows.joinerTurnsUptoRow.func = some f) (hfn : Tryd.pinned.checked.prog.funcs[f]? = some fn) :
    false = Tryd.pinned.checked.prog.looks [] ∧ ∀ (j : Nat) t, fn.params[j]? = some t → Tryd.pinned.checked.prog.wantsStandIn t = false := by
  obtain rfl : f = 7 := Option.some.inj ((show Tryd.prog.funcNamed Rows.joinerTurnsUptoRow.func = some 7 by kernel_rfl).symm.trans hf) |>.symm
  obtain rfl : fn = Tryd.f7 := (Option.some.inj (Tryd.func7.symm.trans hfn)).symm
  refine ⟨by kernel_rfl, fun j t ht => ?_⟩
  rw [Tryd.params7] at ht
  have hm : t = 22 ∨ t = 22 ∨ t = 33 := by simpa using Array.mem_of_getElem? ht
  rcases hm with rfl | rfl | rfl
  · exact (show Tryd.prog.wantsStandIn 22 = false by kernel_rfl)
  · exact (show Tryd.prog.wantsStandIn 22 = false by kernel_rfl)
  · exact (show Tryd.prog.wantsStandIn 33 = false by kernel_rfl)

/-- THE SECOND FORM's CARD -/
theorem cardUpto : Rows.JoinerTurnsUptoCardSaid :=
  Claim7.holds_tied_plain_at .later [] _ _ _ _ saidUpto (fun _ h => by cases h) (by kernel_rfl) (fun _ h => by cases h) joinerTurnsUpto_row_tie rfl ⟨rfl, rfl⟩ (by kernel_rfl) rfl plain (by kernel_rfl)
end Go.Proofs.YtnllgjloimoebaaDoor.joinerTurns
