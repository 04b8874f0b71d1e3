/- Which keys of any two lists meet is as the reference says, in all three ways; for arguments of bulk at most 1048576. Part 5 of 6. -/
import Derived.Test.YtnllgjloimoebaaDoorMJSays0
import Derived.Test.YtnllgjloimoebaaDoorMJSays3
import Derived.Test.YtnllgjloimoebaaDoorMJSays1
import Derived.Test.YtnllgjloimoebaaDoorMJSays2
import Derived.Test.YtnllgjloimoebaaDoorWEqStruct

-- By xprint.py (this session's own program over the kit's print): not trusted: Lean checks it.
namespace Go.Proofs.YtnllgjloimoebaaDoor.X
open Go.RowKit Go.Proofs.YtnllgjloimoebaaDoorW.PrintWords Go.Proofs.YtnllgjloimoebaaDoorW.PrintLast Go.Proofs.YtnllgjloimoebaaDoorW.PrintMore
attribute [local go_sem] max2_int min2_int max_two min_two max_three min_three max_four min_four   -- for this text's walks alone
set_option linter.unusedVariables false
set_option linter.unusedSimpArgs false

/-! ### tabellionlaw32_JoinerSays: function 5 -/
def tabellionlaw32_JoinerSays.j0 : Nat → List (List (S44)) → List (List (S44)) → Bool → Option (Bool)
 | 0, _, _, _ => none
 | k + 1, x0, x1, x13 => if x13 = true then ((tabellionlaw32_awake.f k).bind fun t500 => (some t500)) else ((tabellionref32_Nest.f k x0 x1).bind fun t501 => ((tabellionlaw32_awake.f k).bind fun t504 => (if t504 = true then ((joiner_Nest.f k x0 x1).bind fun t505 => ((tabellionref32_Same.f k t505 t501).bind fun t508 => (if t508 = true then ((joiner_Hash.f x0 x1).bind fun t509 => ((tabellionref32_Same.f k t509 t501).bind fun t512 => (if t512 = true then ((joiner_Merge.f x0 x1).bind fun t513 => ((tabellionref32_Same.f k t513 t501).bind fun t516 => (some t516))) else (some false)))) else (some false)))) else (some false))))
def tabellionlaw32_JoinerSays.f (k : Nat) (l0 : List (List (S44))) (l1 : List (List (S44))) : Option (Bool) := if (l0.length : Int) > 60 then (tabellionlaw32_JoinerSays.j0 k l0 l1 true) else (tabellionlaw32_JoinerSays.j0 k l0 l1 (decide ((l1.length : Int) > 60)))
set_option maxHeartbeats 8000000 in
set_option maxRecDepth 100000 in
theorem tabellionlaw32_JoinerSays.calls (k : Nat) (A0 : Option Addr) (c0 : Nat) (l0 : List (List (S44))) (A1 : Option Addr) (c1 : Nat) (l1 : List (List (S44))) (r : Bool) (w : World) (hr0 : Kd.C (Kd.slice 44 k44) w A0 l0.length l0) (hc0 : l0.length ≤ c0) (hr1 : Kd.C (Kd.slice 44 k44) w A1 l1.length l1) (hc1 : l1.length ≤ c1) (h : tabellionlaw32_JoinerSays.f k l0 l1 = some r) (htab : Tab w) (hrt : r = true) :
  Calls Tryd.prog 5 #[.slice A0 l0.length c0, .slice A1 l1.length c1] w fun e w' => e = .returned (.bool r) ∧ Below w.heap.size w w' := by
 have HRT := Aside0.mk hrt
 clear hrt
 have HTAB := Aside0.mk htab
 clear htab
 have HR0 := Aside0.mk hr0
 have HC0 := Aside0.mk hc0
 clear hr0 hc0
 have HR1 := Aside0.mk hr1
 have HC1 := Aside0.mk hc1
 clear hr1 hc1
 have HB := Aside0.mk (Below.refl w.heap.size w)
 have H : (if (l0.length : Int) > 60 then (tabellionlaw32_JoinerSays.j0 k l0 l1 true) else (tabellionlaw32_JoinerSays.j0 k l0 l1 (decide ((l1.length : Int) > 60)))) = some r := h
 clear h
 have HC3 := Aside0.mk H
 clear H
 go_enter Tryd.func5, Tryd.ntmps5
 go_upto_region 1 with (fail)
 go_cut [13] (fun v13 wc => ∃ (kq : Nat) (x13_2 : Bool), v13 = .bool x13_2 ∧ Aside0 (tabellionlaw32_JoinerSays.j0 kq l0 l1 x13_2 = some r) ∧ Aside0 (kq ≤ k) ∧ Aside0 (Below w.heap.size w wc))
 case first =>
  have H := HC3.out
  clear HC3
  by_cases c4 : (l0.length : Int) > 60
  ·
   rw [if_pos c4] at H
   have c4b0 : decide (60 < (l0.length : Int)) = true := decide_eq_true c4
   have c4b1 : decide (60 < l0.length) = true := decide_eq_true (by omega)
   clear c4
   (first | rw [c4b0] | (simp only [i64_w, i32_w]; rw [c4b0]) | skip)
   have H' := Aside0.mk H
   clear H
   go_wp2
   go_meet
   case rel => exact ⟨_, (true), (by first | rfl | (simp; done) | (simp [*]; done)), H', ⟨by first | omega | exact Nat.le_refl _⟩, ⟨by repeat (first | (with_reducible first | exact HB.out | apply below_alloc | apply pw_below_drewN | apply below_drew1) | exact HB.out)⟩⟩
  ·
   rw [if_neg c4] at H
   have c4b0 : decide (60 < (l0.length : Int)) = false := decide_eq_false c4
   have c4b1 : decide (60 < l0.length) = false := decide_eq_false (by omega)
   clear c4
   (first | rw [c4b0] | (simp only [i64_w, i32_w]; rw [c4b0]) | skip)
   have H' := Aside0.mk H
   clear H
   go_wp2
   go_meet
   case rel => exact ⟨_, (decide ((l1.length : Int) > 60)), (by first | rfl | (simp; done) | (simp [*]; done)), H', ⟨by first | omega | exact Nat.le_refl _⟩, ⟨by repeat (first | (with_reducible first | exact HB.out | apply below_alloc | apply pw_below_drewN | apply below_drew1) | exact HB.out)⟩⟩
 case rest =>
  clear HC3
  try clear c1
  try clear p2
  try clear c4
  try clear c4b0
  try clear c4b1
  obtain ⟨kq, x13_2, rfl, HA, HJ2, HB⟩ := hcut
  cases kq with
  | zero => exact absurd HA.out (by simp [tabellionlaw32_JoinerSays.j0])
  | succ kj2 =>
   have H := HA.out
   clear HA
   simp only [tabellionlaw32_JoinerSays.j0] at H
   by_cases c5 : x13_2 = true
   ·
    subst c5
    have H1 : ((tabellionlaw32_awake.f kj2).bind fun t500 => (some t500)) = some r := by rw [if_pos rfl] at H; exact H
    clear H
    have H := H1
    clear H1
    replace H := Option.bind_eq_some_iff.mp H
    obtain ⟨t500, A60, H⟩ := H
    replace H : (some t500) = some r := H
    have A6 := Aside0.mk A60
    clear A60
    obtain rfl := Option.some.inj H
    go_wp2_with (first | ((with_reducible refine gate_callee (f := 19) rfl ?_); refine goesL_ (some 14) rfl rfl Tryd.func19 (by kernel_rfl) rfl #[] rfl (by (try simp only [List.map_toArray, List.map_cons, List.map_nil]); first | done | rfl | (simp only [List.length_drop, List.length_take]; rfl)) ?_; (with_reducible refine (tabellionlaw32_awake.calls kj2  t500 _ A6.out ?tab (by first | rfl | exact HRT.out)).mono ?_); (case tab => exact (tab_of HTAB.out (by repeat (first | (with_reducible first | exact HB.out | apply below_alloc | apply pw_below_drewN | apply below_drew1) | exact HB.out)))); rintro e w7 ⟨rfl, hb⟩; refine ⟨_, rfl, ?_⟩; have n0_ := Aside0.mk (below_step (by repeat (first | (with_reducible first | exact HB.out | apply below_alloc | apply pw_below_drewN | apply below_drew1) | exact HB.out)) hb); clear HB; have HB := n0_; clear n0_; (try clear hb); (try clear hb2); (try clear hk); (try clear hi)))
    go_ret
    exact ⟨by first | rfl | (simp [errW_none, errW_some] <;> rfl) | (simp [*, errW_none, errW_some] <;> rfl), by repeat (first | (with_reducible first | exact HB.out | apply below_alloc | apply pw_below_drewN | apply below_drew1) | exact HB.out)⟩
   ·
    replace c5 := Bool.eq_false_iff.mpr c5
    subst c5
    have H1 : ((tabellionref32_Nest.f kj2 l0 l1).bind fun t501 => ((tabellionlaw32_awake.f kj2).bind fun t504 => (if t504 = true then ((joiner_Nest.f kj2 l0 l1).bind fun t505 => ((tabellionref32_Same.f kj2 t505 t501).bind fun t508 => (if t508 = true then ((joiner_Hash.f l0 l1).bind fun t509 => ((tabellionref32_Same.f kj2 t509 t501).bind fun t512 => (if t512 = true then ((joiner_Merge.f l0 l1).bind fun t513 => ((tabellionref32_Same.f kj2 t513 t501).bind fun t516 => (some t516))) else (some false)))) else (some false)))) else (some false)))) = some r := by rw [if_neg (show ¬ (false = true) by decide)] at H; exact H
    clear H
    have H := H1
    clear H1
    replace H := Option.bind_eq_some_iff.mp H
    obtain ⟨t501, A80, H⟩ := H
    replace H : ((tabellionlaw32_awake.f kj2).bind fun t504 => (if t504 = true then ((joiner_Nest.f kj2 l0 l1).bind fun t505 => ((tabellionref32_Same.f kj2 t505 t501).bind fun t508 => (if t508 = true then ((joiner_Hash.f l0 l1).bind fun t509 => ((tabellionref32_Same.f kj2 t509 t501).bind fun t512 => (if t512 = true then ((joiner_Merge.f l0 l1).bind fun t513 => ((tabellionref32_Same.f kj2 t513 t501).bind fun t516 => (some t516))) else (some false)))) else (some false)))) else (some false))) = some r := H
    have A8 := Aside0.mk A80
    clear A80
    replace H := Option.bind_eq_some_iff.mp H
    obtain ⟨t504, A90, H⟩ := H
    replace H : (if t504 = true then ((joiner_Nest.f kj2 l0 l1).bind fun t505 => ((tabellionref32_Same.f kj2 t505 t501).bind fun t508 => (if t508 = true then ((joiner_Hash.f l0 l1).bind fun t509 => ((tabellionref32_Same.f kj2 t509 t501).bind fun t512 => (if t512 = true then ((joiner_Merge.f l0 l1).bind fun t513 => ((tabellionref32_Same.f kj2 t513 t501).bind fun t516 => (some t516))) else (some false)))) else (some false)))) else (some false)) = some r := H
    have A9 := Aside0.mk A90
    clear A90
    by_cases c10 : t504 = true
    ·
     subst c10
     have H1 : ((joiner_Nest.f kj2 l0 l1).bind fun t505 => ((tabellionref32_Same.f kj2 t505 t501).bind fun t508 => (if t508 = true then ((joiner_Hash.f l0 l1).bind fun t509 => ((tabellionref32_Same.f kj2 t509 t501).bind fun t512 => (if t512 = true then ((joiner_Merge.f l0 l1).bind fun t513 => ((tabellionref32_Same.f kj2 t513 t501).bind fun t516 => (some t516))) else (some false)))) else (some false)))) = some r := by rw [if_pos rfl] at H; exact H
     clear H
     have H := H1
     clear H1
     replace H := Option.bind_eq_some_iff.mp H
     obtain ⟨t505, A110, H⟩ := H
     replace H : ((tabellionref32_Same.f kj2 t505 t501).bind fun t508 => (if t508 = true then ((joiner_Hash.f l0 l1).bind fun t509 => ((tabellionref32_Same.f kj2 t509 t501).bind fun t512 => (if t512 = true then ((joiner_Merge.f l0 l1).bind fun t513 => ((tabellionref32_Same.f kj2 t513 t501).bind fun t516 => (some t516))) else (some false)))) else (some false))) = some r := H
     have A11 := Aside0.mk A110
     clear A110
     replace H := Option.bind_eq_some_iff.mp H
     obtain ⟨t508, A120, H⟩ := H
     replace H : (if t508 = true then ((joiner_Hash.f l0 l1).bind fun t509 => ((tabellionref32_Same.f kj2 t509 t501).bind fun t512 => (if t512 = true then ((joiner_Merge.f l0 l1).bind fun t513 => ((tabellionref32_Same.f kj2 t513 t501).bind fun t516 => (some t516))) else (some false)))) else (some false)) = some r := H
     have A12 := Aside0.mk A120
     clear A120
     by_cases c13 : t508 = true
     ·
      subst c13
      have H1 : ((joiner_Hash.f l0 l1).bind fun t509 => ((tabellionref32_Same.f kj2 t509 t501).bind fun t512 => (if t512 = true then ((joiner_Merge.f l0 l1).bind fun t513 => ((tabellionref32_Same.f kj2 t513 t501).bind fun t516 => (some t516))) else (some false)))) = some r := by rw [if_pos rfl] at H; exact H
      clear H
      have H := H1
      clear H1
      replace H := Option.bind_eq_some_iff.mp H
      obtain ⟨t509, A140, H⟩ := H
      replace H : ((tabellionref32_Same.f kj2 t509 t501).bind fun t512 => (if t512 = true then ((joiner_Merge.f l0 l1).bind fun t513 => ((tabellionref32_Same.f kj2 t513 t501).bind fun t516 => (some t516))) else (some false))) = some r := H
      have A14 := Aside0.mk A140
      clear A140
      replace H := Option.bind_eq_some_iff.mp H
      obtain ⟨t512, A150, H⟩ := H
      replace H : (if t512 = true then ((joiner_Merge.f l0 l1).bind fun t513 => ((tabellionref32_Same.f kj2 t513 t501).bind fun t516 => (some t516))) else (some false)) = some r := H
      have A15 := Aside0.mk A150
      clear A150
      by_cases c16 : t512 = true
      ·
       subst c16
       have H1 : ((joiner_Merge.f l0 l1).bind fun t513 => ((tabellionref32_Same.f kj2 t513 t501).bind fun t516 => (some t516))) = some r := by rw [if_pos rfl] at H; exact H
       clear H
       have H := H1
       clear H1
       replace H := Option.bind_eq_some_iff.mp H
       obtain ⟨t513, A170, H⟩ := H
       replace H : ((tabellionref32_Same.f kj2 t513 t501).bind fun t516 => (some t516)) = some r := H
       have A17 := Aside0.mk A170
       clear A170
       replace H := Option.bind_eq_some_iff.mp H
       obtain ⟨t516, A180, H⟩ := H
       replace H : (some t516) = some r := H
       have A18 := Aside0.mk A180
       clear A180
       obtain rfl := Option.some.inj H
       go_wp2_with (first | ((with_reducible refine gate_callee (f := 20) rfl ?_); refine goesL_ (some 17) rfl rfl Tryd.func20 (by kernel_rfl) rfl #[.slice A0 l0.length c0, .slice A1 l1.length c1] rfl (by (try simp only [List.map_toArray, List.map_cons, List.map_nil]); first | done | rfl | (simp only [List.length_drop, List.length_take]; rfl)) ?_; (with_reducible refine (tabellionref32_Nest.calls kj2 _ _ l0 _ _ l1 t501 _ ?side1 ?side2 ?side3 ?side4 A8.out).mono ?_); (case side1 => repeat (first | exact (Kd.C_below HR0.out HB.out) | (with_reducible refine Kd.C_alloc ?_ _) | (with_reducible refine Kd.C_drewN ?_ _) | (with_reducible refine Kd.C_drew ?_))); (case side2 => exact HC0.out); (case side3 => repeat (first | exact (Kd.C_below HR1.out HB.out) | (with_reducible refine Kd.C_alloc ?_ _) | (with_reducible refine Kd.C_drewN ?_ _) | (with_reducible refine Kd.C_drew ?_))); (case side4 => exact HC1.out); rintro e w19 ⟨v502, rfl, ho0, hb⟩; refine ⟨_, rfl, ?_⟩; have n0_ := Aside0.mk (Kd.R_lower ho0 (below_size (by repeat (first | (with_reducible first | exact HB.out | apply below_alloc | apply pw_below_drewN | apply below_drew1) | exact HB.out)))); have n1_ := Aside0.mk (below_step (by repeat (first | (with_reducible first | exact HB.out | apply below_alloc | apply pw_below_drewN | apply below_drew1) | exact HB.out)) hb); clear HB; have HO503 := n0_; have HB := n1_; clear n0_ n1_; (try clear hb); (try clear hb2); (try clear hk); (try clear hi); (try clear ho0)) | ((with_reducible refine gate_callee (f := 19) rfl ?_); refine goesL_ (some 18) rfl rfl Tryd.func19 (by kernel_rfl) rfl #[] rfl (by (try simp only [List.map_toArray, List.map_cons, List.map_nil]); first | done | rfl | (simp only [List.length_drop, List.length_take]; rfl)) ?_; (with_reducible refine (tabellionlaw32_awake.calls kj2  true _ A9.out ?tab (by first | rfl | exact HRT.out)).mono ?_); (case tab => exact (tab_of HTAB.out (by repeat (first | (with_reducible first | exact HB.out | apply below_alloc | apply pw_below_drewN | apply below_drew1) | exact HB.out)))); rintro e w20 ⟨rfl, hb⟩; refine ⟨_, rfl, ?_⟩; have n0_ := Aside0.mk (Kd.R_below (by (with_reducible repeat (first | apply Kd.R_alloc | apply Kd.R_drewN | apply Kd.R_drew)); exact HO503.out) hb); have n1_ := Aside0.mk (below_step (by repeat (first | (with_reducible first | exact HB.out | apply below_alloc | apply pw_below_drewN | apply below_drew1) | exact HB.out)) hb); clear HO503; clear HB; have HO503 := n0_; have HB := n1_; clear n0_ n1_; (try clear hb); (try clear hb2); (try clear hk); (try clear hi)) | (go_at_call 22; (with_reducible refine (joiner_Nest.calls kj2 _ _ l0 _ _ l1 t505 _ ?side1 ?side2 ?side3 ?side4 A11.out).mono ?_); (case side1 => repeat (first | exact (Kd.C_below HR0.out HB.out) | (with_reducible refine Kd.C_alloc ?_ _) | (with_reducible refine Kd.C_drewN ?_ _) | (with_reducible refine Kd.C_drew ?_))); (case side2 => exact HC0.out); (case side3 => repeat (first | exact (Kd.C_below HR1.out HB.out) | (with_reducible refine Kd.C_alloc ?_ _) | (with_reducible refine Kd.C_drewN ?_ _) | (with_reducible refine Kd.C_drew ?_))); (case side4 => exact HC1.out); rintro e w21 ⟨v506, rfl, ho0, hb⟩; have n0_ := Aside0.mk (Kd.R_elder' (by (with_reducible repeat (first | apply Kd.R_alloc | apply Kd.R_drewN | apply Kd.R_drew)); exact HO503.out) (Kd.R_base ho0) hb); have n1_ := Aside0.mk (Kd.R_lower (Kd.R_new' ho0 (Kd.R_lt (by (with_reducible repeat (first | apply Kd.R_alloc | apply Kd.R_drewN | apply Kd.R_drew)); exact HO503.out))) (below_size (by repeat (first | (with_reducible first | exact HB.out | apply below_alloc | apply pw_below_drewN | apply below_drew1) | exact HB.out)))); have n2_ := Aside0.mk (below_step (by repeat (first | (with_reducible first | exact HB.out | apply below_alloc | apply pw_below_drewN | apply below_drew1) | exact HB.out)) hb); clear HO503; clear HB; have HO503 := n0_; have HO507 := n1_; have HB := n2_; clear n0_ n1_ n2_; (try clear hb); (try clear hb2); (try clear hk); (try clear hi); (try clear ho0); obtain ⟨Ao22, co22, eo22⟩ := Kd.R_slice HO507.out; subst eo22; obtain ⟨Ao23, co23, eo23⟩ := Kd.R_slice HO503.out; subst eo23) | (go_at_call 21; (with_reducible refine (tabellionref32_Same.calls kj2 _ _ t505 _ _ t501 true _ ?side1 ?side2 ?side3 ?side4 A12.out).mono ?_); (case side1 => repeat (first | exact (Kd.R_reads' HO507.out).2.2 | (with_reducible refine Kd.C_alloc ?_ _) | (with_reducible refine Kd.C_drewN ?_ _) | (with_reducible refine Kd.C_drew ?_))); (case side2 => exact (Kd.R_reads' HO507.out).2.1); (case side3 => repeat (first | exact (Kd.R_reads' HO503.out).2.2 | (with_reducible refine Kd.C_alloc ?_ _) | (with_reducible refine Kd.C_drewN ?_ _) | (with_reducible refine Kd.C_drew ?_))); (case side4 => exact (Kd.R_reads' HO503.out).2.1); rintro e w' ⟨rfl, ⟨nd, rfl⟩⟩) | (go_at_call 23; (with_reducible refine (joiner_Hash.calls _ _ l0 _ _ l1 t509 _ ?side1 ?side2 ?side3 ?side4 A14.out ?tab).mono ?_); (case tab => exact (tab_of HTAB.out (by repeat (first | (with_reducible first | exact HB.out | apply below_alloc | apply pw_below_drewN | apply below_drew1) | exact HB.out)))); (case side1 => repeat (first | exact (Kd.C_below HR0.out (by repeat (first | (with_reducible first | exact HB.out | apply below_alloc | apply pw_below_drewN | apply below_drew1) | exact HB.out))) | (with_reducible refine Kd.C_alloc ?_ _) | (with_reducible refine Kd.C_drewN ?_ _) | (with_reducible refine Kd.C_drew ?_))); (case side2 => exact HC0.out); (case side3 => repeat (first | exact (Kd.C_below HR1.out (by repeat (first | (with_reducible first | exact HB.out | apply below_alloc | apply pw_below_drewN | apply below_drew1) | exact HB.out))) | (with_reducible refine Kd.C_alloc ?_ _) | (with_reducible refine Kd.C_drewN ?_ _) | (with_reducible refine Kd.C_drew ?_))); (case side4 => exact HC1.out); rintro e w24 ⟨v510, rfl, ho0, hb⟩; have n0_ := Aside0.mk (Kd.R_elder' (by (with_reducible repeat (first | apply Kd.R_alloc | apply Kd.R_drewN | apply Kd.R_drew)); exact HO503.out) (Kd.R_base ho0) hb); have n1_ := Aside0.mk (Kd.R_elder' (by (with_reducible repeat (first | apply Kd.R_alloc | apply Kd.R_drewN | apply Kd.R_drew)); exact HO507.out) (Kd.R_base ho0) hb); have n2_ := Aside0.mk (Kd.R_lower (Kd.R_new' (Kd.R_new' ho0 (Kd.R_lt (by (with_reducible repeat (first | apply Kd.R_alloc | apply Kd.R_drewN | apply Kd.R_drew)); exact HO503.out))) (Kd.R_lt (by (with_reducible repeat (first | apply Kd.R_alloc | apply Kd.R_drewN | apply Kd.R_drew)); exact HO507.out))) (below_size (by repeat (first | (with_reducible first | exact HB.out | apply below_alloc | apply pw_below_drewN | apply below_drew1) | exact HB.out)))); have n3_ := Aside0.mk (below_step (by repeat (first | (with_reducible first | exact HB.out | apply below_alloc | apply pw_below_drewN | apply below_drew1) | exact HB.out)) hb); clear HO503; clear HO507; clear HB; have HO503 := n0_; have HO507 := n1_; have HO511 := n2_; have HB := n3_; clear n0_ n1_ n2_ n3_; (try clear hb); (try clear hb2); (try clear hk); (try clear hi); (try clear ho0); obtain ⟨Ao25, co25, eo25⟩ := Kd.R_slice HO511.out; subst eo25) | (go_at_call 21; (with_reducible refine (tabellionref32_Same.calls kj2 _ _ t509 _ _ t501 true _ ?side1 ?side2 ?side3 ?side4 A15.out).mono ?_); (case side1 => repeat (first | exact (Kd.R_reads' HO511.out).2.2 | (with_reducible refine Kd.C_alloc ?_ _) | (with_reducible refine Kd.C_drewN ?_ _) | (with_reducible refine Kd.C_drew ?_))); (case side2 => exact (Kd.R_reads' HO511.out).2.1); (case side3 => repeat (first | exact (Kd.R_reads' HO503.out).2.2 | (with_reducible refine Kd.C_alloc ?_ _) | (with_reducible refine Kd.C_drewN ?_ _) | (with_reducible refine Kd.C_drew ?_))); (case side4 => exact (Kd.R_reads' HO503.out).2.1); rintro e w' ⟨rfl, ⟨nd, rfl⟩⟩) | (go_at_call 24; (with_reducible refine (joiner_Merge.calls _ _ l0 _ _ l1 t513 _ ?side1 ?side2 ?side3 ?side4 A17.out).mono ?_); (case side1 => repeat (first | exact (Kd.C_below HR0.out (by repeat (first | (with_reducible first | exact HB.out | apply below_alloc | apply pw_below_drewN | apply below_drew1) | exact HB.out))) | (with_reducible refine Kd.C_alloc ?_ _) | (with_reducible refine Kd.C_drewN ?_ _) | (with_reducible refine Kd.C_drew ?_))); (case side2 => exact HC0.out); (case side3 => repeat (first | exact (Kd.C_below HR1.out (by repeat (first | (with_reducible first | exact HB.out | apply below_alloc | apply pw_below_drewN | apply below_drew1) | exact HB.out))) | (with_reducible refine Kd.C_alloc ?_ _) | (with_reducible refine Kd.C_drewN ?_ _) | (with_reducible refine Kd.C_drew ?_))); (case side4 => exact HC1.out); rintro e w26 ⟨v514, rfl, ho0, hb⟩; have n0_ := Aside0.mk (Kd.R_elder' (by (with_reducible repeat (first | apply Kd.R_alloc | apply Kd.R_drewN | apply Kd.R_drew)); exact HO503.out) (Kd.R_base ho0) hb); have n1_ := Aside0.mk (Kd.R_elder' (by (with_reducible repeat (first | apply Kd.R_alloc | apply Kd.R_drewN | apply Kd.R_drew)); exact HO507.out) (Kd.R_base ho0) hb); have n2_ := Aside0.mk (Kd.R_elder' (by (with_reducible repeat (first | apply Kd.R_alloc | apply Kd.R_drewN | apply Kd.R_drew)); exact HO511.out) (Kd.R_base ho0) hb); have n3_ := Aside0.mk (Kd.R_lower (Kd.R_new' (Kd.R_new' (Kd.R_new' ho0 (Kd.R_lt (by (with_reducible repeat (first | apply Kd.R_alloc | apply Kd.R_drewN | apply Kd.R_drew)); exact HO503.out))) (Kd.R_lt (by (with_reducible repeat (first | apply Kd.R_alloc | apply Kd.R_drewN | apply Kd.R_drew)); exact HO507.out))) (Kd.R_lt (by (with_reducible repeat (first | apply Kd.R_alloc | apply Kd.R_drewN | apply Kd.R_drew)); exact HO511.out))) (below_size (by repeat (first | (with_reducible first | exact HB.out | apply below_alloc | apply pw_below_drewN | apply below_drew1) | exact HB.out)))); have n4_ := Aside0.mk (below_step (by repeat (first | (with_reducible first | exact HB.out | apply below_alloc | apply pw_below_drewN | apply below_drew1) | exact HB.out)) hb); clear HO503; clear HO507; clear HO511; clear HB; have HO503 := n0_; have HO507 := n1_; have HO511 := n2_; have HO515 := n3_; have HB := n4_; clear n0_ n1_ n2_ n3_ n4_; (try clear hb); (try clear hb2); (try clear hk); (try clear hi); (try clear ho0); obtain ⟨Ao27, co27, eo27⟩ := Kd.R_slice HO515.out; subst eo27) | (go_at_call 21; (with_reducible refine (tabellionref32_Same.calls kj2 _ _ t513 _ _ t501 t516 _ ?side1 ?side2 ?side3 ?side4 A18.out).mono ?_); (case side1 => repeat (first | exact (Kd.R_reads' HO515.out).2.2 | (with_reducible refine Kd.C_alloc ?_ _) | (with_reducible refine Kd.C_drewN ?_ _) | (with_reducible refine Kd.C_drew ?_))); (case side2 => exact (Kd.R_reads' HO515.out).2.1); (case side3 => repeat (first | exact (Kd.R_reads' HO503.out).2.2 | (with_reducible refine Kd.C_alloc ?_ _) | (with_reducible refine Kd.C_drewN ?_ _) | (with_reducible refine Kd.C_drew ?_))); (case side4 => exact (Kd.R_reads' HO503.out).2.1); rintro e w' ⟨rfl, ⟨nd, rfl⟩⟩))
       go_ret
       exact ⟨by first | rfl | (simp [errW_none, errW_some] <;> rfl) | (simp [*, errW_none, errW_some] <;> rfl), by repeat (first | (with_reducible first | exact HB.out | apply below_alloc | apply pw_below_drewN | apply below_drew1) | exact HB.out)⟩
      ·
       replace c16 := Bool.eq_false_iff.mpr c16
       subst c16
       have H1 : (some false) = some r := by rw [if_neg (show ¬ (false = true) by decide)] at H; exact H
       exact absurd H1 (by rw [HRT.out]; simp)
     ·
      replace c13 := Bool.eq_false_iff.mpr c13
      subst c13
      have H1 : (some false) = some r := by rw [if_neg (show ¬ (false = true) by decide)] at H; exact H
      exact absurd H1 (by rw [HRT.out]; simp)
    ·
     replace c10 := Bool.eq_false_iff.mpr c10
     subst c10
     have H1 : (some false) = some r := by rw [if_neg (show ¬ (false = true) by decide)] at H; exact H
     exact absurd H1 (by rw [HRT.out]; simp)

end Go.Proofs.YtnllgjloimoebaaDoor.X

/- grouper.Sorted's own function: two groups by the keys of their first. -/
set_option linter.unusedVariables false
set_option linter.unusedSimpArgs false
namespace Go.Proofs.YtnllgjloimoebaaDoor.X
open Go.RowKit Go.Proofs.YtnllgjloimoebaaDoorW.PrintWords Go.Proofs.YtnllgjloimoebaaDoorW.PrintLast Go.Proofs.YtnllgjloimoebaaDoorW.PrintMore

set_option maxHeartbeats 4000000 in
set_option maxRecDepth 100000 in
theorem sorted1_calls (k bx : Nat) (A0 : Option Addr) (c0 : Nat) (l0 : List (List S44)) (Aa : Option Addr) (ca : Nat) (a : List Int) (Ab : Option Addr) (cb : Nat) (b : List Int) (p q r : Int) (W : World)
    (hbox : W.cell? ⟨bx, 0, none⟩ = some (.slice A0 l0.length c0)) (hC : Kd.C (Kd.slice 44 k44) W A0 l0.length l0) (ha : Kd.C (Kd.int .i64) W Aa a.length a) (hb : Kd.C (Kd.int .i64) W Ab b.length b)
    (hpa : 0 < a.length) (hpb : 0 < b.length) (hp : rd a 0 = p) (hq : rd b 0 = q) (p0 : 0 ≤ p) (p1 : p < (l0.length : Int)) (q0 : 0 ≤ q) (q1 : q < (l0.length : Int)) (hf : value_Orders.f k (rd_L4 l0 p) (rd_L4 l0 q) = some r) :
    Calls Tryd.prog 32 #[.slice Aa a.length ca, .slice Ab b.length cb, .pointer (some ⟨bx, 0, none⟩)] W fun e w' => e = .returned (.int .i64 r) ∧ X.D.Below W.heap.size W w' := by
  obtain ⟨ada, e, hxa⟩ := Kd.at_int ha 0 (by omega) (by omega)
  subst e
  obtain ⟨adb, e, hxb⟩ := Kd.at_int hb 0 (by omega) (by omega)
  subst e
  rw [show ((0 : Int)).toNat = 0 from rfl, Addr.add_zero'] at hxa hxb
  rw [hp] at hxa
  rw [hq] at hxb
  obtain ⟨ad, A1, c1, e, hx1, hl1, hi1⟩ := at_L4 hC p p0 p1
  subst e
  obtain ⟨ad', A2, c2, e, hx2, hl2, hi2⟩ := at_L4 hC q q0 q1
  injection e with e
  subst e
  have HI1 := Aside0.mk hi1
  have HI2 := Aside0.mk hi2
  have HL1 := Aside0.mk hl1
  have HL2 := Aside0.mk hl2
  have HF := Aside0.mk hf
  have HP := Aside0.mk hp
  have HQ := Aside0.mk hq
  clear hi1 hi2 hl1 hl2 hf hC ha hb hp hq
  go_enter Tryd.func32, Tryd.ntmps32
  go_wp2
  refine start_ (n := 14) (S := fun w' => w'.cell? ⟨bx, 0, none⟩ = some (.slice (some ad) l0.length c0) ∧ w'.cell? ada = some (.int .i64 p) ∧ w'.cell? adb = some (.int .i64 q) ∧ w'.cell? (ad.add p.toNat) = some (.slice A1 (rd_L4 l0 p).length c1) ∧ w'.cell? (ad.add q.toNat) = some (.slice A2 (rd_L4 l0 q).length c2)) (ds := [12]) #[false, false, false, false, false, false, false, false, false, false, false, false, false, false] (by kernel_rfl) rfl rfl ⟨hbox, hxa, hxb, hx1, hx2⟩ (fun hHeld => ?_)
  refine take_ (i := 0) (N := some 6) (v := ?_) (a' := ?_) #[true, false, false, false, false, false, false, false, false, false, false, false, false, false] rfl rfl (by kernel_rfl) (fun _ _ _ h => h) (Or.inl ⟨by rfl, ?_⟩) hHeld ?_ ?_
  rotate_left
  · rintro w' ⟨s0, s1, s2, s3, s4⟩
    go_simp
    all_goals with_reducible rfl
  rotate_left
  · simp only [Act.put, List.setIfInBounds_toArray, List.set_cons_zero, List.set_cons_succ, i64_w, i32_w]
    rfl
  refine pure_ (i := 1) (N := some 7) (v := ?_) (a' := ?_) #[true, true, false, false, false, false, false, false, false, false, false, false, false, false] rfl rfl (by kernel_rfl) (fun _ _ _ h => h) (Or.inl ⟨by rfl, ?_⟩) ?_ ?_
  rotate_left
  · intro w'
    go_simp
    all_goals with_reducible rfl
  rotate_left
  · simp only [Act.put, List.setIfInBounds_toArray, List.set_cons_zero, List.set_cons_succ, i64_w, i32_w]
    rfl
  refine take_ (i := 6) (N := some 12) (v := ?_) (a' := ?_) #[true, true, false, false, false, false, true, false, false, false, false, false, false, false] rfl rfl (by kernel_rfl) (fun _ _ _ h => h) (Or.inl ⟨by rfl, ?_⟩) hHeld ?_ ?_
  rotate_left
  · rintro w' ⟨s0, s1, s2, s3, s4⟩
    go_simp
    all_goals with_reducible rfl
  rotate_left
  · simp only [Act.put, List.setIfInBounds_toArray, List.set_cons_zero, List.set_cons_succ, i64_w, i32_w]
    rfl
  refine pure_ (i := 7) (N := some 13) (v := ?_) (a' := ?_) #[true, true, false, false, false, false, true, true, false, false, false, false, false, false] rfl rfl (by kernel_rfl) (fun _ _ _ h => h) (Or.inl ⟨by rfl, ?_⟩) ?_ ?_
  rotate_left
  · intro w'
    go_simp
    all_goals with_reducible rfl
  rotate_left
  · simp only [Act.put, List.setIfInBounds_toArray, List.set_cons_zero, List.set_cons_succ, i64_w, i32_w]
    rfl
  refine pure_ (i := 2) (N := some 8) (v := ?_) (a' := ?_) #[true, true, true, false, false, false, true, true, false, false, false, false, false, false] rfl rfl (by kernel_rfl) (fun _ _ _ h => h) (Or.inl ⟨by rfl, ?_⟩) ?_ ?_
  rotate_left
  · intro w'
    go_simp
    all_goals with_reducible rfl
  rotate_left
  · simp only [Act.put, List.setIfInBounds_toArray, List.set_cons_zero, List.set_cons_succ, i64_w, i32_w]
    rfl
  refine pure_ (i := 8) (N := some 14) (v := ?_) (a' := ?_) #[true, true, true, false, false, false, true, true, true, false, false, false, false, false] rfl rfl (by kernel_rfl) (fun _ _ _ h => h) (Or.inl ⟨by rfl, ?_⟩) ?_ ?_
  rotate_left
  · intro w'
    go_simp
    all_goals with_reducible rfl
  rotate_left
  · simp only [Act.put, List.setIfInBounds_toArray, List.set_cons_zero, List.set_cons_succ, i64_w, i32_w]
    rfl
  refine take_ (i := 3) (N := some 9) (v := ?_) (a' := ?_) #[true, true, true, true, false, false, true, true, true, false, false, false, false, false] rfl rfl (by kernel_rfl) (fun _ _ _ h => h) (Or.inl ⟨by rfl, ?_⟩) hHeld ?_ ?_
  rotate_left
  · rintro w' ⟨s0, s1, s2, s3, s4⟩
    go_simp
    all_goals with_reducible rfl
  rotate_left
  · simp only [Act.put, List.setIfInBounds_toArray, List.set_cons_zero, List.set_cons_succ, i64_w, i32_w]
    rfl
  refine take_ (i := 9) (N := some 15) (v := ?_) (a' := ?_) #[true, true, true, true, false, false, true, true, true, true, false, false, false, false] rfl rfl (by kernel_rfl) (fun _ _ _ h => h) (Or.inl ⟨by rfl, ?_⟩) hHeld ?_ ?_
  rotate_left
  · rintro w' ⟨s0, s1, s2, s3, s4⟩
    go_simp
    all_goals with_reducible rfl
  rotate_left
  · simp only [Act.put, List.setIfInBounds_toArray, List.set_cons_zero, List.set_cons_succ, i64_w, i32_w]
    rfl
  refine pure_ (i := 4) (N := some 10) (v := ?_) (a' := ?_) #[true, true, true, true, true, false, true, true, true, true, false, false, false, false] rfl rfl (by kernel_rfl) (fun _ _ _ h => h) (Or.inl ⟨by rfl, ?_⟩) ?_ ?_
  rotate_left
  · intro w'
    go_simp
    all_goals with_reducible rfl
  rotate_left
  · simp only [Act.put, List.setIfInBounds_toArray, List.set_cons_zero, List.set_cons_succ, i64_w, i32_w]
    rfl
  refine pure_ (i := 10) (N := some 16) (v := ?_) (a' := ?_) #[true, true, true, true, true, false, true, true, true, true, true, false, false, false] rfl rfl (by kernel_rfl) (fun _ _ _ h => h) (Or.inl ⟨by rfl, ?_⟩) ?_ ?_
  rotate_left
  · intro w'
    go_simp
    all_goals with_reducible rfl
  rotate_left
  · simp only [Act.put, List.setIfInBounds_toArray, List.set_cons_zero, List.set_cons_succ, i64_w, i32_w]
    rfl
  refine take_ (i := 5) (N := some 11) (v := ?_) (a' := ?_) #[true, true, true, true, true, true, true, true, true, true, true, false, false, false] rfl rfl (by kernel_rfl) (fun _ _ _ h => h) (Or.inl ⟨by rfl, ?_⟩) hHeld ?_ ?_
  rotate_left
  · rintro w' ⟨s0, s1, s2, s3, s4⟩
    go_simp
    all_goals with_reducible rfl
  rotate_left
  · simp only [Act.put, List.setIfInBounds_toArray, List.set_cons_zero, List.set_cons_succ, i64_w, i32_w]
    rfl
  refine take_ (i := 11) (N := some 17) (v := ?_) (a' := ?_) #[true, true, true, true, true, true, true, true, true, true, true, true, false, false] rfl rfl (by kernel_rfl) (fun _ _ _ h => h) (Or.inl ⟨by rfl, ?_⟩) hHeld ?_ ?_
  rotate_left
  · rintro w' ⟨s0, s1, s2, s3, s4⟩
    go_simp
    all_goals with_reducible rfl
  rotate_left
  · simp only [Act.put, List.setIfInBounds_toArray, List.set_cons_zero, List.set_cons_succ, i64_w, i32_w]
    rfl
  refine last_ (i := 12) (N := some 18) #[true, true, true, true, true, true, true, true, true, true, true, true, true, false] rfl rfl (by kernel_rfl) (by decide) (fun K hK => ?_)
  refine goes_ Tryd.func18 (by kernel_rfl) rfl #[.slice A1 (rd_L4 l0 p).length c1, .slice A2 (rd_L4 l0 q).length c2] (by rfl) rfl rfl (by (try simp only [List.map_toArray, List.map_cons, List.map_nil]); first | done | rfl) ?_
  with_reducible refine (X.D.value_Orders.calls k A1 c1 (rd_L4 l0 p) A2 c2 (rd_L4 l0 q) r _ ?_ HL1.out ?_ HL2.out HF.out).mono ?_
  · exact HI1.out
  · exact HI2.out
  rintro e w15 ⟨rfl, hb⟩
  refine ⟨_, rfl, ?_⟩
  refine hK.out _ _ ?_
  clear hK K
  refine norm_ (a' := ?_) ?_ ?_
  rotate_left
  · show Act.put _ (some 18) _ = _
    simp only [Act.put, List.setIfInBounds_toArray, List.set_cons_zero, List.set_cons_succ, i64_w, i32_w]
    rfl
  refine pure_ (i := 13) (N := some 5) (v := ?_) (a' := ?_) #[true, true, true, true, true, true, true, true, true, true, true, true, true, true] rfl rfl (by kernel_rfl) (fun _ _ _ h => h) (Or.inl ⟨by rfl, ?_⟩) ?_ ?_
  rotate_left
  · intro w'
    go_simp
    all_goals with_reducible rfl
  rotate_left
  · simp only [Act.put, List.setIfInBounds_toArray, List.set_cons_zero, List.set_cons_succ, i64_w, i32_w]
    rfl
  refine done_ (by kernel_rfl) ?_
  go_wp2
  go_ret
  exact ⟨rfl, (X.D.below_drew1 (X.D.Below.refl _ W)).trans hb⟩
end Go.Proofs.YtnllgjloimoebaaDoor.X

/- grouper.Sorted: the groups, by their keys. -/
set_option linter.unusedVariables false
set_option linter.unusedSimpArgs false
namespace Go.Proofs.YtnllgjloimoebaaDoor.X
open Go.RowKit Go.Sort Go.Proofs.YtnllgjloimoebaaDoorW.PrintWords Go.Proofs.YtnllgjloimoebaaDoorW.PrintLast Go.Proofs.YtnllgjloimoebaaDoorW.PrintMore

def gcmp (l : List (List S44)) (a b : List Int) : Int := rcmp (head l a) (head l b)
def sortedP (l : List (List S44)) : List (List Int) := (groupsP l).mergeSort (fun a b => !decide (gcmp l b a < 0))
def grouper_Sorted.f (l : List (List S44)) : Option (List (List Int)) := if l.all keyable && decide (l.length ≤ 1099511627776) then some (sortedP l) else none

theorem keyable_short {r : List S44} (h : keyable r = true) : short r := by
  have h1 := keyable_len h
  unfold keyable at h
  rw [Bool.and_eq_true] at h
  have h2 := rowOK_of h.1
  exact ⟨by omega, fun x hx => by have := (h2.2 x hx).2.2; omega⟩

section
variable (l : List (List S44)) (m : Nat)
/-- the order of places in the groups' list -/
def icf (i j : Fin (m + 1)) : Int := gcmp l ((groupsP l).getD i.val []) ((groupsP l).getD j.val [])
theorem icf_swo : SWO (ltOf (icf l m)) := by
  refine ⟨fun x => ?_, fun x y z h1 h2 => ?_, fun x y z h1 h2 => ?_⟩
  · unfold ltOf icf gcmp
    rw [rcmp_self]; rfl
  · unfold ltOf icf gcmp at *
    rw [decide_eq_true_eq] at *
    exact rcmp_trans h1 h2
  · unfold ltOf icf gcmp at *
    rw [decide_eq_false_iff_not] at *
    exact rcmp_ntrans h1 h2
theorem icf_tot (hm : (groupsP l).length = m + 1) (x y : Fin (m + 1)) (h1 : ltOf (icf l m) x y = false) (h2 : ltOf (icf l m) y x = false) : x = y := by
  unfold ltOf icf gcmp at *
  rw [decide_eq_false_iff_not] at *
  have e := rcmp_neg (head l ((groupsP l).getD x.val [])) (head l ((groupsP l).getD y.val []))
  have e2 := rcmp_zero.1 (by omega : rcmp (head l ((groupsP l).getD x.val [])) (head l ((groupsP l).getD y.val [])) = 0)
  have I := GInv.at l l.length
  have a := I.one x.val (by have := x.2; show x.val < (groupsP l).length; omega)
  have b := I.one y.val (by have := y.2; show y.val < (groupsP l).length; omega)
  change (gAfter l l.length).2 (keyT (head l ((groupsP l).getD x.val []))) = _ at a
  change (gAfter l l.length).2 (keyT (head l ((groupsP l).getD y.val []))) = _ at b
  rw [e2, b] at a
  injection a with a
  exact Fin.ext (by omega)
theorem icf_sorted (hm : (groupsP l).length = m + 1) : ((List.finRange (m + 1)).mergeSort (fun x y => !(ltOf (icf l m)) y x)).map (fun i => (groupsP l).getD i.val []) = sortedP l := by
  unfold sortedP
  rw [List.map_mergeSort (r := fun x y => !ltOf (icf l m) y x) (f := fun i : Fin (m + 1) => (groupsP l).getD i.val []) (s := fun a b => !decide (gcmp l b a < 0)) (fun a _ b _ => rfl)]
  congr 1
  apply List.ext_getElem
  · simp [hm]
  · intro i h1 h2
    simp [List.getD_eq_getElem?_getD, List.getElem?_eq_getElem h2]
end

theorem sorted_cmp (A0 : Option Addr) (c0 : Nat) (l0 : List (List (S44))) (w w1 : World) (g m : Nat) (inn : Fin (m + 1) → Value) (hall : shorts l0)
    (hC : Kd.C (Kd.slice 44 k44) w A0 l0.length l0) (hbx : w1.heap[w.heap.size]? = some (.cells #[.slice A0 l0.length c0] 22 (0, 0))) (hb : Below w.heap.size w w1) (hg : w.heap.size + 1 ≤ g) (hm : (groupsP l0).length = m + 1)
    (hM : ∀ i : Fin (m + 1), (Kd.slice 3 (Kd.int .i64)).M w1 (w.heap.size + 1) (fun k => True ∧ k ≠ g) ((groupsP l0).getD i.val []) [inn i]) :
    CmpLays1 Tryd.prog 32 #[.pointer (some ⟨w.heap.size, 0, none⟩)] inn (icf l0 m) g 0 (m + 1) w1 := by
  intro q os dk hs x y
  have hBW : Below w.heap.size w (sortWorld inn w1 g 0 q dk os) := sw_below hb (by omega)
  have hbx2 : (sortWorld inn w1 g 0 q dk os).heap[w.heap.size]? = some (.cells #[.slice A0 l0.length c0] 22 (0, 0)) := (sw_other _ (blk_lt hbx) (by omega)).trans hbx
  have hMW : ∀ i : Fin (m + 1), ∃ A c, inn i = .slice A ((groupsP l0).getD i.val []).length c ∧ Kd.C (Kd.int .i64) (sortWorld inn w1 g 0 q dk os) A ((groupsP l0).getD i.val []).length ((groupsP l0).getD i.val []) := fun i => by
    have h4 := (Kd.slice 3 (Kd.int .i64)).M_move (w1 := sortWorld inn w1 g 0 q dk os) (ok := fun k => (True ∧ k ≠ g) ∧ k < w1.heap.size) (fun k hk => sw_other k hk.2 hk.1.2) ((Kd.slice 3 (Kd.int .i64)).M_mono (fun k hk => ⟨hk.1, hk.2.2.1⟩) ((Kd.slice 3 (Kd.int .i64)).M_bound (hM i)))
    obtain ⟨v, e, hR⟩ := h4
    injection e with e
    obtain ⟨A, c, e2, _, hC2⟩ := Kd.R_reads hR
    exact ⟨A, c, e.trans e2, hC2⟩
  obtain ⟨Aa, ca, ea, hCa⟩ := hMW x
  obtain ⟨Ab, cb, eb, hCb⟩ := hMW y
  have I := GInv.at l0 l0.length
  have hin : ∀ i : Fin (m + 1), (groupsP l0).getD i.val [] ≠ [] ∧ 0 ≤ rd ((groupsP l0).getD i.val []) 0 ∧ rd ((groupsP l0).getD i.val []) 0 < (l0.length : Int) := fun i => by
    have h1 : (groupsP l0).getD i.val [] ∈ groupsP l0 := getD_mem _ _ _ (by have := i.2; omega)
    have h2 := I.ne _ h1
    exact ⟨h2, I.mem _ h1 _ (rd_mem h2)⟩
  obtain ⟨k, hk⟩ := orders_ev (head l0 ((groupsP l0).getD x.val [])) (head l0 ((groupsP l0).getD y.val [])) (shorts_rd hall _).1
  show Calls Tryd.prog 32 #[inn x, inn y, .pointer (some ⟨w.heap.size, 0, none⟩)] _ _
  rw [ea, eb]
  refine (sorted1_calls k w.heap.size A0 c0 l0 Aa ca _ Ab cb _ _ _ (icf l0 m x y) _ ((blk_cell hbx2 0).trans rfl) (Kd.C_below hC hBW) hCa hCb (List.length_pos_iff.2 (hin x).1) (List.length_pos_iff.2 (hin y).1) rfl rfl (hin x).2.1 (hin x).2.2 (hin y).2.1 (hin y).2.2 (hk k (Nat.le_refl _))).mono ?_
  rintro e w' ⟨rfl, hb'⟩
  exact ⟨rfl, hb'.grows⟩

set_option maxHeartbeats 4000000 in
set_option maxRecDepth 100000 in
theorem grouper_Sorted.calls (A0 : Option Addr) (c0 : Nat) (l0 : List (List (S44))) (r : List (List Int)) (w : World) (hr0 : Kd.C (Kd.slice 44 k44) w A0 l0.length l0) (hc0 : l0.length ≤ c0) (h : grouper_Sorted.f l0 = some r) (htab : Tab w) :
    Calls Tryd.prog 13 #[.slice A0 l0.length c0] w fun e w' => ∃ v0_ : Value, e = .returned (v0_) ∧ Kd.S (Kd.slice 3 (Kd.int .i64)) 30 w' w.heap.size (fun _ => True) v0_ r ∧ Below w.heap.size w w' := by
  have HR0 := Aside0.mk hr0
  have HC0 := Aside0.mk hc0
  have HT := Aside0.mk htab
  clear hr0 hc0 htab
  unfold grouper_Sorted.f at h
  split at h
  case isFalse => cases h
  rename_i hall
  have HF : Aside0 (grouper_Groups.f l0 = some (groupsP l0)) := ⟨by unfold grouper_Groups.f; rw [if_pos hall]⟩
  rw [Bool.and_eq_true, decide_eq_true_eq, List.all_eq_true] at hall
  have HALL := Aside0.mk hall
  clear hall
  have h := Option.some.inj h
  have HRES := Aside0.mk h
  clear h
  go_enter Tryd.func13, Tryd.ntmps13
  have HTB : Aside0 (Tab (w.alloc (.cells #[.slice A0 l0.length c0] 22))) := ⟨tab_of HT.out (below_alloc (Below.refl _ _) _)⟩
  have HRB : Aside0 (Kd.C (Kd.slice 44 k44) (w.alloc (.cells #[.slice A0 l0.length c0] 22)) A0 l0.length l0) := ⟨Kd.C_alloc HR0.out _⟩
  go_wp2_with (go_at_call 11; refine (grouper_Groups.calls A0 c0 l0 (groupsP l0) _ HRB.out HC0.out HF.out HTB.out).mono ?_)
  rintro e w1 ⟨v1, rfl, ho, hb⟩
  have hbx : (w.alloc (.cells #[.slice A0 l0.length c0] 22)).heap[w.heap.size]? = some (.cells #[.slice A0 l0.length c0] 22 (0, 0)) := blk_new _ _
  have HBX := Aside0.mk (blk_below hbx hb)
  have HB : Aside0 (Below w.heap.size w w1) := ⟨below_step (below_alloc (Below.refl _ _) _) hb⟩
  have hsz : (w.alloc (.cells #[.slice A0 l0.length c0] 22)).heap.size = w.heap.size + 1 := by simp
  rw [hsz] at ho
  have HO := Aside0.mk ho
  clear hbx ho hb hsz HRB HTB
  obtain ⟨A1, c1, e1⟩ := Kd.S_slice HO.out
  subst e1
  have hlen : (groupsP l0).length ≤ 1099511627776 := Nat.le_trans (gAfter_ok l0 l0.length).1 HALL.out.2
  cases hm : (groupsP l0).length with
  | zero =>
    have hnil : groupsP l0 = [] := List.eq_nil_of_length_eq_zero hm
    have hr : r = [] := by rw [← HRES.out]; unfold sortedP; rw [hnil]; exact List.mergeSort_nil
    have HO2 : Aside0 (Kd.S (Kd.slice 3 (Kd.int .i64)) 30 w1 w.heap.size (fun _ => True) (.slice A1 0 c1) r) := ⟨by
      have := Kd.S_lower HO.out (Nat.le_succ _)
      rw [hm] at this
      rw [hr, ← hnil]
      exact this⟩
    go_wp2_with (go_at_call 31; refine (Tryd.slices_SortFunc_none_f31 (α := Fin 1) A1 c1 _ _).mono ?_; rintro e w2 ⟨rfl, rfl⟩)
    go_ret
    exact ⟨_, rfl, HO2.out, HB.out⟩
  | succ m =>
    obtain ⟨g, cap, e2, hg0, hg1, _⟩ := Kd.S_form HO.out (by omega)
    injection e2 with e2 _ e3
    subst e2
    subst e3
    obtain ⟨inn, h1, hH, hglt, hgb, hn, hM, hfin⟩ := sort_row (d := Kd.slice 3 (Kd.int .i64)) rfl [] HO.out hm
    have hsh : shorts l0 := ⟨HALL.out.2, fun r hr => keyable_short (HALL.out.1 r hr)⟩
    have hcmp := sorted_cmp A0 c0 l0 w w1 g m inn hsh HR0.out HBX.out HB.out hgb hm hM
    have eg : ∀ args w, (callFunc 32 args).run Tryd.prog w = .ok (.enter 32 args) w := enters_of Tryd.func32 (by kernel_rfl) rfl
    have hds : (List.finRange (m + 1)).toArray.size = m + 1 := by simp
    have hS := Tryd.slices_SortFunc_total_f31 inn h1 (icf l0 m) (icf_swo l0 m) 32 #[.pointer (some ⟨w.heap.size, 0, none⟩)] g 0 c1 (List.finRange (m + 1)).toArray w1 eg (by rw [hds]; exact hcmp) hH hglt (by rw [hds]; omega) (icf_tot l0 m hm)
    rw [hds] at hS
    have HS := Aside0.mk hS
    have HFIN := Aside0.mk hfin
    clear hcmp hS hH hM hfin
    go_wp2_with (go_at_call 31; refine HS.out.mono ?_; rintro e w2 ⟨rfl, q, os, rfl⟩)
    go_ret
    refine ⟨_, rfl, ?_, sw_below HB.out (by omega)⟩
    have h5 := HFIN.out q _ os (List.mergeSort_perm (List.finRange (m + 1)) (fun x y => !(ltOf (icf l0 m)) y x))
    rw [icf_sorted l0 m hm, HRES.out, hm] at h5
    exact Kd.S_lower h5 (Nat.le_succ _)
end Go.Proofs.YtnllgjloimoebaaDoor.X

/- slices.Clone of a row: nil for nil, else new cells of the call's own. -/
set_option linter.unusedVariables false
set_option linter.unusedSimpArgs false
namespace Go.Proofs.YtnllgjloimoebaaDoor.X
open Go.RowKit Go.Proofs.YtnllgjloimoebaaDoorW.PrintWords Go.Proofs.YtnllgjloimoebaaDoorW.PrintLast Go.Proofs.YtnllgjloimoebaaDoorW.PrintMore

set_option maxHeartbeats 1000000 in
set_option maxRecDepth 100000 in
theorem slices_Clone_nil (c0 : Nat) (l0 : List S44) (w : World) (hr0 : Kd.C k44 w none l0.length l0) :
    Calls Tryd.prog 33 #[.slice none l0.length c0] w fun e w' => ∃ v, e = .returned v ∧ Kd.R k44 44 w' w.heap.size (fun _ => True) v l0 ∧ Below w.heap.size w w' := by
  have h0 : l0 = [] := by
    obtain ⟨h1, h2, h3⟩ := hr0
    cases l0 with
    | nil => rfl
    | cons x l =>
      obtain ⟨ad, e, _⟩ := h3 (by simp)
      cases e
  subst h0
  clear hr0
  have q33 : ∀ (w : World) (a : Option Addr) (n c n' c' : Nat), (binOp .eql 33 (.slice a n c) (.slice none n' c')).run Tryd.prog w = .ok (.bool a.isNone) w := fun w a n c n' c' => Lib.run_eql_slice_nil w _ _ a n c n' c' Tryd.underlying33
  go_enter Tryd.func33, Tryd.ntmps33
  go_wp2
  go_ret
  exact ⟨_, rfl, Kd.R_nil _ _ _ _ _, Below.refl _ _⟩

set_option maxHeartbeats 4000000 in
set_option maxRecDepth 100000 in
theorem slices_Clone_cells (ad : Addr) (c0 : Nat) (l0 : List S44) (w : World) (hr0 : Kd.C k44 w (some ad) l0.length l0) (hlen : l0.length ≤ 1099511627776) :
    Calls Tryd.prog 33 #[.slice (some ad) l0.length c0] w fun e w' => ∃ v, e = .returned v ∧ Kd.R k44 44 w' w.heap.size (fun _ => True) v l0 ∧ Below w.heap.size w w' := by
  have HR0 := Aside0.mk hr0
  clear hr0
  have HB := Aside0.mk (Below.refl w.heap.size w)
  have q33 : ∀ (w : World) (a : Option Addr) (n c n' c' : Nat), (binOp .eql 33 (.slice a n c) (.slice none n' c')).run Tryd.prog w = .ok (.bool a.isNone) w := fun w a n c n' c' => Lib.run_eql_slice_nil w _ _ a n c n' c' Tryd.underlying33
  go_enter Tryd.func33, Tryd.ntmps33
  go_wp2_with (first | ((with_reducible refine gate_dst (N := 5) rfl ?_); refine Kd.R_lit k44 _ 44 ?hg (N := 5) ?hd (xs := ([] : List (S44))) (inner := []) (ok := fun _ => True) (okp := fun _ => True) ?hr ?hp (fun _ hk => hk) trivial (Below.refl _ _) (Nat.le_refl _) (by simp) ?_; (case hd => rfl); (case hg => rfl); (case hr => first | (go_simp; done) | (go_simp; rfl)); (case hp => exact (Reps.none _ _)); intro v1 w1 ho hb hg_ hnew_; clear hg_ hnew_; have HO := Aside0.mk ho; have HB1 := Aside0.mk hb; clear ho hb) | ((with_reducible refine gate_builtin (b := .append) (xs := #[.tmp 5, .tmp 6]) rfl ?_); at_builtin; refine Kd.R_append_rows k44 (w0 := w) w.heap.size rfl (.tmp 5) (.tmp 6) 33 44 (.agg #[(.int .i64 0), (.int .i64 0), (.string ⟨#[]⟩)]) 32 rfl Tryd.underlying33 info44 rfl (by decide) (by omega) v1 ([] : List S44) l0 _ _ _ (fun _ => True) (fun _ => False) rfl rfl ?aO ?aR (fun _ _ h => h) (fun _ h => h.elim) ?aF ?aB ?aS ?aL ?_; (case aR => exact Kd.C_below HR0.out HB1.out); (case aB => exact HB1.out); (case aF => exact (fun _ _ => trivial)); (case aO => exact HO.out); (case aS => exact (below_size HB1.out)); (case aL => simp; omega); intro v2 w2 ho hb hg hat; have HO2 := Aside0.mk ho; have HB2 := Aside0.mk hb; clear ho hb hg hat))
  go_ret
  exact ⟨_, rfl, HO2.out, HB2.out⟩

theorem slices_Clone.calls (A0 : Option Addr) (c0 : Nat) (l0 : List S44) (w : World) (hr0 : Kd.C k44 w A0 l0.length l0) (hlen : l0.length ≤ 1099511627776) :
    Calls Tryd.prog 33 #[.slice A0 l0.length c0] w fun e w' => ∃ v, e = .returned v ∧ Kd.R k44 44 w' w.heap.size (fun _ => True) v l0 ∧ Below w.heap.size w w' := by
  cases A0 with
  | none => exact slices_Clone_nil c0 l0 w hr0
  | some ad => exact slices_Clone_cells ad c0 l0 w hr0 hlen
end Go.Proofs.YtnllgjloimoebaaDoor.X

/- grouper.Distinct: each row once. -/
set_option linter.unusedVariables false
set_option linter.unusedSimpArgs false
namespace Go.Proofs.YtnllgjloimoebaaDoor.X
open Go.RowKit Go.Maps Go.Proofs.YtnllgjloimoebaaDoorW.PrintWords Go.Proofs.YtnllgjloimoebaaDoorW.PrintLast Go.Proofs.YtnllgjloimoebaaDoorW.PrintMore

/-- one more row: told, if its key is new -/
def dput (s : List (List S44) × (Nat × List UInt8 → Option Int)) (r : List S44) (i : Int) : List (List S44) × (Nat × List UInt8 → Option Int) :=
  match s.2 (keyT r) with
  | some _ => s
  | none => (s.1 ++ [r], putG s.2 (keyT r) i)
def dAfter (l : List (List S44)) : Nat → List (List S44) × (Nat × List UInt8 → Option Int)
  | 0 => ([], fun _ => none)
  | k + 1 => dput (dAfter l k) (l.getD k []) k
def distinctP (l : List (List S44)) : List (List S44) := (dAfter l l.length).1
def grouper_Distinct.f (l : List (List S44)) : Option (List (List S44)) := if l.all keyable && decide (l.length ≤ 1099511627776) then some (distinctP l) else none
theorem dAfter_len (l : List (List S44)) : ∀ k, (dAfter l k).1.length ≤ k
  | 0 => by simp [dAfter]
  | k + 1 => by
    have h := dAfter_len l k
    show (dput (dAfter l k) (l.getD k []) k).1.length ≤ k + 1
    unfold dput
    split
    · omega
    · simp; omega

theorem eqA48 (d : Nat) (w : World) (x0 y0 : Int) (x1 y1 : ByteArray) :
    (Op.equalIn (d + 2) 48 (.agg #[.int .i64 x0, .string x1]) (.agg #[.int .i64 y0, .string y1])).run Tryd.prog w = .ok (x0 == y0 && x1.toList == y1.toList) w := by
  refine eqA_of Tryd.underlying48 (by kernel_rfl) ?_
  refine eqf_cons (by rfl) (by go_simp; rfl) (by go_simp; rfl) (by go_simp) ?_
  exact eqf_last (by rfl) (by go_simp; rfl) (by go_simp; rfl) (by go_simp)
section
attribute [local go_sem high] eqA48
theorem eqK48 (w : World) (x0 y0 : Int) (x1 y1 : ByteArray) (h : ¬ (x0 = y0 ∧ x1.data.toList = y1.data.toList)) :
    (binOp .eql 48 (.agg #[.int .i64 x0, .string x1]) (.agg #[.int .i64 y0, .string y1])).run Tryd.prog w = .ok (.bool false) w := by
  have h2 : (x0 == y0 && x1.toList == y1.toList) = false := by
    rw [Bool.eq_false_iff]
    intro e
    rw [ByteArray.toList_eq, ByteArray.toList_eq] at e
    simp at e
    exact h ⟨e.1, congrArg Array.toList e.2⟩
  go_simp
end

set_option maxHeartbeats 4000000 in
set_option maxRecDepth 100000 in
theorem grouper_Distinct.calls (A0 : Option Addr) (c0 : Nat) (l0 : List (List (S44))) (r : List (List (S44))) (w : World) (hr0 : Kd.C (Kd.slice 44 k44) w A0 l0.length l0) (hc0 : l0.length ≤ c0) (h : grouper_Distinct.f l0 = some r) (htab : Tab w) :
    Calls Tryd.prog 16 #[.slice A0 l0.length c0] w fun e w' => ∃ v0_ : Value, e = .returned (v0_) ∧ Kd.S (Kd.slice 44 k44) 33 w' w.heap.size (fun _ => True) v0_ r ∧ Below w.heap.size w w' := by
  have HR0 := Aside0.mk hr0
  have HC0 := Aside0.mk hc0
  have HT := Aside0.mk htab
  clear hr0 hc0 htab
  unfold grouper_Distinct.f at h
  split at h
  case isFalse => cases h
  rename_i hall
  rw [Bool.and_eq_true, decide_eq_true_eq, List.all_eq_true] at hall
  have HALL := Aside0.mk hall
  clear hall
  have h := Option.some.inj h
  unfold distinctP at h
  have HRES := Aside0.mk h
  clear h
  have hmm := @run_makeMap Tryd.prog
  go_enter Tryd.func16, Tryd.ntmps16
  go_wp2
  obtain ⟨w1, hw1⟩ : ∃ w1, w1 = (w.alloc (Obj.cells #[Value.int IntKind.i64 (-1), Value.string ⟨#[]⟩] 48)).alloc (Obj.map #[] 0) := ⟨_, rfl⟩
  have HM0 : Aside0 (MapG w1 (w.heap.size + 1) 0 (dAfter l0 0).2) := ⟨by rw [hw1]; have h_ := MapG_made (w.alloc (Obj.cells #[Value.int IntKind.i64 (-1), Value.string ⟨#[]⟩] 48)); simpa [dAfter] using h_⟩
  have HB0 : Aside0 (Below w.heap.size w w1) := ⟨by rw [hw1]; exact below_alloc (below_alloc (Below.refl _ _) _) _⟩
  have HL0 : Aside0 (w1.heap[w.heap.size]? = some (.cells #[.int .i64 (-1), .string ⟨#[]⟩] 48 (0, 0))) := ⟨by rw [hw1]; exact blk_alloc (blk_new _ _) _⟩
  rw [← hw1]
  clear hw1
  go_loopg [3, 15] l0.length (fun n v3 v15 wr => ∃ (k : Nat) (a : Int) (sb : ByteArray), v15 = .int .i64 k ∧ Aside0 (k + n = l0.length) ∧ Aside0 (MapG wr (w.heap.size + 1) k (dAfter l0 k).2) ∧ Aside0 (Kd.S (Kd.slice 44 k44) 33 wr w.heap.size (fun j => j ≠ w.heap.size ∧ j ≠ w.heap.size + 1) v3 (dAfter l0 k).1) ∧ Aside0 (wr.heap[w.heap.size]? = some (.cells #[.int .i64 a, .string sb] 48 (0, 0))) ∧ Aside0 (∀ r, keyable r = true → ((dAfter l0 k).2 (keyT r)) = none → ¬ ((r.length : Int) = a ∧ ktext r = sb.data.toList)) ∧ Aside0 (Below w.heap.size w wr))
  case atStart => exact ⟨0, -1, ⟨#[]⟩, rfl, ⟨Nat.zero_add _⟩, HM0, ⟨Kd.S_nil _ _ _ _ _⟩, HL0, ⟨fun r _ _ h => by omega⟩, HB0⟩
  case round =>
    clear HM0 HB0 HL0
    obtain ⟨k, a, sb, rfl, HN, HM, HO, HL, HA, HB⟩ := hrel
    have hn := HN.out
    by_cases hlt : k < l0.length
    · obtain ⟨ad, A1, c1, e, hx0, hl0, hi0⟩ := at_L4 HR0.out k (by omega) (by omega)
      cases e
      obtain ⟨r, hr⟩ : ∃ r, r = l0.getD k [] := ⟨_, rfl⟩
      have hh : (rd_L4 l0 (k : Int)) = l0.getD k [] := by unfold rd_L4; rw [Int.toNat_natCast]
      rw [hh, ← hr] at hx0 hl0 hi0
      have hmem : r ∈ l0 := by rw [hr, List.getD_eq_getElem?_getD, List.getElem?_eq_getElem hlt]; simp
      have HKY : Aside0 (keyable r = true) := ⟨HALL.out.1 r hmem⟩
      have HR := Aside0.mk hr
      clear hr hh hmem
      rw [Int.toNat_natCast] at hx0
      replace hx0 := (HB.out.cell (World.block_lt_of_cell? w _ hx0)).trans hx0
      have HI := Aside0.mk hi0
      have HCC := Aside0.mk hl0
      clear hi0 hl0
      have hkl : (k : Int) < (l0.length : Int) := by omega
      have hl2 : (l0.length : Int) ≤ 1099511627776 := by have := HALL.out.2; omega
      have hrl : r.length ≤ 1099511627776 := (keyable_len HKY.out).2
      clear hn
      go_wp2_with (go_at_call 29; refine (keyOf_calls A1 c1 r _ (Kd.C_below HI.out HB.out) HCC.out (by have := HKY.out; unfold keyable at this; rw [Bool.and_eq_true] at this; exact this.1) (keyable_len HKY.out).2 (tab_of HT.out HB.out)).mono ?_)
      rintro e w2 ⟨rfl, hb⟩
      have n0_ := Aside0.mk (Kd.S_below HO.out hb)
      have n1_ := Aside0.mk (MapG_below HM.out hb (MapG_lt HM.out))
      have n2_ := Aside0.mk (below_step HB.out hb)
      have n3_ := Aside0.mk (blk_below HL.out hb)
      clear HO HM HB HL hx0 hb
      have HO := n0_
      have HM := n1_
      have HB := n2_
      have HL := n3_
      clear n0_ n1_ n2_ n3_
      obtain ⟨f, hf0⟩ : ∃ f, f = (dAfter l0 k).2 := ⟨_, rfl⟩
      obtain ⟨xs, hxs⟩ : ∃ xs, xs = (dAfter l0 k).1 := ⟨_, rfl⟩
      have hok := dAfter_len l0 k
      rw [← hf0] at HM HA
      rw [← hxs] at HO hok
      have HOK := Aside0.mk hok
      have HNX : Aside0 (dAfter l0 (k + 1) = dput (xs, f) r k) := ⟨by rw [hf0, hxs, HR.out]; rfl⟩
      clear hok hf0 hxs
      have HSZ : Aside0 (w.heap.size + 1 < w2.heap.size) := ⟨MapG_lt HM.out⟩
      obtain ⟨g, hg⟩ : ∃ g, g = w2.heap.size := ⟨_, rfl⟩
      obtain ⟨w5, hw5⟩ : ∃ w5, w5 = w2.alloc (.cells #[.int .i64 r.length, .string ⟨(ktext r).toArray⟩] 48) := ⟨_, rfl⟩
      have HBX : Aside0 (w5.heap[g]? = some (.cells #[.int .i64 r.length, .string ⟨(ktext r).toArray⟩] 48 (0, 0))) := ⟨by rw [hw5, hg]; exact blk_new _ _⟩
      have n0_ := Aside0.mk (Kd.S_alloc HO.out (.cells #[.int .i64 r.length, .string ⟨(ktext r).toArray⟩] 48))
      have n1_ := Aside0.mk (MapG_alloc HM.out (.cells #[.int .i64 r.length, .string ⟨(ktext r).toArray⟩] 48))
      have n2_ := Aside0.mk (below_alloc HB.out (.cells #[.int .i64 r.length, .string ⟨(ktext r).toArray⟩] 48))
      have n3_ := Aside0.mk (blk_alloc HL.out (.cells #[.int .i64 r.length, .string ⟨(ktext r).toArray⟩] 48))
      have HSZ5 : Aside0 (w.heap.size + 1 < w5.heap.size) := ⟨by rw [hw5]; have := HSZ.out; simp; omega⟩
      have HGN : Aside0 (g ≠ w.heap.size) := ⟨by have := HSZ.out; omega⟩
      rw [← hw5] at n0_ n1_ n2_ n3_
      clear HO HM HB HL
      have HO := n0_
      have HM := n1_
      have HB := n2_
      have HL := n3_
      clear n0_ n1_ n2_ n3_
      have HG := Aside0.mk hg
      have HW5 := Aside0.mk hw5
      clear hg hw5
      have hk0 : w5.cell? ⟨g, 0, none⟩ = some (.int .i64 r.length) := (blk_cell HBX.out 0).trans rfl
      have hk1 : w5.cell? ⟨g, 1, none⟩ = some (.string ⟨(ktext r).toArray⟩) := (blk_cell HBX.out 1).trans rfl
      have hb0 : w5.cell? ⟨w.heap.size, 0, none⟩ = some (.int .i64 a) := (blk_cell HL.out 0).trans rfl
      have hb1 : w5.cell? ⟨w.heap.size, 1, none⟩ = some (.string sb) := (blk_cell HL.out 1).trans rfl
      have hf0 : w5.frozen? ⟨w.heap.size, 0, none⟩ = false := Lib.frozen_of_heap HL.out 0
      have hf1 : w5.frozen? ⟨w.heap.size, 1, none⟩ = false := Lib.frozen_of_heap HL.out 1
      cases hfr : f (keyT r) with
      | none =>
        have HNX2 : Aside0 (dAfter l0 (k + 1) = (xs ++ [r], putG f (keyT r) k)) := ⟨by rw [HNX.out]; unfold dput; simp only [hfr]⟩
        have heq : ∀ w : World, (binOp .eql 48 (.agg #[.int .i64 r.length, .string ⟨(ktext r).toArray⟩]) (.agg #[.int .i64 a, .string sb])).run Tryd.prog w = .ok (.bool false) w := fun w => eqK48 w _ _ _ _ (HA.out r HKY.out hfr)
        obtain ⟨A3, c3, e3⟩ := Kd.S_slice HO.out
        subst e3
        have hlx : xs.length ≤ k := HOK.out
        go_wp2_with (first | (at_lookup; rw [← HW5.out, ← HG.out]; refine wp_lookG _ rfl _ _ rfl _ _ f r HKY.out 0 false (by rw [hfr]; rfl) (by rw [hfr]; rfl) rfl HM.out rfl ?_) | ((with_reducible refine gate_store (t := 48) (p := 4) rfl ?_); refine store_event (t := 48) (p := 4) (v := ?vo_w30) (w1 := ((w5.setCell ⟨w.heap.size, 0, none⟩ (.int .i64 r.length)).setCell ⟨w.heap.size, 1, none⟩ (.string ⟨(ktext r).toArray⟩))) ?hg ?ho ?hn ?hr ?_; (case ho => rfl); (case hg => rfl); (case hn => rfl); (case hr => first | (go_simp; done) | (go_simp; rfl)); intro w6 hw; have n0_ := Aside0.mk (show Kd.S (Kd.slice 44 k44) 33 w6 w.heap.size (fun j => j ≠ w.heap.size ∧ j ≠ w.heap.size + 1) _ _ from (by rw [hw]; exact Kd.S_far (Kd.S_far HO.out (fun j hj => hj.1) _) (fun j hj => hj.1) _)); have n1_ := Aside0.mk (show MapG w6 (w.heap.size + 1) k f from (by rw [hw]; exact MapG_setCell (MapG_setCell HM.out (by show w.heap.size + 1 ≠ w.heap.size; omega) _) (by show w.heap.size + 1 ≠ w.heap.size; omega) _)); have n2_ := Aside0.mk (show Below w.heap.size w w6 from (by rw [hw]; exact below_set (below_set HB.out (Nat.le_refl _)) (Nat.le_refl _))); have n3_ := Aside0.mk (show w6.heap[w.heap.size]? = some (.cells #[.int .i64 r.length, .string ⟨(ktext r).toArray⟩] 48 (0, 0)) from (by rw [hw]; exact blk_set (blk_set HL.out 0 (.int .i64 r.length)) 1 (.string ⟨(ktext r).toArray⟩))); have n4_ := Aside0.mk (show w6.heap[g]? = some (.cells #[.int .i64 r.length, .string ⟨(ktext r).toArray⟩] 48 (0, 0)) from (by rw [hw, Below.heap_setCell _ _ _ g HGN.out, Below.heap_setCell _ _ _ g HGN.out]; exact HBX.out)); clear HO HM HB HL HBX hk0 hk1 hb0 hb1 hf0 hf1 hw; have HO := n0_; have HM := n1_; have HB := n2_; have HL := n3_; have HBX := n4_; clear n0_ n1_ n2_ n3_ n4_; have hk0 : w6.cell? ⟨g, 0, none⟩ = some (.int .i64 r.length) := (blk_cell HBX.out 0).trans rfl; have hk1 : w6.cell? ⟨g, 1, none⟩ = some (.string ⟨(ktext r).toArray⟩) := (blk_cell HBX.out 1).trans rfl) | (at_mapUpdate; refine wp_putG _ rfl _ _ _ rfl _ k f r HKY.out (k : Int) (i64ok_of (by omega) (by omega)) (by unfold maxLen; omega) rfl HM.out rfl rfl ?_; intro w3 hm3 hg3; have n0_ := Aside0.mk (Kd.S_grown HO.out hg3 (fun j hj e => hj.2 (Option.some.inj e))); have n1_ := Aside0.mk hm3; have n2_ := Aside0.mk (pw_below_grown HB.out (some (w.heap.size + 1)) (below_size HB.out) hg3 (fun j hj => by cases hj; omega)); have n3_ := Aside0.mk ((hg3.block w.heap.size (blk_lt HL.out) (by simp)).trans HL.out); clear HO HM HB HL HBX hk0 hk1 hm3 hg3; have HO := n0_; have HM := n1_; have HB := n2_; have HL := n3_; clear n0_ n1_ n2_ n3_) | (go_at_call 33; refine (slices_Clone.calls A1 c1 r _ (Kd.C_below HI.out HB.out) hrl).mono ?_; rintro e w7 ⟨vc, rfl, hoc, hb⟩; have n0_ := Aside0.mk (Kd.S_elder' HO.out (Kd.R_base hoc) hb); have n1_ := Aside0.mk (MapG_below HM.out hb (MapG_lt HM.out)); have n2_ := Aside0.mk (below_step HB.out hb); have n3_ := Aside0.mk (blk_below HL.out hb); have n4_ := Aside0.mk (Kd.R_lower (base' := w.heap.size) (Kd.R_mono (ok' := fun k_ => k_ ≠ w.heap.size ∧ k_ ≠ w.heap.size + 1 ∧ some k_ ≠ (.slice A3 xs.length c3 : Value).ownBlock) (Kd.R_bound hoc) (fun k_ hk_ => by have h1_ := hk_.2.1; have h2_ := MapG_lt HM.out; exact ⟨by omega, by omega, fun e_ => by have h3_ := Kd.S_lt HO.out k_ e_.symm; omega⟩)) (below_size HB.out)); clear HO HM HB HL hoc hb; have HO := n0_; have HM := n1_; have HB := n2_; have HL := n3_; have HOC := n4_; clear n0_ n1_ n2_ n3_ n4_; obtain ⟨Ac, cc, ec⟩ := Kd.R_slice HOC.out; subst ec) | ((with_reducible refine gate_builtin (b := .append) (xs := #[.tmp 38, .tmp 41]) rfl ?_); at_builtin; refine Kd.S_append (Kd.slice 44 k44) (w0 := w) w.heap.size rfl (.tmp 38) (.tmp 41) 22 33 (.slice none 0 0) 24 rfl Tryd.underlying22 info33 rfl (by decide) (by omega) (.slice A3 xs.length c3) xs r [.slice Ac r.length cc] (fun j => j ≠ w.heap.size ∧ j ≠ w.heap.size + 1) (fun k_ => some k_ = (.slice Ac r.length cc : Value).ownBlock) rfl rfl ?aP (fun k_ hk_ => ⟨⟨(HOC.out.1 k_ hk_.symm).1, (HOC.out.1 k_ hk_.symm).2.1⟩, (HOC.out.1 k_ hk_.symm).2.2⟩) ?aF ?aO ?aB ?aS ?aL ?_; (case aP => exact Kd.M_row (Kd.R_tight rfl HOC.out)); (case aB => exact HB.out); (case aF => exact (fun k_ hk_ => by have h_ := MapG_lt HM.out; exact ⟨by omega, by omega⟩)); (case aO => exact HO.out); (case aS => exact (below_size HB.out)); (case aL => omega); intro v201 w28 ho hb hg hat; have n0_ := Aside0.mk hb; have n1_ := Aside0.mk ho; have n2_ := Aside0.mk (MapG_kept HM.out hg (Kd.S_away HO.out (fun _ h_ => h_.1.2))); have n3_ := Aside0.mk ((hg.block w.heap.size (blk_lt HL.out) (Kd.S_away HO.out (fun _ h_ => h_.1.1))).trans HL.out); clear HB HO HM HL HOC ho hb hg hat; have HB := n0_; have HO := n1_; have HM := n2_; have HL := n3_; clear n0_ n1_ n2_ n3_))
        go_roundg (l0.length - (k + 1))
        case measure => have := HN.out; omega
        case rel => exact ⟨k + 1, _, _, (by first | rfl | (simp; done) | (simp [*]; done)), ⟨by have := HN.out; omega⟩, ⟨by rw [HNX2.out]; exact HM.out⟩, ⟨by rw [HNX2.out]; exact HO.out⟩, HL, ⟨by
          rw [HNX2.out]
          intro r' _ h_ h2_
          apply absurd h_
          show ¬ (putG f (keyT r) k (keyT r') = none)
          unfold putG
          rw [if_pos (by unfold keyT; exact Prod.ext (by have := h2_.1; show r'.length = r.length; omega) h2_.2)]
          simp⟩, ⟨(by repeat (first | (with_reducible first | exact HB.out | apply below_alloc | apply pw_below_drewN | apply below_drew1) | exact HB.out))⟩⟩
      | some gx =>
        have HNX2 : Aside0 (dAfter l0 (k + 1) = (xs, f)) := ⟨by rw [HNX.out]; unfold dput; simp only [hfr]⟩
        obtain ⟨A3, c3, e3⟩ := Kd.S_slice HO.out
        subst e3
        have hlx : xs.length ≤ k := HOK.out
        go_wp2_with (first | (at_lookup; rw [← HW5.out, ← HG.out]; refine wp_lookG _ rfl _ _ rfl _ _ f r HKY.out gx true (by rw [hfr]; rfl) (by rw [hfr]; rfl) rfl HM.out rfl ?_))
        go_roundg (l0.length - (k + 1))
        case measure => have := HN.out; omega
        case rel => exact ⟨k + 1, _, _, (by first | rfl | (simp; done) | (simp [*]; done)), ⟨by have := HN.out; omega⟩, ⟨by rw [HNX2.out]; exact MapG_mono HM.out (Nat.le_succ _)⟩, ⟨by rw [HNX2.out]; exact HO.out⟩, HL, ⟨by rw [HNX2.out]; exact HA.out⟩, ⟨(by repeat (first | (with_reducible first | exact HB.out | apply below_alloc | apply pw_below_drewN | apply below_drew1) | exact HB.out))⟩⟩
    · have hkk : k = l0.length := by omega
      have hkl : ¬ ((k : Int) < (l0.length : Int)) := by omega
      have hkb : decide ((k : Int) < (l0.length : Int)) = false := decide_eq_false hkl
      clear hkl
      go_wp2
      go_ret
      exact ⟨u3, rfl, by rw [← HRES.out, ← hkk]; exact Kd.S_mono HO.out (fun _ _ => trivial), HB.out⟩
end Go.Proofs.YtnllgjloimoebaaDoor.X

-- By xprint.py (this session's own program over the kit's print): not trusted: Lean checks it.
namespace Go.Proofs.YtnllgjloimoebaaDoor.X
open Go.RowKit Go.Proofs.YtnllgjloimoebaaDoorW.PrintWords Go.Proofs.YtnllgjloimoebaaDoorW.PrintLast Go.Proofs.YtnllgjloimoebaaDoorW.PrintMore
attribute [local go_sem] max2_int min2_int max_two min_two max_three min_three max_four min_four   -- for this text's walks alone
set_option linter.unusedVariables false
set_option linter.unusedSimpArgs false

/-! ### tabellionref33_Sorted: function 14 -/
mutual
def tabellionref33_Sorted.l0 : Nat → List (List (S44)) → List (List Int) → List (List Int) → Int → Option ((List (List Int)))
 | 0, _, _, _, _ => none
 | k + 1, x0, x3, x4, x5 => if x5 < (x3.length : Int) then (tabellionref33_Sorted.l1 k x0 x3 x4 x5 0) else (some x4)
def tabellionref33_Sorted.l1 : Nat → List (List (S44)) → List (List Int) → List (List Int) → Int → Int → Option ((List (List Int)))
 | 0, _, _, _, _, _ => none
 | k + 1, x0, x3, x4, x5, x6 => if x6 < (x4.length : Int) then (if 0 ≤ x6 then (if 0 < ((rd_L1 x4 x6).length : Int) then (if 0 ≤ (rd (rd_L1 x4 x6) 0) then (if (rd (rd_L1 x4 x6) 0) < (x0.length : Int) then (if 0 ≤ x5 then (if x5 < (x3.length : Int) then (if 0 < ((rd_L1 x3 x5).length : Int) then (if 0 ≤ (rd (rd_L1 x3 x5) 0) then (if (rd (rd_L1 x3 x5) 0) < (x0.length : Int) then ((tabellionref03_Orders.f k (rd_L4 x0 (rd (rd_L1 x4 x6) 0)) (rd_L4 x0 (rd (rd_L1 x3 x5) 0))).bind fun t232 => (if t232 < 0 then (tabellionref33_Sorted.l1 k x0 x3 x4 x5 (wrap64 (x6 + 1))) else ((some (([] : List (List Int)) : List (List Int))).bind fun y233 => (if x6 ≤ (x4.length : Int) then ((some (x4.take (x6 : Int).toNat : List (List Int))).bind fun y236 => (if y233.length + y236.length < 5864062014805 then ((some (y233 ++ y236 : List (List Int))).bind fun y241 => (if y241.length < 5864062014805 then ((some (y241 ++ [rd_L1 x3 x5] : List (List Int))).bind fun y245 => ((some (x4.drop (x6 : Int).toNat : List (List Int))).bind fun y248 => (if y245.length + y248.length < 5864062014805 then (tabellionref33_Sorted.l0 k x0 x3 (y245 ++ y248) (wrap64 (x5 + 1))) else (none)))) else (none))) else (none))) else (none))))) else (none)) else (none)) else (none)) else (none)) else (none)) else (none)) else (none)) else (none)) else (none)) else ((some (([] : List (List Int)) : List (List Int))).bind fun y256 => (if 0 ≤ x6 then (if x6 ≤ (x4.length : Int) then ((some (x4.take (x6 : Int).toNat : List (List Int))).bind fun y259 => (if y256.length + y259.length < 5864062014805 then ((some (y256 ++ y259 : List (List Int))).bind fun y264 => (if 0 ≤ x5 then (if x5 < (x3.length : Int) then (if y264.length < 5864062014805 then ((some (y264 ++ [rd_L1 x3 x5] : List (List Int))).bind fun y268 => ((some (x4.drop (x6 : Int).toNat : List (List Int))).bind fun y271 => (if y268.length + y271.length < 5864062014805 then (tabellionref33_Sorted.l0 k x0 x3 (y268 ++ y271) (wrap64 (x5 + 1))) else (none)))) else (none)) else (none)) else (none))) else (none))) else (none)) else (none)))
end
def tabellionref33_Sorted.f (k : Nat) (l0 : List (List (S44))) : Option ((List (List Int))) := (tabellionref33_Groups.f k l0).bind fun t220 => (tabellionref33_Sorted.l0 k l0 t220 (([] : List (List Int))) 0)
def tabellionref33_Sorted.T7 : Bool × List (List Nat × List Nat) := (true, [([], []), ([], []), ([1], [1]), ([0, 2], [0, 2]), ([3], [3]), ([4], [4]), ([4], [4]), ([4], [4]), ([6, 7, 4], [4, 6, 7]), ([8, 4], [4, 8]), ([9, 4], [4, 9]), ([10, 4], [4, 10]), ([5, 11, 4], [4, 5, 11]), ([12, 4], [4, 12]), ([4], [4]), ([4], [4]), ([4], [4]), ([15, 16, 4], [4, 15, 16]), ([17, 4], [4, 17]), ([18, 4], [4, 18]), ([19, 4], [4, 19]), ([14, 20, 4], [4, 14, 20]), ([21, 4], [4, 21]), ([13, 22, 4, 4], [4, 13, 22]), ([23, 4], [4, 23]), ([4, 24], [4, 24])])
def tabellionref33_Sorted.B7 : List Nat := [0, 0, 2, 7, 15, 31, 31, 31, 223, 479, 991, 2015, 4095, 8191, 31, 31, 31, 98335, 229407, 491551, 1015839, 2080799, 4177951, 8388607, 16777215, 33554431]
theorem tabellionref33_Sorted.tab7 : rtab .any (opsOf Tryd.f14 7) = tabellionref33_Sorted.T7 := by kernel_rfl
theorem tabellionref33_Sorted.bits7 : waitsOk tabellionref33_Sorted.T7.2 tabellionref33_Sorted.B7 = true := by kernel_rfl
end Go.Proofs.YtnllgjloimoebaaDoor.X

-- By xprint.py (this session's own program over the kit's print): not trusted: Lean checks it.
namespace Go.Proofs.YtnllgjloimoebaaDoor.X
open Go.RowKit Go.Proofs.YtnllgjloimoebaaDoorW.PrintWords Go.Proofs.YtnllgjloimoebaaDoorW.PrintLast Go.Proofs.YtnllgjloimoebaaDoorW.PrintMore
attribute [local go_sem] max2_int min2_int max_two min_two max_three min_three max_four min_four   -- for this text's walks alone
set_option linter.unusedVariables false
set_option linter.unusedSimpArgs false

/-! ### tabellionref03_List: function 15 -/
mutual
def tabellionref03_List.l0 : Nat → List (List (S44)) → List (List (S44)) → Int → Option (Bool)
 | 0, _, _, _ => none
 | k + 1, x0, x1, x5 => if x5 < (x0.length : Int) then (tabellionref03_List.j1 k x0 x1 x5 (decide (x5 < (x1.length : Int)))) else (tabellionref03_List.j1 k x0 x1 x5 false)
def tabellionref03_List.j1 : Nat → List (List (S44)) → List (List (S44)) → Int → Bool → Option (Bool)
 | 0, _, _, _, _ => none
 | k + 1, x0, x1, x5, x15 => if x15 = true then (if 0 ≤ x5 then (if x5 < (x0.length : Int) then (if x5 < (x1.length : Int) then ((tabellionref03_Orders.f k (rd_L4 x0 x5) (rd_L4 x1 x5)).bind fun t281 => (if t281 = 0 then (tabellionref03_List.l0 k x0 x1 (wrap64 (x5 + 1))) else (some false))) else (none)) else (none)) else (none)) else (some ((x0.length : Int) == (x1.length : Int)))
end
def tabellionref03_List.f (k : Nat) (l0 : List (List (S44))) (l1 : List (List (S44))) : Option (Bool) := tabellionref03_List.l0 k l0 l1 0
def tabellionref03_List.T4 : Bool × List (List Nat × List Nat) := (true, [([], []), ([], []), ([0, 1], [0, 1]), ([2], [2]), ([], []), ([], []), ([4, 5], [4, 5]), ([6], [6]), ([3, 7], [3, 7]), ([8], [8])])
def tabellionref03_List.B4 : List Nat := [0, 0, 3, 7, 0, 0, 48, 112, 255, 511]
theorem tabellionref03_List.tab4 : rtab .any (opsOf Tryd.f15 4) = tabellionref03_List.T4 := by kernel_rfl
theorem tabellionref03_List.bits4 : waitsOk tabellionref03_List.T4.2 tabellionref03_List.B4 = true := by kernel_rfl
end Go.Proofs.YtnllgjloimoebaaDoor.X

-- By xprint.py (this session's own program over the kit's print): not trusted: Lean checks it.
namespace Go.Proofs.YtnllgjloimoebaaDoor.X
open Go.RowKit Go.Proofs.YtnllgjloimoebaaDoorW.PrintWords Go.Proofs.YtnllgjloimoebaaDoorW.PrintLast Go.Proofs.YtnllgjloimoebaaDoorW.PrintMore
attribute [local go_sem] max2_int min2_int max_two min_two max_three min_three max_four min_four   -- for this text's walks alone
set_option linter.unusedVariables false
set_option linter.unusedSimpArgs false

/-! ### tabellionref33_Distinct: function 17 -/
def tabellionref33_Distinct.l0 : Nat → List (List (S44)) → List (List Int) → List (List (S44)) → Int → Option ((List (List (S44))))
 | 0, _, _, _, _ => none
 | k + 1, x0, x3, x4, x5 => if x5 < (x3.length : Int) then ((some (([] : List (S44)) : List (S44))).bind fun y288 => (if 0 ≤ x5 then (if 0 < ((rd_L1 x3 x5).length : Int) then (if 0 ≤ (rd (rd_L1 x3 x5) 0) then (if (rd (rd_L1 x3 x5) 0) < (x0.length : Int) then (if y288.length + (rd_L4 x0 (rd (rd_L1 x3 x5) 0)).length < 4398046511104 then (if x4.length < 5864062014805 then (tabellionref33_Distinct.l0 k x0 x3 (x4 ++ [(y288 ++ (rd_L4 x0 (rd (rd_L1 x3 x5) 0)))]) (wrap64 (x5 + 1))) else (none)) else (none)) else (none)) else (none)) else (none)) else (none))) else (some x4)
def tabellionref33_Distinct.f (k : Nat) (l0 : List (List (S44))) : Option ((List (List (S44)))) := (tabellionref33_Groups.f k l0).bind fun t282 => (tabellionref33_Distinct.l0 k l0 t282 (([] : List (List (S44)))) 0)
end Go.Proofs.YtnllgjloimoebaaDoor.X

/- The sorted groups are the document's; told once, the rows are the document's. -/
set_option linter.unusedVariables false
set_option linter.unusedSimpArgs false
namespace Go.Proofs.YtnllgjloimoebaaDoor.X
open Go.RowKit Go.Proofs.YtnllgjloimoebaaDoorW.PrintWords

/-! ### insertion -/
section
variable (l : List (List S44))
def insP (x : List Int) : List (List Int) → List (List Int)
  | [] => [x]
  | y :: o => if gcmp l y x < 0 then y :: insP x o else x :: y :: o
def posP (x : List Int) : List (List Int) → Nat
  | [] => 0
  | y :: o => if gcmp l y x < 0 then posP x o + 1 else 0
theorem posP_le (x : List Int) : ∀ o, posP l x o ≤ o.length
  | [] => Nat.le_refl _
  | y :: o => by
    have := posP_le x o
    unfold posP
    split
    · simp; omega
    · simp
theorem posP_lt (x : List Int) : ∀ o j, j < posP l x o → gcmp l (o.getD j []) x < 0
  | [], j, h => by simp [posP] at h
  | y :: o, j, h => by
    unfold posP at h
    split at h
    · rename_i hy
      cases j with
      | zero => exact hy
      | succ j => exact posP_lt x o j (by omega)
    · omega
theorem posP_at (x : List Int) : ∀ o, posP l x o < o.length → ¬ gcmp l (o.getD (posP l x o) []) x < 0
  | [], h => by simp at h
  | y :: o, h => by
    unfold posP at *
    split
    · rename_i hy
      rw [if_pos hy] at h
      exact posP_at x o (by simpa using h)
    · assumption
theorem posP_ins (x : List Int) : ∀ o, o.take (posP l x o) ++ [x] ++ o.drop (posP l x o) = insP l x o
  | [] => rfl
  | y :: o => by
    unfold posP insP
    split
    · have := posP_ins x o
      simpa using this
    · rfl
theorem insP_len (x : List Int) (o : List (List Int)) : (insP l x o).length = o.length + 1 := by
  rw [← posP_ins l x o]
  have := posP_le l x o
  simp; omega
theorem insP_perm (x : List Int) : ∀ o, (insP l x o).Perm (x :: o)
  | [] => List.Perm.refl _
  | y :: o => by
    unfold insP
    split
    · exact ((insP_perm x o).cons y).trans (List.Perm.swap x y o)
    · exact List.Perm.refl _
theorem gcmp_trans {a b c : List Int} (h1 : gcmp l a b < 0) (h2 : gcmp l b c < 0) : gcmp l a c < 0 := rcmp_trans h1 h2
theorem gcmp_neg (a b : List Int) : gcmp l b a = - gcmp l a b := rcmp_neg _ _
theorem insP_pw (x : List Int) : ∀ o, o.Pairwise (fun a b => gcmp l a b < 0) → (∀ y ∈ o, gcmp l y x ≠ 0) → (insP l x o).Pairwise (fun a b => gcmp l a b < 0)
  | [], _, _ => by simp [insP]
  | y :: o, h, hne => by
    rw [List.pairwise_cons] at h
    unfold insP
    split
    · rename_i hy
      rw [List.pairwise_cons]
      refine ⟨fun z hz => ?_, insP_pw x o h.2 (fun z hz => hne z (List.mem_cons_of_mem _ hz))⟩
      rcases List.mem_cons.1 ((insP_perm l x o).mem_iff.1 hz) with rfl | hz
      · exact hy
      · exact h.1 z hz
    · rename_i hy
      have hxy : gcmp l x y < 0 := by
        have := gcmp_neg l x y
        have := hne y (List.mem_cons_self ..)
        omega
      rw [List.pairwise_cons]
      refine ⟨fun z hz => ?_, List.pairwise_cons.2 h⟩
      rcases List.mem_cons.1 hz with rfl | hz
      · exact hxy
      · exact gcmp_trans l hxy (h.1 z hz)
def isort (g : List (List Int)) : List (List Int) := g.foldl (fun o x => insP l x o) []
theorem isort_snoc (g : List (List Int)) (x : List Int) : isort l (g ++ [x]) = insP l x (isort l g) := by unfold isort; rw [List.foldl_append]; rfl
theorem isort_perm (g : List (List Int)) : (isort l g).Perm g := by
  have h : ∀ (g o : List (List Int)), (g.foldl (fun o x => insP l x o) o).Perm (o ++ g) := by
    intro g
    induction g with
    | nil => intro o; simp
    | cons x g ih =>
      intro o
      refine (ih _).trans ?_
      refine ((insP_perm l x o).append_right g).trans ?_
      simpa using (List.perm_middle (a := x) (l₁ := o) (l₂ := g)).symm
  simpa [isort] using h g []
theorem isort_len (g : List (List Int)) : (isort l g).length = g.length := (isort_perm l g).length_eq
theorem isort_pw : ∀ (n : Nat) (g : List (List Int)), g.length = n → g.Pairwise (fun a b => gcmp l a b ≠ 0) → (isort l g).Pairwise (fun a b => gcmp l a b < 0)
  | 0, g, hn, _ => by
    rw [List.eq_nil_of_length_eq_zero hn]; simp [isort]
  | n + 1, g, hn, h => by
    obtain ⟨g', x, rfl⟩ : ∃ g' x, g = g' ++ [x] := by
      have hne : g ≠ [] := fun e => by rw [e] at hn; simp at hn
      exact ⟨g.dropLast, g.getLast hne, (List.dropLast_concat_getLast hne).symm⟩
    rw [isort_snoc]
    rw [List.pairwise_append] at h
    refine insP_pw l x _ (isort_pw n g' (by simpa using hn) h.1) (fun y hy => ?_)
    exact h.2.2 y ((isort_perm l g').mem_iff.1 hy) x (List.mem_singleton.2 rfl)
theorem pw_unique {α : Type} {lt : α → α → Prop} (hasym : ∀ a b, lt a b → ¬ lt b a) : ∀ {a b : List α}, a.Perm b → a.Pairwise lt → b.Pairwise lt → a = b
  | [], b, hp, _, _ => (List.nil_perm.1 hp).symm
  | x :: a, [], hp, _, _ => absurd hp.length_eq (by simp)
  | x :: a, y :: b, hp, ha, hb => by
    rw [List.pairwise_cons] at ha hb
    have e : x = y := by
      have hx : x ∈ y :: b := hp.mem_iff.1 (List.mem_cons_self ..)
      have hy : y ∈ x :: a := hp.mem_iff.2 (List.mem_cons_self ..)
      rcases List.mem_cons.1 hx with h | h
      · exact h
      · rcases List.mem_cons.1 hy with h2 | h2
        · exact h2.symm
        · exact absurd (ha.1 y h2) (hasym _ _ (hb.1 x h))
    subst e
    rw [pw_unique hasym (List.Perm.cons_inv hp) ha.2 hb.2]
theorem groups_pw : (groupsP l).Pairwise (fun a b => gcmp l a b ≠ 0) := by
  rw [List.pairwise_iff_getElem]
  intro i j hi hj hij h
  have I := GInv.at l l.length
  have e := rcmp_zero.1 h
  have a := I.one i hi
  have b := I.one j hj
  change (gAfter l l.length).2 (keyT (head l ((groupsP l).getD i []))) = _ at a
  change (gAfter l l.length).2 (keyT (head l ((groupsP l).getD j []))) = _ at b
  rw [List.getD_eq_getElem?_getD, List.getElem?_eq_getElem hi] at a
  rw [List.getD_eq_getElem?_getD, List.getElem?_eq_getElem hj] at b
  simp only [Option.getD_some] at a b
  rw [e, b] at a
  injection a with a
  omega
theorem sortedP_eq : sortedP l = isort l (groupsP l) := by
  have hperm : (sortedP l).Perm (groupsP l) := List.mergeSort_perm _ _
  refine pw_unique (lt := fun a b => gcmp l a b < 0) (fun a b h h2 => by have := gcmp_neg l a b; omega) (hperm.trans (isort_perm l _).symm) ?_ (isort_pw l _ _ rfl (groups_pw l))
  have h1 : (sortedP l).Pairwise (fun a b => (!decide (gcmp l b a < 0)) = true) := by
    unfold sortedP
    refine List.pairwise_mergeSort (fun a b c h1 h2 => ?_) (fun a b => ?_) _
    · simp only [Bool.not_eq_true', decide_eq_false_iff_not] at *
      exact rcmp_ntrans h2 h1
    · simp only [Bool.or_eq_true, Bool.not_eq_true', decide_eq_false_iff_not]
      have := gcmp_neg l a b
      omega
  have h2 : (sortedP l).Pairwise (fun a b => gcmp l a b ≠ 0) := hperm.symm.pairwise (groups_pw l) (fun {a b} h h2 => h (by have := gcmp_neg l a b; omega))
  refine (h1.and h2).imp ?_
  rintro a b ⟨h3, h4⟩
  simp only [Bool.not_eq_true', decide_eq_false_iff_not] at h3
  have := gcmp_neg l a b
  omega
end

/-! ### the document's loops -/
theorem srt_l1 {l : List (List S44)} (hl : shorts l) (g : List (List Int)) (hg : ∀ x ∈ g, x ≠ [] ∧ 0 ≤ rd x 0 ∧ rd x 0 < (l.length : Int)) (hgl : g.length ≤ 1099511627776) (i : Nat) (hi : i < g.length) (o : List (List Int))
    (ho : ∀ x ∈ o, x ∈ g) (hol : o.length ≤ 1099511627776) (v : List (List Int)) (hv : Ev (fun k => tabellionref33_Sorted.l0 k l g (insP l (g.getD i []) o) ((i + 1 : Nat) : Int)) v) :
    ∀ (n j : Nat), posP l (g.getD i []) o - j = n → j ≤ posP l (g.getD i []) o → Ev (fun k => tabellionref33_Sorted.l1 k l g o (i : Int) (j : Int)) v
  | n, j, hn, hj => by
    have hpl := posP_le l (g.getD i []) o
    have hgi := hg _ (getD_mem g [] i hi)
    have hxi : rd_L1 g (i : Int) = g.getD i [] := by unfold rd_L1; rw [Int.toNat_natCast]
    have hxj : rd_L1 o (j : Int) = o.getD j [] := by unfold rd_L1; rw [Int.toNat_natCast]
    have hposi : 0 < (g.getD i []).length := List.length_pos_iff.2 hgi.1
    refine Ev.succ ?_ (fun k => by rw [tabellionref33_Sorted.l1])
    by_cases h1 : j < o.length
    · have hoj := hg _ (ho _ (getD_mem o [] j h1))
      have hposj : 0 < (o.getD j []).length := List.length_pos_iff.2 hoj.1
      refine Ev.congr ?_ (fun k => by rw [if_pos (by omega : (j : Int) < (o.length : Int)), if_pos (by omega : (0 : Int) ≤ (j : Int)), hxj, if_pos (by omega : (0 : Int) < ((o.getD j []).length : Int)), if_pos hoj.2.1, if_pos hoj.2.2, if_pos (by omega : (0 : Int) ≤ (i : Int)), if_pos (by omega : (i : Int) < (g.length : Int)), hxi, if_pos (by omega : (0 : Int) < ((g.getD i []).length : Int)), if_pos hgi.2.1, if_pos hgi.2.2])
      refine Ev.bind (rorders_ev _ _ (shorts_rd hl _)) ?_
      by_cases h2 : j < posP l (g.getD i []) o
      · have h3 := posP_lt l (g.getD i []) o j h2
        refine Ev.congr ?_ (fun k => by rw [if_pos (show rcmp (rd_L4 l (rd (o.getD j []) 0)) (rd_L4 l (rd (g.getD i []) 0)) < 0 from h3), w64 j (by omega)])
        match n, hn with
        | n + 1, hn => exact srt_l1 hl g hg hgl i hi o ho hol v hv n (j + 1) (by omega) (by omega)
        | 0, hn => omega
      · have e : j = posP l (g.getD i []) o := by omega
        have h3 : ¬ gcmp l (o.getD j []) (g.getD i []) < 0 := by rw [e]; exact posP_at l (g.getD i []) o (by omega)
        refine Ev.congr ?_ (fun k => by rw [if_neg (show ¬ rcmp (rd_L4 l (rd (o.getD j []) 0)) (rd_L4 l (rd (g.getD i []) 0)) < 0 from h3)])
        refine Ev.bind (v := ([] : List (List Int))) (Ev.const _) ?_
        refine Ev.congr ?_ (fun k => by rw [if_pos (by omega : (j : Int) ≤ (o.length : Int)), Int.toNat_natCast])
        refine Ev.bind (v := o.take j) (Ev.const _) ?_
        refine Ev.congr ?_ (fun k => by rw [if_pos (by simp; omega : ([] : List (List Int)).length + (o.take j).length < 5864062014805), List.nil_append])
        refine Ev.bind (v := o.take j) (Ev.const _) ?_
        refine Ev.congr ?_ (fun k => by rw [if_pos (by simp; omega : (o.take j).length < 5864062014805)])
        refine Ev.bind (v := o.take j ++ [g.getD i []]) (Ev.const _) ?_
        refine Ev.bind (v := o.drop j) (Ev.const _) ?_
        refine Ev.congr ?_ (fun k => by rw [if_pos (by simp; omega : (o.take j ++ [g.getD i []]).length + (o.drop j).length < 5864062014805), w64 i (by omega)])
        rw [e, posP_ins]
        exact hv
    · have e : j = posP l (g.getD i []) o := by omega
      refine Ev.congr ?_ (fun k => by rw [if_neg (by omega : ¬ (j : Int) < (o.length : Int))])
      refine Ev.bind (v := ([] : List (List Int))) (Ev.const _) ?_
      refine Ev.congr ?_ (fun k => by rw [if_pos (by omega : (0 : Int) ≤ (j : Int)), if_pos (by omega : (j : Int) ≤ (o.length : Int)), Int.toNat_natCast])
      refine Ev.bind (v := o.take j) (Ev.const _) ?_
      refine Ev.congr ?_ (fun k => by rw [if_pos (by simp; omega : ([] : List (List Int)).length + (o.take j).length < 5864062014805), List.nil_append])
      refine Ev.bind (v := o.take j) (Ev.const _) ?_
      refine Ev.congr ?_ (fun k => by rw [if_pos (by omega : (0 : Int) ≤ (i : Int)), if_pos (by omega : (i : Int) < (g.length : Int)), if_pos (by simp; omega : (o.take j).length < 5864062014805), hxi])
      refine Ev.bind (v := o.take j ++ [g.getD i []]) (Ev.const _) ?_
      refine Ev.bind (v := o.drop j) (Ev.const _) ?_
      refine Ev.congr ?_ (fun k => by rw [if_pos (by simp; omega : (o.take j ++ [g.getD i []]).length + (o.drop j).length < 5864062014805), w64 i (by omega)])
      rw [e, posP_ins]
      exact hv
theorem take_snoc {α : Type} (g : List α) (z : α) (i : Nat) (h : i < g.length) : g.take (i + 1) = g.take i ++ [g.getD i z] := by
  rw [List.take_succ_eq_append_getElem h, List.getD_eq_getElem?_getD, List.getElem?_eq_getElem h]; rfl
theorem srt_l0 {l : List (List S44)} (hl : shorts l) (g : List (List Int)) (hg : ∀ x ∈ g, x ≠ [] ∧ 0 ≤ rd x 0 ∧ rd x 0 < (l.length : Int)) (hgl : g.length ≤ 1099511627776) : ∀ (n i : Nat), g.length - i = n → i ≤ g.length →
    Ev (fun k => tabellionref33_Sorted.l0 k l g (isort l (g.take i)) (i : Int)) (isort l g)
  | n, i, hn, hi => by
    refine Ev.succ ?_ (fun k => by rw [tabellionref33_Sorted.l0])
    by_cases h1 : i < g.length
    · refine Ev.congr ?_ (fun k => by rw [if_pos (by omega : (i : Int) < (g.length : Int))])
      match n, hn with
      | n + 1, hn =>
        have h2 := srt_l0 hl g hg hgl n (i + 1) (by omega) (by omega)
        rw [take_snoc g [] i h1, isort_snoc] at h2
        refine srt_l1 hl g hg hgl i h1 _ (fun x hx => List.mem_of_mem_take ((isort_perm l _).mem_iff.1 hx)) (by rw [isort_len]; simp; omega) _ h2 _ 0 rfl (Nat.zero_le _)
      | 0, hn => omega
    · rw [List.take_of_length_le (by omega : g.length ≤ i)]
      exact Ev.congr (Ev.const _) (fun k => by rw [if_neg (by omega : ¬ (i : Int) < (g.length : Int))])
theorem groups_in (l : List (List S44)) : ∀ x ∈ groupsP l, x ≠ [] ∧ 0 ≤ rd x 0 ∧ rd x 0 < (l.length : Int) := fun x hx => by
  have I := GInv.at l l.length
  have h2 := I.ne _ hx
  exact ⟨h2, I.mem _ hx _ (rd_mem h2)⟩
theorem groups_len (l : List (List S44)) : (groupsP l).length ≤ l.length := (GInv.at l l.length).len
theorem refSorted_ev {l : List (List S44)} (hl : shorts l) : Ev (fun k => tabellionref33_Sorted.f k l) (sortedP l) := by
  unfold tabellionref33_Sorted.f
  refine Ev.bind (refGroups_ev hl) ?_
  rw [sortedP_eq]
  exact srt_l0 hl _ (groups_in l) (Nat.le_trans (groups_len l) hl.1) _ 0 rfl (Nat.zero_le _)

/-! ### each row once -/
theorem dis_l0 {l : List (List S44)} (hl : shorts l) (hr : ∀ r ∈ l, r.length ≤ 1099511627776) (g : List (List Int)) (hg : ∀ x ∈ g, x ≠ [] ∧ 0 ≤ rd x 0 ∧ rd x 0 < (l.length : Int)) (hgl : g.length ≤ 1099511627776) : ∀ (n i : Nat), g.length - i = n → i ≤ g.length →
    Ev (fun k => tabellionref33_Distinct.l0 k l g ((g.take i).map (head l)) (i : Int)) (g.map (head l))
  | n, i, hn, hi => by
    refine Ev.succ ?_ (fun k => by rw [tabellionref33_Distinct.l0])
    by_cases h1 : i < g.length
    · have hgi := hg _ (getD_mem g [] i h1)
      have hxi : rd_L1 g (i : Int) = g.getD i [] := by unfold rd_L1; rw [Int.toNat_natCast]
      have hposi : 0 < (g.getD i []).length := List.length_pos_iff.2 hgi.1
      have hrl : (rd_L4 l (rd (g.getD i []) 0)).length ≤ 1099511627776 := hr _ (getD_mem _ _ _ (by omega))
      refine Ev.congr ?_ (fun k => by rw [if_pos (by omega : (i : Int) < (g.length : Int))])
      refine Ev.bind (v := ([] : List S44)) (Ev.const _) ?_
      refine Ev.congr ?_ (fun k => by rw [if_pos (by omega : (0 : Int) ≤ (i : Int)), hxi, if_pos (by omega : (0 : Int) < ((g.getD i []).length : Int)), if_pos hgi.2.1, if_pos hgi.2.2, if_pos (by rw [List.length_nil]; omega : ([] : List S44).length + (rd_L4 l (rd (g.getD i []) 0)).length < 4398046511104), if_pos (by simp; omega : ((g.take i).map (head l)).length < 5864062014805), List.nil_append, w64 i (by omega)])
      match n, hn with
      | n + 1, hn =>
        have h2 := dis_l0 hl hr g hg hgl n (i + 1) (by omega) (by omega)
        rw [take_snoc g [] i h1, List.map_append] at h2
        exact h2
      | 0, hn => omega
    · rw [List.take_of_length_le (by omega : g.length ≤ i)]
      exact Ev.congr (Ev.const _) (fun k => by rw [if_neg (by omega : ¬ (i : Int) < (g.length : Int))])
theorem dAfter_eq (l : List (List S44)) : ∀ k, (dAfter l k).1 = (gAfter l k).1.map (head l) ∧ ∀ t, ((dAfter l k).2 t).isSome = ((gAfter l k).2 t).isSome
  | 0 => ⟨rfl, fun t => rfl⟩
  | k + 1 => by
    obtain ⟨h1, h2⟩ := dAfter_eq l k
    have I := GInv.at l k
    have hd : dAfter l (k + 1) = dput (dAfter l k) (l.getD k []) k := rfl
    have hg : gAfter l (k + 1) = gput (gAfter l k) (l.getD k []) k := rfl
    rw [hd, hg]
    have h3 := h2 (keyT (l.getD k []))
    cases hf : (gAfter l k).2 (keyT (l.getD k [])) with
    | none =>
      rw [hf] at h3
      have hf2 : (dAfter l k).2 (keyT (l.getD k [])) = none := by
        cases h : (dAfter l k).2 (keyT (l.getD k [])) with
        | none => rfl
        | some v => rw [h] at h3; simp at h3
      rw [gput_none hf]
      unfold dput
      rw [hf2]
      refine ⟨?_, fun t => ?_⟩
      · show (dAfter l k).1 ++ [l.getD k []] = ((gAfter l k).1 ++ [[(k : Int)]]).map (head l)
        rw [h1, List.map_append]
        congr 1
      · show (putG _ _ _ t).isSome = (putG _ _ _ t).isSome
        unfold putG
        split
        · rfl
        · exact h2 t
    | some g =>
      rw [hf] at h3
      obtain ⟨v, hv⟩ := Option.isSome_iff_exists.1 h3
      rw [gput_some hf]
      unfold dput
      rw [hv]
      refine ⟨?_, h2⟩
      show (dAfter l k).1 = ((gAfter l k).1.set g.toNat _).map (head l)
      rw [h1]
      obtain ⟨h0, h4, h5⟩ := I.lt _ _ hf
      have hgl : g.toNat < (gAfter l k).1.length := by omega
      apply List.ext_getElem?
      intro j
      rw [List.getElem?_map, List.getElem?_map, List.getElem?_set]
      by_cases e : g.toNat = j
      · subst e
        rw [if_pos rfl, if_pos hgl, List.getElem?_eq_getElem hgl]
        have hm := getD_mem (gAfter l k).1 [] g.toNat hgl
        have hne := I.ne _ hm
        simp only [Option.map_some]
        rw [head_app l hne, List.getD_eq_getElem?_getD, List.getElem?_eq_getElem hgl]
        rfl
      · rw [if_neg e]
theorem distinctP_eq (l : List (List S44)) : distinctP l = (groupsP l).map (head l) := (dAfter_eq l l.length).1
theorem refDistinct_ev {l : List (List S44)} (hl : shorts l) (hr : ∀ r ∈ l, r.length ≤ 1099511627776) : Ev (fun k => tabellionref33_Distinct.f k l) (distinctP l) := by
  unfold tabellionref33_Distinct.f
  refine Ev.bind (refGroups_ev hl) ?_
  rw [distinctP_eq]
  exact dis_l0 hl hr _ (groups_in l) (Nat.le_trans (groups_len l) hl.1) _ 0 rfl (Nat.zero_le _)

theorem list_l0 (a : List (List S44)) (ha : shorts a) : ∀ (n i : Nat), a.length - i = n → i ≤ a.length → Ev (fun k => tabellionref03_List.l0 k a a (i : Int)) true
  | n, i, hn, hi => by
    have hl := ha.1
    refine Ev.succ ?_ (fun k => by rw [tabellionref03_List.l0])
    by_cases h1 : i < a.length
    · refine Ev.congr ?_ (fun k => by rw [if_pos (by omega : (i : Int) < (a.length : Int)), decide_eq_true (by omega : (i : Int) < (a.length : Int))])
      refine Ev.succ ?_ (fun k => by rw [tabellionref03_List.j1, if_pos rfl, if_pos (by omega : (0 : Int) ≤ (i : Int)), if_pos (by omega : (i : Int) < (a.length : Int)), if_pos (by omega : (i : Int) < (a.length : Int))])
      refine Ev.bind (rorders_ev _ _ (shorts_rd ha _)) ?_
      refine Ev.congr ?_ (fun k => by rw [if_pos (rcmp_self _), w64 i (by omega)])
      match n, hn with
      | n + 1, hn => exact list_l0 a ha n (i + 1) (by omega) (by omega)
      | 0, hn => omega
    · refine Ev.congr ?_ (fun k => by rw [if_neg (by omega : ¬ (i : Int) < (a.length : Int))])
      refine Ev.succ ?_ (fun k => by rw [tabellionref03_List.j1, if_neg (by simp)])
      exact Ev.congr (Ev.const true) (fun k => by simp)
theorem list_ev (a : List (List S44)) (ha : shorts a) : Ev (fun k => tabellionref03_List.f k a a) true := list_l0 a ha _ 0 rfl (Nat.zero_le _)
end Go.Proofs.YtnllgjloimoebaaDoor.X
