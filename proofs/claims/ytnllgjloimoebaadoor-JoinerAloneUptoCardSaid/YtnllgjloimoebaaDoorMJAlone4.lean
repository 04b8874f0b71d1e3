/- The unmatched numbers are as the reference says; of two lists' own pairs they are exactly the indices that match nothing; for arguments of bulk at most 1048576. Part 5 of 5. -/
import Derived.Test.YtnllgjloimoebaaDoorMJAlone0
import Derived.Test.YtnllgjloimoebaaDoorMJAlone3
import Derived.Test.YtnllgjloimoebaaDoorCards
import Derived.Test.YtnllgjloimoebaaDoorTie
import Derived.WalkKit
import Derived.ProofKit
import Derived.OpenShut
import Derived.Carry

-- By xprint.py (this session's own program over the kit's print): not trusted: Lean checks it.
namespace Go.Proofs.YtnllgjloimoebaaDoor.X
open Go.RowKit Go.Proofs.YtnllgjloimoebaaDoorW.PrintWords Go.Proofs.YtnllgjloimoebaaDoorW.PrintLast Go.Proofs.YtnllgjloimoebaaDoorW.PrintMore
attribute [local go_sem] max2_int min2_int max_two min_two max_three min_three max_four min_four   -- for this text's walks alone
set_option linter.unusedVariables false
set_option linter.unusedSimpArgs false

/-! ### tabellionlaw32_awake: function 19 -/
def tabellionlaw32_awake.f (k : Nat)  : Option (Bool) := (value_Num.f 1).bind fun bt434 => ((value_Num.f 2).bind fun bt443 => ((some (([(([(⟨bt434.1, bt434.2.1, bt434.2.2⟩ : S44)] : List (S44))), (([(⟨0, 0, (⟨#[]⟩ : ByteArray)⟩ : S44)] : List (S44))), (([(⟨bt443.1, bt443.2.1, bt443.2.2⟩ : S44)] : List (S44)))] : List (List (S44))) : List (List (S44)))).bind fun y449 => ((value_Num.f 2).bind fun bt452 => ((value_Num.f 1).bind fun bt458 => ((value_Num.f 1).bind fun bt464 => ((some (([(([(⟨bt452.1, bt452.2.1, bt452.2.2⟩ : S44)] : List (S44))), (([(⟨bt458.1, bt458.2.1, bt458.2.2⟩ : S44)] : List (S44))), (([(⟨bt464.1, bt464.2.1, bt464.2.2⟩ : S44)] : List (S44)))] : List (List (S44))) : List (List (S44)))).bind fun y470 => ((some (([(⟨0, 1⟩ : S40), (⟨0, 2⟩ : S40), (⟨2, 0⟩ : S40)] : List (S40)) : List (S40))).bind fun y473 => ((joiner_Alone.f 3 y473).bind fun t476 => ((joiner_Nest.f k y449 y470).bind fun t479 => ((tabellionref32_Same.f k t479 y473).bind fun t482 => (if t482 = true then ((joiner_Hash.f y449 y470).bind fun t483 => ((tabellionref32_Same.f k t483 y473).bind fun t486 => (if t486 = true then ((joiner_Merge.f y449 y470).bind fun t487 => ((tabellionref32_Same.f k t487 y473).bind fun t490 => (if t490 = true then (if (t476.length : Int) = 1 then (if 0 < (t476.length : Int) then (some ((rd t476 0) == 1)) else (none)) else (some false)) else (some false)))) else (some false)))) else (some false))))))))))))
set_option maxHeartbeats 8000000 in
set_option maxRecDepth 100000 in
theorem tabellionlaw32_awake.calls (k : Nat)  (r : Bool) (w : World) (h : tabellionlaw32_awake.f k  = some r) (htab : Tab w) (hrt : r = true) :
  Calls Tryd.prog 19 #[] w fun e w' => e = .returned (.bool r) ∧ Below w.heap.size w w' := by
 have HRT := Aside0.mk hrt
 clear hrt
 have HTAB := Aside0.mk htab
 clear htab
 have hu44 := Tryd.underlying44
 have hu40 := Tryd.underlying40
 have HB := Aside0.mk (Below.refl w.heap.size w)
 have H : ((value_Num.f 1).bind fun bt434 => ((value_Num.f 2).bind fun bt443 => ((some (([(([(⟨bt434.1, bt434.2.1, bt434.2.2⟩ : S44)] : List (S44))), (([(⟨0, 0, (⟨#[]⟩ : ByteArray)⟩ : S44)] : List (S44))), (([(⟨bt443.1, bt443.2.1, bt443.2.2⟩ : S44)] : List (S44)))] : List (List (S44))) : List (List (S44)))).bind fun y449 => ((value_Num.f 2).bind fun bt452 => ((value_Num.f 1).bind fun bt458 => ((value_Num.f 1).bind fun bt464 => ((some (([(([(⟨bt452.1, bt452.2.1, bt452.2.2⟩ : S44)] : List (S44))), (([(⟨bt458.1, bt458.2.1, bt458.2.2⟩ : S44)] : List (S44))), (([(⟨bt464.1, bt464.2.1, bt464.2.2⟩ : S44)] : List (S44)))] : List (List (S44))) : List (List (S44)))).bind fun y470 => ((some (([(⟨0, 1⟩ : S40), (⟨0, 2⟩ : S40), (⟨2, 0⟩ : S40)] : List (S40)) : List (S40))).bind fun y473 => ((joiner_Alone.f 3 y473).bind fun t476 => ((joiner_Nest.f k y449 y470).bind fun t479 => ((tabellionref32_Same.f k t479 y473).bind fun t482 => (if t482 = true then ((joiner_Hash.f y449 y470).bind fun t483 => ((tabellionref32_Same.f k t483 y473).bind fun t486 => (if t486 = true then ((joiner_Merge.f y449 y470).bind fun t487 => ((tabellionref32_Same.f k t487 y473).bind fun t490 => (if t490 = true then (if (t476.length : Int) = 1 then (if 0 < (t476.length : Int) then (some ((rd t476 0) == 1)) else (none)) else (some false)) else (some false)))) else (some false)))) else (some false))))))))))))) = some r := h
 clear h
 replace H := Option.bind_eq_some_iff.mp H
 obtain ⟨⟨t434, t435, t436⟩, A10, H⟩ := H
 replace H : ((value_Num.f 2).bind fun bt443 => ((some (([(([(⟨t434, t435, t436⟩ : S44)] : List (S44))), (([(⟨0, 0, (⟨#[]⟩ : ByteArray)⟩ : S44)] : List (S44))), (([(⟨bt443.1, bt443.2.1, bt443.2.2⟩ : S44)] : List (S44)))] : List (List (S44))) : List (List (S44)))).bind fun y449 => ((value_Num.f 2).bind fun bt452 => ((value_Num.f 1).bind fun bt458 => ((value_Num.f 1).bind fun bt464 => ((some (([(([(⟨bt452.1, bt452.2.1, bt452.2.2⟩ : S44)] : List (S44))), (([(⟨bt458.1, bt458.2.1, bt458.2.2⟩ : S44)] : List (S44))), (([(⟨bt464.1, bt464.2.1, bt464.2.2⟩ : S44)] : List (S44)))] : List (List (S44))) : List (List (S44)))).bind fun y470 => ((some (([(⟨0, 1⟩ : S40), (⟨0, 2⟩ : S40), (⟨2, 0⟩ : S40)] : List (S40)) : List (S40))).bind fun y473 => ((joiner_Alone.f 3 y473).bind fun t476 => ((joiner_Nest.f k y449 y470).bind fun t479 => ((tabellionref32_Same.f k t479 y473).bind fun t482 => (if t482 = true then ((joiner_Hash.f y449 y470).bind fun t483 => ((tabellionref32_Same.f k t483 y473).bind fun t486 => (if t486 = true then ((joiner_Merge.f y449 y470).bind fun t487 => ((tabellionref32_Same.f k t487 y473).bind fun t490 => (if t490 = true then (if (t476.length : Int) = 1 then (if 0 < (t476.length : Int) then (some ((rd t476 0) == 1)) else (none)) else (some false)) else (some false)))) else (some false)))) else (some false)))))))))))) = some r := H
 have A1 := Aside0.mk A10
 clear A10
 obtain ⟨y437, hy437⟩ : ∃ y_ : List (S44), y_ = (([(⟨t434, t435, t436⟩ : S44)] : List (S44))) := ⟨_, rfl⟩
 replace H : ((value_Num.f 2).bind fun bt443 => ((some (([y437, (([(⟨0, 0, (⟨#[]⟩ : ByteArray)⟩ : S44)] : List (S44))), (([(⟨bt443.1, bt443.2.1, bt443.2.2⟩ : S44)] : List (S44)))] : List (List (S44))) : List (List (S44)))).bind fun y449 => ((value_Num.f 2).bind fun bt452 => ((value_Num.f 1).bind fun bt458 => ((value_Num.f 1).bind fun bt464 => ((some (([(([(⟨bt452.1, bt452.2.1, bt452.2.2⟩ : S44)] : List (S44))), (([(⟨bt458.1, bt458.2.1, bt458.2.2⟩ : S44)] : List (S44))), (([(⟨bt464.1, bt464.2.1, bt464.2.2⟩ : S44)] : List (S44)))] : List (List (S44))) : List (List (S44)))).bind fun y470 => ((some (([(⟨0, 1⟩ : S40), (⟨0, 2⟩ : S40), (⟨2, 0⟩ : S40)] : List (S40)) : List (S40))).bind fun y473 => ((joiner_Alone.f 3 y473).bind fun t476 => ((joiner_Nest.f k y449 y470).bind fun t479 => ((tabellionref32_Same.f k t479 y473).bind fun t482 => (if t482 = true then ((joiner_Hash.f y449 y470).bind fun t483 => ((tabellionref32_Same.f k t483 y473).bind fun t486 => (if t486 = true then ((joiner_Merge.f y449 y470).bind fun t487 => ((tabellionref32_Same.f k t487 y473).bind fun t490 => (if t490 = true then (if (t476.length : Int) = 1 then (if 0 < (t476.length : Int) then (some ((rd t476 0) == 1)) else (none)) else (some false)) else (some false)))) else (some false)))) else (some false)))))))))))) = some r := by first | (rw [hy437]; with_reducible exact H) | (have H2_ := (Option.bind_some _ _).symm.trans H; rw [hy437]; with_reducible exact H2_) | (have H2_ := (Option.bind_some _ _).symm.trans H; with_reducible exact H2_) | with_reducible exact H | (rw [hy437]; exact H) | exact H
 have Ny437 := Aside0.mk hy437
 clear hy437
 obtain ⟨y440, hy440⟩ : ∃ y_ : List (S44), y_ = (([(⟨0, 0, (⟨#[]⟩ : ByteArray)⟩ : S44)] : List (S44))) := ⟨_, rfl⟩
 replace H : ((value_Num.f 2).bind fun bt443 => ((some (([y437, y440, (([(⟨bt443.1, bt443.2.1, bt443.2.2⟩ : S44)] : List (S44)))] : List (List (S44))) : List (List (S44)))).bind fun y449 => ((value_Num.f 2).bind fun bt452 => ((value_Num.f 1).bind fun bt458 => ((value_Num.f 1).bind fun bt464 => ((some (([(([(⟨bt452.1, bt452.2.1, bt452.2.2⟩ : S44)] : List (S44))), (([(⟨bt458.1, bt458.2.1, bt458.2.2⟩ : S44)] : List (S44))), (([(⟨bt464.1, bt464.2.1, bt464.2.2⟩ : S44)] : List (S44)))] : List (List (S44))) : List (List (S44)))).bind fun y470 => ((some (([(⟨0, 1⟩ : S40), (⟨0, 2⟩ : S40), (⟨2, 0⟩ : S40)] : List (S40)) : List (S40))).bind fun y473 => ((joiner_Alone.f 3 y473).bind fun t476 => ((joiner_Nest.f k y449 y470).bind fun t479 => ((tabellionref32_Same.f k t479 y473).bind fun t482 => (if t482 = true then ((joiner_Hash.f y449 y470).bind fun t483 => ((tabellionref32_Same.f k t483 y473).bind fun t486 => (if t486 = true then ((joiner_Merge.f y449 y470).bind fun t487 => ((tabellionref32_Same.f k t487 y473).bind fun t490 => (if t490 = true then (if (t476.length : Int) = 1 then (if 0 < (t476.length : Int) then (some ((rd t476 0) == 1)) else (none)) else (some false)) else (some false)))) else (some false)))) else (some false)))))))))))) = some r := by first | (rw [hy440]; with_reducible exact H) | (have H2_ := (Option.bind_some _ _).symm.trans H; rw [hy440]; with_reducible exact H2_) | (have H2_ := (Option.bind_some _ _).symm.trans H; with_reducible exact H2_) | with_reducible exact H | (rw [hy440]; exact H) | exact H
 have Ny440 := Aside0.mk hy440
 clear hy440
 replace H := Option.bind_eq_some_iff.mp H
 obtain ⟨⟨t443, t444, t445⟩, A20, H⟩ := H
 replace H : ((some (([y437, y440, (([(⟨t443, t444, t445⟩ : S44)] : List (S44)))] : List (List (S44))) : List (List (S44)))).bind fun y449 => ((value_Num.f 2).bind fun bt452 => ((value_Num.f 1).bind fun bt458 => ((value_Num.f 1).bind fun bt464 => ((some (([(([(⟨bt452.1, bt452.2.1, bt452.2.2⟩ : S44)] : List (S44))), (([(⟨bt458.1, bt458.2.1, bt458.2.2⟩ : S44)] : List (S44))), (([(⟨bt464.1, bt464.2.1, bt464.2.2⟩ : S44)] : List (S44)))] : List (List (S44))) : List (List (S44)))).bind fun y470 => ((some (([(⟨0, 1⟩ : S40), (⟨0, 2⟩ : S40), (⟨2, 0⟩ : S40)] : List (S40)) : List (S40))).bind fun y473 => ((joiner_Alone.f 3 y473).bind fun t476 => ((joiner_Nest.f k y449 y470).bind fun t479 => ((tabellionref32_Same.f k t479 y473).bind fun t482 => (if t482 = true then ((joiner_Hash.f y449 y470).bind fun t483 => ((tabellionref32_Same.f k t483 y473).bind fun t486 => (if t486 = true then ((joiner_Merge.f y449 y470).bind fun t487 => ((tabellionref32_Same.f k t487 y473).bind fun t490 => (if t490 = true then (if (t476.length : Int) = 1 then (if 0 < (t476.length : Int) then (some ((rd t476 0) == 1)) else (none)) else (some false)) else (some false)))) else (some false)))) else (some false))))))))))) = some r := H
 have A2 := Aside0.mk A20
 clear A20
 obtain ⟨y446, hy446⟩ : ∃ y_ : List (S44), y_ = (([(⟨t443, t444, t445⟩ : S44)] : List (S44))) := ⟨_, rfl⟩
 replace H : ((some (([y437, y440, y446] : List (List (S44))) : List (List (S44)))).bind fun y449 => ((value_Num.f 2).bind fun bt452 => ((value_Num.f 1).bind fun bt458 => ((value_Num.f 1).bind fun bt464 => ((some (([(([(⟨bt452.1, bt452.2.1, bt452.2.2⟩ : S44)] : List (S44))), (([(⟨bt458.1, bt458.2.1, bt458.2.2⟩ : S44)] : List (S44))), (([(⟨bt464.1, bt464.2.1, bt464.2.2⟩ : S44)] : List (S44)))] : List (List (S44))) : List (List (S44)))).bind fun y470 => ((some (([(⟨0, 1⟩ : S40), (⟨0, 2⟩ : S40), (⟨2, 0⟩ : S40)] : List (S40)) : List (S40))).bind fun y473 => ((joiner_Alone.f 3 y473).bind fun t476 => ((joiner_Nest.f k y449 y470).bind fun t479 => ((tabellionref32_Same.f k t479 y473).bind fun t482 => (if t482 = true then ((joiner_Hash.f y449 y470).bind fun t483 => ((tabellionref32_Same.f k t483 y473).bind fun t486 => (if t486 = true then ((joiner_Merge.f y449 y470).bind fun t487 => ((tabellionref32_Same.f k t487 y473).bind fun t490 => (if t490 = true then (if (t476.length : Int) = 1 then (if 0 < (t476.length : Int) then (some ((rd t476 0) == 1)) else (none)) else (some false)) else (some false)))) else (some false)))) else (some false))))))))))) = some r := by first | (rw [hy446]; with_reducible exact H) | (have H2_ := (Option.bind_some _ _).symm.trans H; rw [hy446]; with_reducible exact H2_) | (have H2_ := (Option.bind_some _ _).symm.trans H; with_reducible exact H2_) | with_reducible exact H | (rw [hy446]; exact H) | exact H
 have Ny446 := Aside0.mk hy446
 clear hy446
 obtain ⟨y449, hy449⟩ : ∃ y_ : List (List (S44)), y_ = (([y437, y440, y446] : List (List (S44)))) := ⟨_, rfl⟩
 replace H : ((value_Num.f 2).bind fun bt452 => ((value_Num.f 1).bind fun bt458 => ((value_Num.f 1).bind fun bt464 => ((some (([(([(⟨bt452.1, bt452.2.1, bt452.2.2⟩ : S44)] : List (S44))), (([(⟨bt458.1, bt458.2.1, bt458.2.2⟩ : S44)] : List (S44))), (([(⟨bt464.1, bt464.2.1, bt464.2.2⟩ : S44)] : List (S44)))] : List (List (S44))) : List (List (S44)))).bind fun y470 => ((some (([(⟨0, 1⟩ : S40), (⟨0, 2⟩ : S40), (⟨2, 0⟩ : S40)] : List (S40)) : List (S40))).bind fun y473 => ((joiner_Alone.f 3 y473).bind fun t476 => ((joiner_Nest.f k y449 y470).bind fun t479 => ((tabellionref32_Same.f k t479 y473).bind fun t482 => (if t482 = true then ((joiner_Hash.f y449 y470).bind fun t483 => ((tabellionref32_Same.f k t483 y473).bind fun t486 => (if t486 = true then ((joiner_Merge.f y449 y470).bind fun t487 => ((tabellionref32_Same.f k t487 y473).bind fun t490 => (if t490 = true then (if (t476.length : Int) = 1 then (if 0 < (t476.length : Int) then (some ((rd t476 0) == 1)) else (none)) else (some false)) else (some false)))) else (some false)))) else (some false)))))))))) = some r := by first | (rw [hy449]; with_reducible exact H) | (have H2_ := (Option.bind_some _ _).symm.trans H; rw [hy449]; with_reducible exact H2_) | (have H2_ := (Option.bind_some _ _).symm.trans H; with_reducible exact H2_) | with_reducible exact H | (rw [hy449]; exact H) | exact H
 have Ny449 := Aside0.mk hy449
 clear hy449
 replace H := Option.bind_eq_some_iff.mp H
 obtain ⟨⟨t452, t453, t454⟩, A30, H⟩ := H
 replace H : ((value_Num.f 1).bind fun bt458 => ((value_Num.f 1).bind fun bt464 => ((some (([(([(⟨t452, t453, t454⟩ : S44)] : List (S44))), (([(⟨bt458.1, bt458.2.1, bt458.2.2⟩ : S44)] : List (S44))), (([(⟨bt464.1, bt464.2.1, bt464.2.2⟩ : S44)] : List (S44)))] : List (List (S44))) : List (List (S44)))).bind fun y470 => ((some (([(⟨0, 1⟩ : S40), (⟨0, 2⟩ : S40), (⟨2, 0⟩ : S40)] : List (S40)) : List (S40))).bind fun y473 => ((joiner_Alone.f 3 y473).bind fun t476 => ((joiner_Nest.f k y449 y470).bind fun t479 => ((tabellionref32_Same.f k t479 y473).bind fun t482 => (if t482 = true then ((joiner_Hash.f y449 y470).bind fun t483 => ((tabellionref32_Same.f k t483 y473).bind fun t486 => (if t486 = true then ((joiner_Merge.f y449 y470).bind fun t487 => ((tabellionref32_Same.f k t487 y473).bind fun t490 => (if t490 = true then (if (t476.length : Int) = 1 then (if 0 < (t476.length : Int) then (some ((rd t476 0) == 1)) else (none)) else (some false)) else (some false)))) else (some false)))) else (some false))))))))) = some r := H
 have A3 := Aside0.mk A30
 clear A30
 obtain ⟨y455, hy455⟩ : ∃ y_ : List (S44), y_ = (([(⟨t452, t453, t454⟩ : S44)] : List (S44))) := ⟨_, rfl⟩
 replace H : ((value_Num.f 1).bind fun bt458 => ((value_Num.f 1).bind fun bt464 => ((some (([y455, (([(⟨bt458.1, bt458.2.1, bt458.2.2⟩ : S44)] : List (S44))), (([(⟨bt464.1, bt464.2.1, bt464.2.2⟩ : S44)] : List (S44)))] : List (List (S44))) : List (List (S44)))).bind fun y470 => ((some (([(⟨0, 1⟩ : S40), (⟨0, 2⟩ : S40), (⟨2, 0⟩ : S40)] : List (S40)) : List (S40))).bind fun y473 => ((joiner_Alone.f 3 y473).bind fun t476 => ((joiner_Nest.f k y449 y470).bind fun t479 => ((tabellionref32_Same.f k t479 y473).bind fun t482 => (if t482 = true then ((joiner_Hash.f y449 y470).bind fun t483 => ((tabellionref32_Same.f k t483 y473).bind fun t486 => (if t486 = true then ((joiner_Merge.f y449 y470).bind fun t487 => ((tabellionref32_Same.f k t487 y473).bind fun t490 => (if t490 = true then (if (t476.length : Int) = 1 then (if 0 < (t476.length : Int) then (some ((rd t476 0) == 1)) else (none)) else (some false)) else (some false)))) else (some false)))) else (some false))))))))) = some r := by first | (rw [hy455]; with_reducible exact H) | (have H2_ := (Option.bind_some _ _).symm.trans H; rw [hy455]; with_reducible exact H2_) | (have H2_ := (Option.bind_some _ _).symm.trans H; with_reducible exact H2_) | with_reducible exact H | (rw [hy455]; exact H) | exact H
 have Ny455 := Aside0.mk hy455
 clear hy455
 replace H := Option.bind_eq_some_iff.mp H
 obtain ⟨⟨t458, t459, t460⟩, A40, H⟩ := H
 replace H : ((value_Num.f 1).bind fun bt464 => ((some (([y455, (([(⟨t458, t459, t460⟩ : S44)] : List (S44))), (([(⟨bt464.1, bt464.2.1, bt464.2.2⟩ : S44)] : List (S44)))] : List (List (S44))) : List (List (S44)))).bind fun y470 => ((some (([(⟨0, 1⟩ : S40), (⟨0, 2⟩ : S40), (⟨2, 0⟩ : S40)] : List (S40)) : List (S40))).bind fun y473 => ((joiner_Alone.f 3 y473).bind fun t476 => ((joiner_Nest.f k y449 y470).bind fun t479 => ((tabellionref32_Same.f k t479 y473).bind fun t482 => (if t482 = true then ((joiner_Hash.f y449 y470).bind fun t483 => ((tabellionref32_Same.f k t483 y473).bind fun t486 => (if t486 = true then ((joiner_Merge.f y449 y470).bind fun t487 => ((tabellionref32_Same.f k t487 y473).bind fun t490 => (if t490 = true then (if (t476.length : Int) = 1 then (if 0 < (t476.length : Int) then (some ((rd t476 0) == 1)) else (none)) else (some false)) else (some false)))) else (some false)))) else (some false)))))))) = some r := H
 have A4 := Aside0.mk A40
 clear A40
 obtain ⟨y461, hy461⟩ : ∃ y_ : List (S44), y_ = (([(⟨t458, t459, t460⟩ : S44)] : List (S44))) := ⟨_, rfl⟩
 replace H : ((value_Num.f 1).bind fun bt464 => ((some (([y455, y461, (([(⟨bt464.1, bt464.2.1, bt464.2.2⟩ : S44)] : List (S44)))] : List (List (S44))) : List (List (S44)))).bind fun y470 => ((some (([(⟨0, 1⟩ : S40), (⟨0, 2⟩ : S40), (⟨2, 0⟩ : S40)] : List (S40)) : List (S40))).bind fun y473 => ((joiner_Alone.f 3 y473).bind fun t476 => ((joiner_Nest.f k y449 y470).bind fun t479 => ((tabellionref32_Same.f k t479 y473).bind fun t482 => (if t482 = true then ((joiner_Hash.f y449 y470).bind fun t483 => ((tabellionref32_Same.f k t483 y473).bind fun t486 => (if t486 = true then ((joiner_Merge.f y449 y470).bind fun t487 => ((tabellionref32_Same.f k t487 y473).bind fun t490 => (if t490 = true then (if (t476.length : Int) = 1 then (if 0 < (t476.length : Int) then (some ((rd t476 0) == 1)) else (none)) else (some false)) else (some false)))) else (some false)))) else (some false)))))))) = some r := by first | (rw [hy461]; with_reducible exact H) | (have H2_ := (Option.bind_some _ _).symm.trans H; rw [hy461]; with_reducible exact H2_) | (have H2_ := (Option.bind_some _ _).symm.trans H; with_reducible exact H2_) | with_reducible exact H | (rw [hy461]; exact H) | exact H
 have Ny461 := Aside0.mk hy461
 clear hy461
 replace H := Option.bind_eq_some_iff.mp H
 obtain ⟨⟨t464, t465, t466⟩, A50, H⟩ := H
 replace H : ((some (([y455, y461, (([(⟨t464, t465, t466⟩ : S44)] : List (S44)))] : List (List (S44))) : List (List (S44)))).bind fun y470 => ((some (([(⟨0, 1⟩ : S40), (⟨0, 2⟩ : S40), (⟨2, 0⟩ : S40)] : List (S40)) : List (S40))).bind fun y473 => ((joiner_Alone.f 3 y473).bind fun t476 => ((joiner_Nest.f k y449 y470).bind fun t479 => ((tabellionref32_Same.f k t479 y473).bind fun t482 => (if t482 = true then ((joiner_Hash.f y449 y470).bind fun t483 => ((tabellionref32_Same.f k t483 y473).bind fun t486 => (if t486 = true then ((joiner_Merge.f y449 y470).bind fun t487 => ((tabellionref32_Same.f k t487 y473).bind fun t490 => (if t490 = true then (if (t476.length : Int) = 1 then (if 0 < (t476.length : Int) then (some ((rd t476 0) == 1)) else (none)) else (some false)) else (some false)))) else (some false)))) else (some false))))))) = some r := H
 have A5 := Aside0.mk A50
 clear A50
 obtain ⟨y467, hy467⟩ : ∃ y_ : List (S44), y_ = (([(⟨t464, t465, t466⟩ : S44)] : List (S44))) := ⟨_, rfl⟩
 replace H : ((some (([y455, y461, y467] : List (List (S44))) : List (List (S44)))).bind fun y470 => ((some (([(⟨0, 1⟩ : S40), (⟨0, 2⟩ : S40), (⟨2, 0⟩ : S40)] : List (S40)) : List (S40))).bind fun y473 => ((joiner_Alone.f 3 y473).bind fun t476 => ((joiner_Nest.f k y449 y470).bind fun t479 => ((tabellionref32_Same.f k t479 y473).bind fun t482 => (if t482 = true then ((joiner_Hash.f y449 y470).bind fun t483 => ((tabellionref32_Same.f k t483 y473).bind fun t486 => (if t486 = true then ((joiner_Merge.f y449 y470).bind fun t487 => ((tabellionref32_Same.f k t487 y473).bind fun t490 => (if t490 = true then (if (t476.length : Int) = 1 then (if 0 < (t476.length : Int) then (some ((rd t476 0) == 1)) else (none)) else (some false)) else (some false)))) else (some false)))) else (some false))))))) = some r := by first | (rw [hy467]; with_reducible exact H) | (have H2_ := (Option.bind_some _ _).symm.trans H; rw [hy467]; with_reducible exact H2_) | (have H2_ := (Option.bind_some _ _).symm.trans H; with_reducible exact H2_) | with_reducible exact H | (rw [hy467]; exact H) | exact H
 have Ny467 := Aside0.mk hy467
 clear hy467
 obtain ⟨y470, hy470⟩ : ∃ y_ : List (List (S44)), y_ = (([y455, y461, y467] : List (List (S44)))) := ⟨_, rfl⟩
 replace H : ((some (([(⟨0, 1⟩ : S40), (⟨0, 2⟩ : S40), (⟨2, 0⟩ : S40)] : List (S40)) : List (S40))).bind fun y473 => ((joiner_Alone.f 3 y473).bind fun t476 => ((joiner_Nest.f k y449 y470).bind fun t479 => ((tabellionref32_Same.f k t479 y473).bind fun t482 => (if t482 = true then ((joiner_Hash.f y449 y470).bind fun t483 => ((tabellionref32_Same.f k t483 y473).bind fun t486 => (if t486 = true then ((joiner_Merge.f y449 y470).bind fun t487 => ((tabellionref32_Same.f k t487 y473).bind fun t490 => (if t490 = true then (if (t476.length : Int) = 1 then (if 0 < (t476.length : Int) then (some ((rd t476 0) == 1)) else (none)) else (some false)) else (some false)))) else (some false)))) else (some false)))))) = some r := by first | (rw [hy470]; with_reducible exact H) | (have H2_ := (Option.bind_some _ _).symm.trans H; rw [hy470]; with_reducible exact H2_) | (have H2_ := (Option.bind_some _ _).symm.trans H; with_reducible exact H2_) | with_reducible exact H | (rw [hy470]; exact H) | exact H
 have Ny470 := Aside0.mk hy470
 clear hy470
 obtain ⟨y473, hy473⟩ : ∃ y_ : List (S40), y_ = (([(⟨0, 1⟩ : S40), (⟨0, 2⟩ : S40), (⟨2, 0⟩ : S40)] : List (S40))) := ⟨_, rfl⟩
 replace H : ((joiner_Alone.f 3 y473).bind fun t476 => ((joiner_Nest.f k y449 y470).bind fun t479 => ((tabellionref32_Same.f k t479 y473).bind fun t482 => (if t482 = true then ((joiner_Hash.f y449 y470).bind fun t483 => ((tabellionref32_Same.f k t483 y473).bind fun t486 => (if t486 = true then ((joiner_Merge.f y449 y470).bind fun t487 => ((tabellionref32_Same.f k t487 y473).bind fun t490 => (if t490 = true then (if (t476.length : Int) = 1 then (if 0 < (t476.length : Int) then (some ((rd t476 0) == 1)) else (none)) else (some false)) else (some false)))) else (some false)))) else (some false))))) = some r := by first | (rw [hy473]; with_reducible exact H) | (have H2_ := (Option.bind_some _ _).symm.trans H; rw [hy473]; with_reducible exact H2_) | (have H2_ := (Option.bind_some _ _).symm.trans H; with_reducible exact H2_) | with_reducible exact H | (rw [hy473]; exact H) | exact H
 have Ny473 := Aside0.mk hy473
 clear hy473
 replace H := Option.bind_eq_some_iff.mp H
 obtain ⟨t476, A60, H⟩ := H
 replace H : ((joiner_Nest.f k y449 y470).bind fun t479 => ((tabellionref32_Same.f k t479 y473).bind fun t482 => (if t482 = true then ((joiner_Hash.f y449 y470).bind fun t483 => ((tabellionref32_Same.f k t483 y473).bind fun t486 => (if t486 = true then ((joiner_Merge.f y449 y470).bind fun t487 => ((tabellionref32_Same.f k t487 y473).bind fun t490 => (if t490 = true then (if (t476.length : Int) = 1 then (if 0 < (t476.length : Int) then (some ((rd t476 0) == 1)) else (none)) else (some false)) else (some false)))) else (some false)))) else (some false)))) = some r := H
 have A6 := Aside0.mk A60
 clear A60
 replace H := Option.bind_eq_some_iff.mp H
 obtain ⟨t479, A70, H⟩ := H
 replace H : ((tabellionref32_Same.f k t479 y473).bind fun t482 => (if t482 = true then ((joiner_Hash.f y449 y470).bind fun t483 => ((tabellionref32_Same.f k t483 y473).bind fun t486 => (if t486 = true then ((joiner_Merge.f y449 y470).bind fun t487 => ((tabellionref32_Same.f k t487 y473).bind fun t490 => (if t490 = true then (if (t476.length : Int) = 1 then (if 0 < (t476.length : Int) then (some ((rd t476 0) == 1)) else (none)) else (some false)) else (some false)))) else (some false)))) else (some false))) = some r := H
 have A7 := Aside0.mk A70
 clear A70
 replace H := Option.bind_eq_some_iff.mp H
 obtain ⟨t482, A80, H⟩ := H
 replace H : (if t482 = true then ((joiner_Hash.f y449 y470).bind fun t483 => ((tabellionref32_Same.f k t483 y473).bind fun t486 => (if t486 = true then ((joiner_Merge.f y449 y470).bind fun t487 => ((tabellionref32_Same.f k t487 y473).bind fun t490 => (if t490 = true then (if (t476.length : Int) = 1 then (if 0 < (t476.length : Int) then (some ((rd t476 0) == 1)) else (none)) else (some false)) else (some false)))) else (some false)))) else (some false)) = some r := H
 have A8 := Aside0.mk A80
 clear A80
 by_cases c9 : t482 = true
 ·
  subst c9
  have H1 : ((joiner_Hash.f y449 y470).bind fun t483 => ((tabellionref32_Same.f k t483 y473).bind fun t486 => (if t486 = true then ((joiner_Merge.f y449 y470).bind fun t487 => ((tabellionref32_Same.f k t487 y473).bind fun t490 => (if t490 = true then (if (t476.length : Int) = 1 then (if 0 < (t476.length : Int) then (some ((rd t476 0) == 1)) else (none)) else (some false)) else (some false)))) else (some false)))) = some r := by rw [if_pos rfl] at H; exact H
  clear H
  have H := H1
  clear H1
  replace H := Option.bind_eq_some_iff.mp H
  obtain ⟨t483, A100, H⟩ := H
  replace H : ((tabellionref32_Same.f k t483 y473).bind fun t486 => (if t486 = true then ((joiner_Merge.f y449 y470).bind fun t487 => ((tabellionref32_Same.f k t487 y473).bind fun t490 => (if t490 = true then (if (t476.length : Int) = 1 then (if 0 < (t476.length : Int) then (some ((rd t476 0) == 1)) else (none)) else (some false)) else (some false)))) else (some false))) = some r := H
  have A10 := Aside0.mk A100
  clear A100
  replace H := Option.bind_eq_some_iff.mp H
  obtain ⟨t486, A110, H⟩ := H
  replace H : (if t486 = true then ((joiner_Merge.f y449 y470).bind fun t487 => ((tabellionref32_Same.f k t487 y473).bind fun t490 => (if t490 = true then (if (t476.length : Int) = 1 then (if 0 < (t476.length : Int) then (some ((rd t476 0) == 1)) else (none)) else (some false)) else (some false)))) else (some false)) = some r := H
  have A11 := Aside0.mk A110
  clear A110
  by_cases c12 : t486 = true
  ·
   subst c12
   have H1 : ((joiner_Merge.f y449 y470).bind fun t487 => ((tabellionref32_Same.f k t487 y473).bind fun t490 => (if t490 = true then (if (t476.length : Int) = 1 then (if 0 < (t476.length : Int) then (some ((rd t476 0) == 1)) else (none)) else (some false)) else (some false)))) = some r := by rw [if_pos rfl] at H; exact H
   clear H
   have H := H1
   clear H1
   replace H := Option.bind_eq_some_iff.mp H
   obtain ⟨t487, A130, H⟩ := H
   replace H : ((tabellionref32_Same.f k t487 y473).bind fun t490 => (if t490 = true then (if (t476.length : Int) = 1 then (if 0 < (t476.length : Int) then (some ((rd t476 0) == 1)) else (none)) else (some false)) else (some false))) = some r := H
   have A13 := Aside0.mk A130
   clear A130
   replace H := Option.bind_eq_some_iff.mp H
   obtain ⟨t490, A140, H⟩ := H
   replace H : (if t490 = true then (if (t476.length : Int) = 1 then (if 0 < (t476.length : Int) then (some ((rd t476 0) == 1)) else (none)) else (some false)) else (some false)) = some r := H
   have A14 := Aside0.mk A140
   clear A140
   by_cases c15 : t490 = true
   ·
    subst c15
    have H1 : (if (t476.length : Int) = 1 then (if 0 < (t476.length : Int) then (some ((rd t476 0) == 1)) else (none)) else (some false)) = some r := by rw [if_pos rfl] at H; exact H
    clear H
    have H := H1
    clear H1
    by_cases c16 : (t476.length : Int) = 1
    ·
     rw [if_pos c16] at H
     have c16b0 : ((t476.length : Int) == 1) = true := beq_iff_eq.mpr c16
     have c16b1 : ((t476.length : Int) != 1) = false := bne_eq_false_iff_eq.mpr c16
     clear c16
     by_cases c17 : 0 < (t476.length : Int)
     ·
      rw [if_pos c17] at H
      have c17b0 : decide (0 < (t476.length : Int)) = true := decide_eq_true c17
      have c17b1 : decide (0 < t476.length) = true := decide_eq_true (by omega)
      clear c17
      obtain rfl := Option.some.inj H
      go_enter Tryd.func19, Tryd.ntmps19
      go_wp2_with (first | ((with_reducible refine gate_callee (f := 28) rfl ?_); refine goesL_ (some 5) rfl rfl Tryd.func28 (by kernel_rfl) rfl #[.int .i64 1] rfl (by (try simp only [List.map_toArray, List.map_cons, List.map_nil]); first | done | rfl | (simp only [List.length_drop, List.length_take]; rfl)) ?_; (with_reducible refine (value_Num.calls 1 t434 t435 t436 _ A1.out).mono ?_); rintro e w18 ⟨rfl, hb⟩; refine ⟨_, rfl, ?_⟩; have n0_ := Aside0.mk (below_step (by repeat (first | (with_reducible first | exact HB.out | apply below_alloc | apply pw_below_drewN | apply below_drew1) | exact HB.out)) hb); clear HB; have HB := n0_; clear n0_; (try clear hb); (try clear hb2); (try clear hk); (try clear hi)) | ((with_reducible refine gate_dst (N := 6) rfl ?_); (try (refine gate_guard (by rfl) ?_; dsimp only)); refine Kd.R_lit k44 _ 44 ?hg (N := 6) ?hd (xs := ([(⟨t434, t435, t436⟩ : S44)] : List (S44))) (inner := [.int .i64 t434, .int .i64 t435, .string t436]) (ok := fun _ => True) (okp := fun _ => True) ?hr ?hp (fun _ hk => hk) trivial (Below.refl _ _) (Nat.le_refl _) (by simp) ?_; (case hd => rfl); (case hg => rfl); (case hr => first | (go_simp; done) | (go_simp; rfl)); (case hp => exact (Reps.c3 (show Kd.M k44 _ _ _ (⟨t434, t435, t436⟩ : S44) [.int .i64 t434, .int .i64 t435, .string t436] from (k44_mkM _ _ _ (⟨t434, t435, t436⟩ : S44) )) (Reps.none _ _))); intro v438 w19 ho20 hb hg_ hnew_; clear hg_ hnew_; (first | rw [← Ny437.out] at ho20 | (simp only [Int.reduceToNat] at ho20; rw [← Ny437.out] at ho20)); have n0_ := Aside0.mk (Kd.R_lower ho20 (below_size (by repeat (first | (with_reducible first | exact HB.out | apply below_alloc | apply pw_below_drewN | apply below_drew1) | exact HB.out)))); have n1_ := Aside0.mk (below_step (by repeat (first | (with_reducible first | exact HB.out | apply below_alloc | apply pw_below_drewN | apply below_drew1) | exact HB.out)) hb); clear HB; have HO439 := n0_; have HB := n1_; clear n0_ n1_; clear hb ho20) | ((with_reducible refine gate_dst (N := 8) rfl ?_); (try (refine gate_guard (by rfl) ?_; dsimp only)); refine Kd.R_lit k44 _ 44 ?hg (N := 8) ?hd (xs := ([(⟨0, 0, (⟨#[]⟩ : ByteArray)⟩ : S44)] : List (S44))) (inner := [.int .i64 0, .int .i64 0, .string (⟨#[]⟩ : ByteArray)]) (ok := fun _ => True) (okp := fun _ => True) ?hr ?hp (fun _ hk => hk) trivial (Below.refl _ _) (Nat.le_refl _) (by simp) ?_; (case hd => rfl); (case hg => rfl); (case hr => first | (go_simp; done) | (go_simp; rfl)); (case hp => exact (Reps.c3 (show Kd.M k44 _ _ _ (⟨0, 0, (⟨#[]⟩ : ByteArray)⟩ : S44) [.int .i64 0, .int .i64 0, .string (⟨#[]⟩ : ByteArray)] from (k44_mkM _ _ _ (⟨0, 0, (⟨#[]⟩ : ByteArray)⟩ : S44) )) (Reps.none _ _))); intro v441 w21 ho22 hb hg_ hnew_; clear hg_ hnew_; (first | rw [← Ny440.out] at ho22 | (simp only [Int.reduceToNat] at ho22; rw [← Ny440.out] at ho22)); have n0_ := Aside0.mk (Kd.R_elder' (by (with_reducible repeat (first | apply Kd.R_alloc | apply Kd.R_drewN | apply Kd.R_drew)); exact HO439.out) (Kd.R_base ho22) hb); have n1_ := Aside0.mk (Kd.R_lower (Kd.R_new' ho22 (Kd.R_lt (by (with_reducible repeat (first | apply Kd.R_alloc | apply Kd.R_drewN | apply Kd.R_drew)); exact HO439.out))) (below_size (by repeat (first | (with_reducible first | exact HB.out | apply below_alloc | apply pw_below_drewN | apply below_drew1) | exact HB.out)))); have n2_ := Aside0.mk (below_step (by repeat (first | (with_reducible first | exact HB.out | apply below_alloc | apply pw_below_drewN | apply below_drew1) | exact HB.out)) hb); clear HO439; clear HB; have HO439 := n0_; have HO442 := n1_; have HB := n2_; clear n0_ n1_ n2_; clear hb ho22) | ((with_reducible refine gate_callee (f := 28) rfl ?_); refine goesL_ (some 9) rfl rfl Tryd.func28 (by kernel_rfl) rfl #[.int .i64 2] rfl (by (try simp only [List.map_toArray, List.map_cons, List.map_nil]); first | done | rfl | (simp only [List.length_drop, List.length_take]; rfl)) ?_; (with_reducible refine (value_Num.calls 2 t443 t444 t445 _ A2.out).mono ?_); rintro e w23 ⟨rfl, hb⟩; refine ⟨_, rfl, ?_⟩; have n0_ := Aside0.mk (Kd.R_below (by (with_reducible repeat (first | apply Kd.R_alloc | apply Kd.R_drewN | apply Kd.R_drew)); exact HO439.out) hb); have n1_ := Aside0.mk (Kd.R_below (by (with_reducible repeat (first | apply Kd.R_alloc | apply Kd.R_drewN | apply Kd.R_drew)); exact HO442.out) hb); have n2_ := Aside0.mk (below_step (by repeat (first | (with_reducible first | exact HB.out | apply below_alloc | apply pw_below_drewN | apply below_drew1) | exact HB.out)) hb); clear HO439; clear HO442; clear HB; have HO439 := n0_; have HO442 := n1_; have HB := n2_; clear n0_ n1_ n2_; (try clear hb); (try clear hb2); (try clear hk); (try clear hi)) | ((with_reducible refine gate_dst (N := 10) rfl ?_); (try (refine gate_guard (by rfl) ?_; dsimp only)); refine Kd.R_lit k44 _ 44 ?hg (N := 10) ?hd (xs := ([(⟨t443, t444, t445⟩ : S44)] : List (S44))) (inner := [.int .i64 t443, .int .i64 t444, .string t445]) (ok := fun _ => True) (okp := fun _ => True) ?hr ?hp (fun _ hk => hk) trivial (Below.refl _ _) (Nat.le_refl _) (by simp) ?_; (case hd => rfl); (case hg => rfl); (case hr => first | (go_simp; done) | (go_simp; rfl)); (case hp => exact (Reps.c3 (show Kd.M k44 _ _ _ (⟨t443, t444, t445⟩ : S44) [.int .i64 t443, .int .i64 t444, .string t445] from (k44_mkM _ _ _ (⟨t443, t444, t445⟩ : S44) )) (Reps.none _ _))); intro v447 w24 ho25 hb hg_ hnew_; clear hg_ hnew_; (first | rw [← Ny446.out] at ho25 | (simp only [Int.reduceToNat] at ho25; rw [← Ny446.out] at ho25)); have n0_ := Aside0.mk (Kd.R_elder' (by (with_reducible repeat (first | apply Kd.R_alloc | apply Kd.R_drewN | apply Kd.R_drew)); exact HO439.out) (Kd.R_base ho25) hb); have n1_ := Aside0.mk (Kd.R_elder' (by (with_reducible repeat (first | apply Kd.R_alloc | apply Kd.R_drewN | apply Kd.R_drew)); exact HO442.out) (Kd.R_base ho25) hb); have n2_ := Aside0.mk (Kd.R_lower (Kd.R_new' (Kd.R_new' ho25 (Kd.R_lt (by (with_reducible repeat (first | apply Kd.R_alloc | apply Kd.R_drewN | apply Kd.R_drew)); exact HO439.out))) (Kd.R_lt (by (with_reducible repeat (first | apply Kd.R_alloc | apply Kd.R_drewN | apply Kd.R_drew)); exact HO442.out))) (below_size (by repeat (first | (with_reducible first | exact HB.out | apply below_alloc | apply pw_below_drewN | apply below_drew1) | exact HB.out)))); have n3_ := Aside0.mk (below_step (by repeat (first | (with_reducible first | exact HB.out | apply below_alloc | apply pw_below_drewN | apply below_drew1) | exact HB.out)) hb); clear HO439; clear HO442; clear HB; have HO439 := n0_; have HO442 := n1_; have HO448 := n2_; have HB := n3_; clear n0_ n1_ n2_ n3_; clear hb ho25; obtain ⟨Ao26, co26, eo26⟩ := Kd.R_slice HO439.out; subst eo26; obtain ⟨Ao27, co27, eo27⟩ := Kd.R_slice HO442.out; subst eo27; obtain ⟨Ao28, co28, eo28⟩ := Kd.R_slice HO448.out; subst eo28) | ((with_reducible refine gate_dst (N := 11) rfl ?_); (try (refine gate_guard (by rfl) ?_; dsimp only)); refine Kd.N_lit (Kd.slice 44 k44) _ 33 ?hg (N' := 11) ?hd (xs := ([y437, y440, y446] : List (List (S44)))) (inner := [.slice Ao26 y437.length co26, .slice Ao27 y440.length co27, .slice Ao28 y446.length co28]) (ok := (fun _ => True)) (okp := (fun _ => True)) ?hr ?hp (fun _ hk => hk) ((show ∀ k_, w24.heap.size ≤ k_ → (fun _ => True) k_ from fun k_ hk => trivial) _ (Nat.le_refl _)) (Below.refl _ _) (Nat.le_refl _) (by simp) ?_; (case hd => rfl); (case hg => rfl); (case hr => first | (go_simp; done) | (go_simp; rfl)); (case hp => exact (Reps.one (show Kd.FK (Kd.slice 44 k44) _ _ y437 [.slice Ao26 y437.length co26] from (Kd.FK_slice_mk (Kd.R_reads' (Kd.R_mono (ok' := (fun _ => True)) (HO439.out) (fun k_ hk => trivial))).2.1 (Kd.R_F (Kd.R_mono (ok' := (fun _ => True)) (HO439.out) (fun k_ hk => trivial))))) (Reps.one (show Kd.FK (Kd.slice 44 k44) _ _ y440 [.slice Ao27 y440.length co27] from (Kd.FK_slice_mk (Kd.R_reads' (Kd.R_mono (ok' := (fun _ => True)) (HO442.out) (fun k_ hk => trivial))).2.1 (Kd.R_F (Kd.R_mono (ok' := (fun _ => True)) (HO442.out) (fun k_ hk => trivial))))) (Reps.one (show Kd.FK (Kd.slice 44 k44) _ _ y446 [.slice Ao28 y446.length co28] from (Kd.FK_slice_mk (Kd.R_reads' (Kd.R_mono (ok' := (fun _ => True)) (HO448.out) (fun k_ hk => trivial))).2.1 (Kd.R_F (Kd.R_mono (ok' := (fun _ => True)) (HO448.out) (fun k_ hk => trivial))))) (Reps.none _ _))))); intro v450 w29 ho30 hb hg_ hnew_; clear hg_ hnew_; (first | rw [← Ny449.out] at ho30 | (simp only [Int.reduceToNat] at ho30; rw [← Ny449.out] at ho30)); have n0_ := Aside0.mk (Kd.N_lower ho30 (below_size (by repeat (first | (with_reducible first | exact HB.out | apply below_alloc | apply pw_below_drewN | apply below_drew1) | exact HB.out)))); have n1_ := Aside0.mk (below_step (by repeat (first | (with_reducible first | exact HB.out | apply below_alloc | apply pw_below_drewN | apply below_drew1) | exact HB.out)) hb); clear HB; clear HO439; clear HO442; clear HO448; have HO451 := n0_; have HB := n1_; clear n0_ n1_; clear hb ho30) | ((with_reducible refine gate_callee (f := 28) rfl ?_); refine goesL_ (some 12) rfl rfl Tryd.func28 (by kernel_rfl) rfl #[.int .i64 2] rfl (by (try simp only [List.map_toArray, List.map_cons, List.map_nil]); first | done | rfl | (simp only [List.length_drop, List.length_take]; rfl)) ?_; (with_reducible refine (value_Num.calls 2 t452 t453 t454 _ A3.out).mono ?_); rintro e w31 ⟨rfl, hb⟩; refine ⟨_, rfl, ?_⟩; have n0_ := Aside0.mk (Kd.N_below (by (with_reducible repeat (first | apply Kd.N_alloc | apply Kd.N_drewN | apply Kd.N_drew)); exact HO451.out) hb); have n1_ := Aside0.mk (below_step (by repeat (first | (with_reducible first | exact HB.out | apply below_alloc | apply pw_below_drewN | apply below_drew1) | exact HB.out)) hb); clear HO451; clear HB; have HO451 := n0_; have HB := n1_; clear n0_ n1_; (try clear hb); (try clear hb2); (try clear hk); (try clear hi)) | ((with_reducible refine gate_dst (N := 13) rfl ?_); (try (refine gate_guard (by rfl) ?_; dsimp only)); refine Kd.R_lit k44 _ 44 ?hg (N := 13) ?hd (xs := ([(⟨t452, t453, t454⟩ : S44)] : List (S44))) (inner := [.int .i64 t452, .int .i64 t453, .string t454]) (ok := fun _ => True) (okp := fun _ => True) ?hr ?hp (fun _ hk => hk) trivial (Below.refl _ _) (Nat.le_refl _) (by simp) ?_; (case hd => rfl); (case hg => rfl); (case hr => first | (go_simp; done) | (go_simp; rfl)); (case hp => exact (Reps.c3 (show Kd.M k44 _ _ _ (⟨t452, t453, t454⟩ : S44) [.int .i64 t452, .int .i64 t453, .string t454] from (k44_mkM _ _ _ (⟨t452, t453, t454⟩ : S44) )) (Reps.none _ _))); intro v456 w32 ho33 hb hg_ hnew_; clear hg_ hnew_; (first | rw [← Ny455.out] at ho33 | (simp only [Int.reduceToNat] at ho33; rw [← Ny455.out] at ho33)); have n0_ := Aside0.mk (Kd.N_elder' (by (with_reducible repeat (first | apply Kd.N_alloc | apply Kd.N_drewN | apply Kd.N_drew)); exact HO451.out) (Kd.R_base ho33) hb); have n1_ := Aside0.mk (Kd.R_lower ho33 (below_size (by repeat (first | (with_reducible first | exact HB.out | apply below_alloc | apply pw_below_drewN | apply below_drew1) | exact HB.out)))); have n2_ := Aside0.mk (below_step (by repeat (first | (with_reducible first | exact HB.out | apply below_alloc | apply pw_below_drewN | apply below_drew1) | exact HB.out)) hb); clear HO451; clear HB; have HO451 := n0_; have HO457 := n1_; have HB := n2_; clear n0_ n1_ n2_; clear hb ho33) | ((with_reducible refine gate_callee (f := 28) rfl ?_); refine goesL_ (some 14) rfl rfl Tryd.func28 (by kernel_rfl) rfl #[.int .i64 1] rfl (by (try simp only [List.map_toArray, List.map_cons, List.map_nil]); first | done | rfl | (simp only [List.length_drop, List.length_take]; rfl)) ?_; (with_reducible refine (value_Num.calls 1 t458 t459 t460 _ A4.out).mono ?_); rintro e w34 ⟨rfl, hb⟩; refine ⟨_, rfl, ?_⟩; have n0_ := Aside0.mk (Kd.N_below (by (with_reducible repeat (first | apply Kd.N_alloc | apply Kd.N_drewN | apply Kd.N_drew)); exact HO451.out) hb); have n1_ := Aside0.mk (Kd.R_below (by (with_reducible repeat (first | apply Kd.R_alloc | apply Kd.R_drewN | apply Kd.R_drew)); exact HO457.out) hb); have n2_ := Aside0.mk (below_step (by repeat (first | (with_reducible first | exact HB.out | apply below_alloc | apply pw_below_drewN | apply below_drew1) | exact HB.out)) hb); clear HO451; clear HO457; clear HB; have HO451 := n0_; have HO457 := n1_; have HB := n2_; clear n0_ n1_ n2_; (try clear hb); (try clear hb2); (try clear hk); (try clear hi)) | ((with_reducible refine gate_dst (N := 15) rfl ?_); (try (refine gate_guard (by rfl) ?_; dsimp only)); refine Kd.R_lit k44 _ 44 ?hg (N := 15) ?hd (xs := ([(⟨t458, t459, t460⟩ : S44)] : List (S44))) (inner := [.int .i64 t458, .int .i64 t459, .string t460]) (ok := fun _ => True) (okp := fun _ => True) ?hr ?hp (fun _ hk => hk) trivial (Below.refl _ _) (Nat.le_refl _) (by simp) ?_; (case hd => rfl); (case hg => rfl); (case hr => first | (go_simp; done) | (go_simp; rfl)); (case hp => exact (Reps.c3 (show Kd.M k44 _ _ _ (⟨t458, t459, t460⟩ : S44) [.int .i64 t458, .int .i64 t459, .string t460] from (k44_mkM _ _ _ (⟨t458, t459, t460⟩ : S44) )) (Reps.none _ _))); intro v462 w35 ho36 hb hg_ hnew_; clear hg_ hnew_; (first | rw [← Ny461.out] at ho36 | (simp only [Int.reduceToNat] at ho36; rw [← Ny461.out] at ho36)); have n0_ := Aside0.mk (Kd.N_elder' (by (with_reducible repeat (first | apply Kd.N_alloc | apply Kd.N_drewN | apply Kd.N_drew)); exact HO451.out) (Kd.R_base ho36) hb); have n1_ := Aside0.mk (Kd.R_elder' (by (with_reducible repeat (first | apply Kd.R_alloc | apply Kd.R_drewN | apply Kd.R_drew)); exact HO457.out) (Kd.R_base ho36) hb); have n2_ := Aside0.mk (Kd.R_lower (Kd.R_new' ho36 (Kd.R_lt (by (with_reducible repeat (first | apply Kd.R_alloc | apply Kd.R_drewN | apply Kd.R_drew)); exact HO457.out))) (below_size (by repeat (first | (with_reducible first | exact HB.out | apply below_alloc | apply pw_below_drewN | apply below_drew1) | exact HB.out)))); have n3_ := Aside0.mk (below_step (by repeat (first | (with_reducible first | exact HB.out | apply below_alloc | apply pw_below_drewN | apply below_drew1) | exact HB.out)) hb); clear HO451; clear HO457; clear HB; have HO451 := n0_; have HO457 := n1_; have HO463 := n2_; have HB := n3_; clear n0_ n1_ n2_ n3_; clear hb ho36) | ((with_reducible refine gate_callee (f := 28) rfl ?_); refine goesL_ (some 16) rfl rfl Tryd.func28 (by kernel_rfl) rfl #[.int .i64 1] rfl (by (try simp only [List.map_toArray, List.map_cons, List.map_nil]); first | done | rfl | (simp only [List.length_drop, List.length_take]; rfl)) ?_; (with_reducible refine (value_Num.calls 1 t464 t465 t466 _ A5.out).mono ?_); rintro e w37 ⟨rfl, hb⟩; refine ⟨_, rfl, ?_⟩; have n0_ := Aside0.mk (Kd.N_below (by (with_reducible repeat (first | apply Kd.N_alloc | apply Kd.N_drewN | apply Kd.N_drew)); exact HO451.out) hb); have n1_ := Aside0.mk (Kd.R_below (by (with_reducible repeat (first | apply Kd.R_alloc | apply Kd.R_drewN | apply Kd.R_drew)); exact HO457.out) hb); have n2_ := Aside0.mk (Kd.R_below (by (with_reducible repeat (first | apply Kd.R_alloc | apply Kd.R_drewN | apply Kd.R_drew)); exact HO463.out) hb); have n3_ := Aside0.mk (below_step (by repeat (first | (with_reducible first | exact HB.out | apply below_alloc | apply pw_below_drewN | apply below_drew1) | exact HB.out)) hb); clear HO451; clear HO457; clear HO463; clear HB; have HO451 := n0_; have HO457 := n1_; have HO463 := n2_; have HB := n3_; clear n0_ n1_ n2_ n3_; (try clear hb); (try clear hb2); (try clear hk); (try clear hi)) | ((with_reducible refine gate_dst (N := 17) rfl ?_); (try (refine gate_guard (by rfl) ?_; dsimp only)); refine Kd.R_lit k44 _ 44 ?hg (N := 17) ?hd (xs := ([(⟨t464, t465, t466⟩ : S44)] : List (S44))) (inner := [.int .i64 t464, .int .i64 t465, .string t466]) (ok := fun _ => True) (okp := fun _ => True) ?hr ?hp (fun _ hk => hk) trivial (Below.refl _ _) (Nat.le_refl _) (by simp) ?_; (case hd => rfl); (case hg => rfl); (case hr => first | (go_simp; done) | (go_simp; rfl)); (case hp => exact (Reps.c3 (show Kd.M k44 _ _ _ (⟨t464, t465, t466⟩ : S44) [.int .i64 t464, .int .i64 t465, .string t466] from (k44_mkM _ _ _ (⟨t464, t465, t466⟩ : S44) )) (Reps.none _ _))); intro v468 w38 ho39 hb hg_ hnew_; clear hg_ hnew_; (first | rw [← Ny467.out] at ho39 | (simp only [Int.reduceToNat] at ho39; rw [← Ny467.out] at ho39)); have n0_ := Aside0.mk (Kd.N_elder' (by (with_reducible repeat (first | apply Kd.N_alloc | apply Kd.N_drewN | apply Kd.N_drew)); exact HO451.out) (Kd.R_base ho39) hb); have n1_ := Aside0.mk (Kd.R_elder' (by (with_reducible repeat (first | apply Kd.R_alloc | apply Kd.R_drewN | apply Kd.R_drew)); exact HO457.out) (Kd.R_base ho39) hb); have n2_ := Aside0.mk (Kd.R_elder' (by (with_reducible repeat (first | apply Kd.R_alloc | apply Kd.R_drewN | apply Kd.R_drew)); exact HO463.out) (Kd.R_base ho39) hb); have n3_ := Aside0.mk (Kd.R_lower (Kd.R_new' (Kd.R_new' ho39 (Kd.R_lt (by (with_reducible repeat (first | apply Kd.R_alloc | apply Kd.R_drewN | apply Kd.R_drew)); exact HO457.out))) (Kd.R_lt (by (with_reducible repeat (first | apply Kd.R_alloc | apply Kd.R_drewN | apply Kd.R_drew)); exact HO463.out))) (below_size (by repeat (first | (with_reducible first | exact HB.out | apply below_alloc | apply pw_below_drewN | apply below_drew1) | exact HB.out)))); have n4_ := Aside0.mk (below_step (by repeat (first | (with_reducible first | exact HB.out | apply below_alloc | apply pw_below_drewN | apply below_drew1) | exact HB.out)) hb); clear HO451; clear HO457; clear HO463; clear HB; have HO451 := n0_; have HO457 := n1_; have HO463 := n2_; have HO469 := n3_; have HB := n4_; clear n0_ n1_ n2_ n3_ n4_; clear hb ho39; obtain ⟨Ao40, co40, eo40⟩ := Kd.R_slice HO457.out; subst eo40; obtain ⟨Ao41, co41, eo41⟩ := Kd.R_slice HO463.out; subst eo41; obtain ⟨Ao42, co42, eo42⟩ := Kd.R_slice HO469.out; subst eo42) | ((with_reducible refine gate_dst (N := 18) rfl ?_); (try (refine gate_guard (by rfl) ?_; dsimp only)); refine Kd.N_lit (Kd.slice 44 k44) _ 33 ?hg (N' := 18) ?hd (xs := ([y455, y461, y467] : List (List (S44)))) (inner := [.slice Ao40 y455.length co40, .slice Ao41 y461.length co41, .slice Ao42 y467.length co42]) (ok := (fun k_ => some k_ ≠ (v450 : Value).ownBlock)) (okp := (fun k_ => some k_ ≠ (v450 : Value).ownBlock)) ?hr ?hp (fun _ hk => hk) ((show ∀ k_, w38.heap.size ≤ k_ → (fun k_ => some k_ ≠ (v450 : Value).ownBlock) k_ from fun k_ hk => Kd.fresh' (Kd.N_lt (by (with_reducible repeat (first | apply Kd.N_alloc | apply Kd.N_drewN | apply Kd.N_drew)); exact HO451.out)) k_ hk) _ (Nat.le_refl _)) (Below.refl _ _) (Nat.le_refl _) (by simp) ?_; (case hd => rfl); (case hg => rfl); (case hr => first | (go_simp; done) | (go_simp; rfl)); (case hp => exact (Reps.one (show Kd.FK (Kd.slice 44 k44) _ _ y455 [.slice Ao40 y455.length co40] from (Kd.FK_slice_mk (Kd.R_reads' (Kd.R_mono (ok' := (fun k_ => some k_ ≠ (v450 : Value).ownBlock)) (Kd.R_apart' (HO457.out) (Kd.N_typed HO451.out) (by decide)) (fun k_ hk => hk.2))).2.1 (Kd.R_F (Kd.R_mono (ok' := (fun k_ => some k_ ≠ (v450 : Value).ownBlock)) (Kd.R_apart' (HO457.out) (Kd.N_typed HO451.out) (by decide)) (fun k_ hk => hk.2))))) (Reps.one (show Kd.FK (Kd.slice 44 k44) _ _ y461 [.slice Ao41 y461.length co41] from (Kd.FK_slice_mk (Kd.R_reads' (Kd.R_mono (ok' := (fun k_ => some k_ ≠ (v450 : Value).ownBlock)) (Kd.R_apart' (HO463.out) (Kd.N_typed HO451.out) (by decide)) (fun k_ hk => hk.2))).2.1 (Kd.R_F (Kd.R_mono (ok' := (fun k_ => some k_ ≠ (v450 : Value).ownBlock)) (Kd.R_apart' (HO463.out) (Kd.N_typed HO451.out) (by decide)) (fun k_ hk => hk.2))))) (Reps.one (show Kd.FK (Kd.slice 44 k44) _ _ y467 [.slice Ao42 y467.length co42] from (Kd.FK_slice_mk (Kd.R_reads' (Kd.R_mono (ok' := (fun k_ => some k_ ≠ (v450 : Value).ownBlock)) (Kd.R_apart' (HO469.out) (Kd.N_typed HO451.out) (by decide)) (fun k_ hk => hk.2))).2.1 (Kd.R_F (Kd.R_mono (ok' := (fun k_ => some k_ ≠ (v450 : Value).ownBlock)) (Kd.R_apart' (HO469.out) (Kd.N_typed HO451.out) (by decide)) (fun k_ hk => hk.2))))) (Reps.none _ _))))); intro v471 w43 ho44 hb hg_ hnew_; clear hg_ hnew_; (first | rw [← Ny470.out] at ho44 | (simp only [Int.reduceToNat] at ho44; rw [← Ny470.out] at ho44)); have n0_ := Aside0.mk (Kd.N_elder' (by (with_reducible repeat (first | apply Kd.N_alloc | apply Kd.N_drewN | apply Kd.N_drew)); exact HO451.out) (Kd.N_base ho44) hb); have n1_ := Aside0.mk (Kd.N_lower ho44 (below_size (by repeat (first | (with_reducible first | exact HB.out | apply below_alloc | apply pw_below_drewN | apply below_drew1) | exact HB.out)))); have n2_ := Aside0.mk (below_step (by repeat (first | (with_reducible first | exact HB.out | apply below_alloc | apply pw_below_drewN | apply below_drew1) | exact HB.out)) hb); clear HO451; clear HB; clear HO457; clear HO463; clear HO469; have HO451 := n0_; have HO472 := n1_; have HB := n2_; clear n0_ n1_ n2_; clear hb ho44) | ((with_reducible refine gate_dst (N := 22) rfl ?_); (try (refine gate_guard (by rfl) ?_; dsimp only)); refine Kd.R_lit k40 _ 40 ?hg (N := 22) ?hd (xs := ([(⟨0, 1⟩ : S40), (⟨0, 2⟩ : S40), (⟨2, 0⟩ : S40)] : List (S40))) (inner := [.int .i64 0, .int .i64 1, .int .i64 0, .int .i64 2, .int .i64 2, .int .i64 0]) (ok := fun _ => True) (okp := fun _ => True) ?hr ?hp (fun _ hk => hk) trivial (Below.refl _ _) (Nat.le_refl _) (by simp) ?_; (case hd => rfl); (case hg => rfl); (case hr => first | (go_simp; done) | (go_simp; rfl)); (case hp => exact (Reps.c2 (show Kd.M k40 _ _ _ (⟨0, 1⟩ : S40) [.int .i64 0, .int .i64 1] from (k40_mkM _ _ _ (⟨0, 1⟩ : S40) )) (Reps.c2 (show Kd.M k40 _ _ _ (⟨0, 2⟩ : S40) [.int .i64 0, .int .i64 2] from (k40_mkM _ _ _ (⟨0, 2⟩ : S40) )) (Reps.c2 (show Kd.M k40 _ _ _ (⟨2, 0⟩ : S40) [.int .i64 2, .int .i64 0] from (k40_mkM _ _ _ (⟨2, 0⟩ : S40) )) (Reps.none _ _))))); intro v474 w45 ho46 hb hg_ hnew_; clear hg_ hnew_; (first | rw [← Ny473.out] at ho46 | (simp only [Int.reduceToNat] at ho46; rw [← Ny473.out] at ho46)); have n0_ := Aside0.mk (Kd.N_elder' (by (with_reducible repeat (first | apply Kd.N_alloc | apply Kd.N_drewN | apply Kd.N_drew)); exact HO451.out) (Kd.R_base ho46) hb); have n1_ := Aside0.mk (Kd.N_elder' (by (with_reducible repeat (first | apply Kd.N_alloc | apply Kd.N_drewN | apply Kd.N_drew)); exact HO472.out) (Kd.R_base ho46) hb); have n2_ := Aside0.mk (Kd.R_lower ho46 (below_size (by repeat (first | (with_reducible first | exact HB.out | apply below_alloc | apply pw_below_drewN | apply below_drew1) | exact HB.out)))); have n3_ := Aside0.mk (below_step (by repeat (first | (with_reducible first | exact HB.out | apply below_alloc | apply pw_below_drewN | apply below_drew1) | exact HB.out)) hb); clear HO451; clear HO472; clear HB; have HO451 := n0_; have HO472 := n1_; have HO475 := n2_; have HB := n3_; clear n0_ n1_ n2_ n3_; clear hb ho46; obtain ⟨Ao47, co47, eo47⟩ := Kd.R_slice HO475.out; subst eo47) | ((with_reducible refine gate_callee (f := 25) rfl ?_); refine goesL_ (some 24) rfl rfl Tryd.func25 (by kernel_rfl) rfl #[.int .i64 3, .slice Ao47 y473.length co47] rfl (by (try simp only [List.map_toArray, List.map_cons, List.map_nil]); first | done | rfl | (simp only [List.length_drop, List.length_take]; rfl)) ?_; (with_reducible refine (joiner_Alone.calls 3 _ _ y473 t476 _ ?side1 ?side2 A6.out).mono ?_); (case side1 => repeat (first | exact (Kd.R_reads' HO475.out).2.2 | (with_reducible refine Kd.C_alloc ?_ _) | (with_reducible refine Kd.C_drewN ?_ _) | (with_reducible refine Kd.C_drew ?_))); (case side2 => exact (Kd.R_reads' HO475.out).2.1); rintro e w48 ⟨v477, rfl, ho0, hb⟩; refine ⟨_, rfl, ?_⟩; have n0_ := Aside0.mk (Kd.N_elder' (by (with_reducible repeat (first | apply Kd.N_alloc | apply Kd.N_drewN | apply Kd.N_drew)); exact HO451.out) (Kd.R_base ho0) hb); have n1_ := Aside0.mk (Kd.N_elder' (by (with_reducible repeat (first | apply Kd.N_alloc | apply Kd.N_drewN | apply Kd.N_drew)); exact HO472.out) (Kd.R_base ho0) hb); have n2_ := Aside0.mk (Kd.R_below (by (with_reducible repeat (first | apply Kd.R_alloc | apply Kd.R_drewN | apply Kd.R_drew)); exact HO475.out) hb); have n3_ := Aside0.mk (Kd.R_lower ho0 (below_size (by repeat (first | (with_reducible first | exact HB.out | apply below_alloc | apply pw_below_drewN | apply below_drew1) | exact HB.out)))); have n4_ := Aside0.mk (below_step (by repeat (first | (with_reducible first | exact HB.out | apply below_alloc | apply pw_below_drewN | apply below_drew1) | exact HB.out)) hb); clear HO451; clear HO472; clear HO475; clear HB; have HO451 := n0_; have HO472 := n1_; have HO475 := n2_; have HO478 := n3_; have HB := n4_; clear n0_ n1_ n2_ n3_ n4_; (try clear hb); (try clear hb2); (try clear hk); (try clear hi); (try clear ho0); obtain ⟨Ao49, co49, eo49⟩ := Kd.N_slice HO451.out; subst eo49; obtain ⟨Ao50, co50, eo50⟩ := Kd.N_slice HO472.out; subst eo50) | ((with_reducible refine gate_callee (f := 22) rfl ?_); refine goesL_ (some 27) rfl rfl Tryd.func22 (by kernel_rfl) rfl #[.slice Ao49 y449.length co49, .slice Ao50 y470.length co50] rfl (by (try simp only [List.map_toArray, List.map_cons, List.map_nil]); first | done | rfl | (simp only [List.length_drop, List.length_take]; rfl)) ?_; (with_reducible refine (joiner_Nest.calls k _ _ y449 _ _ y470 t479 _ ?side1 ?side2 ?side3 ?side4 A7.out).mono ?_); (case side1 => repeat (first | exact (Kd.N_reads' HO451.out).2.2 | (with_reducible refine Kd.C_alloc ?_ _) | (with_reducible refine Kd.C_drewN ?_ _) | (with_reducible refine Kd.C_drew ?_))); (case side2 => exact (Kd.N_reads' HO451.out).2.1); (case side3 => repeat (first | exact (Kd.N_reads' HO472.out).2.2 | (with_reducible refine Kd.C_alloc ?_ _) | (with_reducible refine Kd.C_drewN ?_ _) | (with_reducible refine Kd.C_drew ?_))); (case side4 => exact (Kd.N_reads' HO472.out).2.1); rintro e w51 ⟨v480, rfl, ho0, hb⟩; refine ⟨_, rfl, ?_⟩; have n0_ := Aside0.mk (Kd.N_elder' (by (with_reducible repeat (first | apply Kd.N_alloc | apply Kd.N_drewN | apply Kd.N_drew)); exact HO451.out) (Kd.R_base ho0) hb); have n1_ := Aside0.mk (Kd.N_elder' (by (with_reducible repeat (first | apply Kd.N_alloc | apply Kd.N_drewN | apply Kd.N_drew)); exact HO472.out) (Kd.R_base ho0) hb); have n2_ := Aside0.mk (Kd.R_elder' (by (with_reducible repeat (first | apply Kd.R_alloc | apply Kd.R_drewN | apply Kd.R_drew)); exact HO475.out) (Kd.R_base ho0) hb); have n3_ := Aside0.mk (Kd.R_below (by (with_reducible repeat (first | apply Kd.R_alloc | apply Kd.R_drewN | apply Kd.R_drew)); exact HO478.out) hb); have n4_ := Aside0.mk (Kd.R_lower (Kd.R_new' ho0 (Kd.R_lt (by (with_reducible repeat (first | apply Kd.R_alloc | apply Kd.R_drewN | apply Kd.R_drew)); exact HO475.out))) (below_size (by repeat (first | (with_reducible first | exact HB.out | apply below_alloc | apply pw_below_drewN | apply below_drew1) | exact HB.out)))); have n5_ := Aside0.mk (below_step (by repeat (first | (with_reducible first | exact HB.out | apply below_alloc | apply pw_below_drewN | apply below_drew1) | exact HB.out)) hb); clear HO451; clear HO472; clear HO475; clear HO478; clear HB; have HO451 := n0_; have HO472 := n1_; have HO475 := n2_; have HO478 := n3_; have HO481 := n4_; have HB := n5_; clear n0_ n1_ n2_ n3_ n4_ n5_; (try clear hb); (try clear hb2); (try clear hk); (try clear hi); (try clear ho0); obtain ⟨Ao52, co52, eo52⟩ := Kd.R_slice HO481.out; subst eo52) | ((with_reducible refine gate_callee (f := 21) rfl ?_); refine goesL_ (some 29) rfl rfl Tryd.func21 (by kernel_rfl) rfl #[.slice Ao52 t479.length co52, .slice Ao47 y473.length co47] rfl (by (try simp only [List.map_toArray, List.map_cons, List.map_nil]); first | done | rfl | (simp only [List.length_drop, List.length_take]; rfl)) ?_; (with_reducible refine (tabellionref32_Same.calls k _ _ t479 _ _ y473 true _ ?side1 ?side2 ?side3 ?side4 A8.out).mono ?_); (case side1 => repeat (first | exact (Kd.R_reads' HO481.out).2.2 | (with_reducible refine Kd.C_alloc ?_ _) | (with_reducible refine Kd.C_drewN ?_ _) | (with_reducible refine Kd.C_drew ?_))); (case side2 => exact (Kd.R_reads' HO481.out).2.1); (case side3 => repeat (first | exact (Kd.R_reads' HO475.out).2.2 | (with_reducible refine Kd.C_alloc ?_ _) | (with_reducible refine Kd.C_drewN ?_ _) | (with_reducible refine Kd.C_drew ?_))); (case side4 => exact (Kd.R_reads' HO475.out).2.1); rintro e w' ⟨rfl, ⟨nd, rfl⟩⟩; refine ⟨_, rfl, ?_⟩) | (go_at_call 23; (with_reducible refine (joiner_Hash.calls _ _ y449 _ _ y470 t483 _ ?side1 ?side2 ?side3 ?side4 A10.out ?tab).mono ?_); (case tab => exact (tab_of HTAB.out (by repeat (first | (with_reducible first | exact HB.out | apply below_alloc | apply pw_below_drewN | apply below_drew1) | exact HB.out)))); (case side1 => repeat (first | exact (Kd.N_reads' HO451.out).2.2 | (with_reducible refine Kd.C_alloc ?_ _) | (with_reducible refine Kd.C_drewN ?_ _) | (with_reducible refine Kd.C_drew ?_))); (case side2 => exact (Kd.N_reads' HO451.out).2.1); (case side3 => repeat (first | exact (Kd.N_reads' HO472.out).2.2 | (with_reducible refine Kd.C_alloc ?_ _) | (with_reducible refine Kd.C_drewN ?_ _) | (with_reducible refine Kd.C_drew ?_))); (case side4 => exact (Kd.N_reads' HO472.out).2.1); rintro e w53 ⟨v484, rfl, ho0, hb⟩; have n0_ := Aside0.mk (Kd.N_elder' (by (with_reducible repeat (first | apply Kd.N_alloc | apply Kd.N_drewN | apply Kd.N_drew)); exact HO451.out) (Kd.R_base ho0) hb); have n1_ := Aside0.mk (Kd.N_elder' (by (with_reducible repeat (first | apply Kd.N_alloc | apply Kd.N_drewN | apply Kd.N_drew)); exact HO472.out) (Kd.R_base ho0) hb); have n2_ := Aside0.mk (Kd.R_elder' (by (with_reducible repeat (first | apply Kd.R_alloc | apply Kd.R_drewN | apply Kd.R_drew)); exact HO475.out) (Kd.R_base ho0) hb); have n3_ := Aside0.mk (Kd.R_below (by (with_reducible repeat (first | apply Kd.R_alloc | apply Kd.R_drewN | apply Kd.R_drew)); exact HO478.out) hb); have n4_ := Aside0.mk (Kd.R_elder' (by (with_reducible repeat (first | apply Kd.R_alloc | apply Kd.R_drewN | apply Kd.R_drew)); exact HO481.out) (Kd.R_base ho0) hb); have n5_ := Aside0.mk (Kd.R_lower (Kd.R_new' (Kd.R_new' ho0 (Kd.R_lt (by (with_reducible repeat (first | apply Kd.R_alloc | apply Kd.R_drewN | apply Kd.R_drew)); exact HO475.out))) (Kd.R_lt (by (with_reducible repeat (first | apply Kd.R_alloc | apply Kd.R_drewN | apply Kd.R_drew)); exact HO481.out))) (below_size (by repeat (first | (with_reducible first | exact HB.out | apply below_alloc | apply pw_below_drewN | apply below_drew1) | exact HB.out)))); have n6_ := Aside0.mk (below_step (by repeat (first | (with_reducible first | exact HB.out | apply below_alloc | apply pw_below_drewN | apply below_drew1) | exact HB.out)) hb); clear HO451; clear HO472; clear HO475; clear HO478; clear HO481; clear HB; have HO451 := n0_; have HO472 := n1_; have HO475 := n2_; have HO478 := n3_; have HO481 := n4_; have HO485 := n5_; have HB := n6_; clear n0_ n1_ n2_ n3_ n4_ n5_ n6_; (try clear hb); (try clear hb2); (try clear hk); (try clear hi); (try clear ho0); obtain ⟨Ao54, co54, eo54⟩ := Kd.R_slice HO485.out; subst eo54) | (go_at_call 21; (with_reducible refine (tabellionref32_Same.calls k _ _ t483 _ _ y473 true _ ?side1 ?side2 ?side3 ?side4 A11.out).mono ?_); (case side1 => repeat (first | exact (Kd.R_reads' HO485.out).2.2 | (with_reducible refine Kd.C_alloc ?_ _) | (with_reducible refine Kd.C_drewN ?_ _) | (with_reducible refine Kd.C_drew ?_))); (case side2 => exact (Kd.R_reads' HO485.out).2.1); (case side3 => repeat (first | exact (Kd.R_reads' HO475.out).2.2 | (with_reducible refine Kd.C_alloc ?_ _) | (with_reducible refine Kd.C_drewN ?_ _) | (with_reducible refine Kd.C_drew ?_))); (case side4 => exact (Kd.R_reads' HO475.out).2.1); rintro e w' ⟨rfl, ⟨nd, rfl⟩⟩) | (go_at_call 24; (with_reducible refine (joiner_Merge.calls _ _ y449 _ _ y470 t487 _ ?side1 ?side2 ?side3 ?side4 A13.out).mono ?_); (case side1 => repeat (first | exact (Kd.N_reads' HO451.out).2.2 | (with_reducible refine Kd.C_alloc ?_ _) | (with_reducible refine Kd.C_drewN ?_ _) | (with_reducible refine Kd.C_drew ?_))); (case side2 => exact (Kd.N_reads' HO451.out).2.1); (case side3 => repeat (first | exact (Kd.N_reads' HO472.out).2.2 | (with_reducible refine Kd.C_alloc ?_ _) | (with_reducible refine Kd.C_drewN ?_ _) | (with_reducible refine Kd.C_drew ?_))); (case side4 => exact (Kd.N_reads' HO472.out).2.1); rintro e w55 ⟨v488, rfl, ho0, hb⟩; have n0_ := Aside0.mk (Kd.N_elder' (by (with_reducible repeat (first | apply Kd.N_alloc | apply Kd.N_drewN | apply Kd.N_drew)); exact HO451.out) (Kd.R_base ho0) hb); have n1_ := Aside0.mk (Kd.N_elder' (by (with_reducible repeat (first | apply Kd.N_alloc | apply Kd.N_drewN | apply Kd.N_drew)); exact HO472.out) (Kd.R_base ho0) hb); have n2_ := Aside0.mk (Kd.R_elder' (by (with_reducible repeat (first | apply Kd.R_alloc | apply Kd.R_drewN | apply Kd.R_drew)); exact HO475.out) (Kd.R_base ho0) hb); have n3_ := Aside0.mk (Kd.R_below (by (with_reducible repeat (first | apply Kd.R_alloc | apply Kd.R_drewN | apply Kd.R_drew)); exact HO478.out) hb); have n4_ := Aside0.mk (Kd.R_elder' (by (with_reducible repeat (first | apply Kd.R_alloc | apply Kd.R_drewN | apply Kd.R_drew)); exact HO481.out) (Kd.R_base ho0) hb); have n5_ := Aside0.mk (Kd.R_elder' (by (with_reducible repeat (first | apply Kd.R_alloc | apply Kd.R_drewN | apply Kd.R_drew)); exact HO485.out) (Kd.R_base ho0) hb); have n6_ := Aside0.mk (Kd.R_lower (Kd.R_new' (Kd.R_new' (Kd.R_new' ho0 (Kd.R_lt (by (with_reducible repeat (first | apply Kd.R_alloc | apply Kd.R_drewN | apply Kd.R_drew)); exact HO475.out))) (Kd.R_lt (by (with_reducible repeat (first | apply Kd.R_alloc | apply Kd.R_drewN | apply Kd.R_drew)); exact HO481.out))) (Kd.R_lt (by (with_reducible repeat (first | apply Kd.R_alloc | apply Kd.R_drewN | apply Kd.R_drew)); exact HO485.out))) (below_size (by repeat (first | (with_reducible first | exact HB.out | apply below_alloc | apply pw_below_drewN | apply below_drew1) | exact HB.out)))); have n7_ := Aside0.mk (below_step (by repeat (first | (with_reducible first | exact HB.out | apply below_alloc | apply pw_below_drewN | apply below_drew1) | exact HB.out)) hb); clear HO451; clear HO472; clear HO475; clear HO478; clear HO481; clear HO485; clear HB; have HO451 := n0_; have HO472 := n1_; have HO475 := n2_; have HO478 := n3_; have HO481 := n4_; have HO485 := n5_; have HO489 := n6_; have HB := n7_; clear n0_ n1_ n2_ n3_ n4_ n5_ n6_ n7_; (try clear hb); (try clear hb2); (try clear hk); (try clear hi); (try clear ho0); obtain ⟨Ao56, co56, eo56⟩ := Kd.R_slice HO489.out; subst eo56) | (go_at_call 21; (with_reducible refine (tabellionref32_Same.calls k _ _ t487 _ _ y473 true _ ?side1 ?side2 ?side3 ?side4 A14.out).mono ?_); (case side1 => repeat (first | exact (Kd.R_reads' HO489.out).2.2 | (with_reducible refine Kd.C_alloc ?_ _) | (with_reducible refine Kd.C_drewN ?_ _) | (with_reducible refine Kd.C_drew ?_))); (case side2 => exact (Kd.R_reads' HO489.out).2.1); (case side3 => repeat (first | exact (Kd.R_reads' HO475.out).2.2 | (with_reducible refine Kd.C_alloc ?_ _) | (with_reducible refine Kd.C_drewN ?_ _) | (with_reducible refine Kd.C_drew ?_))); (case side4 => exact (Kd.R_reads' HO475.out).2.1); rintro e w' ⟨rfl, ⟨nd, rfl⟩⟩; obtain ⟨Ao57, co57, eo57⟩ := Kd.R_slice HO478.out; subst eo57; have p491 : 0 ≤ (0 : Int) := (by omega); have q491 : 0 < (t476.length : Int) := of_decide_eq_true (by first | (with_reducible assumption) | assumption); obtain ⟨ad491, e491, hx491_0⟩ := Kd.at_int (Kd.R_reads' HO478.out).2.2 0 p491 q491; cases e491; have qi491 : (0 < t476.length) = True := eq_true (by omega); (try rw [show ((0 : Int)).toNat = 0 from rfl] at hx491_0); (try rw [Addr.add_zero'] at hx491_0); replace p491 := eq_true p491; replace q491 := eq_true q491))
      go_ret
      exact ⟨by first | rfl | (simp [errW_none, errW_some] <;> rfl) | (simp [*, errW_none, errW_some] <;> rfl), by repeat (first | (with_reducible first | exact HB.out | apply below_alloc | apply pw_below_drewN | apply below_drew1) | exact HB.out)⟩
     ·
      rw [if_neg c17] at H
      exact absurd H (by simp)
    ·
     rw [if_neg c16] at H
     have c16b0 : ((t476.length : Int) == 1) = false := beq_eq_false_iff_ne.mpr c16
     have c16b1 : ((t476.length : Int) != 1) = true := bne_iff_ne.mpr c16
     obtain rfl := Option.some.inj H
     go_enter Tryd.func19, Tryd.ntmps19
     go_wp2_with (first | ((with_reducible refine gate_callee (f := 28) rfl ?_); refine goesL_ (some 5) rfl rfl Tryd.func28 (by kernel_rfl) rfl #[.int .i64 1] rfl (by (try simp only [List.map_toArray, List.map_cons, List.map_nil]); first | done | rfl | (simp only [List.length_drop, List.length_take]; rfl)) ?_; (with_reducible refine (value_Num.calls 1 t434 t435 t436 _ A1.out).mono ?_); rintro e w58 ⟨rfl, hb⟩; refine ⟨_, rfl, ?_⟩; have n0_ := Aside0.mk (below_step (by repeat (first | (with_reducible first | exact HB.out | apply below_alloc | apply pw_below_drewN | apply below_drew1) | exact HB.out)) hb); clear HB; have HB := n0_; clear n0_; (try clear hb); (try clear hb2); (try clear hk); (try clear hi)) | ((with_reducible refine gate_dst (N := 6) rfl ?_); (try (refine gate_guard (by rfl) ?_; dsimp only)); refine Kd.R_lit k44 _ 44 ?hg (N := 6) ?hd (xs := ([(⟨t434, t435, t436⟩ : S44)] : List (S44))) (inner := [.int .i64 t434, .int .i64 t435, .string t436]) (ok := fun _ => True) (okp := fun _ => True) ?hr ?hp (fun _ hk => hk) trivial (Below.refl _ _) (Nat.le_refl _) (by simp) ?_; (case hd => rfl); (case hg => rfl); (case hr => first | (go_simp; done) | (go_simp; rfl)); (case hp => exact (Reps.c3 (show Kd.M k44 _ _ _ (⟨t434, t435, t436⟩ : S44) [.int .i64 t434, .int .i64 t435, .string t436] from (k44_mkM _ _ _ (⟨t434, t435, t436⟩ : S44) )) (Reps.none _ _))); intro v438 w59 ho60 hb hg_ hnew_; clear hg_ hnew_; (first | rw [← Ny437.out] at ho60 | (simp only [Int.reduceToNat] at ho60; rw [← Ny437.out] at ho60)); have n0_ := Aside0.mk (Kd.R_lower ho60 (below_size (by repeat (first | (with_reducible first | exact HB.out | apply below_alloc | apply pw_below_drewN | apply below_drew1) | exact HB.out)))); have n1_ := Aside0.mk (below_step (by repeat (first | (with_reducible first | exact HB.out | apply below_alloc | apply pw_below_drewN | apply below_drew1) | exact HB.out)) hb); clear HB; have HO439 := n0_; have HB := n1_; clear n0_ n1_; clear hb ho60) | ((with_reducible refine gate_dst (N := 8) rfl ?_); (try (refine gate_guard (by rfl) ?_; dsimp only)); refine Kd.R_lit k44 _ 44 ?hg (N := 8) ?hd (xs := ([(⟨0, 0, (⟨#[]⟩ : ByteArray)⟩ : S44)] : List (S44))) (inner := [.int .i64 0, .int .i64 0, .string (⟨#[]⟩ : ByteArray)]) (ok := fun _ => True) (okp := fun _ => True) ?hr ?hp (fun _ hk => hk) trivial (Below.refl _ _) (Nat.le_refl _) (by simp) ?_; (case hd => rfl); (case hg => rfl); (case hr => first | (go_simp; done) | (go_simp; rfl)); (case hp => exact (Reps.c3 (show Kd.M k44 _ _ _ (⟨0, 0, (⟨#[]⟩ : ByteArray)⟩ : S44) [.int .i64 0, .int .i64 0, .string (⟨#[]⟩ : ByteArray)] from (k44_mkM _ _ _ (⟨0, 0, (⟨#[]⟩ : ByteArray)⟩ : S44) )) (Reps.none _ _))); intro v441 w61 ho62 hb hg_ hnew_; clear hg_ hnew_; (first | rw [← Ny440.out] at ho62 | (simp only [Int.reduceToNat] at ho62; rw [← Ny440.out] at ho62)); have n0_ := Aside0.mk (Kd.R_elder' (by (with_reducible repeat (first | apply Kd.R_alloc | apply Kd.R_drewN | apply Kd.R_drew)); exact HO439.out) (Kd.R_base ho62) hb); have n1_ := Aside0.mk (Kd.R_lower (Kd.R_new' ho62 (Kd.R_lt (by (with_reducible repeat (first | apply Kd.R_alloc | apply Kd.R_drewN | apply Kd.R_drew)); exact HO439.out))) (below_size (by repeat (first | (with_reducible first | exact HB.out | apply below_alloc | apply pw_below_drewN | apply below_drew1) | exact HB.out)))); have n2_ := Aside0.mk (below_step (by repeat (first | (with_reducible first | exact HB.out | apply below_alloc | apply pw_below_drewN | apply below_drew1) | exact HB.out)) hb); clear HO439; clear HB; have HO439 := n0_; have HO442 := n1_; have HB := n2_; clear n0_ n1_ n2_; clear hb ho62) | ((with_reducible refine gate_callee (f := 28) rfl ?_); refine goesL_ (some 9) rfl rfl Tryd.func28 (by kernel_rfl) rfl #[.int .i64 2] rfl (by (try simp only [List.map_toArray, List.map_cons, List.map_nil]); first | done | rfl | (simp only [List.length_drop, List.length_take]; rfl)) ?_; (with_reducible refine (value_Num.calls 2 t443 t444 t445 _ A2.out).mono ?_); rintro e w63 ⟨rfl, hb⟩; refine ⟨_, rfl, ?_⟩; have n0_ := Aside0.mk (Kd.R_below (by (with_reducible repeat (first | apply Kd.R_alloc | apply Kd.R_drewN | apply Kd.R_drew)); exact HO439.out) hb); have n1_ := Aside0.mk (Kd.R_below (by (with_reducible repeat (first | apply Kd.R_alloc | apply Kd.R_drewN | apply Kd.R_drew)); exact HO442.out) hb); have n2_ := Aside0.mk (below_step (by repeat (first | (with_reducible first | exact HB.out | apply below_alloc | apply pw_below_drewN | apply below_drew1) | exact HB.out)) hb); clear HO439; clear HO442; clear HB; have HO439 := n0_; have HO442 := n1_; have HB := n2_; clear n0_ n1_ n2_; (try clear hb); (try clear hb2); (try clear hk); (try clear hi)) | ((with_reducible refine gate_dst (N := 10) rfl ?_); (try (refine gate_guard (by rfl) ?_; dsimp only)); refine Kd.R_lit k44 _ 44 ?hg (N := 10) ?hd (xs := ([(⟨t443, t444, t445⟩ : S44)] : List (S44))) (inner := [.int .i64 t443, .int .i64 t444, .string t445]) (ok := fun _ => True) (okp := fun _ => True) ?hr ?hp (fun _ hk => hk) trivial (Below.refl _ _) (Nat.le_refl _) (by simp) ?_; (case hd => rfl); (case hg => rfl); (case hr => first | (go_simp; done) | (go_simp; rfl)); (case hp => exact (Reps.c3 (show Kd.M k44 _ _ _ (⟨t443, t444, t445⟩ : S44) [.int .i64 t443, .int .i64 t444, .string t445] from (k44_mkM _ _ _ (⟨t443, t444, t445⟩ : S44) )) (Reps.none _ _))); intro v447 w64 ho65 hb hg_ hnew_; clear hg_ hnew_; (first | rw [← Ny446.out] at ho65 | (simp only [Int.reduceToNat] at ho65; rw [← Ny446.out] at ho65)); have n0_ := Aside0.mk (Kd.R_elder' (by (with_reducible repeat (first | apply Kd.R_alloc | apply Kd.R_drewN | apply Kd.R_drew)); exact HO439.out) (Kd.R_base ho65) hb); have n1_ := Aside0.mk (Kd.R_elder' (by (with_reducible repeat (first | apply Kd.R_alloc | apply Kd.R_drewN | apply Kd.R_drew)); exact HO442.out) (Kd.R_base ho65) hb); have n2_ := Aside0.mk (Kd.R_lower (Kd.R_new' (Kd.R_new' ho65 (Kd.R_lt (by (with_reducible repeat (first | apply Kd.R_alloc | apply Kd.R_drewN | apply Kd.R_drew)); exact HO439.out))) (Kd.R_lt (by (with_reducible repeat (first | apply Kd.R_alloc | apply Kd.R_drewN | apply Kd.R_drew)); exact HO442.out))) (below_size (by repeat (first | (with_reducible first | exact HB.out | apply below_alloc | apply pw_below_drewN | apply below_drew1) | exact HB.out)))); have n3_ := Aside0.mk (below_step (by repeat (first | (with_reducible first | exact HB.out | apply below_alloc | apply pw_below_drewN | apply below_drew1) | exact HB.out)) hb); clear HO439; clear HO442; clear HB; have HO439 := n0_; have HO442 := n1_; have HO448 := n2_; have HB := n3_; clear n0_ n1_ n2_ n3_; clear hb ho65; obtain ⟨Ao66, co66, eo66⟩ := Kd.R_slice HO439.out; subst eo66; obtain ⟨Ao67, co67, eo67⟩ := Kd.R_slice HO442.out; subst eo67; obtain ⟨Ao68, co68, eo68⟩ := Kd.R_slice HO448.out; subst eo68) | ((with_reducible refine gate_dst (N := 11) rfl ?_); (try (refine gate_guard (by rfl) ?_; dsimp only)); refine Kd.N_lit (Kd.slice 44 k44) _ 33 ?hg (N' := 11) ?hd (xs := ([y437, y440, y446] : List (List (S44)))) (inner := [.slice Ao66 y437.length co66, .slice Ao67 y440.length co67, .slice Ao68 y446.length co68]) (ok := (fun _ => True)) (okp := (fun _ => True)) ?hr ?hp (fun _ hk => hk) ((show ∀ k_, w64.heap.size ≤ k_ → (fun _ => True) k_ from fun k_ hk => trivial) _ (Nat.le_refl _)) (Below.refl _ _) (Nat.le_refl _) (by simp) ?_; (case hd => rfl); (case hg => rfl); (case hr => first | (go_simp; done) | (go_simp; rfl)); (case hp => exact (Reps.one (show Kd.FK (Kd.slice 44 k44) _ _ y437 [.slice Ao66 y437.length co66] from (Kd.FK_slice_mk (Kd.R_reads' (Kd.R_mono (ok' := (fun _ => True)) (HO439.out) (fun k_ hk => trivial))).2.1 (Kd.R_F (Kd.R_mono (ok' := (fun _ => True)) (HO439.out) (fun k_ hk => trivial))))) (Reps.one (show Kd.FK (Kd.slice 44 k44) _ _ y440 [.slice Ao67 y440.length co67] from (Kd.FK_slice_mk (Kd.R_reads' (Kd.R_mono (ok' := (fun _ => True)) (HO442.out) (fun k_ hk => trivial))).2.1 (Kd.R_F (Kd.R_mono (ok' := (fun _ => True)) (HO442.out) (fun k_ hk => trivial))))) (Reps.one (show Kd.FK (Kd.slice 44 k44) _ _ y446 [.slice Ao68 y446.length co68] from (Kd.FK_slice_mk (Kd.R_reads' (Kd.R_mono (ok' := (fun _ => True)) (HO448.out) (fun k_ hk => trivial))).2.1 (Kd.R_F (Kd.R_mono (ok' := (fun _ => True)) (HO448.out) (fun k_ hk => trivial))))) (Reps.none _ _))))); intro v450 w69 ho70 hb hg_ hnew_; clear hg_ hnew_; (first | rw [← Ny449.out] at ho70 | (simp only [Int.reduceToNat] at ho70; rw [← Ny449.out] at ho70)); have n0_ := Aside0.mk (Kd.N_lower ho70 (below_size (by repeat (first | (with_reducible first | exact HB.out | apply below_alloc | apply pw_below_drewN | apply below_drew1) | exact HB.out)))); have n1_ := Aside0.mk (below_step (by repeat (first | (with_reducible first | exact HB.out | apply below_alloc | apply pw_below_drewN | apply below_drew1) | exact HB.out)) hb); clear HB; clear HO439; clear HO442; clear HO448; have HO451 := n0_; have HB := n1_; clear n0_ n1_; clear hb ho70) | ((with_reducible refine gate_callee (f := 28) rfl ?_); refine goesL_ (some 12) rfl rfl Tryd.func28 (by kernel_rfl) rfl #[.int .i64 2] rfl (by (try simp only [List.map_toArray, List.map_cons, List.map_nil]); first | done | rfl | (simp only [List.length_drop, List.length_take]; rfl)) ?_; (with_reducible refine (value_Num.calls 2 t452 t453 t454 _ A3.out).mono ?_); rintro e w71 ⟨rfl, hb⟩; refine ⟨_, rfl, ?_⟩; have n0_ := Aside0.mk (Kd.N_below (by (with_reducible repeat (first | apply Kd.N_alloc | apply Kd.N_drewN | apply Kd.N_drew)); exact HO451.out) hb); have n1_ := Aside0.mk (below_step (by repeat (first | (with_reducible first | exact HB.out | apply below_alloc | apply pw_below_drewN | apply below_drew1) | exact HB.out)) hb); clear HO451; clear HB; have HO451 := n0_; have HB := n1_; clear n0_ n1_; (try clear hb); (try clear hb2); (try clear hk); (try clear hi)) | ((with_reducible refine gate_dst (N := 13) rfl ?_); (try (refine gate_guard (by rfl) ?_; dsimp only)); refine Kd.R_lit k44 _ 44 ?hg (N := 13) ?hd (xs := ([(⟨t452, t453, t454⟩ : S44)] : List (S44))) (inner := [.int .i64 t452, .int .i64 t453, .string t454]) (ok := fun _ => True) (okp := fun _ => True) ?hr ?hp (fun _ hk => hk) trivial (Below.refl _ _) (Nat.le_refl _) (by simp) ?_; (case hd => rfl); (case hg => rfl); (case hr => first | (go_simp; done) | (go_simp; rfl)); (case hp => exact (Reps.c3 (show Kd.M k44 _ _ _ (⟨t452, t453, t454⟩ : S44) [.int .i64 t452, .int .i64 t453, .string t454] from (k44_mkM _ _ _ (⟨t452, t453, t454⟩ : S44) )) (Reps.none _ _))); intro v456 w72 ho73 hb hg_ hnew_; clear hg_ hnew_; (first | rw [← Ny455.out] at ho73 | (simp only [Int.reduceToNat] at ho73; rw [← Ny455.out] at ho73)); have n0_ := Aside0.mk (Kd.N_elder' (by (with_reducible repeat (first | apply Kd.N_alloc | apply Kd.N_drewN | apply Kd.N_drew)); exact HO451.out) (Kd.R_base ho73) hb); have n1_ := Aside0.mk (Kd.R_lower ho73 (below_size (by repeat (first | (with_reducible first | exact HB.out | apply below_alloc | apply pw_below_drewN | apply below_drew1) | exact HB.out)))); have n2_ := Aside0.mk (below_step (by repeat (first | (with_reducible first | exact HB.out | apply below_alloc | apply pw_below_drewN | apply below_drew1) | exact HB.out)) hb); clear HO451; clear HB; have HO451 := n0_; have HO457 := n1_; have HB := n2_; clear n0_ n1_ n2_; clear hb ho73) | ((with_reducible refine gate_callee (f := 28) rfl ?_); refine goesL_ (some 14) rfl rfl Tryd.func28 (by kernel_rfl) rfl #[.int .i64 1] rfl (by (try simp only [List.map_toArray, List.map_cons, List.map_nil]); first | done | rfl | (simp only [List.length_drop, List.length_take]; rfl)) ?_; (with_reducible refine (value_Num.calls 1 t458 t459 t460 _ A4.out).mono ?_); rintro e w74 ⟨rfl, hb⟩; refine ⟨_, rfl, ?_⟩; have n0_ := Aside0.mk (Kd.N_below (by (with_reducible repeat (first | apply Kd.N_alloc | apply Kd.N_drewN | apply Kd.N_drew)); exact HO451.out) hb); have n1_ := Aside0.mk (Kd.R_below (by (with_reducible repeat (first | apply Kd.R_alloc | apply Kd.R_drewN | apply Kd.R_drew)); exact HO457.out) hb); have n2_ := Aside0.mk (below_step (by repeat (first | (with_reducible first | exact HB.out | apply below_alloc | apply pw_below_drewN | apply below_drew1) | exact HB.out)) hb); clear HO451; clear HO457; clear HB; have HO451 := n0_; have HO457 := n1_; have HB := n2_; clear n0_ n1_ n2_; (try clear hb); (try clear hb2); (try clear hk); (try clear hi)) | ((with_reducible refine gate_dst (N := 15) rfl ?_); (try (refine gate_guard (by rfl) ?_; dsimp only)); refine Kd.R_lit k44 _ 44 ?hg (N := 15) ?hd (xs := ([(⟨t458, t459, t460⟩ : S44)] : List (S44))) (inner := [.int .i64 t458, .int .i64 t459, .string t460]) (ok := fun _ => True) (okp := fun _ => True) ?hr ?hp (fun _ hk => hk) trivial (Below.refl _ _) (Nat.le_refl _) (by simp) ?_; (case hd => rfl); (case hg => rfl); (case hr => first | (go_simp; done) | (go_simp; rfl)); (case hp => exact (Reps.c3 (show Kd.M k44 _ _ _ (⟨t458, t459, t460⟩ : S44) [.int .i64 t458, .int .i64 t459, .string t460] from (k44_mkM _ _ _ (⟨t458, t459, t460⟩ : S44) )) (Reps.none _ _))); intro v462 w75 ho76 hb hg_ hnew_; clear hg_ hnew_; (first | rw [← Ny461.out] at ho76 | (simp only [Int.reduceToNat] at ho76; rw [← Ny461.out] at ho76)); have n0_ := Aside0.mk (Kd.N_elder' (by (with_reducible repeat (first | apply Kd.N_alloc | apply Kd.N_drewN | apply Kd.N_drew)); exact HO451.out) (Kd.R_base ho76) hb); have n1_ := Aside0.mk (Kd.R_elder' (by (with_reducible repeat (first | apply Kd.R_alloc | apply Kd.R_drewN | apply Kd.R_drew)); exact HO457.out) (Kd.R_base ho76) hb); have n2_ := Aside0.mk (Kd.R_lower (Kd.R_new' ho76 (Kd.R_lt (by (with_reducible repeat (first | apply Kd.R_alloc | apply Kd.R_drewN | apply Kd.R_drew)); exact HO457.out))) (below_size (by repeat (first | (with_reducible first | exact HB.out | apply below_alloc | apply pw_below_drewN | apply below_drew1) | exact HB.out)))); have n3_ := Aside0.mk (below_step (by repeat (first | (with_reducible first | exact HB.out | apply below_alloc | apply pw_below_drewN | apply below_drew1) | exact HB.out)) hb); clear HO451; clear HO457; clear HB; have HO451 := n0_; have HO457 := n1_; have HO463 := n2_; have HB := n3_; clear n0_ n1_ n2_ n3_; clear hb ho76) | ((with_reducible refine gate_callee (f := 28) rfl ?_); refine goesL_ (some 16) rfl rfl Tryd.func28 (by kernel_rfl) rfl #[.int .i64 1] rfl (by (try simp only [List.map_toArray, List.map_cons, List.map_nil]); first | done | rfl | (simp only [List.length_drop, List.length_take]; rfl)) ?_; (with_reducible refine (value_Num.calls 1 t464 t465 t466 _ A5.out).mono ?_); rintro e w77 ⟨rfl, hb⟩; refine ⟨_, rfl, ?_⟩; have n0_ := Aside0.mk (Kd.N_below (by (with_reducible repeat (first | apply Kd.N_alloc | apply Kd.N_drewN | apply Kd.N_drew)); exact HO451.out) hb); have n1_ := Aside0.mk (Kd.R_below (by (with_reducible repeat (first | apply Kd.R_alloc | apply Kd.R_drewN | apply Kd.R_drew)); exact HO457.out) hb); have n2_ := Aside0.mk (Kd.R_below (by (with_reducible repeat (first | apply Kd.R_alloc | apply Kd.R_drewN | apply Kd.R_drew)); exact HO463.out) hb); have n3_ := Aside0.mk (below_step (by repeat (first | (with_reducible first | exact HB.out | apply below_alloc | apply pw_below_drewN | apply below_drew1) | exact HB.out)) hb); clear HO451; clear HO457; clear HO463; clear HB; have HO451 := n0_; have HO457 := n1_; have HO463 := n2_; have HB := n3_; clear n0_ n1_ n2_ n3_; (try clear hb); (try clear hb2); (try clear hk); (try clear hi)) | ((with_reducible refine gate_dst (N := 17) rfl ?_); (try (refine gate_guard (by rfl) ?_; dsimp only)); refine Kd.R_lit k44 _ 44 ?hg (N := 17) ?hd (xs := ([(⟨t464, t465, t466⟩ : S44)] : List (S44))) (inner := [.int .i64 t464, .int .i64 t465, .string t466]) (ok := fun _ => True) (okp := fun _ => True) ?hr ?hp (fun _ hk => hk) trivial (Below.refl _ _) (Nat.le_refl _) (by simp) ?_; (case hd => rfl); (case hg => rfl); (case hr => first | (go_simp; done) | (go_simp; rfl)); (case hp => exact (Reps.c3 (show Kd.M k44 _ _ _ (⟨t464, t465, t466⟩ : S44) [.int .i64 t464, .int .i64 t465, .string t466] from (k44_mkM _ _ _ (⟨t464, t465, t466⟩ : S44) )) (Reps.none _ _))); intro v468 w78 ho79 hb hg_ hnew_; clear hg_ hnew_; (first | rw [← Ny467.out] at ho79 | (simp only [Int.reduceToNat] at ho79; rw [← Ny467.out] at ho79)); have n0_ := Aside0.mk (Kd.N_elder' (by (with_reducible repeat (first | apply Kd.N_alloc | apply Kd.N_drewN | apply Kd.N_drew)); exact HO451.out) (Kd.R_base ho79) hb); have n1_ := Aside0.mk (Kd.R_elder' (by (with_reducible repeat (first | apply Kd.R_alloc | apply Kd.R_drewN | apply Kd.R_drew)); exact HO457.out) (Kd.R_base ho79) hb); have n2_ := Aside0.mk (Kd.R_elder' (by (with_reducible repeat (first | apply Kd.R_alloc | apply Kd.R_drewN | apply Kd.R_drew)); exact HO463.out) (Kd.R_base ho79) hb); have n3_ := Aside0.mk (Kd.R_lower (Kd.R_new' (Kd.R_new' ho79 (Kd.R_lt (by (with_reducible repeat (first | apply Kd.R_alloc | apply Kd.R_drewN | apply Kd.R_drew)); exact HO457.out))) (Kd.R_lt (by (with_reducible repeat (first | apply Kd.R_alloc | apply Kd.R_drewN | apply Kd.R_drew)); exact HO463.out))) (below_size (by repeat (first | (with_reducible first | exact HB.out | apply below_alloc | apply pw_below_drewN | apply below_drew1) | exact HB.out)))); have n4_ := Aside0.mk (below_step (by repeat (first | (with_reducible first | exact HB.out | apply below_alloc | apply pw_below_drewN | apply below_drew1) | exact HB.out)) hb); clear HO451; clear HO457; clear HO463; clear HB; have HO451 := n0_; have HO457 := n1_; have HO463 := n2_; have HO469 := n3_; have HB := n4_; clear n0_ n1_ n2_ n3_ n4_; clear hb ho79; obtain ⟨Ao80, co80, eo80⟩ := Kd.R_slice HO457.out; subst eo80; obtain ⟨Ao81, co81, eo81⟩ := Kd.R_slice HO463.out; subst eo81; obtain ⟨Ao82, co82, eo82⟩ := Kd.R_slice HO469.out; subst eo82) | ((with_reducible refine gate_dst (N := 18) rfl ?_); (try (refine gate_guard (by rfl) ?_; dsimp only)); refine Kd.N_lit (Kd.slice 44 k44) _ 33 ?hg (N' := 18) ?hd (xs := ([y455, y461, y467] : List (List (S44)))) (inner := [.slice Ao80 y455.length co80, .slice Ao81 y461.length co81, .slice Ao82 y467.length co82]) (ok := (fun k_ => some k_ ≠ (v450 : Value).ownBlock)) (okp := (fun k_ => some k_ ≠ (v450 : Value).ownBlock)) ?hr ?hp (fun _ hk => hk) ((show ∀ k_, w78.heap.size ≤ k_ → (fun k_ => some k_ ≠ (v450 : Value).ownBlock) k_ from fun k_ hk => Kd.fresh' (Kd.N_lt (by (with_reducible repeat (first | apply Kd.N_alloc | apply Kd.N_drewN | apply Kd.N_drew)); exact HO451.out)) k_ hk) _ (Nat.le_refl _)) (Below.refl _ _) (Nat.le_refl _) (by simp) ?_; (case hd => rfl); (case hg => rfl); (case hr => first | (go_simp; done) | (go_simp; rfl)); (case hp => exact (Reps.one (show Kd.FK (Kd.slice 44 k44) _ _ y455 [.slice Ao80 y455.length co80] from (Kd.FK_slice_mk (Kd.R_reads' (Kd.R_mono (ok' := (fun k_ => some k_ ≠ (v450 : Value).ownBlock)) (Kd.R_apart' (HO457.out) (Kd.N_typed HO451.out) (by decide)) (fun k_ hk => hk.2))).2.1 (Kd.R_F (Kd.R_mono (ok' := (fun k_ => some k_ ≠ (v450 : Value).ownBlock)) (Kd.R_apart' (HO457.out) (Kd.N_typed HO451.out) (by decide)) (fun k_ hk => hk.2))))) (Reps.one (show Kd.FK (Kd.slice 44 k44) _ _ y461 [.slice Ao81 y461.length co81] from (Kd.FK_slice_mk (Kd.R_reads' (Kd.R_mono (ok' := (fun k_ => some k_ ≠ (v450 : Value).ownBlock)) (Kd.R_apart' (HO463.out) (Kd.N_typed HO451.out) (by decide)) (fun k_ hk => hk.2))).2.1 (Kd.R_F (Kd.R_mono (ok' := (fun k_ => some k_ ≠ (v450 : Value).ownBlock)) (Kd.R_apart' (HO463.out) (Kd.N_typed HO451.out) (by decide)) (fun k_ hk => hk.2))))) (Reps.one (show Kd.FK (Kd.slice 44 k44) _ _ y467 [.slice Ao82 y467.length co82] from (Kd.FK_slice_mk (Kd.R_reads' (Kd.R_mono (ok' := (fun k_ => some k_ ≠ (v450 : Value).ownBlock)) (Kd.R_apart' (HO469.out) (Kd.N_typed HO451.out) (by decide)) (fun k_ hk => hk.2))).2.1 (Kd.R_F (Kd.R_mono (ok' := (fun k_ => some k_ ≠ (v450 : Value).ownBlock)) (Kd.R_apart' (HO469.out) (Kd.N_typed HO451.out) (by decide)) (fun k_ hk => hk.2))))) (Reps.none _ _))))); intro v471 w83 ho84 hb hg_ hnew_; clear hg_ hnew_; (first | rw [← Ny470.out] at ho84 | (simp only [Int.reduceToNat] at ho84; rw [← Ny470.out] at ho84)); have n0_ := Aside0.mk (Kd.N_elder' (by (with_reducible repeat (first | apply Kd.N_alloc | apply Kd.N_drewN | apply Kd.N_drew)); exact HO451.out) (Kd.N_base ho84) hb); have n1_ := Aside0.mk (Kd.N_lower ho84 (below_size (by repeat (first | (with_reducible first | exact HB.out | apply below_alloc | apply pw_below_drewN | apply below_drew1) | exact HB.out)))); have n2_ := Aside0.mk (below_step (by repeat (first | (with_reducible first | exact HB.out | apply below_alloc | apply pw_below_drewN | apply below_drew1) | exact HB.out)) hb); clear HO451; clear HB; clear HO457; clear HO463; clear HO469; have HO451 := n0_; have HO472 := n1_; have HB := n2_; clear n0_ n1_ n2_; clear hb ho84) | ((with_reducible refine gate_dst (N := 22) rfl ?_); (try (refine gate_guard (by rfl) ?_; dsimp only)); refine Kd.R_lit k40 _ 40 ?hg (N := 22) ?hd (xs := ([(⟨0, 1⟩ : S40), (⟨0, 2⟩ : S40), (⟨2, 0⟩ : S40)] : List (S40))) (inner := [.int .i64 0, .int .i64 1, .int .i64 0, .int .i64 2, .int .i64 2, .int .i64 0]) (ok := fun _ => True) (okp := fun _ => True) ?hr ?hp (fun _ hk => hk) trivial (Below.refl _ _) (Nat.le_refl _) (by simp) ?_; (case hd => rfl); (case hg => rfl); (case hr => first | (go_simp; done) | (go_simp; rfl)); (case hp => exact (Reps.c2 (show Kd.M k40 _ _ _ (⟨0, 1⟩ : S40) [.int .i64 0, .int .i64 1] from (k40_mkM _ _ _ (⟨0, 1⟩ : S40) )) (Reps.c2 (show Kd.M k40 _ _ _ (⟨0, 2⟩ : S40) [.int .i64 0, .int .i64 2] from (k40_mkM _ _ _ (⟨0, 2⟩ : S40) )) (Reps.c2 (show Kd.M k40 _ _ _ (⟨2, 0⟩ : S40) [.int .i64 2, .int .i64 0] from (k40_mkM _ _ _ (⟨2, 0⟩ : S40) )) (Reps.none _ _))))); intro v474 w85 ho86 hb hg_ hnew_; clear hg_ hnew_; (first | rw [← Ny473.out] at ho86 | (simp only [Int.reduceToNat] at ho86; rw [← Ny473.out] at ho86)); have n0_ := Aside0.mk (Kd.N_elder' (by (with_reducible repeat (first | apply Kd.N_alloc | apply Kd.N_drewN | apply Kd.N_drew)); exact HO451.out) (Kd.R_base ho86) hb); have n1_ := Aside0.mk (Kd.N_elder' (by (with_reducible repeat (first | apply Kd.N_alloc | apply Kd.N_drewN | apply Kd.N_drew)); exact HO472.out) (Kd.R_base ho86) hb); have n2_ := Aside0.mk (Kd.R_lower ho86 (below_size (by repeat (first | (with_reducible first | exact HB.out | apply below_alloc | apply pw_below_drewN | apply below_drew1) | exact HB.out)))); have n3_ := Aside0.mk (below_step (by repeat (first | (with_reducible first | exact HB.out | apply below_alloc | apply pw_below_drewN | apply below_drew1) | exact HB.out)) hb); clear HO451; clear HO472; clear HB; have HO451 := n0_; have HO472 := n1_; have HO475 := n2_; have HB := n3_; clear n0_ n1_ n2_ n3_; clear hb ho86; obtain ⟨Ao87, co87, eo87⟩ := Kd.R_slice HO475.out; subst eo87) | ((with_reducible refine gate_callee (f := 25) rfl ?_); refine goesL_ (some 24) rfl rfl Tryd.func25 (by kernel_rfl) rfl #[.int .i64 3, .slice Ao87 y473.length co87] rfl (by (try simp only [List.map_toArray, List.map_cons, List.map_nil]); first | done | rfl | (simp only [List.length_drop, List.length_take]; rfl)) ?_; (with_reducible refine (joiner_Alone.calls 3 _ _ y473 t476 _ ?side1 ?side2 A6.out).mono ?_); (case side1 => repeat (first | exact (Kd.R_reads' HO475.out).2.2 | (with_reducible refine Kd.C_alloc ?_ _) | (with_reducible refine Kd.C_drewN ?_ _) | (with_reducible refine Kd.C_drew ?_))); (case side2 => exact (Kd.R_reads' HO475.out).2.1); rintro e w88 ⟨v477, rfl, ho0, hb⟩; refine ⟨_, rfl, ?_⟩; have n0_ := Aside0.mk (Kd.N_elder' (by (with_reducible repeat (first | apply Kd.N_alloc | apply Kd.N_drewN | apply Kd.N_drew)); exact HO451.out) (Kd.R_base ho0) hb); have n1_ := Aside0.mk (Kd.N_elder' (by (with_reducible repeat (first | apply Kd.N_alloc | apply Kd.N_drewN | apply Kd.N_drew)); exact HO472.out) (Kd.R_base ho0) hb); have n2_ := Aside0.mk (Kd.R_below (by (with_reducible repeat (first | apply Kd.R_alloc | apply Kd.R_drewN | apply Kd.R_drew)); exact HO475.out) hb); have n3_ := Aside0.mk (Kd.R_lower ho0 (below_size (by repeat (first | (with_reducible first | exact HB.out | apply below_alloc | apply pw_below_drewN | apply below_drew1) | exact HB.out)))); have n4_ := Aside0.mk (below_step (by repeat (first | (with_reducible first | exact HB.out | apply below_alloc | apply pw_below_drewN | apply below_drew1) | exact HB.out)) hb); clear HO451; clear HO472; clear HO475; clear HB; have HO451 := n0_; have HO472 := n1_; have HO475 := n2_; have HO478 := n3_; have HB := n4_; clear n0_ n1_ n2_ n3_ n4_; (try clear hb); (try clear hb2); (try clear hk); (try clear hi); (try clear ho0); obtain ⟨Ao89, co89, eo89⟩ := Kd.N_slice HO451.out; subst eo89; obtain ⟨Ao90, co90, eo90⟩ := Kd.N_slice HO472.out; subst eo90) | ((with_reducible refine gate_callee (f := 22) rfl ?_); refine goesL_ (some 27) rfl rfl Tryd.func22 (by kernel_rfl) rfl #[.slice Ao89 y449.length co89, .slice Ao90 y470.length co90] rfl (by (try simp only [List.map_toArray, List.map_cons, List.map_nil]); first | done | rfl | (simp only [List.length_drop, List.length_take]; rfl)) ?_; (with_reducible refine (joiner_Nest.calls k _ _ y449 _ _ y470 t479 _ ?side1 ?side2 ?side3 ?side4 A7.out).mono ?_); (case side1 => repeat (first | exact (Kd.N_reads' HO451.out).2.2 | (with_reducible refine Kd.C_alloc ?_ _) | (with_reducible refine Kd.C_drewN ?_ _) | (with_reducible refine Kd.C_drew ?_))); (case side2 => exact (Kd.N_reads' HO451.out).2.1); (case side3 => repeat (first | exact (Kd.N_reads' HO472.out).2.2 | (with_reducible refine Kd.C_alloc ?_ _) | (with_reducible refine Kd.C_drewN ?_ _) | (with_reducible refine Kd.C_drew ?_))); (case side4 => exact (Kd.N_reads' HO472.out).2.1); rintro e w91 ⟨v480, rfl, ho0, hb⟩; refine ⟨_, rfl, ?_⟩; have n0_ := Aside0.mk (Kd.N_elder' (by (with_reducible repeat (first | apply Kd.N_alloc | apply Kd.N_drewN | apply Kd.N_drew)); exact HO451.out) (Kd.R_base ho0) hb); have n1_ := Aside0.mk (Kd.N_elder' (by (with_reducible repeat (first | apply Kd.N_alloc | apply Kd.N_drewN | apply Kd.N_drew)); exact HO472.out) (Kd.R_base ho0) hb); have n2_ := Aside0.mk (Kd.R_elder' (by (with_reducible repeat (first | apply Kd.R_alloc | apply Kd.R_drewN | apply Kd.R_drew)); exact HO475.out) (Kd.R_base ho0) hb); have n3_ := Aside0.mk (Kd.R_below (by (with_reducible repeat (first | apply Kd.R_alloc | apply Kd.R_drewN | apply Kd.R_drew)); exact HO478.out) hb); have n4_ := Aside0.mk (Kd.R_lower (Kd.R_new' ho0 (Kd.R_lt (by (with_reducible repeat (first | apply Kd.R_alloc | apply Kd.R_drewN | apply Kd.R_drew)); exact HO475.out))) (below_size (by repeat (first | (with_reducible first | exact HB.out | apply below_alloc | apply pw_below_drewN | apply below_drew1) | exact HB.out)))); have n5_ := Aside0.mk (below_step (by repeat (first | (with_reducible first | exact HB.out | apply below_alloc | apply pw_below_drewN | apply below_drew1) | exact HB.out)) hb); clear HO451; clear HO472; clear HO475; clear HO478; clear HB; have HO451 := n0_; have HO472 := n1_; have HO475 := n2_; have HO478 := n3_; have HO481 := n4_; have HB := n5_; clear n0_ n1_ n2_ n3_ n4_ n5_; (try clear hb); (try clear hb2); (try clear hk); (try clear hi); (try clear ho0); obtain ⟨Ao92, co92, eo92⟩ := Kd.R_slice HO481.out; subst eo92) | ((with_reducible refine gate_callee (f := 21) rfl ?_); refine goesL_ (some 29) rfl rfl Tryd.func21 (by kernel_rfl) rfl #[.slice Ao92 t479.length co92, .slice Ao87 y473.length co87] rfl (by (try simp only [List.map_toArray, List.map_cons, List.map_nil]); first | done | rfl | (simp only [List.length_drop, List.length_take]; rfl)) ?_; (with_reducible refine (tabellionref32_Same.calls k _ _ t479 _ _ y473 true _ ?side1 ?side2 ?side3 ?side4 A8.out).mono ?_); (case side1 => repeat (first | exact (Kd.R_reads' HO481.out).2.2 | (with_reducible refine Kd.C_alloc ?_ _) | (with_reducible refine Kd.C_drewN ?_ _) | (with_reducible refine Kd.C_drew ?_))); (case side2 => exact (Kd.R_reads' HO481.out).2.1); (case side3 => repeat (first | exact (Kd.R_reads' HO475.out).2.2 | (with_reducible refine Kd.C_alloc ?_ _) | (with_reducible refine Kd.C_drewN ?_ _) | (with_reducible refine Kd.C_drew ?_))); (case side4 => exact (Kd.R_reads' HO475.out).2.1); rintro e w' ⟨rfl, ⟨nd, rfl⟩⟩; refine ⟨_, rfl, ?_⟩) | (go_at_call 23; (with_reducible refine (joiner_Hash.calls _ _ y449 _ _ y470 t483 _ ?side1 ?side2 ?side3 ?side4 A10.out ?tab).mono ?_); (case tab => exact (tab_of HTAB.out (by repeat (first | (with_reducible first | exact HB.out | apply below_alloc | apply pw_below_drewN | apply below_drew1) | exact HB.out)))); (case side1 => repeat (first | exact (Kd.N_reads' HO451.out).2.2 | (with_reducible refine Kd.C_alloc ?_ _) | (with_reducible refine Kd.C_drewN ?_ _) | (with_reducible refine Kd.C_drew ?_))); (case side2 => exact (Kd.N_reads' HO451.out).2.1); (case side3 => repeat (first | exact (Kd.N_reads' HO472.out).2.2 | (with_reducible refine Kd.C_alloc ?_ _) | (with_reducible refine Kd.C_drewN ?_ _) | (with_reducible refine Kd.C_drew ?_))); (case side4 => exact (Kd.N_reads' HO472.out).2.1); rintro e w93 ⟨v484, rfl, ho0, hb⟩; have n0_ := Aside0.mk (Kd.N_elder' (by (with_reducible repeat (first | apply Kd.N_alloc | apply Kd.N_drewN | apply Kd.N_drew)); exact HO451.out) (Kd.R_base ho0) hb); have n1_ := Aside0.mk (Kd.N_elder' (by (with_reducible repeat (first | apply Kd.N_alloc | apply Kd.N_drewN | apply Kd.N_drew)); exact HO472.out) (Kd.R_base ho0) hb); have n2_ := Aside0.mk (Kd.R_elder' (by (with_reducible repeat (first | apply Kd.R_alloc | apply Kd.R_drewN | apply Kd.R_drew)); exact HO475.out) (Kd.R_base ho0) hb); have n3_ := Aside0.mk (Kd.R_below (by (with_reducible repeat (first | apply Kd.R_alloc | apply Kd.R_drewN | apply Kd.R_drew)); exact HO478.out) hb); have n4_ := Aside0.mk (Kd.R_elder' (by (with_reducible repeat (first | apply Kd.R_alloc | apply Kd.R_drewN | apply Kd.R_drew)); exact HO481.out) (Kd.R_base ho0) hb); have n5_ := Aside0.mk (Kd.R_lower (Kd.R_new' (Kd.R_new' ho0 (Kd.R_lt (by (with_reducible repeat (first | apply Kd.R_alloc | apply Kd.R_drewN | apply Kd.R_drew)); exact HO475.out))) (Kd.R_lt (by (with_reducible repeat (first | apply Kd.R_alloc | apply Kd.R_drewN | apply Kd.R_drew)); exact HO481.out))) (below_size (by repeat (first | (with_reducible first | exact HB.out | apply below_alloc | apply pw_below_drewN | apply below_drew1) | exact HB.out)))); have n6_ := Aside0.mk (below_step (by repeat (first | (with_reducible first | exact HB.out | apply below_alloc | apply pw_below_drewN | apply below_drew1) | exact HB.out)) hb); clear HO451; clear HO472; clear HO475; clear HO478; clear HO481; clear HB; have HO451 := n0_; have HO472 := n1_; have HO475 := n2_; have HO478 := n3_; have HO481 := n4_; have HO485 := n5_; have HB := n6_; clear n0_ n1_ n2_ n3_ n4_ n5_ n6_; (try clear hb); (try clear hb2); (try clear hk); (try clear hi); (try clear ho0); obtain ⟨Ao94, co94, eo94⟩ := Kd.R_slice HO485.out; subst eo94) | (go_at_call 21; (with_reducible refine (tabellionref32_Same.calls k _ _ t483 _ _ y473 true _ ?side1 ?side2 ?side3 ?side4 A11.out).mono ?_); (case side1 => repeat (first | exact (Kd.R_reads' HO485.out).2.2 | (with_reducible refine Kd.C_alloc ?_ _) | (with_reducible refine Kd.C_drewN ?_ _) | (with_reducible refine Kd.C_drew ?_))); (case side2 => exact (Kd.R_reads' HO485.out).2.1); (case side3 => repeat (first | exact (Kd.R_reads' HO475.out).2.2 | (with_reducible refine Kd.C_alloc ?_ _) | (with_reducible refine Kd.C_drewN ?_ _) | (with_reducible refine Kd.C_drew ?_))); (case side4 => exact (Kd.R_reads' HO475.out).2.1); rintro e w' ⟨rfl, ⟨nd, rfl⟩⟩) | (go_at_call 24; (with_reducible refine (joiner_Merge.calls _ _ y449 _ _ y470 t487 _ ?side1 ?side2 ?side3 ?side4 A13.out).mono ?_); (case side1 => repeat (first | exact (Kd.N_reads' HO451.out).2.2 | (with_reducible refine Kd.C_alloc ?_ _) | (with_reducible refine Kd.C_drewN ?_ _) | (with_reducible refine Kd.C_drew ?_))); (case side2 => exact (Kd.N_reads' HO451.out).2.1); (case side3 => repeat (first | exact (Kd.N_reads' HO472.out).2.2 | (with_reducible refine Kd.C_alloc ?_ _) | (with_reducible refine Kd.C_drewN ?_ _) | (with_reducible refine Kd.C_drew ?_))); (case side4 => exact (Kd.N_reads' HO472.out).2.1); rintro e w95 ⟨v488, rfl, ho0, hb⟩; have n0_ := Aside0.mk (Kd.N_elder' (by (with_reducible repeat (first | apply Kd.N_alloc | apply Kd.N_drewN | apply Kd.N_drew)); exact HO451.out) (Kd.R_base ho0) hb); have n1_ := Aside0.mk (Kd.N_elder' (by (with_reducible repeat (first | apply Kd.N_alloc | apply Kd.N_drewN | apply Kd.N_drew)); exact HO472.out) (Kd.R_base ho0) hb); have n2_ := Aside0.mk (Kd.R_elder' (by (with_reducible repeat (first | apply Kd.R_alloc | apply Kd.R_drewN | apply Kd.R_drew)); exact HO475.out) (Kd.R_base ho0) hb); have n3_ := Aside0.mk (Kd.R_below (by (with_reducible repeat (first | apply Kd.R_alloc | apply Kd.R_drewN | apply Kd.R_drew)); exact HO478.out) hb); have n4_ := Aside0.mk (Kd.R_elder' (by (with_reducible repeat (first | apply Kd.R_alloc | apply Kd.R_drewN | apply Kd.R_drew)); exact HO481.out) (Kd.R_base ho0) hb); have n5_ := Aside0.mk (Kd.R_elder' (by (with_reducible repeat (first | apply Kd.R_alloc | apply Kd.R_drewN | apply Kd.R_drew)); exact HO485.out) (Kd.R_base ho0) hb); have n6_ := Aside0.mk (Kd.R_lower (Kd.R_new' (Kd.R_new' (Kd.R_new' ho0 (Kd.R_lt (by (with_reducible repeat (first | apply Kd.R_alloc | apply Kd.R_drewN | apply Kd.R_drew)); exact HO475.out))) (Kd.R_lt (by (with_reducible repeat (first | apply Kd.R_alloc | apply Kd.R_drewN | apply Kd.R_drew)); exact HO481.out))) (Kd.R_lt (by (with_reducible repeat (first | apply Kd.R_alloc | apply Kd.R_drewN | apply Kd.R_drew)); exact HO485.out))) (below_size (by repeat (first | (with_reducible first | exact HB.out | apply below_alloc | apply pw_below_drewN | apply below_drew1) | exact HB.out)))); have n7_ := Aside0.mk (below_step (by repeat (first | (with_reducible first | exact HB.out | apply below_alloc | apply pw_below_drewN | apply below_drew1) | exact HB.out)) hb); clear HO451; clear HO472; clear HO475; clear HO478; clear HO481; clear HO485; clear HB; have HO451 := n0_; have HO472 := n1_; have HO475 := n2_; have HO478 := n3_; have HO481 := n4_; have HO485 := n5_; have HO489 := n6_; have HB := n7_; clear n0_ n1_ n2_ n3_ n4_ n5_ n6_ n7_; (try clear hb); (try clear hb2); (try clear hk); (try clear hi); (try clear ho0); obtain ⟨Ao96, co96, eo96⟩ := Kd.R_slice HO489.out; subst eo96) | (go_at_call 21; (with_reducible refine (tabellionref32_Same.calls k _ _ t487 _ _ y473 true _ ?side1 ?side2 ?side3 ?side4 A14.out).mono ?_); (case side1 => repeat (first | exact (Kd.R_reads' HO489.out).2.2 | (with_reducible refine Kd.C_alloc ?_ _) | (with_reducible refine Kd.C_drewN ?_ _) | (with_reducible refine Kd.C_drew ?_))); (case side2 => exact (Kd.R_reads' HO489.out).2.1); (case side3 => repeat (first | exact (Kd.R_reads' HO475.out).2.2 | (with_reducible refine Kd.C_alloc ?_ _) | (with_reducible refine Kd.C_drewN ?_ _) | (with_reducible refine Kd.C_drew ?_))); (case side4 => exact (Kd.R_reads' HO475.out).2.1); rintro e w' ⟨rfl, ⟨nd, rfl⟩⟩; obtain ⟨Ao97, co97, eo97⟩ := Kd.R_slice HO478.out; subst eo97))
     go_ret
     exact ⟨by first | rfl | (simp [errW_none, errW_some] <;> rfl) | (simp [*, errW_none, errW_some] <;> rfl), by repeat (first | (with_reducible first | exact HB.out | apply below_alloc | apply pw_below_drewN | apply below_drew1) | exact HB.out)⟩
   ·
    replace c15 := Bool.eq_false_iff.mpr c15
    subst c15
    have H1 : (some false) = some r := by rw [if_neg (show ¬ (false = true) by decide)] at H; exact H
    exact absurd H1 (by rw [HRT.out]; simp)
  ·
   replace c12 := Bool.eq_false_iff.mpr c12
   subst c12
   have H1 : (some false) = some r := by rw [if_neg (show ¬ (false = true) by decide)] at H; exact H
   exact absurd H1 (by rw [HRT.out]; simp)
 ·
  replace c9 := Bool.eq_false_iff.mpr c9
  subst c9
  have H1 : (some false) = some r := by rw [if_neg (show ¬ (false = true) by decide)] at H; exact H
  exact absurd H1 (by rw [HRT.out]; simp)

end Go.Proofs.YtnllgjloimoebaaDoor.X

/- tabellionlaw32.JoinerAlone, walked: it returns true. -/
set_option linter.unusedVariables false
set_option linter.unusedSimpArgs false
namespace Go.Proofs.YtnllgjloimoebaaDoor.X
open Go.RowKit Go.Proofs.YtnllgjloimoebaaDoorW.PrintWords Go.Proofs.YtnllgjloimoebaaDoorW.PrintLast Go.Proofs.YtnllgjloimoebaaDoorW.PrintMore

/-- the places counted: a block of whole numbers -/
def seenC (s : List Int) : Array Value := (s.map fun x => Value.int .i64 x).toArray
theorem seenC_set (s : List Int) (i : Nat) (x : Int) : (seenC s).setIfInBounds i (.int .i64 x) = seenC (s.set i x) := by
  unfold seenC
  rw [List.setIfInBounds_toArray, List.map_set]
theorem seenC_at {w : World} {g : Nat} {s : List Int} (h : w.heap[g]? = some (.cells (seenC s) 39 (0, 0))) (i : Nat) (hi : i < s.length) : w.cell? ⟨g, i, none⟩ = some (.int .i64 (s.getD i 0)) := by
  rw [blk_cell h i]
  unfold seenC
  rw [List.getElem?_toArray, List.getElem?_map, List.getD_eq_getElem?_getD, List.getElem?_eq_getElem hi]
  rfl
def cnt1 (b : Bool) : Int := if b then 1 else 0
def cnt2 (b : Bool) : Int := if b then 2 else 0
theorem aloneTo_pw (l : List S40) : ∀ n, (aloneTo l n).Pairwise (fun x y => x < y)
  | 0 => by simp [aloneTo]
  | n + 1 => by
    unfold aloneTo
    split
    · exact aloneTo_pw l n
    · rw [List.pairwise_append]
      refine ⟨aloneTo_pw l n, by simp, fun a ha b hb => ?_⟩
      rw [List.mem_singleton.1 hb]
      obtain ⟨i, hi, rfl, _⟩ := (mem_aloneTo l a n).1 ha
      omega

theorem rep_getD (n j : Nat) : (List.replicate n (0 : Int)).getD j 0 = 0 := by
  rw [List.getD_eq_getElem?_getD, List.getElem?_replicate]
  split <;> rfl
theorem set_getD (s : List Int) (q j : Nat) (x : Int) (hq : q < s.length) : (s.set q x).getD j 0 = if j = q then x else s.getD j 0 := by
  by_cases e : j = q
  · subst e; rw [if_pos rfl, getD_set_eq _ _ _ _ hq]
  · rw [if_neg e, getD_set_ne _ _ _ _ _ (fun h => e h.symm)]
theorem seen_step1 (ps : List S40) (s : List Int) (i : Nat) (z : S40) (hi : i < ps.length) (hz : z = rd_T40 ps (i : Int)) (h0 : 0 ≤ z.f0) (h40 : z.f0 < 40) (hl : s.length = 40) (hs : ∀ j, j < 40 → s.getD j 0 = cnt1 (firsts ps i (j : Int))) :
    (s.set z.f0.toNat 1).length = 40 ∧ ∀ j, j < 40 → (s.set z.f0.toNat 1).getD j 0 = cnt1 (firsts ps (i + 1) (j : Int)) := by
  refine ⟨by rw [List.length_set]; exact hl, fun j hj => ?_⟩
  have e : z = ps.getD i z40 := by rw [hz]; unfold rd_T40; rw [Int.toNat_natCast]
  rw [set_getD _ _ _ _ (by omega), firsts_succ ps i hi, ← e]
  by_cases h : j = z.f0.toNat
  · rw [if_pos h]
    simp only
    rw [if_pos (by omega)]; rfl
  · rw [if_neg h, hs j hj]
    simp only
    rw [if_neg (by omega)]
theorem mem_take_succ (ls : List Int) (i : Nat) (hi : i < ls.length) (x : Int) : x ∈ ls.take (i + 1) ↔ x ∈ ls.take i ∨ x = rd ls (i : Int) := by
  have e : rd ls (i : Int) = ls[i] := by unfold rd; rw [Int.toNat_natCast, List.getD_eq_getElem?_getD, List.getElem?_eq_getElem hi]; rfl
  rw [List.take_succ_eq_append_getElem hi, List.mem_append, List.mem_singleton, e]
theorem not_mem_take (ls : List Int) (hp : ls.Pairwise fun x y => x < y) (i : Nat) (hi : i < ls.length) : rd ls (i : Int) ∉ ls.take i := by
  intro h
  have e : rd ls (i : Int) = ls[i] := by unfold rd; rw [Int.toNat_natCast, List.getD_eq_getElem?_getD, List.getElem?_eq_getElem hi]; rfl
  obtain ⟨j, hj, h1⟩ := List.mem_iff_getElem.1 h
  rw [List.length_take] at hj
  rw [List.getElem_take, e] at h1
  have := List.pairwise_iff_getElem.1 hp j i (by omega) hi (by omega)
  omega
theorem seen_step2 (f : Int → Bool) (ls s : List Int) (i : Nat) (q : Int) (hi : i < ls.length) (hq : q = rd ls (i : Int)) (hp : ls.Pairwise fun x y => x < y) (h0 : 0 ≤ q) (h40 : q < 40) (hl : s.length = 40)
    (hs : ∀ j, j < 40 → s.getD j 0 = cnt1 (f (j : Int)) + cnt2 (decide ((j : Int) ∈ ls.take i))) :
    0 ≤ s.getD q.toNat 0 ∧ s.getD q.toNat 0 ≤ 1 ∧ (s.set q.toNat (s.getD q.toNat 0 + 2)).length = 40 ∧ ∀ j, j < 40 → (s.set q.toNat (s.getD q.toNat 0 + 2)).getD j 0 = cnt1 (f (j : Int)) + cnt2 (decide ((j : Int) ∈ ls.take (i + 1))) := by
  have hn := not_mem_take ls hp i hi
  have e : ((q.toNat : Nat) : Int) = q := by omega
  have hv := hs q.toNat (by omega)
  rw [e, decide_eq_false (by rw [hq]; exact hn)] at hv
  have hc : cnt2 false = 0 := rfl
  rw [hc] at hv
  refine ⟨?_, ?_, by rw [List.length_set]; exact hl, fun j hj => ?_⟩
  · rw [hv]; unfold cnt1; split <;> omega
  · rw [hv]; unfold cnt1; split <;> omega
  · rw [set_getD _ _ _ _ (by omega)]
    by_cases h : j = q.toNat
    · rw [if_pos h, hv, h, e, decide_eq_true ((mem_take_succ ls i hi q).2 (.inr hq))]
      show _ = _ + (2 : Int)
      omega
    · rw [if_neg h, hs j hj]
      congr 2
      rw [decide_eq_decide, mem_take_succ ls i hi]
      constructor
      · exact .inl
      · rintro (h1 | h1)
        · exact h1
        · exfalso; rw [← hq] at h1; omega
theorem seen_end (ps : List S40) (n : Nat) (s : List Int) (hs : ∀ j, j < 40 → s.getD j 0 = cnt1 (firsts ps ps.length (j : Int)) + cnt2 (decide ((j : Int) ∈ aloneTo ps n))) (i : Nat) (hi : i < n) (h40 : i < 40) : s.getD i 0 = 1 ∨ s.getD i 0 = 2 := by
  rw [hs i h40]
  cases h : firsts ps ps.length (i : Int) with
  | true =>
    rw [decide_eq_false (by
      rw [mem_aloneTo]
      rintro ⟨j, hj, h1, h2⟩
      have : i = j := by omega
      subst this
      rw [h] at h2; cases h2)]
    exact .inl rfl
  | false =>
    rw [decide_eq_true ((mem_aloneTo ps _ n).2 ⟨i, hi, rfl, h⟩)]
    exact .inr rfl

theorem meas_ {i n L : Nat} (h : i + n = L) (hl : i < L) : L - (i + 1) < n := by omega
theorem next_ {i n L : Nat} (h : i + n = L) (hl : i < L) : i + 1 + (L - (i + 1)) = L := by omega
theorem ge_of_lt_ {a b : Nat} (h : a < b) : a ≤ b := Nat.le_of_lt h
theorem idx_zero (i : Nat) (h : i = 0) : decide ((i : Int) > 0) = false ∧ decide (0 < (i : Int)) = false := by subst h; exact ⟨rfl, rfl⟩
theorem idx_pos (i n : Nat) (h : ¬ i = 0) (hi : i < n) (hn : n ≤ 40) : ∃ i', i = i' + 1 ∧ i' < n ∧ decide ((i : Int) > 0) = true ∧ decide (0 < (i : Int)) = true ∧ wrap64 ((i : Int) - 1) = (i' : Int) ∧ (0 : Int) ≤ (i' : Int) ∧ (i' : Int) < (n : Int) :=
  ⟨i - 1, by omega, by omega, decide_eq_true (by omega), decide_eq_true (by omega), by unfold wrap64; omega, by omega, by omega⟩
theorem wrap_one (i n : Nat) (hi : i < n) (hn : n ≤ 1600) : wrap64 ((i : Int) + 1) = (i : Int) + 1 := by unfold wrap64; omega
theorem wrap_two (v : Int) (h0 : 0 ≤ v) (h1 : v ≤ 1) : wrap64 (v + 2) = v + 2 := by unfold wrap64; omega
theorem pw_at (ls : List Int) (hp : ls.Pairwise fun x y => x < y) (i i' : Nat) (hi : i = i' + 1) (hl : i < ls.length) : rd ls (i' : Int) < rd ls (i : Int) := by
  have h1 := List.pairwise_iff_getElem.1 hp i' i (by omega) hl (by omega)
  unfold rd
  rw [Int.toNat_natCast, Int.toNat_natCast, List.getD_eq_getElem?_getD, List.getD_eq_getElem?_getD, List.getElem?_eq_getElem hl, List.getElem?_eq_getElem (by omega)]
  exact h1

set_option maxHeartbeats 8000000 in
set_option maxRecDepth 100000 in
theorem JoinerAlone_calls (a0 : Int) (A1 : Option Addr) (c1 : Nat) (l1 : List S40) (B0 : Option Addr) (b0 : Nat) (k0 : List (List S44)) (B1 : Option Addr) (b1 : Nat) (k1 : List (List S44)) (w : World)
    (hr1 : Kd.C k40 w A1 l1.length l1) (hc1 : l1.length ≤ c1) (hk0 : Kd.C (Kd.slice 44 k44) w B0 k0.length k0) (hb0 : k0.length ≤ b0) (hk1 : Kd.C (Kd.slice 44 k44) w B1 k1.length k1) (hb1 : k1.length ≤ b1)
    (hz1 : ∀ z ∈ l1, i64ok z.f0 = true) (hy0 : k0.all keyable = true) (hy1 : k1.all keyable = true) (haw : ∃ k, tabellionlaw32_awake.f k = some true) (htab : Tab w) :
    Calls Tryd.prog 6 #[.int .i64 a0, .slice A1 l1.length c1, .agg #[.slice B0 k0.length b0, .slice B1 k1.length b1]] w fun e w' => e = .returned (.bool true) ∧ Below w.heap.size w w' := by
  have HR1 := Aside0.mk hr1
  have HC1 := Aside0.mk hc1
  have HK0 := Aside0.mk hk0
  have HB0 := Aside0.mk hb0
  have HK1 := Aside0.mk hk1
  have HB1 := Aside0.mk hb1
  have HZ1 := Aside0.mk hz1
  have HY0 := Aside0.mk hy0
  have HY1 := Aside0.mk hy1
  have HAW := Aside0.mk haw
  have HT := Aside0.mk htab
  clear hr1 hc1 hk0 hb0 hk1 hb1 hz1 hy0 hy1 haw htab
  go_enter Tryd.func6, Tryd.ntmps6
  have HBX : Aside0 ((w.alloc (.cells #[.slice B0 k0.length b0, .slice B1 k1.length b1] 37)).heap[w.heap.size]? = some (.cells #[.slice B0 k0.length b0, .slice B1 k1.length b1] 37 (0, 0))) := ⟨blk_new _ _⟩
  have HB : Aside0 (Below w.heap.size w (w.alloc (.cells #[.slice B0 k0.length b0, .slice B1 k1.length b1] 37))) := ⟨below_alloc (Below.refl _ _) _⟩
  obtain ⟨kaw, hkaw⟩ := HAW.out
  have HKW := Aside0.mk hkaw
  clear hkaw
  by_cases h200 : a0 > 200
  · have h200b : decide (a0 > 200) = true := decide_eq_true h200
    go_wp2_with (go_at_call 19; refine (tabellionlaw32_awake.calls kaw true _ HKW.out (tab_of HT.out HB.out) rfl).mono ?_; rintro e w2 ⟨rfl, hb⟩; have HB2 := Aside0.mk (below_step HB.out hb); clear hb)
    go_ret
    exact ⟨rfl, HB2.out⟩
  have h200b : decide (a0 > 200) = false := decide_eq_false h200
  by_cases h100 : (l1.length : Int) > 100
  · have h100b : decide ((l1.length : Int) > 100) = true := decide_eq_true h100
    go_wp2_with (go_at_call 19; refine (tabellionlaw32_awake.calls kaw true _ HKW.out (tab_of HT.out HB.out) rfl).mono ?_; rintro e w2 ⟨rfl, hb⟩; have HB2 := Aside0.mk (below_step HB.out hb); clear hb)
    go_ret
    exact ⟨rfl, HB2.out⟩
  have h100b : decide ((l1.length : Int) > 100) = false := decide_eq_false h100
  by_cases h40 : (k0.length : Int) > 40
  · have h40b : decide ((k0.length : Int) > 40) = true := decide_eq_true h40
    go_wp2_with (go_at_call 19; refine (tabellionlaw32_awake.calls kaw true _ HKW.out (tab_of HT.out HB.out) rfl).mono ?_; rintro e w2 ⟨rfl, hb⟩; have HB2 := Aside0.mk (below_step HB.out hb); clear hb)
    go_ret
    exact ⟨rfl, HB2.out⟩
  have h40b : decide ((k0.length : Int) > 40) = false := decide_eq_false h40
  by_cases h41 : (k1.length : Int) > 40
  · have h41b : decide ((k1.length : Int) > 40) = true := decide_eq_true h41
    go_wp2_with (go_at_call 19; refine (tabellionlaw32_awake.calls kaw true _ HKW.out (tab_of HT.out HB.out) rfl).mono ?_; rintro e w2 ⟨rfl, hb⟩; have HB2 := Aside0.mk (below_step HB.out hb); clear hb)
    go_ret
    exact ⟨rfl, HB2.out⟩
  have h41b : decide ((k1.length : Int) > 40) = false := decide_eq_false h41
  have HFA : Aside0 (joiner_Alone.f a0 l1 = some (aloneP a0 l1)) := ⟨alone_f a0 l1 (by omega) (by omega) HZ1.out⟩
  obtain ⟨kra, hkra'⟩ := ralone_ev a0 l1 (by omega) (by omega)
  have hkra := hkra' kra (Nat.le_refl _)
  clear hkra'
  have HRA := Aside0.mk hkra
  clear hkra
  obtain ⟨xs, hxs⟩ : ∃ xs, xs = aloneP a0 l1 := ⟨_, rfl⟩
  rw [← hxs] at HFA HRA
  have HXL : Aside0 (xs.length ≤ 200) := ⟨by rw [hxs]; exact aloneP_len a0 l1 (by omega)⟩
  clear hxs
  go_wp2_with (first | (go_at_call 25; (with_reducible refine (joiner_Alone.calls a0 A1 c1 l1 xs _ (Kd.C_below HR1.out HB.out) HC1.out HFA.out).mono ?_); rintro e wa ⟨va, rfl, ho, hb⟩; obtain ⟨Aa, ca, ea⟩ := Kd.R_slice ho; subst ea; have HVA := Aside0.mk (Kd.R_lower ho (below_size HB.out)); have n0_ := Aside0.mk (blk_below HBX.out hb); have n1_ := Aside0.mk (below_step HB.out hb); clear HBX HB; have HBX := n0_; have HB := n1_; clear n0_ n1_; clear ho hb) | (go_at_call 26; (with_reducible refine (tabellionref32_Alone.calls kra a0 A1 c1 l1 xs _ (Kd.C_below HR1.out HB.out) HC1.out HRA.out).mono ?_); rintro e wb ⟨vb, rfl, ho, hb⟩; obtain ⟨Ab, cb, eb⟩ := Kd.R_slice ho; subst eb; have HVB := Aside0.mk (Kd.R_lower ho (below_size HB.out)); have n0_ := Aside0.mk (Kd.R_below HVA.out hb); have n1_ := Aside0.mk (blk_below HBX.out hb); have n2_ := Aside0.mk (below_step HB.out hb); clear HVA HBX HB; have HVA := n0_; have HBX := n1_; have HB := n2_; clear n0_ n1_ n2_; clear ho hb))
  clear HFA HRA
  go_loopg [9] xs.length (fun n v9 wr => ∃ i : Nat, v9 = .int .i64 i ∧ Aside0 (i + n = xs.length) ∧ Aside0 (Kd.R (Kd.int .i64) 3 wr w.heap.size (fun _ => True) (.slice Aa xs.length ca) xs) ∧ Aside0 (Kd.R (Kd.int .i64) 3 wr w.heap.size (fun _ => True) (.slice Ab xs.length cb) xs) ∧ Aside0 (wr.heap[w.heap.size]? = some (.cells #[.slice B0 k0.length b0, .slice B1 k1.length b1] 37 (0, 0))) ∧ Aside0 (Below w.heap.size w wr))
  case atStart => exact ⟨0, rfl, ⟨Nat.zero_add _⟩, HVA, HVB, HBX, HB⟩
  case round =>
    clear HVA HVB HBX HB
    obtain ⟨i, rfl, HI, HVA, HVB, HBX, HB⟩ := hrel
    have hi := HI.out
    have hxl : (xs.length : Int) ≤ 200 := by have := HXL.out; omega
    by_cases hlt : i < xs.length
    · obtain ⟨ada, ea, hxa⟩ := Kd.at_int (Kd.R_reads' HVA.out).2.2 (i : Int) (by omega) (by omega)
      obtain ⟨adb, eb, hxb⟩ := Kd.at_int (Kd.R_reads' HVB.out).2.2 (i : Int) (by omega) (by omega)
      cases ea
      cases eb
      have hkl : (i : Int) < (xs.length : Int) := by omega
      obtain ⟨p, hp⟩ : ∃ p, p = rd xs (i : Int) := ⟨_, rfl⟩
      rw [Int.toNat_natCast, ← hp] at hxa hxb
      clear hi hp
      go_wp2
      repeat (go_quiet (fail); try go_wp2)
      go_roundg (xs.length - (i + 1))
      case measure => exact meas_ HI.out hlt
      case rel => exact ⟨i + 1, (by first | rfl | (simp; done) | (simp [*]; done)), ⟨next_ HI.out hlt⟩, ⟨Kd.R_drewN HVA.out _⟩, ⟨Kd.R_drewN HVB.out _⟩, ⟨blk_drewN HBX.out _⟩, ⟨pw_below_drewN HB.out _⟩⟩
    · have hii : i = xs.length := by omega
      subst hii
      have hib : decide ((xs.length : Int) < (xs.length : Int)) = false := decide_eq_false (by omega)
      clear hi hlt HI HVA HVB
      obtain ⟨ps, hps⟩ : ∃ ps, ps = hashP k0 k1 k0.length := ⟨_, rfl⟩
      have HFH : Aside0 (joiner_Hash.f k0 k1 = some ps) := ⟨by rw [hps]; exact hash_f k0 k1 HY0.out HY1.out (by omega) (by omega)⟩
      have HOP : Aside0 (ps.length ≤ 1600 ∧ ∀ z ∈ ps, 0 ≤ z.f0 ∧ z.f0 < (k0.length : Int)) := ⟨by rw [hps]; exact own_pairs k0 k1 (by omega) (by omega)⟩
      have HN40 : Aside0 (k0.length ≤ 40) := ⟨by omega⟩
      obtain ⟨ls, hls⟩ : ∃ ls, ls = aloneP (k0.length : Int) ps := ⟨_, rfl⟩
      have HFL : Aside0 (joiner_Alone.f (k0.length : Int) ps = some ls) := ⟨by rw [hls]; exact alone_f _ ps HOP.out.1 (by omega) (fun z hz => i64ok_small _ _ (HOP.out.2 z hz) HN40.out)⟩
      have HOL : Aside0 (ls.length ≤ 40 ∧ ∀ z ∈ ls, 0 ≤ z ∧ z < (k0.length : Int)) := ⟨by rw [hls]; exact own_alone k0.length ps HN40.out⟩
      have HPS := Aside0.mk hps
      have HLS := Aside0.mk hls
      clear hps hls
      have hbc0 : wr.cell? ⟨w.heap.size, 0, none⟩ = some (.slice B0 k0.length b0) := (blk_cell HBX.out 0).trans rfl
      have hbc1 : wr.cell? ⟨w.heap.size, 1, none⟩ = some (.slice B1 k1.length b1) := (blk_cell HBX.out 1).trans rfl
      go_wp2_with (first | (go_at_call 23; (with_reducible refine (joiner_Hash.calls B0 b0 k0 B1 b1 k1 ps _ (Kd.C_below HK0.out HB.out) HB0.out (Kd.C_below HK1.out HB.out) HB1.out HFH.out (tab_of HT.out HB.out)).mono ?_); rintro e wc ⟨vc, rfl, ho, hb⟩; obtain ⟨Ac, cc, ec⟩ := Kd.R_slice ho; subst ec; have HVP := Aside0.mk (Kd.R_lower ho (below_size HB.out)); clear hbc0 hbc1; have n0_ := Aside0.mk (blk_below HBX.out hb); have n1_ := Aside0.mk (below_step HB.out hb); clear HBX HB; have HBX := n0_; have HB := n1_; clear n0_ n1_; clear ho hb; have hbc0 : wc.cell? ⟨w.heap.size, 0, none⟩ = some (.slice B0 k0.length b0) := (blk_cell HBX.out 0).trans rfl; have hbc1 : wc.cell? ⟨w.heap.size, 1, none⟩ = some (.slice B1 k1.length b1) := (blk_cell HBX.out 1).trans rfl) | (go_at_call 25; (with_reducible refine (joiner_Alone.calls (k0.length : Int) Ac cc ps ls _ (Kd.R_reads' HVP.out).2.2 (Kd.R_reads' HVP.out).2.1 HFL.out).mono ?_); rintro e wd ⟨vd, rfl, ho, hb⟩; obtain ⟨Ad, cd, ed⟩ := Kd.R_slice ho; subst ed; have HVL := Aside0.mk (Kd.R_lower ho (below_size HB.out)); clear hbc0 hbc1; have n0_ := Aside0.mk (Kd.R_below HVP.out hb); have n1_ := Aside0.mk (blk_below HBX.out hb); have n2_ := Aside0.mk (below_step HB.out hb); clear HVP HBX HB; have HVP := n0_; have HBX := n1_; have HB := n2_; clear n0_ n1_ n2_; clear ho hb))
      have HQE : Aside0 (ls.length ≤ 40) := ⟨HOL.out.1⟩
      have HPE : Aside0 (ps.length ≤ 1600) := ⟨HOP.out.1⟩
      have HPB : Aside0 (∀ z ∈ ps, 0 ≤ z.f0 ∧ z.f0 < (k0.length : Int)) := ⟨HOP.out.2⟩
      have HLB : Aside0 (∀ z ∈ ls, 0 ≤ z ∧ z < (k0.length : Int)) := ⟨HOL.out.2⟩
      have HLP : Aside0 (ls.Pairwise fun x y => x < y) := ⟨by rw [HLS.out]; exact aloneTo_pw ps _⟩
      obtain ⟨g, hg⟩ : ∃ g, g = wd.heap.size := ⟨_, rfl⟩
      have HG : Aside0 (w.heap.size < g) := ⟨by rw [hg]; exact blk_lt HBX.out⟩
      have HGN : Aside0 (w.heap.size ≠ g) := ⟨by have := HG.out; omega⟩
      have n0_ := Aside0.mk (Kd.R_alloc (Kd.R_elderB HVP.out g (by omega)) (.cells (seenC (List.replicate 40 0)) 39))
      have n1_ := Aside0.mk (Kd.R_alloc (Kd.R_elderB HVL.out g (by omega)) (.cells (seenC (List.replicate 40 0)) 39))
      have n2_ := Aside0.mk (blk_alloc HBX.out (.cells (seenC (List.replicate 40 0)) 39))
      have n3_ := Aside0.mk (below_alloc HB.out (.cells (seenC (List.replicate 40 0)) 39))
      have HSN : Aside0 ((wd.alloc (.cells (seenC (List.replicate 40 0)) 39)).heap[g]? = some (.cells (seenC (List.replicate 40 0)) 39 (0, 0))) := ⟨by rw [hg]; exact blk_new _ _⟩
      clear HVP HVL HBX HB HFH HFL
      have HVP := n0_
      have HVL := n1_
      have HBX := n2_
      have HB := n3_
      clear n0_ n1_ n2_ n3_
      rw [← hg]
      obtain ⟨w1, hw1⟩ : ∃ w1, w1 = wd.alloc (.cells (seenC (List.replicate 40 0)) 39) := ⟨_, rfl⟩
      change Code.wp _ _ _ _ (wd.alloc (.cells (seenC (List.replicate 40 0)) 39))
      rw [← hw1] at HVP HVL HBX HB HSN ⊢
      clear hw1 hg
      go_loopg [13] ps.length (fun n v13 wr => ∃ (i : Nat) (s : List Int), v13 = .int .i64 i ∧ Aside0 (i + n = ps.length) ∧ Aside0 (s.length = 40 ∧ ∀ j, j < 40 → s.getD j 0 = cnt1 (firsts ps i (j : Int))) ∧ Aside0 (wr.heap[g]? = some (.cells (seenC s) 39 (0, 0))) ∧ Aside0 (Kd.R k40 40 wr w.heap.size (fun k => True ∧ k ≠ g) (.slice Ac ps.length cc) ps) ∧ Aside0 (Kd.R (Kd.int .i64) 3 wr w.heap.size (fun k => True ∧ k ≠ g) (.slice Ad ls.length cd) ls) ∧ Aside0 (wr.heap[w.heap.size]? = some (.cells #[.slice B0 k0.length b0, .slice B1 k1.length b1] 37 (0, 0))) ∧ Aside0 (Below w.heap.size w wr))
      case atStart => exact ⟨0, List.replicate 40 0, rfl, ⟨Nat.zero_add _⟩, ⟨by simp, fun j hj => by rw [rep_getD]; simp [firsts, cnt1]⟩, HSN, HVP, HVL, HBX, HB⟩
      case round =>
        clear HSN HVP HVL HBX HB
        obtain ⟨i, s, rfl, HI, HS, HSN, HVP, HVL, HBX, HB⟩ := hrel
        have hi := HI.out
        have hpl : (ps.length : Int) ≤ 1600 := by have := HPE.out; omega
        have hbc0 : wr.cell? ⟨w.heap.size, 0, none⟩ = some (.slice B0 k0.length b0) := (blk_cell HBX.out 0).trans rfl
        have hgn : w.heap.size ≠ g := HGN.out
        by_cases hlt : i < ps.length
        · obtain ⟨ada, ea, hxa, hxa1⟩ := at_T40 (Kd.R_reads' HVP.out).2.2 (i : Int) (by omega) (by omega)
          cases ea
          obtain ⟨z, hz⟩ : ∃ z, z = rd_T40 ps (i : Int) := ⟨_, rfl⟩
          have hzm := HPB.out z (by rw [hz]; unfold rd_T40; rw [Int.toNat_natCast]; exact getD_mem _ _ _ hlt)
          have HZ := Aside0.mk hz
          rw [Int.toNat_natCast, ← hz] at hxa hxa1
          obtain ⟨hz0, hz1⟩ := hzm
          have hkl : (i : Int) < (ps.length : Int) := by omega
          have hz40 : z.f0 < 40 := by omega
          have hfz := blk_frozen HSN.out z.f0.toNat
          have hsc := seenC_at HSN.out z.f0.toNat (by have := HS.out.1; omega)
          clear hi hz
          go_wp2
          repeat (go_quiet (fail); try go_wp2)
          go_roundg (ps.length - (i + 1))
          case measure => exact meas_ HI.out hlt
          case rel => exact ⟨i + 1, s.set z.f0.toNat 1, (by first | rfl | (simp; done) | (simp [*]; done)), ⟨next_ HI.out hlt⟩, ⟨seen_step1 ps s i z hlt HZ.out hz0 hz40 HS.out.1 HS.out.2⟩, ⟨by rw [← seenC_set]; exact blk_set (blk_drewN HSN.out _) _ _⟩, ⟨Kd.R_far (Kd.R_drewN HVP.out _) (fun k hk => hk.2) _⟩, ⟨Kd.R_far (Kd.R_drewN HVL.out _) (fun k hk => hk.2) _⟩, ⟨blk_far (blk_drewN HBX.out _) HGN.out _⟩, ⟨below_set (pw_below_drewN HB.out _) (Nat.le_of_lt HG.out)⟩⟩
        · have hii : i = ps.length := by omega
          subst hii
          have hib : decide ((ps.length : Int) < (ps.length : Int)) = false := decide_eq_false (by omega)
          clear hi hlt HI HVP
          go_wp2
          have HSA : Aside0 (s.length = 40 ∧ ∀ j, j < 40 → s.getD j 0 = cnt1 (firsts ps ps.length (j : Int)) + cnt2 (decide ((j : Int) ∈ ls.take 0))) := ⟨HS.out.1, fun j hj => by rw [HS.out.2 j hj, List.take_zero]; simp [cnt2]⟩
          clear HS hbc0
          go_loopg [14] ls.length (fun n v14 wr => ∃ (i : Nat) (s : List Int), v14 = .int .i64 i ∧ Aside0 (i + n = ls.length) ∧ Aside0 (s.length = 40 ∧ ∀ j, j < 40 → s.getD j 0 = cnt1 (firsts ps ps.length (j : Int)) + cnt2 (decide ((j : Int) ∈ ls.take i))) ∧ Aside0 (wr.heap[g]? = some (.cells (seenC s) 39 (0, 0))) ∧ Aside0 (Kd.R (Kd.int .i64) 3 wr w.heap.size (fun k => True ∧ k ≠ g) (.slice Ad ls.length cd) ls) ∧ Aside0 (wr.heap[w.heap.size]? = some (.cells #[.slice B0 k0.length b0, .slice B1 k1.length b1] 37 (0, 0))) ∧ Aside0 (Below w.heap.size w wr))
          case atStart => exact ⟨0, s, rfl, ⟨Nat.zero_add _⟩, HSA, HSN, HVL, HBX, HB⟩
          case round =>
            clear HSN HVL HBX HB HSA
            obtain ⟨i, s, rfl, HI, HS, HSN, HVL, HBX, HB⟩ := hrel
            have hi := HI.out
            have hll : (ls.length : Int) ≤ 40 := by have := HQE.out; omega
            have hbc0 : wr.cell? ⟨w.heap.size, 0, none⟩ = some (.slice B0 k0.length b0) := (blk_cell HBX.out 0).trans rfl
            by_cases hlt : i < ls.length
            · obtain ⟨q, hq⟩ : ∃ q, q = rd ls (i : Int) := ⟨_, rfl⟩
              have hqm := HLB.out q (by rw [hq]; unfold rd; rw [Int.toNat_natCast]; exact getD_mem _ _ _ hlt)
              obtain ⟨hq0, hq1⟩ := hqm
              have hq40 : q < 40 := by omega
              obtain ⟨hv0, hv1, hst⟩ := seen_step2 (firsts ps ps.length) ls s i q hlt hq HLP.out hq0 hq40 HS.out.1 HS.out.2
              have HST := Aside0.mk hst
              obtain ⟨v, hv⟩ : ∃ v, v = s.getD q.toNat 0 := ⟨_, rfl⟩
              have hfz := blk_frozen HSN.out q.toNat
              have hsc := seenC_at HSN.out q.toNat (by have := HS.out.1; omega)
              rw [← hv] at HST hv0 hv1 hsc
              have hwv := wrap_two v hv0 hv1
              have hqb0 : decide (q < 0) = false := decide_eq_false (Int.not_lt.2 hq0)
              have hqb1 : decide ((k0.length : Int) ≤ q) = false := decide_eq_false (Int.not_le.2 hq1)
              have hkl : (i : Int) < (ls.length : Int) := Int.ofNat_lt.2 hlt
              have hwx := wrap_one i ls.length hlt (Nat.le_trans HQE.out (by decide))
              have hx0 : (0 : Int) ≤ (i : Int) := Int.natCast_nonneg i
              obtain ⟨ada, ea, hxa⟩ := Kd.at_int (Kd.R_reads' HVL.out).2.2 (i : Int) hx0 hkl
              cases ea
              rw [← hq] at hxa
              by_cases hz : i = 0
              · obtain ⟨hzb, hzc⟩ := idx_zero i hz
                clear hi hq hst hv hz hzc hv0 hv1 hq40 hll
                generalize hgx : (i : Int) = xi at hkl hwx hx0 hxa hzb ⊢
                have HGX := Aside0.mk hgx
                clear hgx
                go_wp2
                repeat (go_quiet (fail); try go_wp2)
                have hgx := HGX.out
                clear HGX
                subst hgx
                go_roundg (ls.length - (i + 1))
                case measure => exact meas_ HI.out hlt
                case rel => exact ⟨i + 1, s.set q.toNat (v + 2), (by first | rfl | (simp; done) | (simp [*]; done)), ⟨next_ HI.out hlt⟩, HST, ⟨by rw [← seenC_set]; exact blk_set (blk_drewN HSN.out _) _ _⟩, ⟨Kd.R_far (Kd.R_drewN HVL.out _) (fun k hk => hk.2) _⟩, ⟨blk_far (blk_drewN HBX.out _) HGN.out _⟩, ⟨below_set (pw_below_drewN HB.out _) (Nat.le_of_lt HG.out)⟩⟩
              · obtain ⟨i', hi', hil, hzb, hzc, hwi, hi0, hi1⟩ := idx_pos i ls.length hz hlt HQE.out
                obtain ⟨adb, eb, hxb⟩ := Kd.at_int (Kd.R_reads' HVL.out).2.2 (i' : Int) hi0 hi1
                cases eb
                obtain ⟨u, hu⟩ : ∃ u, u = rd ls (i' : Int) := ⟨_, rfl⟩
                rw [← hu] at hxb
                have huq : u < q := by rw [hu, hq]; exact pw_at ls HLP.out i i' hi' hlt
                have huqb : decide (q ≤ u) = false := decide_eq_false (Int.not_le.2 huq)
                clear hi hq hst hv hu hi' hz hil hzc hv0 hv1 hll huq
                generalize hgx : (i : Int) = xi at hkl hwx hx0 hxa hzb hwi ⊢
                have HGX := Aside0.mk hgx
                clear hgx
                generalize (i' : Int) = yi at hwi hxb hi0 hi1
                go_wp2
                repeat (go_quiet (fail); try go_wp2)
                have hgx := HGX.out
                clear HGX
                subst hgx
                go_roundg (ls.length - (i + 1))
                case measure => exact meas_ HI.out hlt
                case rel => exact ⟨i + 1, s.set q.toNat (v + 2), (by first | rfl | (simp; done) | (simp [*]; done)), ⟨next_ HI.out hlt⟩, HST, ⟨by rw [← seenC_set]; exact blk_set (blk_drewN HSN.out _) _ _⟩, ⟨Kd.R_far (Kd.R_drewN HVL.out _) (fun k hk => hk.2) _⟩, ⟨blk_far (blk_drewN HBX.out _) HGN.out _⟩, ⟨below_set (pw_below_drewN HB.out _) (Nat.le_of_lt HG.out)⟩⟩
            · have hii : i = ls.length := by omega
              subst hii
              have hib : decide ((ls.length : Int) < (ls.length : Int)) = false := decide_eq_false (by omega)
              rw [List.take_length] at HS
              have HEND := Aside0.mk (seen_end ps k0.length s (by have h_ := HS.out.2; rw [HLS.out] at h_; unfold aloneP at h_; rw [Int.toNat_natCast] at h_; exact h_))
              have HSL := Aside0.mk HS.out.1
              clear hi hlt HI HVL HS hll
              go_wp2
              clear hbc0
              go_loopg [15] k0.length (fun n v15 wr => ∃ (i : Nat), v15 = .int .i64 i ∧ Aside0 (i + n = k0.length) ∧ Aside0 (wr.heap[g]? = some (.cells (seenC s) 39 (0, 0))) ∧ Aside0 (wr.heap[w.heap.size]? = some (.cells #[.slice B0 k0.length b0, .slice B1 k1.length b1] 37 (0, 0))) ∧ Aside0 (Below w.heap.size w wr))
              case atStart => exact ⟨0, rfl, ⟨Nat.zero_add _⟩, HSN, HBX, HB⟩
              case round =>
                clear HSN HBX HB
                obtain ⟨i, rfl, HI, HSN, HBX, HB⟩ := hrel
                have hi := HI.out
                have hbc0 : wr.cell? ⟨w.heap.size, 0, none⟩ = some (.slice B0 k0.length b0) := (blk_cell HBX.out 0).trans rfl
                by_cases hlt : i < k0.length
                · have hkl : (i : Int) < (k0.length : Int) := by omega
                  have hk40 : (i : Int) < 40 := by omega
                  have hx0 : (0 : Int) ≤ (i : Int) := by omega
                  have hsc := seenC_at HSN.out i (by have := HSL.out; omega)
                  have hwx : wrap64 ((i : Int) + 1) = (i : Int) + 1 := by unfold wrap64; omega
                  rcases HEND.out i hlt (by omega) with hv | hv
                  · rw [hv] at hsc
                    clear hi hv
                    go_wp2
                    repeat (go_quiet (fail); try go_wp2)
                    go_roundg (k0.length - (i + 1))
                    case measure => exact meas_ HI.out hlt
                    case rel => exact ⟨i + 1, (by first | rfl | (simp; done) | (simp [*]; done)), ⟨next_ HI.out hlt⟩, HSN, HBX, HB⟩
                  · rw [hv] at hsc
                    clear hi hv
                    go_wp2
                    repeat (go_quiet (fail); try go_wp2)
                    go_roundg (k0.length - (i + 1))
                    case measure => exact meas_ HI.out hlt
                    case rel => exact ⟨i + 1, (by first | rfl | (simp; done) | (simp [*]; done)), ⟨next_ HI.out hlt⟩, HSN, HBX, HB⟩
                · have hii : i = k0.length := by omega
                  subst hii
                  have hib2 : decide ((k0.length : Int) < (k0.length : Int)) = false := decide_eq_false (by omega)
                  clear hi hlt
                  go_wp2_with (go_at_call 19; refine (tabellionlaw32_awake.calls kaw true _ HKW.out (tab_of HT.out HB.out) rfl).mono ?_; rintro e w2 ⟨rfl, hb⟩; have HB2 := Aside0.mk (below_step HB.out hb); clear hb)
                  go_ret
                  exact ⟨rfl, HB2.out⟩
end Go.Proofs.YtnllgjloimoebaaDoor.X

/- The page's example of chapter 32. -/
set_option linter.unusedVariables false
set_option linter.unusedSimpArgs false
namespace Go.Proofs.YtnllgjloimoebaaDoor.X
open Go.RowKit Go.Proofs.YtnllgjloimoebaaDoorW.PrintWords

def ex32l : List (List S44) := [[⟨2, 1, ⟨#[]⟩⟩], [⟨0, 0, ⟨#[]⟩⟩], [⟨2, 2, ⟨#[]⟩⟩]]
def ex32r : List (List S44) := [[⟨2, 2, ⟨#[]⟩⟩], [⟨2, 1, ⟨#[]⟩⟩], [⟨2, 1, ⟨#[]⟩⟩]]
def ex32w : List S40 := [⟨0, 1⟩, ⟨0, 2⟩, ⟨2, 0⟩]
theorem ex32_nest : nestP ex32l ex32r = ex32w := by
  simp [nestP, nestFrom, rowFrom, ex32l, ex32r, ex32w, meetP_iff, wholeP, nullV]
theorem ex32_alone : aloneP 3 ex32w = [1] := by
  simp [aloneP, aloneTo, ex32w, firsts]
theorem awake32 : Ev (fun k => tabellionlaw32_awake.f k) true := by
  unfold tabellionlaw32_awake.f value_Num.f
  refine Ev.bind (v := (2, 1, (⟨#[]⟩ : ByteArray))) (Ev.const _) ?_
  refine Ev.bind (v := (2, 2, (⟨#[]⟩ : ByteArray))) (Ev.const _) ?_
  refine Ev.bind (v := ex32l) (Ev.const _) ?_
  refine Ev.bind (v := (2, 2, (⟨#[]⟩ : ByteArray))) (Ev.const _) ?_
  refine Ev.bind (v := (2, 1, (⟨#[]⟩ : ByteArray))) (Ev.const _) ?_
  refine Ev.bind (v := (2, 1, (⟨#[]⟩ : ByteArray))) (Ev.const _) ?_
  refine Ev.bind (v := ex32r) (Ev.const _) ?_
  refine Ev.bind (v := ex32w) (Ev.const _) ?_
  refine Ev.bind (v := aloneP 3 ex32w) (Ev.of fun _ => by unfold joiner_Alone.f; rw [if_pos (by decide)]) ?_
  rw [ex32_alone]
  have hl : lens ex32l := ⟨by decide, by decide⟩
  have hr : lens ex32r := ⟨by decide, by decide⟩
  have hok : ((ex32l.all keyable && ex32r.all keyable) && (decide (ex32l.length ≤ 1048576) && decide (ex32r.length ≤ 1048576))) = true := by decide
  have hlen : ex32w.length ≤ 1099511627776 := by decide
  refine Ev.bind (nest_ev ex32l ex32r hl hr) ?_
  rw [ex32_nest]
  refine Ev.bind (same_ev ex32w hlen) ?_
  refine Ev.congr ?_ (fun k => by rw [if_pos rfl])
  refine Ev.bind (v := hashP ex32l ex32r ex32l.length) (Ev.of fun _ => by unfold joiner_Hash.f; rw [if_pos hok]) ?_
  rw [hashP_eq, ex32_nest]
  refine Ev.bind (same_ev ex32w hlen) ?_
  refine Ev.congr ?_ (fun k => by rw [if_pos rfl])
  refine Ev.bind (v := mergeP ex32l ex32r) (Ev.of fun _ => by unfold joiner_Merge.f; rw [if_pos hok]) ?_
  rw [mergeP_eq, ex32_nest]
  refine Ev.bind (same_ev ex32w hlen) ?_
  refine Ev.congr ?_ (fun k => by rw [if_pos rfl])
  exact Ev.congr (Ev.const true) (fun k => by rfl)

theorem keyable_shorts {l : List (List S44)} (h : l.all keyable = true) (hl : l.length ≤ 1048576) : shorts l ∧ lens l := by
  rw [List.all_eq_true] at h
  exact ⟨⟨by omega, fun r hr => keyable_short (h r hr)⟩, hl, fun r hr => (keyable_len (h r hr)).2⟩
end Go.Proofs.YtnllgjloimoebaaDoor.X

/- JoinerAlone: the row's statement for what is of bulk at most 1048576, and its card: the walk, the plain law, the opening and the shutting joined. -/
set_option linter.unusedVariables false
namespace Go.Proofs.YtnllgjloimoebaaDoor.joinerAlone
open Go.ChangeShapes Go.WideShapes Go.ChangeAt Go.RowKit Go.Proofs.YtnllgjloimoebaaDoorW.PrintWords Go.Proofs.YtnllgjloimoebaaDoor.X

theorem laidOut : laidOutB Tryd.prog = true := by kernel_rfl

set_option maxRecDepth 100000 in
/-- WHAT THE WALK AND THE PLAIN LAW GIVE, FOR EVERY ARGUMENT WITHIN THE BOUND AND EVERY WORLD THAT HOLDS THE TABLES. -/
theorem contract (H : Type) (enc : TypeId × Value → H) (W : World) (base : Nat) (args : Array Value) (ds gs : List (DataW H)) (before : List MemPlace)
    (hval : ∀ (j : Nat) t v, Tryd.f6.params[j]? = some t → args[j]? = some v → Value.okWide Tryd.prog W .any base t v)
    (hW : DataW.Whole enc Tryd.prog Tryd.f6.params.toList Rows.joinerAloneSpec.vars false W args.toList ds gs before) (hbk : Rows.uptoSmall H (ds ++ gs) = true) (hL : laidMetH Tryd.prog Rows.joinerAloneUptoRow.laid W) :
    Calls Tryd.prog 6 args W fun e W' => ∃ v, e = .returned v ∧ Rows.joinerAloneSpec.post enc Tryd.prog Tryd.f6 false true false false W args v W' := by
  have hW' := hW
  obtain ⟨p, q, hA0, hV, rfl, hfz, hnd⟩ := hW
  have hlt := hW'.lt
  have hA : DataW.TrodAll enc Tryd.prog W 0 (fun _ => true) true Tryd.f6.params.toList args.toList ds p := hA0
  rw [Tryd.params6] at hA hval
  obtain ⟨v0, vs0, d0, ds0, p0, q0, hargs0, rfl, rfl, h0, r0⟩ := trodAll_cons hA
  obtain ⟨v1, vs1, d1, ds1, p1, q1, hargs1, rfl, rfl, h1, r1⟩ := trodAll_cons r0
  obtain ⟨v2, vs2, d2, ds2, p2, q2, hargs2, rfl, rfl, h2, r2⟩ := trodAll_cons r1
  obtain ⟨rfl, rfl, rfl⟩ := trodAll_nil r2
  obtain rfl : args = #[v0, v1, v2] := by cases args; simp_all
  obtain ⟨rfl, rfl⟩ := trodVars_none hV
  obtain ⟨n0, rfl⟩ := okWide_int Tryd.underlying3 (hval 0 3 v0 rfl rfl)
  obtain ⟨a1, len1, cap1, rfl⟩ := okWide_slice Tryd.underlying34 (hval 1 34 v1 rfl rfl)
  obtain ⟨m2, rfl⟩ := okWide_two (hval 2 37 v2 rfl rfl)
  clear hA0
  have hbs : Rows.uptoBulk d0 ≤ 1048576 ∧ Rows.uptoBulk d1 ≤ 1048576 ∧ Rows.uptoBulk d2 ≤ 1048576 := by
    simp only [Rows.uptoSmall, List.append_nil, Rows.uptoBulkAll, decide_eq_true_eq] at hbk
    omega
  obtain ⟨hb0, hb1, hb2⟩ := hbs
  obtain ⟨fuel0, ht0⟩ := h0
  have hn0 : i64ok n0 = true := open_int ht0
  obtain ⟨fuel1, ht1⟩ := h1
  obtain ⟨A1, c1, l1, e1, hlc1, hC1, hfit1⟩ := open_pairs ht1 hb1
  have ee1 : Value.slice a1 len1 cap1 = Value.slice A1 l1.length c1 := by simpa [Value.cells] using e1
  rw [ee1] at ht1 hW' ⊢
  obtain ⟨fuel2, ht2⟩ := h2
  obtain ⟨A20, c20, l20, A21, c21, l21, e2, hlc20, hC20, hfit20, hlc21, hC21, hfit21⟩ := open_two ht2 hb2
  subst e2
  have htab : Tab W := tab_of_laid hL
  obtain ⟨k, hk⟩ := awake32
  refine (JoinerAlone_calls n0 A1 c1 l1 A20 c20 l20 A21 c21 l21 W hC1 hlc1 hC20 hlc20 hC21 hlc21 hfit1 (rowsFit_all hfit20).1 (rowsFit_all hfit21).1 ⟨k, hk k (Nat.le_refl _)⟩ htab).mono fun e W' ⟨he, hb⟩ => ?_
  subst he
  simp only [List.append_nil] at hW' hlt
  have hargs2 : DataW.TrodAll enc Tryd.prog W' 0 (fun b => decide (b < W.heap.size)) true [3, 34, 37] [.int .i64 n0, .slice A1 l1.length c1, .agg #[.slice A20 l20.length c20, .slice A21 l21.length c21]] [d0, d1, d2] (p0 ++ (p1 ++ (p2 ++ []))) :=
    (trodAll_cons_mk (Below.trod laidOut (by kernel_rfl) (of_decide_eq_true (by kernel_rfl)) ⟨fuel0, ht0⟩ hb (fun x hx => hlt x (by simp [hx]))) (trodAll_cons_mk (Below.trod laidOut (by kernel_rfl) (of_decide_eq_true (by kernel_rfl)) ⟨fuel1, ht1⟩ hb (fun x hx => hlt x (by simp [hx]))) (trodAll_cons_mk (Below.trod laidOut (by kernel_rfl) (of_decide_eq_true (by kernel_rfl)) ⟨fuel2, ht2⟩ hb (fun x hx => hlt x (by simp [hx]))) trodAll_mk0)))
  refine ⟨_, rfl, _, _, _, [], _, [], hW', ?_, hargs2, rfl, hb.frame _, fun h => by cases h⟩
  exact trodAll_cons_mk (shut_bool Tryd.underlying4 _) trodAll_mk0
theorem reads (os : Os) {H : Type} (enc : TypeId × Value → H) : ∃ places, DataW.whole enc Tryd.prog ((laidWorld os).forCall (fun _ _ => 0) ⟨#[], #[.int .i64 0, .slice none 0 0, .agg #[.slice none 0 0, .slice none 0 0]], []⟩).memory Tryd.f6.params.toList Rows.joinerAloneSpec.vars false (#[.int .i64 0, .slice none 0 0, .agg #[.slice none 0 0, .slice none 0 0]] : Array Value).toList 8 = some ([.lit (.int .i64 0), .nil, .agg [.nil, .nil]], [], places) :=
  ⟨[], by kernel_rfl⟩
theorem laid_met (os : Os) : laidMet Tryd.prog laidList ((laidWorld os).forCall (fun _ _ => 0) ⟨#[], #[.int .i64 0, .slice none 0 0, .agg #[.slice none 0 0, .slice none 0 0]], []⟩).memory :=
  laidMet_of_run3 8 (by kernel_rfl) (by kernel_rfl) (by kernel_rfl)

set_option maxRecDepth 100000 in
theorem liftedUpto (os : Os) (started : os.Started) (H : Type) (enc : TypeId × Value → H) (F : Stop.Interp) :
    ReturnsInHanded {} Tryd.checked os 6 .any ((Rows.OpenSpec.upto Rows.joinerAloneSpec).preRow enc Tryd.prog Tryd.f6 Rows.joinerAloneUptoRow.domain false Rows.joinerAloneUptoRow.laid) (((Rows.OpenSpec.upto Rows.joinerAloneSpec).at F).post enc Tryd.prog Tryd.f6 false true false false) := by
  obtain ⟨places, hx⟩ := reads os enc
  refine returnsInHanded_of_row (C := Tryd.checked) (s := Rows.OpenSpec.upto Rows.joinerAloneSpec) own started (by kernel_rfl) Tryd.func6
    (witness_row_at (enc := enc) (C := Tryd.checked) false (laidWorld os) #[.int .i64 0, .slice none 0 0, .agg #[.slice none 0 0, .slice none 0 0]] rfl (by kernel_rfl) (by kernel_rfl) (by kernel_rfl)
      (OpenSpec.preRow_of_cond 8 hx (by kernel_rfl) (fun k hk => by cases hk; kernel_rfl) (by kernel_rfl) (laid_met os))) ?_
  intro W base args ds gs before hval hW _ hcond _ hL _ _
  exact contract H enc W base args ds gs before hval hW (hcond _ rfl) hL

theorem saidUpto : Rows.JoinerAloneUptoSaid :=
  OpenClaim.holds_of_cond 6 Tryd.f6 rfl rfl rfl rfl rfl rfl rfl ⟨rfl, rfl, rfl, rfl, rfl⟩ rfl rfl rfl rfl rfl (by kernel_rfl) Tryd.func6 (by kernel_rfl)
    (of_decide_eq_true (by kernel_rfl)) (by unfold Func.isWrapper; first | (rw [if_pos (by decide +kernel)]; kernel_rfl) | (rw [if_neg (by decide +kernel)]; exact ⟨rfl, rfl⟩))
    (fun os started H enc _ F => by rw [OpenClaim.pre_eq_preRow]; exact liftedUpto os started H enc F)

/-- No parameter wants a stand-in; the program's own looks are off: what the card asks. -/
theorem plain (f : FuncId) (fn : Func) (hf : Tryd.pinned.checked.prog.funcNamed Rows.joinerAloneUptoRow.func = some f) (hfn : Tryd.pinned.checked.prog.funcs[f]? = some fn) :
    false = Tryd.pinned.checked.prog.looks [] ∧ ∀ (j : Nat) t, fn.params[j]? = some t → Tryd.pinned.checked.prog.wantsStandIn t = false := by
  obtain rfl : f = 6 := Option.some.inj ((show Tryd.prog.funcNamed Rows.joinerAloneUptoRow.func = some 6 by kernel_rfl).symm.trans hf) |>.symm
  obtain rfl : fn = Tryd.f6 := (Option.some.inj (Tryd.func6.symm.trans hfn)).symm
  refine ⟨by kernel_rfl, fun j t ht => ?_⟩
  rw [Tryd.params6] at ht
  have hm : t = 3 ∨ t = 34 ∨ t = 37 := by simpa using Array.mem_of_getElem? ht
  rcases hm with rfl | rfl | rfl
  · exact (show Tryd.prog.wantsStandIn 3 = false by kernel_rfl)
  · exact (show Tryd.prog.wantsStandIn 34 = false by kernel_rfl)
  · exact (show Tryd.prog.wantsStandIn 37 = false by kernel_rfl)

/-- THE SECOND FORM's CARD -/
theorem cardUpto : Rows.JoinerAloneUptoCardSaid :=
  Claim7.holds_tied_plain_at .later [] _ _ _ _ saidUpto (fun _ h => by cases h) (by kernel_rfl) (fun _ h => by cases h) joinerAloneUpto_row_tie rfl ⟨rfl, rfl⟩ (by kernel_rfl) rfl plain (by kernel_rfl)
end Go.Proofs.YtnllgjloimoebaaDoor.joinerAlone
