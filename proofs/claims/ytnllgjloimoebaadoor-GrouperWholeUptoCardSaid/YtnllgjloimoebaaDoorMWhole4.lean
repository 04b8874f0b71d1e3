/- GrouperWhole returns true for every list of rows whose bulk is at most 1048576, and leaves its input as it was. Part 5 of 5. -/
import Derived.Test.YtnllgjloimoebaaDoorMWhole0
import Derived.Test.YtnllgjloimoebaaDoorMWhole1
import Derived.Test.YtnllgjloimoebaaDoorMWhole2
import Derived.Test.YtnllgjloimoebaaDoorMWhole3
import Derived.Test.YtnllgjloimoebaaDoorCards
import Derived.Test.YtnllgjloimoebaaDoorTie
import Derived.WalkKit
import Derived.ProofKit
import Derived.OpenShut
import Derived.Carry

-- By xprint.py (this session's own program over the kit's print): not trusted: Lean checks it.
namespace Go.Proofs.YtnllgjloimoebaaDoor.X
open Go.RowKit Go.Proofs.YtnllgjloimoebaaDoorW.PrintWords Go.Proofs.YtnllgjloimoebaaDoorW.PrintLast Go.Proofs.YtnllgjloimoebaaDoorW.PrintMore
attribute [local go_sem] max2_int min2_int max_two min_two max_three min_three max_four min_four   -- for this text's walks alone
set_option linter.unusedVariables false
set_option linter.unusedSimpArgs false

/-! ### tabellionref03_List: function 15 -/
mutual
def tabellionref03_List.l0 : Nat → List (List (S44)) → List (List (S44)) → Int → Option (Bool)
 | 0, _, _, _ => none
 | k + 1, x0, x1, x5 => if x5 < (x0.length : Int) then (tabellionref03_List.j1 k x0 x1 x5 (decide (x5 < (x1.length : Int)))) else (tabellionref03_List.j1 k x0 x1 x5 false)
def tabellionref03_List.j1 : Nat → List (List (S44)) → List (List (S44)) → Int → Bool → Option (Bool)
 | 0, _, _, _, _ => none
 | k + 1, x0, x1, x5, x15 => if x15 = true then (if 0 ≤ x5 then (if x5 < (x0.length : Int) then (if x5 < (x1.length : Int) then ((tabellionref03_Orders.f k (rd_L4 x0 x5) (rd_L4 x1 x5)).bind fun t281 => (if t281 = 0 then (tabellionref03_List.l0 k x0 x1 (wrap64 (x5 + 1))) else (some false))) else (none)) else (none)) else (none)) else (some ((x0.length : Int) == (x1.length : Int)))
end
def tabellionref03_List.f (k : Nat) (l0 : List (List (S44))) (l1 : List (List (S44))) : Option (Bool) := tabellionref03_List.l0 k l0 l1 0
def tabellionref03_List.T4 : Bool × List (List Nat × List Nat) := (true, [([], []), ([], []), ([0, 1], [0, 1]), ([2], [2]), ([], []), ([], []), ([4, 5], [4, 5]), ([6], [6]), ([3, 7], [3, 7]), ([8], [8])])
def tabellionref03_List.B4 : List Nat := [0, 0, 3, 7, 0, 0, 48, 112, 255, 511]
theorem tabellionref03_List.tab4 : rtab .any (opsOf Tryd.f15 4) = tabellionref03_List.T4 := by kernel_rfl
theorem tabellionref03_List.bits4 : waitsOk tabellionref03_List.T4.2 tabellionref03_List.B4 = true := by kernel_rfl
end Go.Proofs.YtnllgjloimoebaaDoor.X

-- By xprint.py (this session's own program over the kit's print): not trusted: Lean checks it.
namespace Go.Proofs.YtnllgjloimoebaaDoor.X
open Go.RowKit Go.Proofs.YtnllgjloimoebaaDoorW.PrintWords Go.Proofs.YtnllgjloimoebaaDoorW.PrintLast Go.Proofs.YtnllgjloimoebaaDoorW.PrintMore
attribute [local go_sem] max2_int min2_int max_two min_two max_three min_three max_four min_four   -- for this text's walks alone
set_option linter.unusedVariables false
set_option linter.unusedSimpArgs false

/-! ### tabellionref33_Distinct: function 17 -/
def tabellionref33_Distinct.l0 : Nat → List (List (S44)) → List (List Int) → List (List (S44)) → Int → Option ((List (List (S44))))
 | 0, _, _, _, _ => none
 | k + 1, x0, x3, x4, x5 => if x5 < (x3.length : Int) then ((some (([] : List (S44)) : List (S44))).bind fun y288 => (if 0 ≤ x5 then (if 0 < ((rd_L1 x3 x5).length : Int) then (if 0 ≤ (rd (rd_L1 x3 x5) 0) then (if (rd (rd_L1 x3 x5) 0) < (x0.length : Int) then (if y288.length + (rd_L4 x0 (rd (rd_L1 x3 x5) 0)).length < 4398046511104 then (if x4.length < 5864062014805 then (tabellionref33_Distinct.l0 k x0 x3 (x4 ++ [(y288 ++ (rd_L4 x0 (rd (rd_L1 x3 x5) 0)))]) (wrap64 (x5 + 1))) else (none)) else (none)) else (none)) else (none)) else (none)) else (none))) else (some x4)
def tabellionref33_Distinct.f (k : Nat) (l0 : List (List (S44))) : Option ((List (List (S44)))) := (tabellionref33_Groups.f k l0).bind fun t282 => (tabellionref33_Distinct.l0 k l0 t282 (([] : List (List (S44)))) 0)
end Go.Proofs.YtnllgjloimoebaaDoor.X

/- The sorted groups are the document's; told once, the rows are the document's. -/
set_option linter.unusedVariables false
set_option linter.unusedSimpArgs false
namespace Go.Proofs.YtnllgjloimoebaaDoor.X
open Go.RowKit Go.Proofs.YtnllgjloimoebaaDoorW.PrintWords

/-! ### insertion -/
section
variable (l : List (List S44))
def insP (x : List Int) : List (List Int) → List (List Int)
  | [] => [x]
  | y :: o => if gcmp l y x < 0 then y :: insP x o else x :: y :: o
def posP (x : List Int) : List (List Int) → Nat
  | [] => 0
  | y :: o => if gcmp l y x < 0 then posP x o + 1 else 0
theorem posP_le (x : List Int) : ∀ o, posP l x o ≤ o.length
  | [] => Nat.le_refl _
  | y :: o => by
    have := posP_le x o
    unfold posP
    split
    · simp; omega
    · simp
theorem posP_lt (x : List Int) : ∀ o j, j < posP l x o → gcmp l (o.getD j []) x < 0
  | [], j, h => by simp [posP] at h
  | y :: o, j, h => by
    unfold posP at h
    split at h
    · rename_i hy
      cases j with
      | zero => exact hy
      | succ j => exact posP_lt x o j (by omega)
    · omega
theorem posP_at (x : List Int) : ∀ o, posP l x o < o.length → ¬ gcmp l (o.getD (posP l x o) []) x < 0
  | [], h => by simp at h
  | y :: o, h => by
    unfold posP at *
    split
    · rename_i hy
      rw [if_pos hy] at h
      exact posP_at x o (by simpa using h)
    · assumption
theorem posP_ins (x : List Int) : ∀ o, o.take (posP l x o) ++ [x] ++ o.drop (posP l x o) = insP l x o
  | [] => rfl
  | y :: o => by
    unfold posP insP
    split
    · have := posP_ins x o
      simpa using this
    · rfl
theorem insP_len (x : List Int) (o : List (List Int)) : (insP l x o).length = o.length + 1 := by
  rw [← posP_ins l x o]
  have := posP_le l x o
  simp; omega
theorem insP_perm (x : List Int) : ∀ o, (insP l x o).Perm (x :: o)
  | [] => List.Perm.refl _
  | y :: o => by
    unfold insP
    split
    · exact ((insP_perm x o).cons y).trans (List.Perm.swap x y o)
    · exact List.Perm.refl _
theorem gcmp_trans {a b c : List Int} (h1 : gcmp l a b < 0) (h2 : gcmp l b c < 0) : gcmp l a c < 0 := rcmp_trans h1 h2
theorem gcmp_neg (a b : List Int) : gcmp l b a = - gcmp l a b := rcmp_neg _ _
theorem insP_pw (x : List Int) : ∀ o, o.Pairwise (fun a b => gcmp l a b < 0) → (∀ y ∈ o, gcmp l y x ≠ 0) → (insP l x o).Pairwise (fun a b => gcmp l a b < 0)
  | [], _, _ => by simp [insP]
  | y :: o, h, hne => by
    rw [List.pairwise_cons] at h
    unfold insP
    split
    · rename_i hy
      rw [List.pairwise_cons]
      refine ⟨fun z hz => ?_, insP_pw x o h.2 (fun z hz => hne z (List.mem_cons_of_mem _ hz))⟩
      rcases List.mem_cons.1 ((insP_perm l x o).mem_iff.1 hz) with rfl | hz
      · exact hy
      · exact h.1 z hz
    · rename_i hy
      have hxy : gcmp l x y < 0 := by
        have := gcmp_neg l x y
        have := hne y (List.mem_cons_self ..)
        omega
      rw [List.pairwise_cons]
      refine ⟨fun z hz => ?_, List.pairwise_cons.2 h⟩
      rcases List.mem_cons.1 hz with rfl | hz
      · exact hxy
      · exact gcmp_trans l hxy (h.1 z hz)
def isort (g : List (List Int)) : List (List Int) := g.foldl (fun o x => insP l x o) []
theorem isort_snoc (g : List (List Int)) (x : List Int) : isort l (g ++ [x]) = insP l x (isort l g) := by unfold isort; rw [List.foldl_append]; rfl
theorem isort_perm (g : List (List Int)) : (isort l g).Perm g := by
  have h : ∀ (g o : List (List Int)), (g.foldl (fun o x => insP l x o) o).Perm (o ++ g) := by
    intro g
    induction g with
    | nil => intro o; simp
    | cons x g ih =>
      intro o
      refine (ih _).trans ?_
      refine ((insP_perm l x o).append_right g).trans ?_
      simpa using (List.perm_middle (a := x) (l₁ := o) (l₂ := g)).symm
  simpa [isort] using h g []
theorem isort_len (g : List (List Int)) : (isort l g).length = g.length := (isort_perm l g).length_eq
theorem isort_pw : ∀ (n : Nat) (g : List (List Int)), g.length = n → g.Pairwise (fun a b => gcmp l a b ≠ 0) → (isort l g).Pairwise (fun a b => gcmp l a b < 0)
  | 0, g, hn, _ => by
    rw [List.eq_nil_of_length_eq_zero hn]; simp [isort]
  | n + 1, g, hn, h => by
    obtain ⟨g', x, rfl⟩ : ∃ g' x, g = g' ++ [x] := by
      have hne : g ≠ [] := fun e => by rw [e] at hn; simp at hn
      exact ⟨g.dropLast, g.getLast hne, (List.dropLast_concat_getLast hne).symm⟩
    rw [isort_snoc]
    rw [List.pairwise_append] at h
    refine insP_pw l x _ (isort_pw n g' (by simpa using hn) h.1) (fun y hy => ?_)
    exact h.2.2 y ((isort_perm l g').mem_iff.1 hy) x (List.mem_singleton.2 rfl)
theorem pw_unique {α : Type} {lt : α → α → Prop} (hasym : ∀ a b, lt a b → ¬ lt b a) : ∀ {a b : List α}, a.Perm b → a.Pairwise lt → b.Pairwise lt → a = b
  | [], b, hp, _, _ => (List.nil_perm.1 hp).symm
  | x :: a, [], hp, _, _ => absurd hp.length_eq (by simp)
  | x :: a, y :: b, hp, ha, hb => by
    rw [List.pairwise_cons] at ha hb
    have e : x = y := by
      have hx : x ∈ y :: b := hp.mem_iff.1 (List.mem_cons_self ..)
      have hy : y ∈ x :: a := hp.mem_iff.2 (List.mem_cons_self ..)
      rcases List.mem_cons.1 hx with h | h
      · exact h
      · rcases List.mem_cons.1 hy with h2 | h2
        · exact h2.symm
        · exact absurd (ha.1 y h2) (hasym _ _ (hb.1 x h))
    subst e
    rw [pw_unique hasym (List.Perm.cons_inv hp) ha.2 hb.2]
theorem groups_pw : (groupsP l).Pairwise (fun a b => gcmp l a b ≠ 0) := by
  rw [List.pairwise_iff_getElem]
  intro i j hi hj hij h
  have I := GInv.at l l.length
  have e := rcmp_zero.1 h
  have a := I.one i hi
  have b := I.one j hj
  change (gAfter l l.length).2 (keyT (head l ((groupsP l).getD i []))) = _ at a
  change (gAfter l l.length).2 (keyT (head l ((groupsP l).getD j []))) = _ at b
  rw [List.getD_eq_getElem?_getD, List.getElem?_eq_getElem hi] at a
  rw [List.getD_eq_getElem?_getD, List.getElem?_eq_getElem hj] at b
  simp only [Option.getD_some] at a b
  rw [e, b] at a
  injection a with a
  omega
theorem sortedP_eq : sortedP l = isort l (groupsP l) := by
  have hperm : (sortedP l).Perm (groupsP l) := List.mergeSort_perm _ _
  refine pw_unique (lt := fun a b => gcmp l a b < 0) (fun a b h h2 => by have := gcmp_neg l a b; omega) (hperm.trans (isort_perm l _).symm) ?_ (isort_pw l _ _ rfl (groups_pw l))
  have h1 : (sortedP l).Pairwise (fun a b => (!decide (gcmp l b a < 0)) = true) := by
    unfold sortedP
    refine List.pairwise_mergeSort (fun a b c h1 h2 => ?_) (fun a b => ?_) _
    · simp only [Bool.not_eq_true', decide_eq_false_iff_not] at *
      exact rcmp_ntrans h2 h1
    · simp only [Bool.or_eq_true, Bool.not_eq_true', decide_eq_false_iff_not]
      have := gcmp_neg l a b
      omega
  have h2 : (sortedP l).Pairwise (fun a b => gcmp l a b ≠ 0) := hperm.symm.pairwise (groups_pw l) (fun {a b} h h2 => h (by have := gcmp_neg l a b; omega))
  refine (h1.and h2).imp ?_
  rintro a b ⟨h3, h4⟩
  simp only [Bool.not_eq_true', decide_eq_false_iff_not] at h3
  have := gcmp_neg l a b
  omega
end

/-! ### the document's loops -/
theorem srt_l1 {l : List (List S44)} (hl : shorts l) (g : List (List Int)) (hg : ∀ x ∈ g, x ≠ [] ∧ 0 ≤ rd x 0 ∧ rd x 0 < (l.length : Int)) (hgl : g.length ≤ 1099511627776) (i : Nat) (hi : i < g.length) (o : List (List Int))
    (ho : ∀ x ∈ o, x ∈ g) (hol : o.length ≤ 1099511627776) (v : List (List Int)) (hv : Ev (fun k => tabellionref33_Sorted.l0 k l g (insP l (g.getD i []) o) ((i + 1 : Nat) : Int)) v) :
    ∀ (n j : Nat), posP l (g.getD i []) o - j = n → j ≤ posP l (g.getD i []) o → Ev (fun k => tabellionref33_Sorted.l1 k l g o (i : Int) (j : Int)) v
  | n, j, hn, hj => by
    have hpl := posP_le l (g.getD i []) o
    have hgi := hg _ (getD_mem g [] i hi)
    have hxi : rd_L1 g (i : Int) = g.getD i [] := by unfold rd_L1; rw [Int.toNat_natCast]
    have hxj : rd_L1 o (j : Int) = o.getD j [] := by unfold rd_L1; rw [Int.toNat_natCast]
    have hposi : 0 < (g.getD i []).length := List.length_pos_iff.2 hgi.1
    refine Ev.succ ?_ (fun k => by rw [tabellionref33_Sorted.l1])
    by_cases h1 : j < o.length
    · have hoj := hg _ (ho _ (getD_mem o [] j h1))
      have hposj : 0 < (o.getD j []).length := List.length_pos_iff.2 hoj.1
      refine Ev.congr ?_ (fun k => by rw [if_pos (by omega : (j : Int) < (o.length : Int)), if_pos (by omega : (0 : Int) ≤ (j : Int)), hxj, if_pos (by omega : (0 : Int) < ((o.getD j []).length : Int)), if_pos hoj.2.1, if_pos hoj.2.2, if_pos (by omega : (0 : Int) ≤ (i : Int)), if_pos (by omega : (i : Int) < (g.length : Int)), hxi, if_pos (by omega : (0 : Int) < ((g.getD i []).length : Int)), if_pos hgi.2.1, if_pos hgi.2.2])
      refine Ev.bind (rorders_ev _ _ (shorts_rd hl _)) ?_
      by_cases h2 : j < posP l (g.getD i []) o
      · have h3 := posP_lt l (g.getD i []) o j h2
        refine Ev.congr ?_ (fun k => by rw [if_pos (show rcmp (rd_L4 l (rd (o.getD j []) 0)) (rd_L4 l (rd (g.getD i []) 0)) < 0 from h3), w64 j (by omega)])
        match n, hn with
        | n + 1, hn => exact srt_l1 hl g hg hgl i hi o ho hol v hv n (j + 1) (by omega) (by omega)
        | 0, hn => omega
      · have e : j = posP l (g.getD i []) o := by omega
        have h3 : ¬ gcmp l (o.getD j []) (g.getD i []) < 0 := by rw [e]; exact posP_at l (g.getD i []) o (by omega)
        refine Ev.congr ?_ (fun k => by rw [if_neg (show ¬ rcmp (rd_L4 l (rd (o.getD j []) 0)) (rd_L4 l (rd (g.getD i []) 0)) < 0 from h3)])
        refine Ev.bind (v := ([] : List (List Int))) (Ev.const _) ?_
        refine Ev.congr ?_ (fun k => by rw [if_pos (by omega : (j : Int) ≤ (o.length : Int)), Int.toNat_natCast])
        refine Ev.bind (v := o.take j) (Ev.const _) ?_
        refine Ev.congr ?_ (fun k => by rw [if_pos (by simp; omega : ([] : List (List Int)).length + (o.take j).length < 5864062014805), List.nil_append])
        refine Ev.bind (v := o.take j) (Ev.const _) ?_
        refine Ev.congr ?_ (fun k => by rw [if_pos (by simp; omega : (o.take j).length < 5864062014805)])
        refine Ev.bind (v := o.take j ++ [g.getD i []]) (Ev.const _) ?_
        refine Ev.bind (v := o.drop j) (Ev.const _) ?_
        refine Ev.congr ?_ (fun k => by rw [if_pos (by simp; omega : (o.take j ++ [g.getD i []]).length + (o.drop j).length < 5864062014805), w64 i (by omega)])
        rw [e, posP_ins]
        exact hv
    · have e : j = posP l (g.getD i []) o := by omega
      refine Ev.congr ?_ (fun k => by rw [if_neg (by omega : ¬ (j : Int) < (o.length : Int))])
      refine Ev.bind (v := ([] : List (List Int))) (Ev.const _) ?_
      refine Ev.congr ?_ (fun k => by rw [if_pos (by omega : (0 : Int) ≤ (j : Int)), if_pos (by omega : (j : Int) ≤ (o.length : Int)), Int.toNat_natCast])
      refine Ev.bind (v := o.take j) (Ev.const _) ?_
      refine Ev.congr ?_ (fun k => by rw [if_pos (by simp; omega : ([] : List (List Int)).length + (o.take j).length < 5864062014805), List.nil_append])
      refine Ev.bind (v := o.take j) (Ev.const _) ?_
      refine Ev.congr ?_ (fun k => by rw [if_pos (by omega : (0 : Int) ≤ (i : Int)), if_pos (by omega : (i : Int) < (g.length : Int)), if_pos (by simp; omega : (o.take j).length < 5864062014805), hxi])
      refine Ev.bind (v := o.take j ++ [g.getD i []]) (Ev.const _) ?_
      refine Ev.bind (v := o.drop j) (Ev.const _) ?_
      refine Ev.congr ?_ (fun k => by rw [if_pos (by simp; omega : (o.take j ++ [g.getD i []]).length + (o.drop j).length < 5864062014805), w64 i (by omega)])
      rw [e, posP_ins]
      exact hv
theorem take_snoc {α : Type} (g : List α) (z : α) (i : Nat) (h : i < g.length) : g.take (i + 1) = g.take i ++ [g.getD i z] := by
  rw [List.take_succ_eq_append_getElem h, List.getD_eq_getElem?_getD, List.getElem?_eq_getElem h]; rfl
theorem srt_l0 {l : List (List S44)} (hl : shorts l) (g : List (List Int)) (hg : ∀ x ∈ g, x ≠ [] ∧ 0 ≤ rd x 0 ∧ rd x 0 < (l.length : Int)) (hgl : g.length ≤ 1099511627776) : ∀ (n i : Nat), g.length - i = n → i ≤ g.length →
    Ev (fun k => tabellionref33_Sorted.l0 k l g (isort l (g.take i)) (i : Int)) (isort l g)
  | n, i, hn, hi => by
    refine Ev.succ ?_ (fun k => by rw [tabellionref33_Sorted.l0])
    by_cases h1 : i < g.length
    · refine Ev.congr ?_ (fun k => by rw [if_pos (by omega : (i : Int) < (g.length : Int))])
      match n, hn with
      | n + 1, hn =>
        have h2 := srt_l0 hl g hg hgl n (i + 1) (by omega) (by omega)
        rw [take_snoc g [] i h1, isort_snoc] at h2
        refine srt_l1 hl g hg hgl i h1 _ (fun x hx => List.mem_of_mem_take ((isort_perm l _).mem_iff.1 hx)) (by rw [isort_len]; simp; omega) _ h2 _ 0 rfl (Nat.zero_le _)
      | 0, hn => omega
    · rw [List.take_of_length_le (by omega : g.length ≤ i)]
      exact Ev.congr (Ev.const _) (fun k => by rw [if_neg (by omega : ¬ (i : Int) < (g.length : Int))])
theorem groups_in (l : List (List S44)) : ∀ x ∈ groupsP l, x ≠ [] ∧ 0 ≤ rd x 0 ∧ rd x 0 < (l.length : Int) := fun x hx => by
  have I := GInv.at l l.length
  have h2 := I.ne _ hx
  exact ⟨h2, I.mem _ hx _ (rd_mem h2)⟩
theorem groups_len (l : List (List S44)) : (groupsP l).length ≤ l.length := (GInv.at l l.length).len
theorem refSorted_ev {l : List (List S44)} (hl : shorts l) : Ev (fun k => tabellionref33_Sorted.f k l) (sortedP l) := by
  unfold tabellionref33_Sorted.f
  refine Ev.bind (refGroups_ev hl) ?_
  rw [sortedP_eq]
  exact srt_l0 hl _ (groups_in l) (Nat.le_trans (groups_len l) hl.1) _ 0 rfl (Nat.zero_le _)

/-! ### each row once -/
theorem dis_l0 {l : List (List S44)} (hl : shorts l) (hr : ∀ r ∈ l, r.length ≤ 1099511627776) (g : List (List Int)) (hg : ∀ x ∈ g, x ≠ [] ∧ 0 ≤ rd x 0 ∧ rd x 0 < (l.length : Int)) (hgl : g.length ≤ 1099511627776) : ∀ (n i : Nat), g.length - i = n → i ≤ g.length →
    Ev (fun k => tabellionref33_Distinct.l0 k l g ((g.take i).map (head l)) (i : Int)) (g.map (head l))
  | n, i, hn, hi => by
    refine Ev.succ ?_ (fun k => by rw [tabellionref33_Distinct.l0])
    by_cases h1 : i < g.length
    · have hgi := hg _ (getD_mem g [] i h1)
      have hxi : rd_L1 g (i : Int) = g.getD i [] := by unfold rd_L1; rw [Int.toNat_natCast]
      have hposi : 0 < (g.getD i []).length := List.length_pos_iff.2 hgi.1
      have hrl : (rd_L4 l (rd (g.getD i []) 0)).length ≤ 1099511627776 := hr _ (getD_mem _ _ _ (by omega))
      refine Ev.congr ?_ (fun k => by rw [if_pos (by omega : (i : Int) < (g.length : Int))])
      refine Ev.bind (v := ([] : List S44)) (Ev.const _) ?_
      refine Ev.congr ?_ (fun k => by rw [if_pos (by omega : (0 : Int) ≤ (i : Int)), hxi, if_pos (by omega : (0 : Int) < ((g.getD i []).length : Int)), if_pos hgi.2.1, if_pos hgi.2.2, if_pos (by rw [List.length_nil]; omega : ([] : List S44).length + (rd_L4 l (rd (g.getD i []) 0)).length < 4398046511104), if_pos (by simp; omega : ((g.take i).map (head l)).length < 5864062014805), List.nil_append, w64 i (by omega)])
      match n, hn with
      | n + 1, hn =>
        have h2 := dis_l0 hl hr g hg hgl n (i + 1) (by omega) (by omega)
        rw [take_snoc g [] i h1, List.map_append] at h2
        exact h2
      | 0, hn => omega
    · rw [List.take_of_length_le (by omega : g.length ≤ i)]
      exact Ev.congr (Ev.const _) (fun k => by rw [if_neg (by omega : ¬ (i : Int) < (g.length : Int))])
theorem dAfter_eq (l : List (List S44)) : ∀ k, (dAfter l k).1 = (gAfter l k).1.map (head l) ∧ ∀ t, ((dAfter l k).2 t).isSome = ((gAfter l k).2 t).isSome
  | 0 => ⟨rfl, fun t => rfl⟩
  | k + 1 => by
    obtain ⟨h1, h2⟩ := dAfter_eq l k
    have I := GInv.at l k
    have hd : dAfter l (k + 1) = dput (dAfter l k) (l.getD k []) k := rfl
    have hg : gAfter l (k + 1) = gput (gAfter l k) (l.getD k []) k := rfl
    rw [hd, hg]
    have h3 := h2 (keyT (l.getD k []))
    cases hf : (gAfter l k).2 (keyT (l.getD k [])) with
    | none =>
      rw [hf] at h3
      have hf2 : (dAfter l k).2 (keyT (l.getD k [])) = none := by
        cases h : (dAfter l k).2 (keyT (l.getD k [])) with
        | none => rfl
        | some v => rw [h] at h3; simp at h3
      rw [gput_none hf]
      unfold dput
      rw [hf2]
      refine ⟨?_, fun t => ?_⟩
      · show (dAfter l k).1 ++ [l.getD k []] = ((gAfter l k).1 ++ [[(k : Int)]]).map (head l)
        rw [h1, List.map_append]
        congr 1
      · show (putG _ _ _ t).isSome = (putG _ _ _ t).isSome
        unfold putG
        split
        · rfl
        · exact h2 t
    | some g =>
      rw [hf] at h3
      obtain ⟨v, hv⟩ := Option.isSome_iff_exists.1 h3
      rw [gput_some hf]
      unfold dput
      rw [hv]
      refine ⟨?_, h2⟩
      show (dAfter l k).1 = ((gAfter l k).1.set g.toNat _).map (head l)
      rw [h1]
      obtain ⟨h0, h4, h5⟩ := I.lt _ _ hf
      have hgl : g.toNat < (gAfter l k).1.length := by omega
      apply List.ext_getElem?
      intro j
      rw [List.getElem?_map, List.getElem?_map, List.getElem?_set]
      by_cases e : g.toNat = j
      · subst e
        rw [if_pos rfl, if_pos hgl, List.getElem?_eq_getElem hgl]
        have hm := getD_mem (gAfter l k).1 [] g.toNat hgl
        have hne := I.ne _ hm
        simp only [Option.map_some]
        rw [head_app l hne, List.getD_eq_getElem?_getD, List.getElem?_eq_getElem hgl]
        rfl
      · rw [if_neg e]
theorem distinctP_eq (l : List (List S44)) : distinctP l = (groupsP l).map (head l) := (dAfter_eq l l.length).1
theorem refDistinct_ev {l : List (List S44)} (hl : shorts l) (hr : ∀ r ∈ l, r.length ≤ 1099511627776) : Ev (fun k => tabellionref33_Distinct.f k l) (distinctP l) := by
  unfold tabellionref33_Distinct.f
  refine Ev.bind (refGroups_ev hl) ?_
  rw [distinctP_eq]
  exact dis_l0 hl hr _ (groups_in l) (Nat.le_trans (groups_len l) hl.1) _ 0 rfl (Nat.zero_le _)

theorem list_l0 (a : List (List S44)) (ha : shorts a) : ∀ (n i : Nat), a.length - i = n → i ≤ a.length → Ev (fun k => tabellionref03_List.l0 k a a (i : Int)) true
  | n, i, hn, hi => by
    have hl := ha.1
    refine Ev.succ ?_ (fun k => by rw [tabellionref03_List.l0])
    by_cases h1 : i < a.length
    · refine Ev.congr ?_ (fun k => by rw [if_pos (by omega : (i : Int) < (a.length : Int)), decide_eq_true (by omega : (i : Int) < (a.length : Int))])
      refine Ev.succ ?_ (fun k => by rw [tabellionref03_List.j1, if_pos rfl, if_pos (by omega : (0 : Int) ≤ (i : Int)), if_pos (by omega : (i : Int) < (a.length : Int)), if_pos (by omega : (i : Int) < (a.length : Int))])
      refine Ev.bind (rorders_ev _ _ (shorts_rd ha _)) ?_
      refine Ev.congr ?_ (fun k => by rw [if_pos (rcmp_self _), w64 i (by omega)])
      match n, hn with
      | n + 1, hn => exact list_l0 a ha n (i + 1) (by omega) (by omega)
      | 0, hn => omega
    · refine Ev.congr ?_ (fun k => by rw [if_neg (by omega : ¬ (i : Int) < (a.length : Int))])
      refine Ev.succ ?_ (fun k => by rw [tabellionref03_List.j1, if_neg (by simp)])
      exact Ev.congr (Ev.const true) (fun k => by simp)
theorem list_ev (a : List (List S44)) (ha : shorts a) : Ev (fun k => tabellionref03_List.f k a a) true := list_l0 a ha _ 0 rfl (Nat.zero_le _)
end Go.Proofs.YtnllgjloimoebaaDoor.X

-- By xprint.py (this session's own program over the kit's print): not trusted: Lean checks it.
namespace Go.Proofs.YtnllgjloimoebaaDoor.X
open Go.RowKit Go.Proofs.YtnllgjloimoebaaDoorW.PrintWords Go.Proofs.YtnllgjloimoebaaDoorW.PrintLast Go.Proofs.YtnllgjloimoebaaDoorW.PrintMore
attribute [local go_sem] max2_int min2_int max_two min_two max_three min_three max_four min_four   -- for this text's walks alone
set_option linter.unusedVariables false
set_option linter.unusedSimpArgs false

/-! ### tabellionlaw33_GrouperSays: function 3 -/
def tabellionlaw33_GrouperSays.f (k : Nat) (l0 : List (List (S44))) : Option (Bool) := if (l0.length : Int) > 100 then ((tabellionlaw33_awake.f k).bind fun t300 => (some t300)) else ((tabellionlaw33_awake.f k).bind fun t301 => (if t301 = true then ((grouper_Groups.f l0).bind fun t302 => ((tabellionref33_Groups.f k l0).bind fun t305 => ((tabellionref33_Lists.f k t302 t305).bind fun t308 => (if t308 = true then ((grouper_Sorted.f l0).bind fun t309 => ((tabellionref33_Sorted.f k l0).bind fun t312 => ((tabellionref33_Lists.f k t309 t312).bind fun t315 => (if t315 = true then ((grouper_Distinct.f l0).bind fun t316 => ((tabellionref33_Distinct.f k l0).bind fun t319 => ((tabellionref03_List.f k t316 t319).bind fun t322 => (some t322)))) else (some false))))) else (some false))))) else (some false)))
end Go.Proofs.YtnllgjloimoebaaDoor.X

/- The page's example; GrouperSays in plain Lean. -/
set_option linter.unusedVariables false
set_option linter.unusedSimpArgs false
namespace Go.Proofs.YtnllgjloimoebaaDoor.X
open Go.RowKit Go.Proofs.YtnllgjloimoebaaDoorW.PrintWords

def ex33 : List (List S44) := [[⟨2, 5, ⟨#[]⟩⟩], [⟨0, 0, ⟨#[]⟩⟩], [⟨2, 5, ⟨#[]⟩⟩], [⟨0, 0, ⟨#[]⟩⟩], [⟨2, 1, ⟨#[]⟩⟩]]
theorem ex33_ok : (ex33.all keyable && decide (ex33.length ≤ 1099511627776)) = true := by decide
theorem ex33_groups : groupsP ex33 = [[0, 2], [1, 3], [4]] := by
  simp [groupsP, ex33, gAfter, gput, putG, keyT_iff]
theorem ex33_sorted : sortedP ex33 = [[1, 3], [4], [0, 2]] := by
  rw [sortedP_eq, ex33_groups]
  decide
theorem ex33_distinct : (distinctP ex33).length = 3 := by
  rw [distinctP_eq, ex33_groups]
  rfl
theorem awake33 : Ev (fun k => tabellionlaw33_awake.f k) true := by
  unfold tabellionlaw33_awake.f value_Num.f
  refine Ev.bind (v := (2, 5, (⟨#[]⟩ : ByteArray))) (Ev.const _) ?_
  refine Ev.bind (v := (2, 5, (⟨#[]⟩ : ByteArray))) (Ev.const _) ?_
  refine Ev.bind (v := (2, 1, (⟨#[]⟩ : ByteArray))) (Ev.const _) ?_
  refine Ev.bind (v := ex33) (Ev.const _) ?_
  refine Ev.bind (v := groupsP ex33) (Ev.of fun _ => by unfold grouper_Groups.f; rw [if_pos ex33_ok]) ?_
  rw [ex33_groups]
  refine Ev.bind (v := true) (lists_ev _ (by decide) (by decide)) ?_
  refine Ev.congr ?_ (fun k => by rw [if_pos rfl])
  refine Ev.bind (v := sortedP ex33) (Ev.of fun _ => by unfold grouper_Sorted.f; rw [if_pos ex33_ok]) ?_
  rw [ex33_sorted]
  refine Ev.bind (v := true) (lists_ev _ (by decide) (by decide)) ?_
  refine Ev.congr ?_ (fun k => by rw [if_pos rfl])
  refine Ev.bind (v := distinctP ex33) (Ev.of fun _ => by unfold grouper_Distinct.f; rw [if_pos ex33_ok]) ?_
  exact Ev.congr (Ev.const true) (fun k => by rw [ex33_distinct]; rfl)

theorem says33 (l : List (List S44)) (h : (l.all keyable && decide (l.length ≤ 1099511627776)) = true) : Ev (fun k => tabellionlaw33_GrouperSays.f k l) true := by
  unfold tabellionlaw33_GrouperSays.f
  by_cases h100 : (l.length : Int) > 100
  · refine Ev.congr ?_ (fun k => by rw [if_pos h100])
    exact Ev.bind awake33 (Ev.const _)
  · have hall := h
    rw [Bool.and_eq_true, decide_eq_true_eq, List.all_eq_true] at hall
    have hs : shorts l := ⟨hall.2, fun r hr => keyable_short (hall.1 r hr)⟩
    have hrl : ∀ r ∈ l, r.length ≤ 1099511627776 := fun r hr => (keyable_len (hall.1 r hr)).2
    have I := GInv.at l l.length
    refine Ev.congr ?_ (fun k => by rw [if_neg h100])
    refine Ev.bind awake33 ?_
    refine Ev.congr ?_ (fun k => by rw [if_pos rfl])
    refine Ev.bind (v := groupsP l) (Ev.of fun _ => by unfold grouper_Groups.f; rw [if_pos h]) ?_
    refine Ev.bind (refGroups_ev hs) ?_
    refine Ev.bind (v := true) (lists_ev _ (by have := groups_len l; have := hs.1; omega) (fun x hx => by have := I.lens x hx; have := hs.1; omega)) ?_
    refine Ev.congr ?_ (fun k => by rw [if_pos rfl])
    refine Ev.bind (v := sortedP l) (Ev.of fun _ => by unfold grouper_Sorted.f; rw [if_pos h]) ?_
    refine Ev.bind (refSorted_ev hs) ?_
    have hp : (sortedP l).Perm (groupsP l) := List.mergeSort_perm _ _
    refine Ev.bind (v := true) (lists_ev _ (by have := hp.length_eq; have := groups_len l; have := hs.1; omega) (fun x hx => by have := I.lens x (hp.mem_iff.1 hx); have := hs.1; omega)) ?_
    refine Ev.congr ?_ (fun k => by rw [if_pos rfl])
    refine Ev.bind (v := distinctP l) (Ev.of fun _ => by unfold grouper_Distinct.f; rw [if_pos h]) ?_
    refine Ev.bind (refDistinct_ev hs hrl) ?_
    refine Ev.bind (v := true) (list_ev _ ?_) (Ev.const _)
    rw [distinctP_eq]
    refine ⟨by rw [List.length_map]; have := groups_len l; have := hs.1; omega, fun r hr => ?_⟩
    obtain ⟨x, hx, rfl⟩ := List.mem_map.1 hr
    exact shorts_rd hs _
end Go.Proofs.YtnllgjloimoebaaDoor.X

/- GrouperWhole in plain Lean: each place lies in one group, once; in a group all are one row, and no two groups are. -/
set_option linter.unusedVariables false
set_option linter.unusedSimpArgs false
namespace Go.Proofs.YtnllgjloimoebaaDoor.X
open Go.RowKit Go.Proofs.YtnllgjloimoebaaDoorW.PrintWords

structure GInv2 (l : List (List S44)) (k : Nat) (s : List (List Int) × (Nat × List UInt8 → Option Int)) : Prop where
  m2 : ∀ j, j < s.1.length → ∀ p ∈ s.1.getD j [], s.2 (keyT (rd_L4 l p)) = some (j : Int)
  cov : ∀ p : Nat, p < k → ∃ j, j < s.1.length ∧ (p : Int) ∈ s.1.getD j []
  nd : ∀ x ∈ s.1, x.Nodup
theorem rd_L4_nat (l : List (List S44)) (k : Nat) : rd_L4 l (k : Int) = l.getD k [] := by unfold rd_L4; rw [Int.toNat_natCast]
theorem GInv2.step {l : List (List S44)} {k : Nat} {s : List (List Int) × (Nat × List UInt8 → Option Int)} (I : GInv l k s) (J : GInv2 l k s) : GInv2 l (k + 1) (gput s (l.getD k []) k) := by
  cases hf : s.2 (keyT (l.getD k [])) with
  | none =>
    rw [gput_none hf]
    refine ⟨?_, ?_, ?_⟩
    · intro j hj p hp
      change p ∈ (s.1 ++ [[(k : Int)]]).getD j [] at hp
      show putG s.2 _ _ _ = _
      unfold putG
      rw [List.length_append, List.length_singleton] at hj
      by_cases h : j < s.1.length
      · rw [getD_append_lt _ _ _ _ h] at hp
        have h1 := J.m2 j h p hp
        rw [if_neg (fun e => by rw [e, hf] at h1; cases h1)]
        exact h1
      · have e : j = s.1.length := by omega
        subst e
        rw [getD_append_eq] at hp
        rw [List.mem_singleton.1 hp, rd_L4_nat, if_pos rfl]
    · intro p hp
      show ∃ j, j < (s.1 ++ [[(k : Int)]]).length ∧ (p : Int) ∈ (s.1 ++ [[(k : Int)]]).getD j []
      by_cases h : p < k
      · obtain ⟨j, h1, h2⟩ := J.cov p h
        exact ⟨j, by rw [List.length_append]; omega, by rw [getD_append_lt _ _ _ _ h1]; exact h2⟩
      · exact ⟨s.1.length, by simp, by rw [getD_append_eq]; rw [show p = k by omega]; simp⟩
    · intro x hx
      rcases List.mem_append.1 hx with hx | hx
      · exact J.nd x hx
      · rw [List.mem_singleton.1 hx]; simp
  | some g =>
    rw [gput_some hf]
    obtain ⟨h0, h1, h2⟩ := I.lt _ _ hf
    have hgl : g.toNat < s.1.length := by omega
    have hm := getD_mem s.1 [] g.toNat hgl
    refine ⟨?_, ?_, ?_⟩
    · intro j hj p hp
      simp only [List.length_set] at hj
      change p ∈ (s.1.set g.toNat _).getD j [] at hp
      show s.2 (keyT (rd_L4 l p)) = _
      by_cases h : g.toNat = j
      · subst h
        rw [getD_set_eq _ _ _ _ hgl] at hp
        rcases List.mem_append.1 hp with hp | hp
        · exact J.m2 _ hgl p hp
        · rw [List.mem_singleton.1 hp, rd_L4_nat, hf]
          congr 1; omega
      · rw [getD_set_ne _ _ _ _ _ h] at hp
        exact J.m2 j hj p hp
    · intro p hp
      show ∃ j, j < (s.1.set g.toNat _).length ∧ (p : Int) ∈ (s.1.set g.toNat _).getD j []
      by_cases h : p < k
      · obtain ⟨j, h3, h4⟩ := J.cov p h
        refine ⟨j, by rw [List.length_set]; exact h3, ?_⟩
        by_cases e : g.toNat = j
        · subst e
          rw [getD_set_eq _ _ _ _ hgl]
          exact List.mem_append_left _ h4
        · rw [getD_set_ne _ _ _ _ _ e]; exact h4
      · refine ⟨g.toNat, by rw [List.length_set]; exact hgl, ?_⟩
        rw [getD_set_eq _ _ _ _ hgl, show p = k by omega]
        simp
    · intro x hx
      rcases List.mem_or_eq_of_mem_set hx with hx | rfl
      · exact J.nd x hx
      · rw [List.nodup_append]
        refine ⟨J.nd _ hm, by simp, fun a ha b hb => ?_⟩
        rw [List.mem_singleton.1 hb]
        have := I.mem _ hm a ha
        omega
theorem GInv2.at (l : List (List S44)) : ∀ k, GInv2 l k (gAfter l k)
  | 0 => ⟨fun j hj => by simp [gAfter] at hj, fun p hp => by omega, fun x hx => by simp [gAfter] at hx⟩
  | k + 1 => (GInv2.at l k).step (GInv.at l k)

section
variable (l : List (List S44))
/-- the group that a place lies in -/
def grpF (p : Int) : Int := ((gAfter l l.length).2 (keyT (rd_L4 l p))).getD (-1)
theorem grpF_mem (j : Nat) (hj : j < (groupsP l).length) (p : Int) (hp : p ∈ (groupsP l).getD j []) : grpF l p = j := by
  unfold grpF
  rw [(GInv2.at l l.length).m2 j hj p hp]; rfl
theorem grpF_in (p : Nat) (hp : p < l.length) : 0 ≤ grpF l p ∧ grpF l p < ((groupsP l).length : Int) ∧ (p : Int) ∈ (groupsP l).getD (grpF l p).toNat [] := by
  obtain ⟨j, h1, h2⟩ := (GInv2.at l l.length).cov p hp
  have e := grpF_mem l j h1 p h2
  rw [e, Int.toNat_natCast]
  exact ⟨by omega, by have : j < (groupsP l).length := h1; omega, h2⟩
theorem grpF_eq (p q : Nat) (hp : p < l.length) (hq : q < l.length) : grpF l p = grpF l q ↔ rcmp (l.getD p []) (l.getD q []) = 0 := by
  have I := GInv.at l l.length
  have key : ∀ p : Nat, p < l.length → ∃ g, (gAfter l l.length).2 (keyT (l.getD p [])) = some g ∧ grpF l p = g := fun p hp => by
    obtain ⟨j, h1, h2⟩ := (GInv2.at l l.length).cov p hp
    have := (GInv2.at l l.length).m2 j h1 p h2
    rw [rd_L4_nat] at this
    exact ⟨j, this, by unfold grpF; rw [rd_L4_nat, this]; rfl⟩
  obtain ⟨a, ha, ea⟩ := key p hp
  obtain ⟨b, hb, eb⟩ := key q hq
  rw [ea, eb, rcmp_zero]
  constructor
  · intro h
    subst h
    have h1 := (I.lt _ _ ha).2.2
    have h2 := (I.lt _ _ hb).2.2
    exact keyT_inj (h1.symm.trans h2)
  · intro h
    rw [h, hb] at ha
    exact (Option.some.inj ha).symm

/-- what 'of' holds when i groups and k places of the next are through -/
def OfInv (i k : Nat) (o : List Int) : Prop := o.length = l.length ∧ ∀ p : Nat, p < l.length →
  o.getD p 0 = if grpF l p < (i : Int) ∨ (grpF l p = (i : Int) ∧ (p : Int) ∈ ((groupsP l).getD i []).take k) then grpF l p + 1 else 0
theorem ofInv_next (i : Nat) (hi : i < (groupsP l).length) (o : List Int) (h : OfInv l i ((groupsP l).getD i []).length o) : OfInv l (i + 1) 0 o := by
  refine ⟨h.1, fun p hp => ?_⟩
  rw [h.2 p hp]
  have h1 := grpF_in l p hp
  by_cases e : grpF l p < ((i + 1 : Nat) : Int)
  · rw [if_pos (Or.inl e)]
    by_cases e2 : grpF l p < (i : Int)
    · rw [if_pos (Or.inl e2)]
    · have e3 : grpF l p = (i : Int) := by omega
      rw [if_pos (Or.inr ⟨e3, by rw [List.take_length]; have h2 := h1.2.2; rw [e3, Int.toNat_natCast] at h2; exact h2⟩)]
  · rw [if_neg (fun h2 => by rcases h2 with h2 | h2 <;> omega), if_neg (fun h2 => by
      rcases h2 with h2 | h2
      · omega
      · simp at h2)]
theorem ofInv_put (i k : Nat) (hi : i < (groupsP l).length) (hk : k < ((groupsP l).getD i []).length) (o : List Int) (h : OfInv l i k o) :
    rd o (rd ((groupsP l).getD i []) (k : Int)) = 0 ∧ OfInv l i (k + 1) (o.set (rd ((groupsP l).getD i []) (k : Int)).toNat ((i : Int) + 1)) := by
  have hm : rd ((groupsP l).getD i []) (k : Int) ∈ (groupsP l).getD i [] := by
    unfold rd; rw [Int.toNat_natCast]; exact getD_mem _ _ _ hk
  obtain ⟨p, hp⟩ : ∃ p, p = rd ((groupsP l).getD i []) (k : Int) := ⟨_, rfl⟩
  rw [← hp] at hm ⊢
  have hg := getD_mem (groupsP l) [] i hi
  have hr := (GInv.at l l.length).mem _ hg p hm
  have hf := grpF_mem l i hi p hm
  obtain ⟨n, rfl⟩ : ∃ n : Nat, p = (n : Int) := ⟨p.toNat, by omega⟩
  have hn : n < l.length := by omega
  have hnd := (GInv2.at l l.length).nd _ hg
  have htk : ((groupsP l).getD i []).take (k + 1) = ((groupsP l).getD i []).take k ++ [(n : Int)] := by
    rw [take_snoc _ 0 _ hk, hp]; unfold rd; rw [Int.toNat_natCast]
  have hno : (n : Int) ∉ ((groupsP l).getD i []).take k := by
    have h1 : (((groupsP l).getD i []).take (k + 1)).Nodup := hnd.sublist (List.take_sublist _ _)
    rw [htk, List.nodup_append] at h1
    intro h2
    exact h1.2.2 _ h2 _ (List.mem_singleton.2 rfl) rfl
  rw [Int.toNat_natCast]
  refine ⟨?_, by rw [List.length_set]; exact h.1, fun q hq => ?_⟩
  · unfold rd
    rw [Int.toNat_natCast, h.2 n hn, if_neg (fun h2 => by
      rcases h2 with h2 | h2
      · omega
      · exact hno h2.2)]
  · by_cases e : n = q
    · subst e
      rw [getD_set_eq _ _ _ _ (by rw [h.1]; exact hn), if_pos (Or.inr ⟨hf, by rw [htk]; simp⟩), hf]
    · rw [getD_set_ne _ _ _ _ _ e, h.2 q hq]
      have : (q : Int) ∈ ((groupsP l).getD i []).take (k + 1) ↔ (q : Int) ∈ ((groupsP l).getD i []).take k := by
        rw [htk, List.mem_append, List.mem_singleton]
        constructor
        · rintro (h2 | h2)
          · exact h2
          · omega
        · exact Or.inl
      simp only [this]
end

theorem whole_l3 {l : List (List S44)} (hs : shorts l) (o : List Int) (ho : o.length = l.length) (hv : ∀ p : Nat, p < l.length → o.getD p 0 = grpF l p + 1) (i : Nat) (hi : i < l.length) (v : Bool)
    (h : Ev (fun k => tabellionlaw33_GrouperWhole.l2 k l o ((i + 1 : Nat) : Int)) v) : ∀ (n j : Nat), l.length - j = n → j ≤ l.length → Ev (fun k => tabellionlaw33_GrouperWhole.l3 k l o (i : Int) (j : Int)) v
  | n, j, hn, hj => by
    have hl := hs.1
    refine Ev.succ ?_ (fun k => by rw [tabellionlaw33_GrouperWhole.l3])
    by_cases h1 : j < l.length
    · have hoi : rd o (i : Int) = grpF l i + 1 := by unfold rd; rw [Int.toNat_natCast]; exact hv i hi
      have hoj : rd o (j : Int) = grpF l j + 1 := by unfold rd; rw [Int.toNat_natCast]; exact hv j h1
      have hgi := grpF_in l i hi
      refine Ev.congr ?_ (fun k => by rw [if_pos (by omega : (j : Int) < (l.length : Int)), if_pos (by omega : (0 : Int) ≤ (i : Int)), if_pos (by omega : (i : Int) < (o.length : Int)), if_neg (by omega : ¬ rd o (i : Int) = 0), if_pos (by omega : (0 : Int) ≤ (j : Int)), if_pos (by omega : (j : Int) < (o.length : Int)), if_pos (by omega : (i : Int) < (l.length : Int)), rd_L4_nat, rd_L4_nat])
      refine Ev.bind (orders_ev _ _ (hs.2 _ (getD_mem l [] i hi)).1) ?_
      have e := grpF_eq l i j hi h1
      have hb : ((rd o (i : Int) == rd o (j : Int)) != (rcmp (l.getD i []) (l.getD j []) == 0)) = false := by
        rw [hoi, hoj]
        by_cases hc : grpF l i = grpF l j
        · rw [hc, e.1 hc]; simp
        · have h2 : ¬ rcmp (l.getD i []) (l.getD j []) = 0 := fun h => hc (e.2 h)
          have h3 : ¬ grpF l i + 1 = grpF l j + 1 := by omega
          rw [beq_eq_false_iff_ne.2 h3, beq_eq_false_iff_ne.2 h2]; rfl
      refine Ev.congr ?_ (fun k => by rw [hb, if_neg (by simp), w64 j (by omega)])
      match n, hn with
      | n + 1, hn => exact whole_l3 hs o ho hv i hi v h n (j + 1) (by omega) (by omega)
      | 0, hn => omega
    · exact Ev.congr h (fun k => by rw [if_neg (by omega : ¬ (j : Int) < (l.length : Int)), w64 i (by omega)])
theorem whole_l2 {l : List (List S44)} (hs : shorts l) (o : List Int) (ho : o.length = l.length) (hv : ∀ p : Nat, p < l.length → o.getD p 0 = grpF l p + 1) : ∀ (n i : Nat), l.length - i = n → i ≤ l.length →
    Ev (fun k => tabellionlaw33_GrouperWhole.l2 k l o (i : Int)) true
  | n, i, hn, hi => by
    refine Ev.succ ?_ (fun k => by rw [tabellionlaw33_GrouperWhole.l2])
    by_cases h1 : i < l.length
    · refine Ev.congr ?_ (fun k => by rw [if_pos (by omega : (i : Int) < (l.length : Int))])
      match n, hn with
      | n + 1, hn => exact whole_l3 hs o ho hv i h1 true (whole_l2 hs o ho hv n (i + 1) (by omega) (by omega)) _ 0 rfl (Nat.zero_le _)
      | 0, hn => omega
    · refine Ev.congr ?_ (fun k => by rw [if_neg (by omega : ¬ (i : Int) < (l.length : Int))])
      exact Ev.bind awake33 (Ev.const _)
theorem whole_l1 {l : List (List S44)} (hs : shorts l) (i : Nat) (hi : i < (groupsP l).length) (h : ∀ o, OfInv l (i + 1) 0 o → Ev (fun k => tabellionlaw33_GrouperWhole.l0 k l (groupsP l) o ((i + 1 : Nat) : Int)) true) :
    ∀ (n j : Nat) (o : List Int), ((groupsP l).getD i []).length - j = n → j ≤ ((groupsP l).getD i []).length → OfInv l i j o → Ev (fun k => tabellionlaw33_GrouperWhole.l1 k l (groupsP l) o (i : Int) (j : Int)) true
  | n, j, o, hn, hj, ho => by
    have hl := hs.1
    have hgl := groups_len l
    have hx : rd_L1 (groupsP l) (i : Int) = (groupsP l).getD i [] := by unfold rd_L1; rw [Int.toNat_natCast]
    have hg := getD_mem (groupsP l) [] i hi
    have hll := (GInv.at l l.length).lens _ hg
    refine Ev.succ ?_ (fun k => by rw [tabellionlaw33_GrouperWhole.l1, hx, if_pos (by omega : (0 : Int) ≤ (i : Int)), if_pos (by omega : (i : Int) < ((groupsP l).length : Int))])
    by_cases h1 : j < ((groupsP l).getD i []).length
    · obtain ⟨hz, hput⟩ := ofInv_put l i j hi h1 o ho
      have hm : rd ((groupsP l).getD i []) (j : Int) ∈ (groupsP l).getD i [] := by
        unfold rd; rw [Int.toNat_natCast]; exact getD_mem _ _ _ h1
      have hr := (GInv.at l l.length).mem _ hg _ hm
      have hol := ho.1
      refine Ev.congr ?_ (fun k => by rw [if_pos (by omega : (j : Int) < (((groupsP l).getD i []).length : Int)), if_pos (by omega : (0 : Int) ≤ (j : Int)), if_neg (by omega : ¬ rd ((groupsP l).getD i []) (j : Int) < 0), if_neg (by omega : ¬ rd ((groupsP l).getD i []) (j : Int) ≥ (l.length : Int)), if_pos (by omega : 0 ≤ rd ((groupsP l).getD i []) (j : Int)), if_pos (by omega : rd ((groupsP l).getD i []) (j : Int) < (o.length : Int)), if_pos hz, w64 i (by omega), w64 j (by omega)])
      match n, hn with
      | n + 1, hn => exact whole_l1 hs i hi h n (j + 1) _ (by omega) (by omega) (by rw [show ((i + 1 : Nat) : Int) = (i : Int) + 1 by omega]; exact hput)
      | 0, hn => omega
    · have e : j = ((groupsP l).getD i []).length := by omega
      subst e
      refine Ev.congr (h o (ofInv_next l i hi o ho)) (fun k => by rw [if_neg (by omega : ¬ (((groupsP l).getD i []).length : Int) < (((groupsP l).getD i []).length : Int)), w64 i (by omega)])
theorem whole_l0 {l : List (List S44)} (hs : shorts l) : ∀ (n i : Nat) (o : List Int), (groupsP l).length - i = n → i ≤ (groupsP l).length → OfInv l i 0 o →
    Ev (fun k => tabellionlaw33_GrouperWhole.l0 k l (groupsP l) o (i : Int)) true
  | n, i, o, hn, hi, ho => by
    refine Ev.succ ?_ (fun k => by rw [tabellionlaw33_GrouperWhole.l0])
    by_cases h1 : i < (groupsP l).length
    · have hx : rd_L1 (groupsP l) (i : Int) = (groupsP l).getD i [] := by unfold rd_L1; rw [Int.toNat_natCast]
      have hne := (GInv.at l l.length).ne _ (getD_mem (groupsP l) [] i h1)
      have hpos : 0 < ((groupsP l).getD i []).length := List.length_pos_iff.2 hne
      refine Ev.congr ?_ (fun k => by rw [if_pos (by omega : (i : Int) < ((groupsP l).length : Int)), if_pos (by omega : (0 : Int) ≤ (i : Int)), hx, if_neg (by omega : ¬ (((groupsP l).getD i []).length : Int) = 0)])
      match n, hn with
      | n + 1, hn => exact whole_l1 hs i h1 (fun o2 h2 => whole_l0 hs n (i + 1) o2 (by omega) (by omega) h2) _ 0 o rfl (Nat.zero_le _) ho
      | 0, hn => omega
    · refine Ev.congr ?_ (fun k => by rw [if_neg (by omega : ¬ (i : Int) < ((groupsP l).length : Int))])
      refine whole_l2 hs o ho.1 (fun p hp => ?_) _ 0 rfl (Nat.zero_le _)
      have h2 := grpF_in l p hp
      rw [ho.2 p hp, if_pos (Or.inl (by omega))]
theorem whole33 (l : List (List S44)) (h : (l.all keyable && decide (l.length ≤ 1099511627776)) = true) : Ev (fun k => tabellionlaw33_GrouperWhole.f k l) true := by
  unfold tabellionlaw33_GrouperWhole.f
  by_cases h100 : (l.length : Int) > 100
  · refine Ev.congr ?_ (fun k => by rw [if_pos h100])
    exact Ev.bind awake33 (Ev.const _)
  · have hall := h
    rw [Bool.and_eq_true, decide_eq_true_eq, List.all_eq_true] at hall
    have hs : shorts l := ⟨hall.2, fun r hr => keyable_short (hall.1 r hr)⟩
    refine Ev.congr ?_ (fun k => by rw [if_neg h100])
    refine Ev.bind (v := groupsP l) (Ev.of fun _ => by unfold grouper_Groups.f; rw [if_pos h]) ?_
    refine Ev.congr ?_ (fun k => by rw [if_pos (by omega : (0 : Int) ≤ (l.length : Int)), if_pos (by omega : ((l.length : Int)).toNat ≤ 35184372088832)])
    refine whole_l0 hs _ 0 _ rfl (Nat.zero_le _) ⟨by simp, fun p hp => ?_⟩
    have h2 := grpF_in l p hp
    rw [if_neg (fun h3 => by
      rcases h3 with h3 | h3
      · omega
      · simp at h3)]
    rw [List.getD_eq_getElem?_getD, List.getElem?_replicate]
    split <;> rfl
end Go.Proofs.YtnllgjloimoebaaDoor.X

/- GrouperWhole: the row's statement for what is of bulk at most 1048576, and its card: the walk, the plain law, the opening and the shutting joined. -/
set_option linter.unusedVariables false
namespace Go.Proofs.YtnllgjloimoebaaDoor.grouperWhole
open Go.ChangeShapes Go.WideShapes Go.ChangeAt Go.RowKit Go.Proofs.YtnllgjloimoebaaDoor.X

theorem laidOut : laidOutB Tryd.prog = true := by kernel_rfl

set_option maxRecDepth 100000 in
/-- WHAT THE WALK AND THE PLAIN LAW GIVE, FOR EVERY ARGUMENT WITHIN THE BOUND AND EVERY WORLD THAT HOLDS THE TABLES. -/
theorem contract (H : Type) (enc : TypeId × Value → H) (W : World) (base : Nat) (args : Array Value) (ds gs : List (DataW H)) (before : List MemPlace)
    (hval : ∀ (j : Nat) t v, Tryd.f4.params[j]? = some t → args[j]? = some v → Value.okWide Tryd.prog W .any base t v)
    (hW : DataW.Whole enc Tryd.prog Tryd.f4.params.toList Rows.grouperWholeSpec.vars false W args.toList ds gs before) (hbk : Rows.uptoSmall H (ds ++ gs) = true) (hL : laidMetH Tryd.prog Rows.grouperWholeUptoRow.laid W) :
    Calls Tryd.prog 4 args W fun e W' => ∃ v, e = .returned v ∧ Rows.grouperWholeSpec.post enc Tryd.prog Tryd.f4 false true false false W args v W' := by
  have hW' := hW
  obtain ⟨p, q, hA0, hV, rfl, hfz, hnd⟩ := hW
  have hlt := hW'.lt
  have hA : DataW.TrodAll enc Tryd.prog W 0 (fun _ => true) true Tryd.f4.params.toList args.toList ds p := hA0
  rw [Tryd.params4] at hA hval
  obtain ⟨v0, vs0, d0, ds0, p0, q0, hargs, rfl, rfl, h0, r0⟩ := trodAll_cons hA
  obtain ⟨rfl, rfl, rfl⟩ := trodAll_nil r0
  obtain rfl : args = #[v0] := by cases args; simp_all
  obtain ⟨rfl, rfl⟩ := trodVars_none hV
  obtain ⟨a, len, cap, rfl⟩ := okWide_slice Tryd.underlying22 (hval 0 22 v0 rfl rfl)
  clear hA0
  have hb1 : Rows.uptoBulk d0 ≤ 1048576 := by
    simp only [Rows.uptoSmall, List.append_nil, Rows.uptoBulkAll, decide_eq_true_eq] at hbk
    omega
  obtain ⟨fuel, ht⟩ := h0
  obtain ⟨A, c, l, e, hlc, hC, hfit⟩ := open_rows ht hb1
  have e2 : Value.slice a len cap = Value.slice A l.length c := by simpa [Value.cells] using e
  rw [e2] at ht hW' ⊢
  have htab : Tab W := tab_of_laid hL
  obtain ⟨k, hk⟩ := whole33 l (rowsFit_ok hfit)
  refine (tabellionlaw33_GrouperWhole.calls k A c l true W hC hlc (hk k (Nat.le_refl _)) htab rfl).mono fun e W' ⟨he, hb⟩ => ?_
  subst he
  simp only [List.append_nil] at hW' hlt
  have hltp : ∀ x ∈ p0, x.block < W.heap.size := fun x hx => hlt x (by simpa using hx)
  have hargs2 : DataW.TrodAll enc Tryd.prog W' 0 (fun b => decide (b < W.heap.size)) true [22] [.slice A l.length c] [d0] (p0 ++ []) :=
    trodAll_cons_mk (Below.trod laidOut (by kernel_rfl) (of_decide_eq_true (by kernel_rfl)) ⟨fuel, ht⟩ hb hltp) trodAll_mk0
  refine ⟨_, rfl, _, _, _, [], p0 ++ [], [], hW', ?_, hargs2, rfl, hb.frame _, fun h => by cases h⟩
  exact trodAll_cons_mk (shut_bool Tryd.underlying4 _) trodAll_mk0
theorem reads (os : Os) {H : Type} (enc : TypeId × Value → H) : ∃ places, DataW.whole enc Tryd.prog ((laidWorld os).forCall (fun _ _ => 0) ⟨#[], #[.slice none 0 0], []⟩).memory Tryd.f4.params.toList Rows.grouperWholeSpec.vars false #[Value.slice none 0 0].toList 8 = some ([.nil], [], places) :=
  ⟨[], by kernel_rfl⟩

set_option maxRecDepth 100000 in
theorem liftedUpto (os : Os) (started : os.Started) (H : Type) (enc : TypeId × Value → H) (F : Stop.Interp) :
    ReturnsInHanded {} Tryd.checked os 4 .any ((Rows.OpenSpec.upto Rows.grouperWholeSpec).preRow enc Tryd.prog Tryd.f4 Rows.grouperWholeUptoRow.domain false Rows.grouperWholeUptoRow.laid) (((Rows.OpenSpec.upto Rows.grouperWholeSpec).at F).post enc Tryd.prog Tryd.f4 false true false false) := by
  obtain ⟨places, hx⟩ := reads os enc
  refine returnsInHanded_of_row (C := Tryd.checked) (s := Rows.OpenSpec.upto Rows.grouperWholeSpec) own started (by kernel_rfl) Tryd.func4
    (witness_row_at (enc := enc) (C := Tryd.checked) false (laidWorld os) #[.slice none 0 0] rfl (by kernel_rfl) (by kernel_rfl) (by kernel_rfl)
      (OpenSpec.preRow_of_cond 8 hx (by kernel_rfl) (fun k hk => by cases hk; kernel_rfl) (by kernel_rfl) (laid_met1 os))) ?_
  intro W base args ds gs before hval hW _ hcond _ hL _ _
  exact contract H enc W base args ds gs before hval hW (hcond _ rfl) hL

theorem saidUpto : Rows.GrouperWholeUptoSaid :=
  OpenClaim.holds_of_cond 4 Tryd.f4 rfl rfl rfl rfl rfl rfl rfl ⟨rfl, rfl, rfl, rfl, rfl⟩ rfl rfl rfl rfl rfl (by kernel_rfl) Tryd.func4 (by kernel_rfl)
    (of_decide_eq_true (by kernel_rfl)) (by unfold Func.isWrapper; first | (rw [if_pos (by decide +kernel)]; kernel_rfl) | (rw [if_neg (by decide +kernel)]; exact ⟨rfl, rfl⟩))
    (fun os started H enc _ F => by rw [OpenClaim.pre_eq_preRow]; exact liftedUpto os started H enc F)

/-- No parameter wants a stand-in; the program's own looks are off: what the card asks. -/
theorem plain (f : FuncId) (fn : Func) (hf : Tryd.pinned.checked.prog.funcNamed Rows.grouperWholeUptoRow.func = some f) (hfn : Tryd.pinned.checked.prog.funcs[f]? = some fn) :
    false = Tryd.pinned.checked.prog.looks [] ∧ ∀ (j : Nat) t, fn.params[j]? = some t → Tryd.pinned.checked.prog.wantsStandIn t = false := by
  obtain rfl : f = 4 := Option.some.inj ((show Tryd.prog.funcNamed Rows.grouperWholeUptoRow.func = some 4 by kernel_rfl).symm.trans hf) |>.symm
  obtain rfl : fn = Tryd.f4 := (Option.some.inj (Tryd.func4.symm.trans hfn)).symm
  refine ⟨by kernel_rfl, fun j t ht => ?_⟩
  rw [Tryd.params4] at ht
  obtain rfl : t = 22 := by simpa using Array.mem_of_getElem? ht
  exact (show Tryd.prog.wantsStandIn 22 = false by kernel_rfl)

/-- THE SECOND FORM's CARD -/
theorem cardUpto : Rows.GrouperWholeUptoCardSaid :=
  Claim7.holds_tied_plain_at .later [] _ _ _ _ saidUpto (fun _ h => by cases h) (by kernel_rfl) (fun _ h => by cases h) grouperWholeUpto_row_tie rfl ⟨rfl, rfl⟩ (by kernel_rfl) rfl plain (by kernel_rfl)
end Go.Proofs.YtnllgjloimoebaaDoor.grouperWhole
