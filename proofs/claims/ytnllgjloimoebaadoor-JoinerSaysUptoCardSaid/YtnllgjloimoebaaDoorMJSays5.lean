/- Which keys of any two lists meet is as the reference says, in all three ways; for arguments of bulk at most 1048576. Part 6 of 6. -/
import Derived.Test.YtnllgjloimoebaaDoorMJSays1
import Derived.Test.YtnllgjloimoebaaDoorMJSays3
import Derived.Test.YtnllgjloimoebaaDoorMJSays4
import Derived.Test.YtnllgjloimoebaaDoorMJSays0
import Derived.Test.YtnllgjloimoebaaDoorCards
import Derived.Test.YtnllgjloimoebaaDoorTie
import Derived.WalkKit
import Derived.ProofKit
import Derived.OpenShut
import Derived.Carry

/- Nest, Hash and Merge are the document's: all pairs of places whose keys meet, in order. -/
set_option linter.unusedVariables false
set_option linter.unusedSimpArgs false
namespace Go.Proofs.YtnllgjloimoebaaDoor.X
open Go.RowKit Go.Proofs.YtnllgjloimoebaaDoorW.PrintWords

/-- two keys meet -/
def meetP (a b : List S44) : Bool := wholeP a && (rcmp a b == 0)
theorem meetP_iff {a b : List S44} : meetP a b = true ↔ wholeP a = true ∧ a = b := by
  unfold meetP
  rw [Bool.and_eq_true, beq_iff_eq, rcmp_zero]
theorem meet_ev (a b : List S44) (ha : a.length ≤ 1099511627776) (hb : b.length ≤ 1099511627776) : Ev (fun k => joiner_meet.f k a b) (meetP a b) := by
  unfold joiner_meet.f joiner_whole.f
  rw [if_pos ha, if_pos hb]
  refine Ev.bind (v := wholeP a) (Ev.const _) ?_
  by_cases h1 : wholeP a = true
  · refine Ev.congr ?_ (fun k => by rw [if_pos h1])
    refine Ev.bind (v := wholeP b) (Ev.const _) ?_
    by_cases h2 : wholeP b = true
    · refine Ev.congr ?_ (fun k => by rw [if_pos h2])
      refine Ev.bind (orders_ev a b (by omega)) ?_
      unfold meetP
      rw [h1, Bool.true_and]
      exact Ev.const _
    · refine Ev.congr (Ev.const _) (fun k => ?_)
      rw [if_neg h2]
      congr 1
      symm
      rw [Bool.eq_false_iff]
      intro h
      have := meetP_iff.1 h
      exact h2 (this.2 ▸ h1)
  · refine Ev.congr (Ev.const _) (fun k => ?_)
    rw [if_neg h1]
    congr 1
    symm
    rw [Bool.eq_false_iff]
    intro h
    exact h1 (meetP_iff.1 h).1
theorem rmeet_loop (a b : List S44) (ha : short a) : ∀ (n i : Nat), a.length - i = n → i ≤ a.length → Ev (fun k => tabellionref32_meet.l0 k a b (i : Int)) ((a.drop i).all (fun x => !nullV x) && (rcmp a b == 0))
  | n, i, hn, hi => by
    have hw := w64 i (by have := ha.1; omega)
    refine Ev.succ ?_ (fun k => by rw [tabellionref32_meet.l0, hw])
    by_cases h1 : i < a.length
    · refine Ev.congr ?_ (fun k => by rw [if_pos (by omega : (i : Int) < (a.length : Int)), if_pos (by omega : (0 : Int) ≤ (i : Int)), getD_T44])
      rw [drop_getD a z44 i h1, List.all_cons]
      by_cases h2 : (a.getD i z44).f0 = 0
      · refine Ev.congr (Ev.const _) (fun k => ?_)
        rw [if_pos h2]
        have : nullV (a.getD i z44) = true := by unfold nullV; rw [h2]; rfl
        rw [this]
        rfl
      · have : nullV (a.getD i z44) = false := by unfold nullV; exact beq_eq_false_iff_ne.2 h2
        rw [this]
        match n, hn with
        | n + 1, hn =>
          exact Ev.congr (rmeet_loop a b ha n (i + 1) (by omega) (by omega)) (fun k => by rw [if_neg h2])
        | 0, hn => omega
    · rw [List.drop_eq_nil_of_le (by omega : a.length ≤ i)]
      refine Ev.congr ?_ (fun k => by rw [if_neg (by omega : ¬ (i : Int) < (a.length : Int))])
      exact Ev.bind (rorders_ev a b ha) (Ev.const _)
theorem rmeet_ev (a b : List S44) (ha : short a) : Ev (fun k => tabellionref32_meet.f k a b) (meetP a b) := rmeet_loop a b ha _ 0 rfl (Nat.zero_le _)

/-! ### the pairs, in order -/
def rowFrom (a : List S44) (i : Int) : Nat → List (List S44) → List S40
  | _, [] => []
  | j, b :: bs => if meetP a b then ⟨i, (j : Int)⟩ :: rowFrom a i (j + 1) bs else rowFrom a i (j + 1) bs
def nestFrom (r : List (List S44)) : Nat → List (List S44) → List S40
  | _, [] => []
  | i, a :: ys => rowFrom a (i : Int) 0 r ++ nestFrom r (i + 1) ys
def nestP (l r : List (List S44)) : List S40 := nestFrom r 0 l
theorem rowFrom_len (a : List S44) (i : Int) : ∀ j bs, (rowFrom a i j bs).length ≤ bs.length
  | _, [] => by simp [rowFrom]
  | j, b :: bs => by
    have := rowFrom_len a i (j + 1) bs
    unfold rowFrom
    split <;> simp <;> omega
theorem rowFrom_snoc (a : List S44) (i : Int) (b : List S44) : ∀ j bs, rowFrom a i j (bs ++ [b]) = rowFrom a i j bs ++ (if meetP a b then [⟨i, ((j + bs.length : Nat) : Int)⟩] else [])
  | j, [] => by simp [rowFrom]
  | j, c :: bs => by
    have h := rowFrom_snoc a i b (j + 1) bs
    have e : j + 1 + bs.length = j + (c :: bs).length := by simp; omega
    rw [e] at h
    rw [List.cons_append, rowFrom, rowFrom, h]
    split <;> simp
theorem nestFrom_snoc (r : List (List S44)) (a : List S44) : ∀ i ys, nestFrom r i (ys ++ [a]) = nestFrom r i ys ++ rowFrom a ((i + ys.length : Nat) : Int) 0 r
  | i, [] => by simp [nestFrom]
  | i, c :: ys => by
    have h := nestFrom_snoc r a (i + 1) ys
    have e : i + 1 + ys.length = i + (c :: ys).length := by simp; omega
    rw [e] at h
    rw [List.cons_append, nestFrom, nestFrom, h, List.append_assoc]

def lens (l : List (List S44)) : Prop := l.length ≤ 1048576 ∧ ∀ r ∈ l, r.length ≤ 1099511627776
theorem lens_rd {l : List (List S44)} (h : lens l) (i : Nat) : (l.getD i []).length ≤ 1099511627776 := by
  by_cases hi : i < l.length
  · exact h.2 _ (getD_mem _ _ _ hi)
  · rw [List.getD_eq_getElem?_getD, List.getElem?_eq_none (by omega)]; simp
theorem rd4 (l : List (List S44)) (i : Nat) : rd_L4 l (i : Int) = l.getD i [] := by unfold rd_L4; rw [Int.toNat_natCast]

theorem nest_l1 (l r : List (List S44)) (hl : lens l) (hr : lens r) (i : Nat) (hi : i < l.length) (L I : Int) (v : List S40) : ∀ (n j : Nat) (o : List S40), r.length - j = n → j ≤ r.length → o.length ≤ i * 1048576 + j →
    (∀ o', o' = o ++ rowFrom (l.getD i []) (i : Int) j (r.drop j) → Ev (fun k => joiner_Nest.l0 k l r o' L (wrap64 (I + 1))) v) → Ev (fun k => joiner_Nest.l1 k l r o (i : Int) L I (r.length : Int) (j : Int)) v
  | n, j, o, hn, hj, ho, hv => by
    have hil := hl.1
    have hrl := hr.1
    have hm : i * 1048576 ≤ 1099511627776 := by omega
    have hol : o.length < 8796093022208 := by clear hv; omega
    refine Ev.succ ?_ (fun k => by rw [joiner_Nest.l1, w64 j (by omega)])
    by_cases h1 : j < r.length
    · rw [drop_getD r [] j h1] at hv
      refine Ev.congr ?_ (fun k => by rw [if_pos (by omega : (j : Int) < (r.length : Int)), if_pos (by omega : (0 : Int) ≤ (i : Int)), if_pos (by omega : (i : Int) < (l.length : Int)), if_pos (by omega : (0 : Int) ≤ (j : Int)), if_pos (by omega : (j : Int) < (r.length : Int)), rd4, rd4])
      refine Ev.bind (meet_ev _ _ (lens_rd hl i) (lens_rd hr j)) ?_
      match n, hn with
      | n + 1, hn =>
        by_cases h2 : meetP (l.getD i []) (r.getD j []) = true
        · refine Ev.congr ?_ (fun k => by rw [if_pos h2, if_pos hol])
          refine nest_l1 l r hl hr i hi L I v n (j + 1) _ (by clear hv hol; omega) (by clear hv hol; omega) (by clear hv hol; rw [List.length_append, List.length_singleton]; omega) (fun o' ho' => hv o' ?_)
          rw [ho', rowFrom, if_pos h2, List.append_assoc, List.singleton_append]
        · refine Ev.congr ?_ (fun k => by rw [if_neg h2])
          refine nest_l1 l r hl hr i hi L I v n (j + 1) _ (by omega) (by omega) (by omega) (fun o' ho' => hv o' ?_)
          rw [ho', rowFrom, if_neg h2]
      | 0, hn => omega
    · rw [List.drop_eq_nil_of_le (by omega : r.length ≤ j), rowFrom, List.append_nil] at hv
      exact Ev.congr (hv _ rfl) (fun k => by rw [if_neg (by omega : ¬ (j : Int) < (r.length : Int))])
theorem nest_l0 (l r : List (List S44)) (hl : lens l) (hr : lens r) : ∀ (n i : Nat) (o : List S40), l.length - i = n → i ≤ l.length → o.length ≤ i * 1048576 →
    Ev (fun k => joiner_Nest.l0 k l r o (l.length : Int) (i : Int)) (o ++ nestFrom r i (l.drop i))
  | n, i, o, hn, hi, ho => by
    have hil := hl.1
    refine Ev.succ ?_ (fun k => by rw [joiner_Nest.l0])
    by_cases h1 : i < l.length
    · rw [drop_getD l [] i h1, nestFrom, ← List.append_assoc]
      refine Ev.congr ?_ (fun k => by rw [if_pos (by omega : (i : Int) < (l.length : Int))])
      refine nest_l1 l r hl hr i h1 _ _ _ _ 0 o rfl (Nat.zero_le _) (by rw [Nat.add_zero]; exact ho) (fun o' ho' => ?_)
      rw [w64 i (by omega)]
      rw [List.drop_zero] at ho'
      subst ho'
      match n, hn with
      | n + 1, hn =>
        refine nest_l0 l r hl hr n (i + 1) _ (by omega) (by omega) ?_
        have := rowFrom_len (l.getD i []) (i : Int) 0 r
        have := hr.1
        rw [List.length_append, Nat.succ_mul]; omega
      | 0, hn => omega
    · rw [List.drop_eq_nil_of_le (by omega : l.length ≤ i), nestFrom, List.append_nil]
      exact Ev.congr (Ev.const _) (fun k => by rw [if_neg (by omega : ¬ (i : Int) < (l.length : Int))])
theorem nest_ev (l r : List (List S44)) (hl : lens l) (hr : lens r) : Ev (fun k => joiner_Nest.f k l r) (nestP l r) := nest_l0 l r hl hr _ 0 [] rfl (Nat.zero_le _) (by simp)

theorem rnest_l1 (l r : List (List S44)) (hl : lens l) (hr : lens r) (hs : shorts l) (i : Nat) (hi : i < l.length) (v : List S40) : ∀ (n j : Nat) (o : List S40), r.length - j = n → j ≤ r.length → o.length ≤ i * 1048576 + j →
    (∀ o', o' = o ++ rowFrom (l.getD i []) (i : Int) j (r.drop j) → Ev (fun k => tabellionref32_Nest.l0 k l r o' ((i + 1 : Nat) : Int)) v) → Ev (fun k => tabellionref32_Nest.l1 k l r o (i : Int) (j : Int)) v
  | n, j, o, hn, hj, ho, hv => by
    have hil := hl.1
    have hrl := hr.1
    have hm : i * 1048576 ≤ 1099511627776 := by omega
    have hol : o.length < 8796093022208 := by clear hv; omega
    refine Ev.succ ?_ (fun k => by rw [tabellionref32_Nest.l1, w64 j (by omega), w64 i (by omega)])
    by_cases h1 : j < r.length
    · rw [drop_getD r [] j h1] at hv
      refine Ev.congr ?_ (fun k => by rw [if_pos (by omega : (j : Int) < (r.length : Int)), if_pos (by omega : (0 : Int) ≤ (i : Int)), if_pos (by omega : (i : Int) < (l.length : Int)), if_pos (by omega : (0 : Int) ≤ (j : Int))])
      have hsi := shorts_rd hs (i : Int)
      refine Ev.bind (rmeet_ev _ _ hsi) ?_
      rw [rd4, rd4]
      match n, hn with
      | n + 1, hn =>
        by_cases h2 : meetP (l.getD i []) (r.getD j []) = true
        · refine Ev.congr ?_ (fun k => by rw [if_pos h2, if_pos hol])
          refine rnest_l1 l r hl hr hs i hi v n (j + 1) _ (by clear hv hol; omega) (by clear hv hol; omega) (by clear hv hol; rw [List.length_append, List.length_singleton]; omega) (fun o' ho' => hv o' ?_)
          rw [ho', rowFrom, if_pos h2, List.append_assoc, List.singleton_append]
        · refine Ev.congr ?_ (fun k => by rw [if_neg h2])
          refine rnest_l1 l r hl hr hs i hi v n (j + 1) _ (by omega) (by omega) (by omega) (fun o' ho' => hv o' ?_)
          rw [ho', rowFrom, if_neg h2]
      | 0, hn => omega
    · rw [List.drop_eq_nil_of_le (by omega : r.length ≤ j), rowFrom, List.append_nil] at hv
      exact Ev.congr (hv _ rfl) (fun k => by rw [if_neg (by omega : ¬ (j : Int) < (r.length : Int))])
theorem rnest_l0 (l r : List (List S44)) (hl : lens l) (hr : lens r) (hs : shorts l) : ∀ (n i : Nat) (o : List S40), l.length - i = n → i ≤ l.length → o.length ≤ i * 1048576 →
    Ev (fun k => tabellionref32_Nest.l0 k l r o (i : Int)) (o ++ nestFrom r i (l.drop i))
  | n, i, o, hn, hi, ho => by
    have hil := hl.1
    refine Ev.succ ?_ (fun k => by rw [tabellionref32_Nest.l0])
    by_cases h1 : i < l.length
    · rw [drop_getD l [] i h1, nestFrom, ← List.append_assoc]
      refine Ev.congr ?_ (fun k => by rw [if_pos (by omega : (i : Int) < (l.length : Int))])
      refine rnest_l1 l r hl hr hs i h1 _ _ 0 o rfl (Nat.zero_le _) (by rw [Nat.add_zero]; exact ho) (fun o' ho' => ?_)
      rw [List.drop_zero] at ho'
      subst ho'
      match n, hn with
      | n + 1, hn =>
        refine rnest_l0 l r hl hr hs n (i + 1) _ (by omega) (by omega) ?_
        have := rowFrom_len (l.getD i []) (i : Int) 0 r
        have := hr.1
        rw [List.length_append, Nat.succ_mul]; omega
      | 0, hn => omega
    · rw [List.drop_eq_nil_of_le (by omega : l.length ≤ i), nestFrom, List.append_nil]
      exact Ev.congr (Ev.const _) (fun k => by rw [if_neg (by omega : ¬ (i : Int) < (l.length : Int))])
theorem rnest_ev (l r : List (List S44)) (hl : lens l) (hr : lens r) (hs : shorts l) : Ev (fun k => tabellionref32_Nest.f k l r) (nestP l r) := rnest_l0 l r hl hr hs _ 0 [] rfl (Nat.zero_le _) (by simp)

/-! ### Hash -/
theorem take_succ_getD (l : List (List S44)) (k : Nat) (h : k < l.length) : l.take (k + 1) = l.take k ++ [l.getD k []] := by
  rw [List.take_succ_eq_append_getElem h, List.getD_eq_getElem?_getD, List.getElem?_eq_getElem h]; rfl
theorem ktext_inj2 : ∀ {a b : List S44}, ktext a = ktext b → a = b
  | [], [], _ => rfl
  | [], y :: b, h => by
    exfalso
    have h1 : (32 : UInt8) ∈ ktext (y :: b) := by unfold ktext; rw [List.flatMap_cons]; unfold vtext; simp
    rw [← h] at h1
    simp [ktext] at h1
  | x :: a, [], h => by
    exfalso
    have h1 : (32 : UInt8) ∈ ktext (x :: a) := by unfold ktext; rw [List.flatMap_cons]; unfold vtext; simp
    rw [h] at h1
    simp [ktext] at h1
  | x :: a, y :: b, h => by
    unfold ktext at h
    rw [List.flatMap_cons, List.flatMap_cons] at h
    obtain ⟨h1, h2⟩ := vtext_inj h
    rw [h1, ktext_inj2 h2]
theorem hashF_row (r : List (List S44)) (a : List S44) (ha : wholeP a = true) (i : Int) : ∀ m, m ≤ r.length → (hashF r m (ktext a)).map (fun j => (⟨i, j⟩ : S40)) = rowFrom a i 0 (r.take m)
  | 0, _ => by simp [hashF, rowFrom]
  | m + 1, h => by
    rw [take_succ_getD r m (by omega), rowFrom_snoc, ← hashF_row r a ha i m (by omega), hashF]
    rw [show 0 + (r.take m).length = m by rw [List.length_take]; omega]
    show List.map _ (if wholeP (r.getD m []) = true ∧ ktext a = ktext (r.getD m []) then hashF r m (ktext a) ++ [(m : Int)] else hashF r m (ktext a)) = _
    by_cases h1 : meetP a (r.getD m []) = true
    · have h2 := meetP_iff.1 h1
      have h3 : wholeP (r.getD m []) = true := h2.2 ▸ ha
      have h4 : ktext a = ktext (r.getD m []) := by rw [← h2.2]
      rw [if_pos (And.intro h3 h4), if_pos h1, List.map_append]; rfl
    · rw [if_neg (fun h => h1 (meetP_iff.2 ⟨ha, ktext_inj2 h.2⟩)), if_neg h1, List.append_nil]
theorem rowFrom_null (a : List S44) (ha : ¬ wholeP a = true) (i : Int) : ∀ j bs, rowFrom a i j bs = []
  | _, [] => rfl
  | j, b :: bs => by
    rw [rowFrom, if_neg (fun h => ha (meetP_iff.1 h).1)]
    exact rowFrom_null a ha i (j + 1) bs
theorem hashP_from (l r : List (List S44)) : ∀ m, m ≤ l.length → hashP l r m = nestFrom r 0 (l.take m)
  | 0, _ => rfl
  | m + 1, h => by
    rw [take_succ_getD l m (by omega), nestFrom_snoc, ← hashP_from l r m (by omega), hashP]
    rw [show 0 + (l.take m).length = m by rw [List.length_take]; omega]
    by_cases h1 : wholeP (l.getD m []) = true
    · rw [if_pos h1, hashF_row r _ h1 _ r.length (Nat.le_refl _), List.take_length]
    · rw [if_neg h1, rowFrom_null _ h1, List.append_nil]
theorem hashP_eq (l r : List (List S44)) : hashP l r l.length = nestP l r := by rw [hashP_from l r _ (Nat.le_refl _), List.take_length]; rfl

/-! ### Merge -/
/-- the pairs of places whose keys are one -/
def rowX (l r : List (List S44)) (B : List Int) (p : Int) : List S40 := (B.filter fun q => rcmp (rd_L4 l p) (rd_L4 r q) == 0).map fun q => ⟨p, q⟩
def pairsP (l r : List (List S44)) (A B : List Int) : List S40 := A.flatMap (rowX l r B)
theorem rowX_from (l r : List (List S44)) (p : Nat) (hp : wholeP (l.getD p []) = true) : ∀ m, m ≤ r.length → rowX l r (wholesTo r m) (p : Int) = rowFrom (l.getD p []) (p : Int) 0 (r.take m)
  | 0, _ => by simp [rowX, wholesTo, rowFrom]
  | m + 1, h => by
    rw [take_succ_getD r m (by omega), rowFrom_snoc, ← rowX_from l r p hp m (by omega), wholesTo]
    rw [show 0 + (r.take m).length = m by rw [List.length_take]; omega]
    unfold rowX
    by_cases h1 : meetP (l.getD p []) (r.getD m []) = true
    · have h2 := meetP_iff.1 h1
      have h3 : ((r.getD m []).all fun x => !nullV x) = true := h2.2 ▸ hp
      rw [if_pos h3, if_pos h1, List.filter_append, List.map_append]
      congr 1
      rw [List.filter_cons, if_pos (by rw [rd4, rd4, ← h2.2, rcmp_self]; rfl)]
      rfl
    · rw [if_neg h1, List.append_nil]
      split
      · rw [List.filter_append, List.filter_cons, if_neg (by
          intro h
          rw [rd4, rd4, beq_iff_eq, rcmp_zero] at h
          exact h1 (meetP_iff.2 ⟨hp, h⟩)), List.filter_nil, List.append_nil]
      · rfl
theorem pairsP_from (l r : List (List S44)) : ∀ m, m ≤ l.length → pairsP l r (wholesTo l m) (wholesTo r r.length) = nestFrom r 0 (l.take m)
  | 0, _ => by simp [pairsP, wholesTo, nestFrom]
  | m + 1, h => by
    rw [take_succ_getD l m (by omega), nestFrom_snoc, ← pairsP_from l r m (by omega), wholesTo]
    rw [show 0 + (l.take m).length = m by rw [List.length_take]; omega]
    unfold pairsP
    show List.flatMap _ (if wholeP (l.getD m []) = true then wholesTo l m ++ [(m : Int)] else wholesTo l m) = _
    by_cases h1 : wholeP (l.getD m []) = true
    · rw [if_pos h1, List.flatMap_append, List.flatMap_singleton, rowX_from l r m h1 _ (Nat.le_refl _), List.take_length]
    · rw [if_neg h1, rowFrom_null _ h1, List.append_nil]
theorem pairsP_eq (l r : List (List S44)) : pairsP l r (wholesTo l l.length) (wholesTo r r.length) = nestP l r := by rw [pairsP_from l r _ (Nat.le_refl _), List.take_length]; rfl

theorem rcmp_le_lt {a b c : List S44} (h1 : rcmp a b ≤ 0) (h2 : rcmp b c < 0) : rcmp a c < 0 := by
  by_cases h : rcmp a b = 0
  · rw [rcmp_zero.1 h]; exact h2
  · exact rcmp_trans (by omega) h2
theorem rcmp_lt_le {a b c : List S44} (h1 : rcmp a b < 0) (h2 : rcmp b c ≤ 0) : rcmp a c < 0 := by
  by_cases h : rcmp b c = 0
  · rw [← rcmp_zero.1 h]; exact h1
  · exact rcmp_trans h1 (by omega)
theorem takeWhile_take {α : Type} (p : α → Bool) : ∀ l : List α, l.take (l.takeWhile p).length = l.takeWhile p
  | [] => rfl
  | x :: l => by
    by_cases h : p x = true
    · rw [List.takeWhile_cons_of_pos h, List.length_cons, List.take_succ_cons, takeWhile_take p l]
    · rw [List.takeWhile_cons_of_neg h]; rfl
theorem takeWhile_drop {α : Type} (p : α → Bool) : ∀ l : List α, l.drop (l.takeWhile p).length = l.dropWhile p
  | [] => rfl
  | x :: l => by
    by_cases h : p x = true
    · rw [List.takeWhile_cons_of_pos h, List.length_cons, List.drop_succ_cons, takeWhile_drop p l, List.dropWhile_cons_of_pos h]
    · rw [List.takeWhile_cons_of_neg h, List.dropWhile_cons_of_neg h]; rfl
/-- a run of one key, and what follows it -/
theorem run_split (l : List (List S44)) (a : List Int) (hs : a.Pairwise fun x y => rcmp (rd_L4 l x) (rd_L4 l y) ≤ 0) (i : Nat) (hi : i < a.length) :
    (∀ x ∈ (a.drop i).take (runN l a i), rd_L4 l x = rd_L4 l (rd a (i : Int))) ∧ (∀ y ∈ a.drop (i + runN l a i), rcmp (rd_L4 l (rd a (i : Int))) (rd_L4 l y) < 0) ∧ (∀ x ∈ a.drop i, rcmp (rd_L4 l (rd a (i : Int))) (rd_L4 l x) ≤ 0) := by
  have hd : a.drop i = rd a (i : Int) :: a.drop (i + 1) := by
    rw [drop_getD a 0 i hi]; unfold rd; rw [Int.toNat_natCast]
  have hp := hs.sublist (List.drop_sublist i a)
  rw [hd, List.pairwise_cons] at hp
  refine ⟨?_, ?_, ?_⟩
  · intro x hx
    rw [hd] at hx
    unfold runN at hx
    rw [Nat.add_comm, List.take_succ_cons, takeWhile_take] at hx
    rcases List.mem_cons.1 hx with h | h
    · rw [h]
    · have h2 := List.all_eq_true.1 List.all_takeWhile x h
      rw [beq_iff_eq, rcmp_zero] at h2
      exact h2.symm
  · intro y hy
    unfold runN at hy
    rw [← Nat.add_assoc, ← List.drop_drop, takeWhile_drop] at hy
    have hsub := List.dropWhile_sublist (l := a.drop (i + 1)) (fun p => rcmp (rd_L4 l (rd a (i : Int))) (rd_L4 l p) == 0)
    have hp2 := hp.2.sublist hsub
    cases hc : (a.drop (i + 1)).dropWhile (fun p => rcmp (rd_L4 l (rd a (i : Int))) (rd_L4 l p) == 0) with
    | nil => rw [hc] at hy; simp at hy
    | cons z zs =>
      have hz : rcmp (rd_L4 l (rd a (i : Int))) (rd_L4 l z) < 0 := by
        have h1 := hp.1 z (hsub.subset (by rw [hc]; simp))
        have h2 := List.head?_dropWhile_not (fun p => rcmp (rd_L4 l (rd a (i : Int))) (rd_L4 l p) == 0) (a.drop (i + 1))
        rw [hc] at h2
        simp at h2
        omega
      rw [hc] at hy hp2
      rcases List.mem_cons.1 hy with h | h
      · rw [h]; exact hz
      · exact rcmp_lt_le hz ((List.pairwise_cons.1 hp2).1 y h)
  · intro x hx
    rw [hd] at hx
    rcases List.mem_cons.1 hx with h | h
    · rw [h, rcmp_self]; exact Int.le_refl _
    · exact hp.1 x h
theorem crossP_flat (a b : List Int) (i k n : Nat) : ∀ m, i + m ≤ a.length → crossP a b i k n m = ((a.drop i).take m).flatMap (fun p => rowP p b k n)
  | 0, _ => by simp [crossP]
  | m + 1, h => by
    rw [crossP, crossP_flat a b i k n m (by omega), List.take_succ_eq_append_getElem (by rw [List.length_drop]; omega), List.flatMap_append, List.flatMap_singleton]
    congr 2
    rw [List.getElem_drop]
    unfold rd
    rw [Int.toNat_natCast, List.getD_eq_getElem?_getD, List.getElem?_eq_getElem (by omega)]
    rfl
theorem rowX_none (l r : List (List S44)) (B : List Int) (p : Int) (h : ∀ q ∈ B, rcmp (rd_L4 l p) (rd_L4 r q) ≠ 0) : rowX l r B p = [] := by
  unfold rowX
  rw [List.filter_eq_nil_iff.2 (fun q hq => by rw [beq_iff_eq]; exact h q hq)]; rfl
theorem rowX_app (l r : List (List S44)) (B C : List Int) (p : Int) : rowX l r (B ++ C) p = rowX l r B p ++ rowX l r C p := by
  unfold rowX
  rw [List.filter_append, List.map_append]
theorem pairs_nil (l r : List (List S44)) (A B : List Int) (h : ∀ p ∈ A, ∀ q ∈ B, rcmp (rd_L4 l p) (rd_L4 r q) ≠ 0) : pairsP l r A B = [] := by
  unfold pairsP
  rw [List.flatMap_eq_nil_iff]
  exact fun p hp => rowX_none l r B p (h p hp)
theorem pairs_right (l r : List (List S44)) (A B C : List Int) (h : ∀ p ∈ A, ∀ q ∈ B, rcmp (rd_L4 l p) (rd_L4 r q) ≠ 0) : pairsP l r A (B ++ C) = pairsP l r A C := by
  induction A with
  | nil => rfl
  | cons x A ih =>
    unfold pairsP at *
    rw [List.flatMap_cons, List.flatMap_cons, rowX_app, rowX_none l r B x (h x (by simp)), List.nil_append, ih (fun p hp => h p (by simp [hp]))]
theorem pairs_left (l r : List (List S44)) (A B C : List Int) (h : ∀ p ∈ A, ∀ q ∈ C, rcmp (rd_L4 l p) (rd_L4 r q) ≠ 0) : pairsP l r A (B ++ C) = pairsP l r A B := by
  induction A with
  | nil => rfl
  | cons x A ih =>
    unfold pairsP at *
    rw [List.flatMap_cons, List.flatMap_cons, rowX_app, rowX_none l r C x (h x (by simp)), List.append_nil, ih (fun p hp => h p (by simp [hp]))]
theorem pairs_all (l r : List (List S44)) (A B : List Int) (h : ∀ p ∈ A, ∀ q ∈ B, rcmp (rd_L4 l p) (rd_L4 r q) = 0) : pairsP l r A B = A.flatMap (fun p => B.map fun q => (⟨p, q⟩ : S40)) := by
  induction A with
  | nil => rfl
  | cons x A ih =>
    unfold pairsP at *
    rw [List.flatMap_cons, List.flatMap_cons, ih (fun p hp => h p (by simp [hp]))]
    congr 1
    unfold rowX
    rw [List.filter_eq_self.2 (fun q hq => by rw [beq_iff_eq]; exact h x (by simp) q hq)]
theorem pairs_app (l r : List (List S44)) (A B C : List Int) : pairsP l r (A ++ B) C = pairsP l r A C ++ pairsP l r B C := List.flatMap_append ..

theorem mergeGo_eq (l r : List (List S44)) (a b : List Int) (ha : a.Pairwise fun x y => rcmp (rd_L4 l x) (rd_L4 l y) ≤ 0) (hb : b.Pairwise fun x y => rcmp (rd_L4 r x) (rd_L4 r y) ≤ 0) :
    ∀ (f i k : Nat) (o : List S40), (a.length - i) + (b.length - k) ≤ f → mergeGo l r a b f i k o = o ++ pairsP l r (a.drop i) (b.drop k)
  | 0, i, k, o, h => by
    rw [mergeGo, List.drop_eq_nil_of_le (by omega : a.length ≤ i)]
    simp [pairsP]
  | f + 1, i, k, o, h => by
    rw [mergeGo]
    split
    · rename_i hik
      obtain ⟨hi, hk⟩ := hik
      obtain ⟨ha1, ha2, ha3⟩ := run_split l a ha i hi
      obtain ⟨hb1, hb2, hb3⟩ := run_split r b hb k hk
      have hm := runN_le l a i hi
      have hn := runN_le r b k hk
      have hm0 : 1 ≤ runN l a i := by unfold runN; omega
      have hn0 : 1 ≤ runN r b k := by unfold runN; omega
      have ea : a.drop i = (a.drop i).take (runN l a i) ++ a.drop (i + runN l a i) := by
        rw [← List.drop_drop, List.take_append_drop]
      have eb : b.drop k = (b.drop k).take (runN r b k) ++ b.drop (k + runN r b k) := by
        rw [← List.drop_drop, List.take_append_drop]
      obtain ⟨c, hc⟩ : ∃ c, c = rcmp (rd_L4 l (rd a (i : Int))) (rd_L4 r (rd b (k : Int))) := ⟨_, rfl⟩
      have hneg := rcmp_neg (rd_L4 l (rd a (i : Int))) (rd_L4 r (rd b (k : Int)))
      rw [← hc] at hneg ⊢
      rcases Int.lt_trichotomy c 0 with h0 | h0 | h0
      · rw [if_pos (by omega : c ≤ 0), if_neg (by omega : ¬ c ≥ 0), if_neg (by omega : ¬ c = 0), mergeGo_eq l r a b ha hb f _ k o (by omega)]
        have e1 : pairsP l r ((a.drop i).take (runN l a i)) (b.drop k) = [] := pairs_nil l r _ _ (fun p hp q hq => by
          rw [ha1 p hp]
          have := rcmp_lt_le (by omega : rcmp (rd_L4 l (rd a (i : Int))) (rd_L4 r (rd b (k : Int))) < 0) (hb3 q hq)
          omega)
        conv => rhs; rw [ea, pairs_app, e1, List.nil_append]
      · rw [if_pos (by omega : c ≤ 0), if_pos (by omega : c ≥ 0), if_pos h0, mergeGo_eq l r a b ha hb f _ _ _ (by omega), List.append_assoc]
        have hkey : rd_L4 l (rd a (i : Int)) = rd_L4 r (rd b (k : Int)) := rcmp_zero.1 (by omega)
        have e1 : pairsP l r ((a.drop i).take (runN l a i)) (b.drop k) = crossP a b i k (runN r b k) (runN l a i) := by
          rw [crossP_flat a b i k _ _ hm]
          conv => lhs; rw [eb]
          rw [pairs_left l r _ _ _ (fun p hp q hq => by
            rw [ha1 p hp, hkey]
            have := hb2 q hq
            omega), pairs_all l r _ _ (fun p hp q hq => by rw [ha1 p hp, hb1 q hq, hkey, rcmp_self])]
          rfl
        have e2 : pairsP l r (a.drop (i + runN l a i)) (b.drop k) = pairsP l r (a.drop (i + runN l a i)) (b.drop (k + runN r b k)) := by
          conv => lhs; rw [eb]
          rw [pairs_right l r _ _ _ (fun p hp q hq => by
            have h1 := ha2 p hp
            rw [hb1 q hq, ← hkey]
            have := rcmp_neg (rd_L4 l (rd a (i : Int))) (rd_L4 l p)
            omega)]
        conv => rhs; rw [ea, pairs_app, e1, e2]
      · rw [if_neg (by omega : ¬ c ≤ 0), if_pos (by omega : c ≥ 0), if_neg (by omega : ¬ c = 0), mergeGo_eq l r a b ha hb f i _ o (by omega)]
        have e2 : pairsP l r (a.drop i) (b.drop k) = pairsP l r (a.drop i) (b.drop (k + runN r b k)) := by
          conv => lhs; rw [eb]
          rw [pairs_right l r _ _ _ (fun p hp q hq => by
            rw [hb1 q hq]
            have h1 := rcmp_lt_le (by omega : rcmp (rd_L4 r (rd b (k : Int))) (rd_L4 l (rd a (i : Int))) < 0) (ha3 p hp)
            have := rcmp_neg (rd_L4 r (rd b (k : Int))) (rd_L4 l p)
            omega)]
        rw [e2]
    · rename_i hik
      by_cases hi : i < a.length
      · rw [List.drop_eq_nil_of_le (by omega : b.length ≤ k), pairs_nil l r _ _ (by simp), List.append_nil]
      · rw [List.drop_eq_nil_of_le (by omega : a.length ≤ i)]
        simp [pairsP]
theorem ranked_pw (l : List (List S44)) : (rankedP l).Pairwise fun x y => rcmp (rd_L4 l x) (rd_L4 l y) ≤ 0 := by
  have h1 : (rankedP l).Pairwise (fun a b => (!decide (rkc l b a < 0)) = true) := by
    unfold rankedP
    refine List.pairwise_mergeSort (fun a b c h1 h2 => ?_) (fun a b => ?_) _
    · simp only [Bool.not_eq_true', decide_eq_false_iff_not] at *
      intro h
      have e1 := rkc_neg l a b
      by_cases h3 : rkc l a b = 0
      · rw [rkc_zero l h3] at h; exact h2 h
      · exact h2 (rkc_trans l h (by omega))
    · simp only [Bool.or_eq_true, Bool.not_eq_true', decide_eq_false_iff_not]
      have := rkc_neg l a b
      omega
  refine h1.imp ?_
  intro a b h
  simp only [Bool.not_eq_true', decide_eq_false_iff_not] at h
  have e := rcmp_neg (rd_L4 l a) (rd_L4 l b)
  unfold rkc at h
  split at h
  · omega
  · omega
theorem wholesTo_pw (l : List (List S44)) : ∀ k, (wholesTo l k).Pairwise fun x y => x < y
  | 0 => by simp [wholesTo]
  | k + 1 => by
    unfold wholesTo
    split
    · rw [List.pairwise_append]
      refine ⟨wholesTo_pw l k, by simp, fun a ha b hb => ?_⟩
      rw [List.mem_singleton.1 hb]
      have := wholesTo_in l k a ha
      omega
    · exact wholesTo_pw l k
theorem nestP_pw (l r : List (List S44)) : (nestP l r).Pairwise fun x y => pcmp x y < 0 := by
  rw [← pairsP_eq]
  unfold pairsP
  rw [List.pairwise_flatMap]
  refine ⟨fun p hp => ?_, ?_⟩
  · unfold rowX
    rw [List.pairwise_map]
    refine ((wholesTo_pw r r.length).filter _).imp ?_
    intro x y h
    unfold pcmp
    simp only
    rw [if_pos (icmp_zero.2 rfl)]
    exact icmp_lt.2 h
  · refine (wholesTo_pw l l.length).imp ?_
    intro x y h u hu v hv
    unfold rowX at hu hv
    obtain ⟨_, _, rfl⟩ := List.mem_map.1 hu
    obtain ⟨_, _, rfl⟩ := List.mem_map.1 hv
    unfold pcmp
    simp only
    have := icmp_lt.2 h
    rw [if_neg (by omega)]
    exact this
theorem flatMap_perm {α β : Type} {f g : α → List β} : ∀ (A : List α), (∀ p ∈ A, (f p).Perm (g p)) → (A.flatMap f).Perm (A.flatMap g)
  | [], _ => List.Perm.refl _
  | x :: A, h => by
    rw [List.flatMap_cons, List.flatMap_cons]
    exact (h x (by simp)).append (flatMap_perm A (fun p hp => h p (by simp [hp])))
theorem mergeP_eq (l r : List (List S44)) : mergeP l r = nestP l r := by
  have h1 : (mergeP l r).Perm (nestP l r) := by
    unfold mergeP
    refine (List.mergeSort_perm _ _).trans ?_
    rw [mergeGo_eq l r _ _ (ranked_pw l) (ranked_pw r) _ 0 0 [] (by omega), List.nil_append, List.drop_zero, List.drop_zero, ← pairsP_eq]
    unfold pairsP
    refine ((ranked_perm l).flatMap_right _).trans ?_
    exact flatMap_perm _ (fun p hp => by unfold rowX; exact ((ranked_perm r).filter _).map _)
  refine pw_unique (lt := fun x y => pcmp x y < 0) (fun a b h h2 => by have := pcmp_neg a b; omega) h1 ?_ (nestP_pw l r)
  have h2 : (mergeP l r).Pairwise (fun a b => (!decide (pcmp b a < 0)) = true) := by
    unfold mergeP
    refine List.pairwise_mergeSort (fun a b c h1 h2 => ?_) (fun a b => ?_) _
    · simp only [Bool.not_eq_true', decide_eq_false_iff_not] at *
      intro h
      have e1 := pcmp_neg a b
      by_cases h3 : pcmp a b = 0
      · rw [pcmp_zero h3] at h; exact h2 h
      · exact h2 (pcmp_trans h (by omega))
    · simp only [Bool.or_eq_true, Bool.not_eq_true', decide_eq_false_iff_not]
      have := pcmp_neg a b
      omega
  have h3 : (mergeP l r).Pairwise (fun a b => pcmp a b ≠ 0) := h1.symm.pairwise ((nestP_pw l r).imp (fun h => by omega)) (fun {a b} h h2 => h (by have := pcmp_neg a b; omega))
  refine (h2.and h3).imp ?_
  rintro a b ⟨h3, h4⟩
  simp only [Bool.not_eq_true', decide_eq_false_iff_not] at h3
  have := pcmp_neg a b
  omega

/-! ### two lists of pairs are the same -/
theorem same_loop (a b : List S40) (hl : a.length = b.length) (ha : a = b) (hs : a.length ≤ 1099511627776) : ∀ (n i : Nat), a.length - i = n → i ≤ a.length → Ev (fun k => tabellionref32_Same.l0 k a b (i : Int)) true
  | n, i, hn, hi => by
    subst ha
    refine Ev.succ ?_ (fun k => by rw [tabellionref32_Same.l0, w64 i (by omega)])
    by_cases h1 : i < a.length
    · match n, hn with
      | n + 1, hn =>
        refine Ev.congr (same_loop a a rfl rfl hs n (i + 1) (by omega) (by omega)) (fun k => ?_)
        rw [if_pos (by omega : (i : Int) < (a.length : Int)), if_pos (by omega : (0 : Int) ≤ (i : Int)), if_pos (by omega : (i : Int) < (a.length : Int)), if_neg (by simp)]
      | 0, hn => omega
    · exact Ev.congr (Ev.const _) (fun k => by rw [if_neg (by omega : ¬ (i : Int) < (a.length : Int))])
theorem same_ev (a : List S40) (hs : a.length ≤ 1099511627776) : Ev (fun k => tabellionref32_Same.f k a a) true := by
  unfold tabellionref32_Same.f
  exact Ev.congr (same_loop a a rfl rfl hs _ 0 rfl (Nat.zero_le _)) (fun k => by rw [if_pos rfl]; rfl)
theorem nestFrom_len (r : List (List S44)) : ∀ i ys, (nestFrom r i ys).length ≤ ys.length * r.length
  | _, [] => by simp [nestFrom]
  | i, a :: ys => by
    have h1 := nestFrom_len r (i + 1) ys
    have h2 := rowFrom_len a (i : Int) 0 r
    rw [nestFrom, List.length_append, List.length_cons, Nat.succ_mul]; omega
theorem nestP_len (l r : List (List S44)) : (nestP l r).length ≤ l.length * r.length := nestFrom_len r 0 l
end Go.Proofs.YtnllgjloimoebaaDoor.X

/- The page's example; JoinerSays in plain Lean. -/
set_option linter.unusedVariables false
set_option linter.unusedSimpArgs false
namespace Go.Proofs.YtnllgjloimoebaaDoor.X
open Go.RowKit Go.Proofs.YtnllgjloimoebaaDoorW.PrintWords

def ex32l : List (List S44) := [[⟨2, 1, ⟨#[]⟩⟩], [⟨0, 0, ⟨#[]⟩⟩], [⟨2, 2, ⟨#[]⟩⟩]]
def ex32r : List (List S44) := [[⟨2, 2, ⟨#[]⟩⟩], [⟨2, 1, ⟨#[]⟩⟩], [⟨2, 1, ⟨#[]⟩⟩]]
def ex32w : List S40 := [⟨0, 1⟩, ⟨0, 2⟩, ⟨2, 0⟩]
theorem ex32_nest : nestP ex32l ex32r = ex32w := by
  simp [nestP, nestFrom, rowFrom, ex32l, ex32r, ex32w, meetP_iff, wholeP, nullV]
theorem ex32_alone : aloneP 3 ex32w = [1] := by
  simp [aloneP, aloneTo, ex32w, firsts]
theorem awake32 : Ev (fun k => tabellionlaw32_awake.f k) true := by
  unfold tabellionlaw32_awake.f value_Num.f
  refine Ev.bind (v := (2, 1, (⟨#[]⟩ : ByteArray))) (Ev.const _) ?_
  refine Ev.bind (v := (2, 2, (⟨#[]⟩ : ByteArray))) (Ev.const _) ?_
  refine Ev.bind (v := ex32l) (Ev.const _) ?_
  refine Ev.bind (v := (2, 2, (⟨#[]⟩ : ByteArray))) (Ev.const _) ?_
  refine Ev.bind (v := (2, 1, (⟨#[]⟩ : ByteArray))) (Ev.const _) ?_
  refine Ev.bind (v := (2, 1, (⟨#[]⟩ : ByteArray))) (Ev.const _) ?_
  refine Ev.bind (v := ex32r) (Ev.const _) ?_
  refine Ev.bind (v := ex32w) (Ev.const _) ?_
  refine Ev.bind (v := aloneP 3 ex32w) (Ev.of fun _ => by unfold joiner_Alone.f; rw [if_pos (by decide)]) ?_
  rw [ex32_alone]
  have hl : lens ex32l := ⟨by decide, by decide⟩
  have hr : lens ex32r := ⟨by decide, by decide⟩
  have hok : ((ex32l.all keyable && ex32r.all keyable) && (decide (ex32l.length ≤ 1048576) && decide (ex32r.length ≤ 1048576))) = true := by decide
  have hlen : ex32w.length ≤ 1099511627776 := by decide
  refine Ev.bind (nest_ev ex32l ex32r hl hr) ?_
  rw [ex32_nest]
  refine Ev.bind (same_ev ex32w hlen) ?_
  refine Ev.congr ?_ (fun k => by rw [if_pos rfl])
  refine Ev.bind (v := hashP ex32l ex32r ex32l.length) (Ev.of fun _ => by unfold joiner_Hash.f; rw [if_pos hok]) ?_
  rw [hashP_eq, ex32_nest]
  refine Ev.bind (same_ev ex32w hlen) ?_
  refine Ev.congr ?_ (fun k => by rw [if_pos rfl])
  refine Ev.bind (v := mergeP ex32l ex32r) (Ev.of fun _ => by unfold joiner_Merge.f; rw [if_pos hok]) ?_
  rw [mergeP_eq, ex32_nest]
  refine Ev.bind (same_ev ex32w hlen) ?_
  refine Ev.congr ?_ (fun k => by rw [if_pos rfl])
  exact Ev.congr (Ev.const true) (fun k => by rfl)

theorem keyable_shorts {l : List (List S44)} (h : l.all keyable = true) (hl : l.length ≤ 1048576) : shorts l ∧ lens l := by
  rw [List.all_eq_true] at h
  exact ⟨⟨by omega, fun r hr => keyable_short (h r hr)⟩, hl, fun r hr => (keyable_len (h r hr)).2⟩
theorem says32 (l r : List (List S44)) (h1 : l.all keyable = true) (h2 : r.all keyable = true) (h3 : l.length ≤ 1048576) (h4 : r.length ≤ 1048576) : Ev (fun k => tabellionlaw32_JoinerSays.f k l r) true := by
  obtain ⟨hsl, hll⟩ := keyable_shorts h1 h3
  obtain ⟨hsr, hlr⟩ := keyable_shorts h2 h4
  have hok : ((l.all keyable && r.all keyable) && (decide (l.length ≤ 1048576) && decide (r.length ≤ 1048576))) = true := by
    rw [h1, h2, decide_eq_true h3, decide_eq_true h4]; rfl
  have haw : Ev (fun k => tabellionlaw32_JoinerSays.j0 k l r true) true := by
    refine Ev.succ ?_ (fun k => by rw [tabellionlaw32_JoinerSays.j0, if_pos rfl])
    exact Ev.bind awake32 (Ev.const _)
  unfold tabellionlaw32_JoinerSays.f
  by_cases hl : (l.length : Int) > 60
  · exact Ev.congr haw (fun k => by rw [if_pos hl])
  · by_cases hr : (r.length : Int) > 60
    · exact Ev.congr haw (fun k => by rw [if_neg hl, decide_eq_true hr])
    · refine Ev.congr ?_ (fun k => by rw [if_neg hl, decide_eq_false hr])
      refine Ev.succ ?_ (fun k => by rw [tabellionlaw32_JoinerSays.j0, if_neg (by simp)])
      have hlen : (nestP l r).length ≤ 1099511627776 := by
        have h5 := nestP_len l r
        have h6 := Nat.mul_le_mul (show l.length ≤ 60 by omega) (show r.length ≤ 60 by omega)
        omega
      refine Ev.bind (rnest_ev l r hll hlr hsl) ?_
      refine Ev.bind awake32 ?_
      refine Ev.congr ?_ (fun k => by rw [if_pos rfl])
      refine Ev.bind (nest_ev l r hll hlr) ?_
      refine Ev.bind (same_ev _ hlen) ?_
      refine Ev.congr ?_ (fun k => by rw [if_pos rfl])
      refine Ev.bind (v := hashP l r l.length) (Ev.of fun _ => by unfold joiner_Hash.f; rw [if_pos hok]) ?_
      rw [hashP_eq]
      refine Ev.bind (same_ev _ hlen) ?_
      refine Ev.congr ?_ (fun k => by rw [if_pos rfl])
      refine Ev.bind (v := mergeP l r) (Ev.of fun _ => by unfold joiner_Merge.f; rw [if_pos hok]) ?_
      rw [mergeP_eq]
      exact Ev.bind (same_ev _ hlen) (Ev.const _)
end Go.Proofs.YtnllgjloimoebaaDoor.X

/- JoinerSays: the row's statement for what is of bulk at most 1048576, and its card: the walk, the plain law, the opening and the shutting joined. -/
set_option linter.unusedVariables false
namespace Go.Proofs.YtnllgjloimoebaaDoor.joinerSays
open Go.ChangeShapes Go.WideShapes Go.ChangeAt Go.RowKit Go.Proofs.YtnllgjloimoebaaDoorW.PrintWords Go.Proofs.YtnllgjloimoebaaDoor.X

theorem laidOut : laidOutB Tryd.prog = true := by kernel_rfl

set_option maxRecDepth 100000 in
/-- WHAT THE WALK AND THE PLAIN LAW GIVE, FOR EVERY ARGUMENT WITHIN THE BOUND AND EVERY WORLD THAT HOLDS THE TABLES. -/
theorem contract (H : Type) (enc : TypeId × Value → H) (W : World) (base : Nat) (args : Array Value) (ds gs : List (DataW H)) (before : List MemPlace)
    (hval : ∀ (j : Nat) t v, Tryd.f5.params[j]? = some t → args[j]? = some v → Value.okWide Tryd.prog W .any base t v)
    (hW : DataW.Whole enc Tryd.prog Tryd.f5.params.toList Rows.joinerSaysSpec.vars false W args.toList ds gs before) (hbk : Rows.uptoSmall H (ds ++ gs) = true) (hL : laidMetH Tryd.prog Rows.joinerSaysUptoRow.laid W) :
    Calls Tryd.prog 5 args W fun e W' => ∃ v, e = .returned v ∧ Rows.joinerSaysSpec.post enc Tryd.prog Tryd.f5 false true false false W args v W' := by
  have hW' := hW
  obtain ⟨p, q, hA0, hV, rfl, hfz, hnd⟩ := hW
  have hlt := hW'.lt
  have hA : DataW.TrodAll enc Tryd.prog W 0 (fun _ => true) true Tryd.f5.params.toList args.toList ds p := hA0
  rw [Tryd.params5] at hA hval
  obtain ⟨v0, vs0, d0, ds0, p0, q0, hargs0, rfl, rfl, h0, r0⟩ := trodAll_cons hA
  obtain ⟨v1, vs1, d1, ds1, p1, q1, hargs1, rfl, rfl, h1, r1⟩ := trodAll_cons r0
  obtain ⟨rfl, rfl, rfl⟩ := trodAll_nil r1
  obtain rfl : args = #[v0, v1] := by cases args; simp_all
  obtain ⟨rfl, rfl⟩ := trodVars_none hV
  obtain ⟨a0, len0, cap0, rfl⟩ := okWide_slice Tryd.underlying22 (hval 0 22 v0 rfl rfl)
  obtain ⟨a1, len1, cap1, rfl⟩ := okWide_slice Tryd.underlying22 (hval 1 22 v1 rfl rfl)
  clear hA0
  have hbs : Rows.uptoBulk d0 ≤ 1048576 ∧ Rows.uptoBulk d1 ≤ 1048576 := by
    simp only [Rows.uptoSmall, List.append_nil, Rows.uptoBulkAll, decide_eq_true_eq] at hbk
    omega
  obtain ⟨hb0, hb1⟩ := hbs
  obtain ⟨fuel0, ht0⟩ := h0
  obtain ⟨A0, c0, l0, e0, hlc0, hC0, hfit0⟩ := open_rows ht0 hb0
  have ee0 : Value.slice a0 len0 cap0 = Value.slice A0 l0.length c0 := by simpa [Value.cells] using e0
  rw [ee0] at ht0 hW' ⊢
  obtain ⟨fuel1, ht1⟩ := h1
  obtain ⟨A1, c1, l1, e1, hlc1, hC1, hfit1⟩ := open_rows ht1 hb1
  have ee1 : Value.slice a1 len1 cap1 = Value.slice A1 l1.length c1 := by simpa [Value.cells] using e1
  rw [ee1] at ht1 hW' ⊢
  have htab : Tab W := tab_of_laid hL
  obtain ⟨k, hk⟩ := says32 l0 l1 (rowsFit_all hfit0).1 (rowsFit_all hfit1).1 (rowsFit_all hfit0).2 (rowsFit_all hfit1).2
  refine (tabellionlaw32_JoinerSays.calls k A0 c0 l0 A1 c1 l1 true W hC0 hlc0 hC1 hlc1 (hk k (Nat.le_refl _)) htab rfl).mono fun e W' ⟨he, hb⟩ => ?_
  subst he
  simp only [List.append_nil] at hW' hlt
  have hargs2 : DataW.TrodAll enc Tryd.prog W' 0 (fun b => decide (b < W.heap.size)) true [22, 22] [.slice A0 l0.length c0, .slice A1 l1.length c1] [d0, d1] (p0 ++ (p1 ++ [])) :=
    (trodAll_cons_mk (Below.trod laidOut (by kernel_rfl) (of_decide_eq_true (by kernel_rfl)) ⟨fuel0, ht0⟩ hb (fun x hx => hlt x (by simp [hx]))) (trodAll_cons_mk (Below.trod laidOut (by kernel_rfl) (of_decide_eq_true (by kernel_rfl)) ⟨fuel1, ht1⟩ hb (fun x hx => hlt x (by simp [hx]))) trodAll_mk0))
  refine ⟨_, rfl, _, _, _, [], _, [], hW', ?_, hargs2, rfl, hb.frame _, fun h => by cases h⟩
  exact trodAll_cons_mk (shut_bool Tryd.underlying4 _) trodAll_mk0
theorem reads (os : Os) {H : Type} (enc : TypeId × Value → H) : ∃ places, DataW.whole enc Tryd.prog ((laidWorld os).forCall (fun _ _ => 0) ⟨#[], #[.slice none 0 0, .slice none 0 0], []⟩).memory Tryd.f5.params.toList Rows.joinerSaysSpec.vars false (#[.slice none 0 0, .slice none 0 0] : Array Value).toList 8 = some ([.nil, .nil], [], places) :=
  ⟨[], by kernel_rfl⟩
theorem laid_met (os : Os) : laidMet Tryd.prog laidList ((laidWorld os).forCall (fun _ _ => 0) ⟨#[], #[.slice none 0 0, .slice none 0 0], []⟩).memory :=
  laidMet_of_run3 8 (by kernel_rfl) (by kernel_rfl) (by kernel_rfl)

set_option maxRecDepth 100000 in
theorem liftedUpto (os : Os) (started : os.Started) (H : Type) (enc : TypeId × Value → H) (F : Stop.Interp) :
    ReturnsInHanded {} Tryd.checked os 5 .any ((Rows.OpenSpec.upto Rows.joinerSaysSpec).preRow enc Tryd.prog Tryd.f5 Rows.joinerSaysUptoRow.domain false Rows.joinerSaysUptoRow.laid) (((Rows.OpenSpec.upto Rows.joinerSaysSpec).at F).post enc Tryd.prog Tryd.f5 false true false false) := by
  obtain ⟨places, hx⟩ := reads os enc
  refine returnsInHanded_of_row (C := Tryd.checked) (s := Rows.OpenSpec.upto Rows.joinerSaysSpec) own started (by kernel_rfl) Tryd.func5
    (witness_row_at (enc := enc) (C := Tryd.checked) false (laidWorld os) #[.slice none 0 0, .slice none 0 0] rfl (by kernel_rfl) (by kernel_rfl) (by kernel_rfl)
      (OpenSpec.preRow_of_cond 8 hx (by kernel_rfl) (fun k hk => by cases hk; kernel_rfl) (by kernel_rfl) (laid_met os))) ?_
  intro W base args ds gs before hval hW _ hcond _ hL _ _
  exact contract H enc W base args ds gs before hval hW (hcond _ rfl) hL

theorem saidUpto : Rows.JoinerSaysUptoSaid :=
  OpenClaim.holds_of_cond 5 Tryd.f5 rfl rfl rfl rfl rfl rfl rfl ⟨rfl, rfl, rfl, rfl, rfl⟩ rfl rfl rfl rfl rfl (by kernel_rfl) Tryd.func5 (by kernel_rfl)
    (of_decide_eq_true (by kernel_rfl)) (by unfold Func.isWrapper; first | (rw [if_pos (by decide +kernel)]; kernel_rfl) | (rw [if_neg (by decide +kernel)]; exact ⟨rfl, rfl⟩))
    (fun os started H enc _ F => by rw [OpenClaim.pre_eq_preRow]; exact liftedUpto os started H enc F)

/-- No parameter wants a stand-in; the program's own looks are off: what the card asks. -/
theorem plain (f : FuncId) (fn : Func) (hf : Tryd.pinned.checked.prog.funcNamed Rows.joinerSaysUptoRow.func = some f) (hfn : Tryd.pinned.checked.prog.funcs[f]? = some fn) :
    false = Tryd.pinned.checked.prog.looks [] ∧ ∀ (j : Nat) t, fn.params[j]? = some t → Tryd.pinned.checked.prog.wantsStandIn t = false := by
  obtain rfl : f = 5 := Option.some.inj ((show Tryd.prog.funcNamed Rows.joinerSaysUptoRow.func = some 5 by kernel_rfl).symm.trans hf) |>.symm
  obtain rfl : fn = Tryd.f5 := (Option.some.inj (Tryd.func5.symm.trans hfn)).symm
  refine ⟨by kernel_rfl, fun j t ht => ?_⟩
  rw [Tryd.params5] at ht
  have hm : t = 22 ∨ t = 22 := by simpa using Array.mem_of_getElem? ht
  rcases hm with rfl | rfl
  · exact (show Tryd.prog.wantsStandIn 22 = false by kernel_rfl)
  · exact (show Tryd.prog.wantsStandIn 22 = false by kernel_rfl)

/-- THE SECOND FORM's CARD -/
theorem cardUpto : Rows.JoinerSaysUptoCardSaid :=
  Claim7.holds_tied_plain_at .later [] _ _ _ _ saidUpto (fun _ h => by cases h) (by kernel_rfl) (fun _ h => by cases h) joinerSaysUpto_row_tie rfl ⟨rfl, rfl⟩ (by kernel_rfl) rfl plain (by kernel_rfl)
end Go.Proofs.YtnllgjloimoebaaDoor.joinerSays
