/- The unmatched numbers are as the reference says; of two lists' own pairs they are exactly the indices that match nothing; for arguments of bulk at most 1048576. Part 3 of 5. -/
import Derived.Test.YtnllgjloimoebaaDoorMJAlone0
import Derived.Test.YtnllgjloimoebaaDoorMJAlone1

-- By xprint.py (this session's own program over the kit's print): not trusted: Lean checks it.
namespace Go.Proofs.YtnllgjloimoebaaDoor.X
open Go.RowKit Go.Proofs.YtnllgjloimoebaaDoorW.PrintWords Go.Proofs.YtnllgjloimoebaaDoorW.PrintLast Go.Proofs.YtnllgjloimoebaaDoorW.PrintMore
attribute [local go_sem] max2_int min2_int max_two min_two max_three min_three max_four min_four   -- for this text's walks alone
set_option linter.unusedVariables false
set_option linter.unusedSimpArgs false

/-! ### tabellionref33_Groups: function 12 -/
mutual
def tabellionref33_Groups.l0 : Nat → List (List (S44)) → List (List Int) → Int → Option ((List (List Int)))
 | 0, _, _, _ => none
 | k + 1, x0, x3, x4 => if x4 < (x0.length : Int) then (tabellionref33_Groups.l1 k x0 x3 x4 0) else (some x3)
def tabellionref33_Groups.l1 : Nat → List (List (S44)) → List (List Int) → Int → Int → Option ((List (List Int)))
 | 0, _, _, _, _ => none
 | k + 1, x0, x3, x4, x5 => if x5 < (x3.length : Int) then (if 0 ≤ x5 then (if 0 < ((rd_L1 x3 x5).length : Int) then (if 0 ≤ (rd (rd_L1 x3 x5) 0) then (if (rd (rd_L1 x3 x5) 0) < (x0.length : Int) then (if 0 ≤ x4 then (if x4 < (x0.length : Int) then ((tabellionref03_Orders.f k (rd_L4 x0 (rd (rd_L1 x3 x5) 0)) (rd_L4 x0 x4)).bind fun t192 => (if t192 = 0 then (if x5 = (x3.length : Int) then (if x3.length < 5864062014805 then ((some (x3 ++ [(([] : List Int))] : List (List Int))).bind fun y196 => (if x5 < (y196.length : Int) then (if (rd_L1 y196 x5).length < 17592186044416 then (tabellionref33_Groups.l0 k x0 (y196.set (x5 : Int).toNat ((rd_L1 y196 x5) ++ [x4])) (wrap64 (x4 + 1))) else (none)) else (none))) else (none)) else (if (rd_L1 x3 x5).length < 17592186044416 then (tabellionref33_Groups.l0 k x0 (x3.set (x5 : Int).toNat ((rd_L1 x3 x5) ++ [x4])) (wrap64 (x4 + 1))) else (none))) else (tabellionref33_Groups.l1 k x0 x3 x4 (wrap64 (x5 + 1))))) else (none)) else (none)) else (none)) else (none)) else (none)) else (none)) else (if x5 = (x3.length : Int) then (if x3.length < 5864062014805 then ((some (x3 ++ [(([] : List Int))] : List (List Int))).bind fun y212 => (if 0 ≤ x5 then (if x5 < (y212.length : Int) then (if (rd_L1 y212 x5).length < 17592186044416 then (tabellionref33_Groups.l0 k x0 (y212.set (x5 : Int).toNat ((rd_L1 y212 x5) ++ [x4])) (wrap64 (x4 + 1))) else (none)) else (none)) else (none))) else (none)) else (if 0 ≤ x5 then (none) else (none)))
end
def tabellionref33_Groups.f (k : Nat) (l0 : List (List (S44))) : Option ((List (List Int))) := tabellionref33_Groups.l0 k l0 (([] : List (List Int))) 0
def tabellionref33_Groups.T6 : Bool × List (List Nat × List Nat) := (true, [([], []), ([], []), ([1], [1]), ([0, 2], [0, 2]), ([3], [3]), ([4], [4]), ([4], [4]), ([4], [4]), ([6, 7, 4], [4, 6, 7]), ([8, 4], [4, 8]), ([9, 4], [4, 9]), ([10, 4], [4, 10]), ([5, 11, 4], [4, 5, 11]), ([12, 4], [4, 12]), ([4], [4]), ([4], [4]), ([14, 15, 4], [4, 14, 15]), ([16, 4], [4, 16]), ([13, 17, 4, 4], [4, 13, 17]), ([18, 4], [4, 18]), ([4, 19], [4, 19])])
def tabellionref33_Groups.B6 : List Nat := [0, 0, 2, 7, 15, 31, 31, 31, 223, 479, 991, 2015, 4095, 8191, 31, 31, 49183, 114719, 262143, 524287, 1048575]
theorem tabellionref33_Groups.tab6 : rtab .any (opsOf Tryd.f12 6) = tabellionref33_Groups.T6 := by kernel_rfl
theorem tabellionref33_Groups.bits6 : waitsOk tabellionref33_Groups.T6.2 tabellionref33_Groups.B6 = true := by kernel_rfl
end Go.Proofs.YtnllgjloimoebaaDoor.X

/- grouper.Groups: which rows have one key. -/
set_option linter.unusedVariables false
set_option linter.unusedSimpArgs false
namespace Go.Proofs.YtnllgjloimoebaaDoor.X
open Go.RowKit Go.Maps Go.Proofs.YtnllgjloimoebaaDoorW.PrintWords Go.Proofs.YtnllgjloimoebaaDoorW.PrintLast Go.Proofs.YtnllgjloimoebaaDoorW.PrintMore

/-- one more row: its group, or a new one -/
def gput (s : List (List Int) × (Nat × List UInt8 → Option Int)) (r : List S44) (i : Int) : List (List Int) × (Nat × List UInt8 → Option Int) :=
  match s.2 (keyT r) with
  | some g => (s.1.set g.toNat (s.1.getD g.toNat [] ++ [i]), s.2)
  | none => ((s.1 ++ [[]]).set s.1.length ((s.1 ++ [[]]).getD s.1.length [] ++ [i]), putG s.2 (keyT r) s.1.length)
def gAfter (l : List (List S44)) : Nat → List (List Int) × (Nat × List UInt8 → Option Int)
  | 0 => ([], fun _ => none)
  | k + 1 => gput (gAfter l k) (l.getD k []) k
def groupsP (l : List (List S44)) : List (List Int) := (gAfter l l.length).1
def grouper_Groups.f (l : List (List S44)) : Option (List (List Int)) := if l.all keyable && decide (l.length ≤ 1099511627776) then some (groupsP l) else none

theorem gput_ok {s : List (List Int) × (Nat × List UInt8 → Option Int)} {r : List S44} {i : Int} {k : Nat} (h1 : s.1.length ≤ k) (h2 : ∀ t g, s.2 t = some g → 0 ≤ g ∧ g < s.1.length) (h3 : ∀ x ∈ s.1, x.length ≤ k) :
    (gput s r i).1.length ≤ k + 1 ∧ (∀ t g, (gput s r i).2 t = some g → 0 ≤ g ∧ g < (gput s r i).1.length) ∧ ∀ x ∈ (gput s r i).1, x.length ≤ k + 1 := by
  unfold gput
  cases hf : s.2 (keyT r) with
  | some g =>
    refine ⟨by simp; omega, fun t g' h => by simpa using h2 t g' h, fun x hx => ?_⟩
    rcases List.mem_or_eq_of_mem_set hx with hx | rfl
    · exact Nat.le_succ_of_le (h3 x hx)
    · have := h2 _ _ hf
      have hm : s.1.getD g.toNat [] ∈ s.1 := by
        rw [List.getD_eq_getElem?_getD, List.getElem?_eq_getElem (by omega)]; simp
      have := h3 _ hm
      rw [List.length_append, List.length_cons, List.length_nil]; omega
  | none =>
    refine ⟨by simp; omega, fun t g' h => ?_, fun x hx => ?_⟩
    · simp only [List.length_set, List.length_append, List.length_cons, List.length_nil]
      change putG s.2 (keyT r) s.1.length t = some g' at h
      unfold putG at h
      split at h
      · injection h with h
        omega
      · have := h2 t g' h
        omega
    · rcases List.mem_or_eq_of_mem_set hx with hx | rfl
      · rcases List.mem_append.1 hx with hx | hx
        · exact Nat.le_succ_of_le (h3 x hx)
        · simp at hx; subst hx; simp
      · simp
theorem gAfter_ok (l : List (List S44)) : ∀ k, (gAfter l k).1.length ≤ k ∧ (∀ t g, (gAfter l k).2 t = some g → 0 ≤ g ∧ g < (gAfter l k).1.length) ∧ ∀ x ∈ (gAfter l k).1, x.length ≤ k
  | 0 => ⟨by simp [gAfter], fun t g h => by simp [gAfter] at h, fun x hx => by simp [gAfter] at hx⟩
  | k + 1 => by
    obtain ⟨h1, h2, h3⟩ := gAfter_ok l k
    exact gput_ok h1 h2 h3

end Go.Proofs.YtnllgjloimoebaaDoor.X

/- The order of rows, in plain Lean: one order of values and of rows, which both texts (the program's, the document's) compute; that it is a total order. -/
set_option linter.unusedVariables false
set_option linter.unusedSimpArgs false
namespace Go.Proofs.YtnllgjloimoebaaDoor.X
open Go.RowKit Go.Proofs.YtnllgjloimoebaaDoorW.PrintWords

/-! ### from some fuel on -/
def Ev {α : Type} (f : Nat → Option α) (v : α) : Prop := ∃ k0, ∀ k, k0 ≤ k → f k = some v
theorem Ev.const {α : Type} (v : α) : Ev (fun _ => some v) v := ⟨0, fun _ _ => rfl⟩
theorem Ev.of {α : Type} {f : Nat → Option α} {v : α} (h : ∀ k, f k = some v) : Ev f v := ⟨0, fun k _ => h k⟩
theorem Ev.bind {α β : Type} {f : Nat → Option α} {g : Nat → α → Option β} {v : α} {u : β} (h : Ev f v) (h2 : Ev (fun k => g k v) u) : Ev (fun k => (f k).bind (g k)) u := by
  obtain ⟨a, ha⟩ := h
  obtain ⟨b, hb⟩ := h2
  exact ⟨max a b, fun k hk => by show (f k).bind (g k) = some u; rw [ha k (by omega)]; exact hb k (by omega)⟩
theorem Ev.succ {α : Type} {f g : Nat → Option α} {v : α} (h : Ev g v) (hs : ∀ k, f (k + 1) = g k) : Ev f v := by
  obtain ⟨a, ha⟩ := h
  refine ⟨a + 1, fun k hk => ?_⟩
  obtain ⟨k', rfl⟩ : ∃ k', k = k' + 1 := ⟨k - 1, by omega⟩
  rw [hs, ha k' (by omega)]
theorem Ev.congr {α : Type} {f g : Nat → Option α} {v : α} (h : Ev g v) (hs : ∀ k, f k = g k) : Ev f v := by
  obtain ⟨a, ha⟩ := h
  exact ⟨a, fun k hk => (hs k).trans (ha k hk)⟩
theorem Ev.uniq {α : Type} {f : Nat → Option α} {u v : α} (h : Ev f u) (h2 : Ev f v) : u = v := by
  obtain ⟨a, ha⟩ := h
  obtain ⟨b, hb⟩ := h2
  have := (ha (max a b) (by omega)).symm.trans (hb (max a b) (by omega))
  exact Option.some.inj this
theorem w64 (i : Nat) (h : i < 4611686018427387904) : wrap64 ((i : Int) + 1) = ((i + 1 : Nat) : Int) := by unfold wrap64; omega

/-! ### the order -/
def icmp (a b : Int) : Int := if a < b then -1 else if a > b then 1 else 0
def vcmp (x y : S44) : Int := if icmp x.f0 y.f0 = 0 then (if icmp x.f1 y.f1 = 0 then Lib.compareBytes x.f2.data.toList y.f2.data.toList else icmp x.f1 y.f1) else icmp x.f0 y.f0
def rcmp : List S44 → List S44 → Int
  | [], [] => 0
  | [], _ :: _ => -1
  | _ :: _, [] => 1
  | x :: a, y :: b => if vcmp x y = 0 then rcmp a b else vcmp x y

theorem icmp_zero {a b : Int} : icmp a b = 0 ↔ a = b := by
  unfold icmp
  split
  · constructor <;> intro h <;> omega
  · split
    · constructor <;> intro h <;> omega
    · constructor
      · intro; omega
      · intro; rfl
theorem icmp_neg (a b : Int) : icmp b a = - icmp a b := by
  unfold icmp
  repeat' split
  all_goals omega
theorem icmp_lt {a b : Int} : icmp a b < 0 ↔ a < b := by
  unfold icmp
  repeat' split
  all_goals constructor <;> intro <;> omega
theorem cb_zero : ∀ {a b : List UInt8}, Lib.compareBytes a b = 0 ↔ a = b
  | [], [] => by simp [Lib.compareBytes]
  | [], _ :: _ => by simp [Lib.compareBytes]
  | _ :: _, [] => by simp [Lib.compareBytes]
  | x :: a, y :: b => by
    unfold Lib.compareBytes
    split
    · rename_i h
      constructor
      · intro h; cases h
      · intro h2; injection h2 with h2; subst h2; exact absurd h (UInt8.lt_irrefl _)
    · split
      · rename_i h
        constructor
        · intro h; cases h
        · intro h2; injection h2 with h2; subst h2; exact absurd h (UInt8.lt_irrefl _)
      · rename_i h1 h2
        have : x = y := UInt8.le_antisymm (UInt8.not_lt.1 h2) (UInt8.not_lt.1 h1)
        subst this
        rw [cb_zero]
        simp
theorem cb_neg : ∀ (a b : List UInt8), Lib.compareBytes b a = - Lib.compareBytes a b
  | [], [] => by simp [Lib.compareBytes]
  | [], _ :: _ => by simp [Lib.compareBytes]
  | _ :: _, [] => by simp [Lib.compareBytes]
  | x :: a, y :: b => by
    unfold Lib.compareBytes
    by_cases h1 : x < y
    · have h2 : ¬ y < x := fun h => UInt8.lt_irrefl _ (UInt8.lt_trans h1 h)
      rw [if_neg h2, if_pos h1, if_pos h1]; rfl
    · by_cases h2 : y < x
      · rw [if_pos h2, if_neg h1, if_pos h2]
      · rw [if_neg h2, if_neg h1, if_neg h1, if_neg h2]; exact cb_neg a b
theorem cb_trans : ∀ {a b c : List UInt8}, Lib.compareBytes a b < 0 → Lib.compareBytes b c < 0 → Lib.compareBytes a c < 0
  | [], [], _, h, _ => by simp [Lib.compareBytes] at h
  | _ :: _, [], _, h, _ => by simp [Lib.compareBytes] at h
  | _, _ :: _, [], _, h => by simp [Lib.compareBytes] at h
  | [], _ :: _, _ :: _, _, _ => by simp [Lib.compareBytes]
  | x :: a, y :: b, z :: c, h1, h2 => by
    unfold Lib.compareBytes at *
    by_cases hxy : x < y
    · by_cases hyz : y < z
      · rw [if_pos (UInt8.lt_trans hxy hyz)]; omega
      · by_cases hzy : z < y
        · rw [if_neg hyz, if_pos hzy] at h2; omega
        · have : y = z := UInt8.le_antisymm (UInt8.not_lt.1 hzy) (UInt8.not_lt.1 hyz)
          subst this
          rw [if_pos hxy]; omega
    · by_cases hyx : y < x
      · rw [if_neg hxy, if_pos hyx] at h1; omega
      · have : x = y := UInt8.le_antisymm (UInt8.not_lt.1 hyx) (UInt8.not_lt.1 hxy)
        subst this
        by_cases hyz : x < z
        · rw [if_pos hyz]; omega
        · by_cases hzy : z < x
          · rw [if_neg hyz, if_pos hzy] at h2; omega
          · rw [if_neg hyz, if_neg hzy] at h2 ⊢
            rw [if_neg hxy, if_neg hyx] at h1
            exact cb_trans h1 h2

theorem S44_ext {x y : S44} (h0 : x.f0 = y.f0) (h1 : x.f1 = y.f1) (h2 : x.f2.data.toList = y.f2.data.toList) : x = y := by
  obtain ⟨a, b, ⟨⟨c⟩⟩⟩ := x
  obtain ⟨a', b', ⟨⟨c'⟩⟩⟩ := y
  simp only at h0 h1 h2
  subst h0; subst h1; subst h2
  rfl
theorem vcmp_zero {x y : S44} : vcmp x y = 0 ↔ x = y := by
  unfold vcmp
  constructor
  · intro h
    by_cases h0 : icmp x.f0 y.f0 = 0
    · rw [if_pos h0] at h
      by_cases h1 : icmp x.f1 y.f1 = 0
      · rw [if_pos h1] at h
        exact S44_ext (icmp_zero.1 h0) (icmp_zero.1 h1) (cb_zero.1 h)
      · rw [if_neg h1] at h; exact absurd h h1
    · rw [if_neg h0] at h; exact absurd h h0
  · intro h
    subst h
    rw [if_pos (icmp_zero.2 rfl), if_pos (icmp_zero.2 rfl)]
    exact cb_zero.2 rfl
theorem vcmp_neg (x y : S44) : vcmp y x = - vcmp x y := by
  unfold vcmp
  rw [icmp_neg x.f0 y.f0, icmp_neg x.f1 y.f1, cb_neg x.f2.data.toList y.f2.data.toList]
  by_cases h0 : icmp x.f0 y.f0 = 0
  · rw [if_pos h0, if_pos (by omega)]
    by_cases h1 : icmp x.f1 y.f1 = 0
    · rw [if_pos h1, if_pos (by omega)]
    · rw [if_neg h1, if_neg (by omega)]
  · rw [if_neg h0, if_neg (by omega)]
theorem vcmp_trans {x y z : S44} (h1 : vcmp x y < 0) (h2 : vcmp y z < 0) : vcmp x z < 0 := by
  unfold vcmp at *
  by_cases a0 : icmp x.f0 y.f0 = 0
  · rw [if_pos a0] at h1
    have e := icmp_zero.1 a0
    rw [e]
    by_cases b0 : icmp y.f0 z.f0 = 0
    · rw [if_pos b0] at h2 ⊢
      by_cases a1 : icmp x.f1 y.f1 = 0
      · rw [if_pos a1] at h1
        have e1 := icmp_zero.1 a1
        rw [e1]
        by_cases b1 : icmp y.f1 z.f1 = 0
        · rw [if_pos b1] at h2 ⊢
          exact cb_trans h1 h2
        · rw [if_neg b1] at h2 ⊢
          exact h2
      · rw [if_neg a1] at h1
        by_cases b1 : icmp y.f1 z.f1 = 0
        · rw [← icmp_zero.1 b1, if_neg a1]; exact h1
        · rw [if_neg b1] at h2
          have := icmp_lt.1 h1
          have := icmp_lt.1 h2
          have h3 : icmp x.f1 z.f1 < 0 := icmp_lt.2 (by omega)
          rw [if_neg (by omega)]; exact h3
    · rw [if_neg b0] at h2 ⊢; exact h2
  · rw [if_neg a0] at h1
    by_cases b0 : icmp y.f0 z.f0 = 0
    · rw [← icmp_zero.1 b0, if_neg a0]; exact h1
    · rw [if_neg b0] at h2
      have := icmp_lt.1 h1
      have := icmp_lt.1 h2
      have h3 : icmp x.f0 z.f0 < 0 := icmp_lt.2 (by omega)
      rw [if_neg (by omega)]; exact h3
theorem rcmp_zero : ∀ {a b : List S44}, rcmp a b = 0 ↔ a = b
  | [], [] => by simp [rcmp]
  | [], _ :: _ => by simp [rcmp]
  | _ :: _, [] => by simp [rcmp]
  | x :: a, y :: b => by
    unfold rcmp
    by_cases h : vcmp x y = 0
    · rw [if_pos h, rcmp_zero, vcmp_zero.1 h]; simp
    · rw [if_neg h]
      constructor
      · intro h2; exact absurd h2 h
      · intro h2; injection h2 with h2; exact absurd (vcmp_zero.2 h2) h
theorem rcmp_self (a : List S44) : rcmp a a = 0 := rcmp_zero.2 rfl
theorem rcmp_neg : ∀ (a b : List S44), rcmp b a = - rcmp a b
  | [], [] => by simp [rcmp]
  | [], _ :: _ => by simp [rcmp]
  | _ :: _, [] => by simp [rcmp]
  | x :: a, y :: b => by
    unfold rcmp
    rw [vcmp_neg x y]
    by_cases h : vcmp x y = 0
    · rw [if_pos h, if_pos (by omega)]; exact rcmp_neg a b
    · rw [if_neg h, if_neg (by omega)]
theorem rcmp_trans : ∀ {a b c : List S44}, rcmp a b < 0 → rcmp b c < 0 → rcmp a c < 0
  | [], [], _, h, _ => by simp [rcmp] at h
  | _ :: _, [], _, h, _ => by simp [rcmp] at h
  | _, _ :: _, [], _, h => by simp [rcmp] at h
  | [], _ :: _, _ :: _, _, _ => by simp [rcmp]
  | x :: a, y :: b, z :: c, h1, h2 => by
    unfold rcmp at *
    by_cases hxy : vcmp x y = 0
    · rw [if_pos hxy] at h1
      have e := vcmp_zero.1 hxy
      subst e
      by_cases hyz : vcmp x z = 0
      · rw [if_pos hyz] at h2 ⊢
        exact rcmp_trans h1 h2
      · rw [if_neg hyz] at h2 ⊢
        exact h2
    · rw [if_neg hxy] at h1
      by_cases hyz : vcmp y z = 0
      · have e := vcmp_zero.1 hyz
        subst e
        rw [if_neg hxy]; exact h1
      · rw [if_neg hyz] at h2
        have := vcmp_trans h1 h2
        rw [if_neg (by omega)]; exact this
theorem rcmp_ntrans {a b c : List S44} (h1 : ¬ rcmp a b < 0) (h2 : ¬ rcmp b c < 0) : ¬ rcmp a c < 0 := by
  intro h
  have e1 := rcmp_neg a b
  have e2 := rcmp_neg b c
  have e3 := rcmp_neg a c
  by_cases h3 : rcmp a b = 0
  · rw [rcmp_zero.1 h3] at h; exact h2 h
  · have h4 : rcmp b a < 0 := by omega
    exact h2 (rcmp_trans h4 h)

/-! ### what the texts compute -/
theorem cmpI (a b : Int) : cmp_Compare_int.f a b = some (icmp a b) := by
  unfold cmp_Compare_int.f cmp_isNaN_int.f icmp
  simp
  repeat' split
  all_goals rfl
theorem ref_ints (a b : Int) : tabellionref03_ints.f a b = some (icmp a b) := by
  unfold tabellionref03_ints.f icmp
  repeat' split
  all_goals first | rfl | omega
theorem or3 (a b c : Int) : Ev (fun k => cmp_Or_int.f k [a, b, c]) (if a = 0 then (if b = 0 then c else b) else a) := by
  refine ⟨5, fun k hk => ?_⟩
  obtain ⟨k', rfl⟩ : ∃ k', k = k' + 5 := ⟨k - 5, by omega⟩
  unfold cmp_Or_int.f
  have w1 : wrap64 1 = 1 := by unfold wrap64; omega
  have w2 : wrap64 2 = 2 := by unfold wrap64; omega
  have w3 : wrap64 3 = 3 := by unfold wrap64; omega
  by_cases ha : a = 0
  · by_cases hb : b = 0
    · by_cases hc : c = 0
      · simp [cmp_Or_int.l0, rd, w1, w2, w3, ha, hb, hc]
      · simp [cmp_Or_int.l0, rd, w1, w2, w3, ha, hb, hc]
    · simp [cmp_Or_int.l0, rd, w1, w2, w3, ha, hb]
  · simp [cmp_Or_int.l0, rd, w1, w2, w3, ha]
theorem vorder (x y : S44) : Ev (fun k => value_Order.f k x.f0 x.f1 x.f2 y.f0 y.f1 y.f2) (vcmp x y) := by
  unfold value_Order.f
  refine Ev.bind (v := icmp x.f0 y.f0) (Ev.of fun _ => cmpI _ _) ?_
  refine Ev.bind (v := icmp x.f1 y.f1) (Ev.of fun _ => cmpI _ _) ?_
  refine Ev.bind (v := Lib.compareBytes x.f2.data.toList y.f2.data.toList) (Ev.of fun _ => rfl) ?_
  refine Ev.bind (or3 _ _ _) ?_
  exact Ev.const _

theorem getD_T44 (l : List S44) (i : Nat) : rd_T44 l (i : Int) = l.getD i z44 := by unfold rd_T44; rw [Int.toNat_natCast]
theorem drop_getD {α : Type} (l : List α) (z : α) (i : Nat) (h : i < l.length) : l.drop i = l.getD i z :: l.drop (i + 1) := by
  rw [List.drop_eq_getElem_cons h, List.getD_eq_getElem?_getD, List.getElem?_eq_getElem h]; rfl
theorem rcmp_stop {a b : List S44} (h : a = [] ∨ b = []) : rcmp a b = icmp a.length b.length := by
  rcases h with rfl | rfl
  · cases b with
    | nil => rfl
    | cons y b => unfold rcmp icmp; rw [if_pos (by simp; try omega)]
  · cases a with
    | nil => rfl
    | cons y b => unfold rcmp icmp; rw [if_neg (by simp; try omega), if_pos (by simp; try omega)]

theorem orders_loop (a b : List S44) (ha : a.length < 4611686018427387904) : ∀ (n i : Nat), a.length - i = n → i ≤ a.length → i ≤ b.length →
    Ev (fun k => api_Value.l0 k a b a (a.length : Int) (i : Int)) (rcmp (a.drop i) (b.drop i))
  | n, i, hn, hi, hib => by
    refine Ev.succ ?_ (fun k => by rw [api_Value.l0])
    by_cases h1 : i < a.length
    · refine Ev.congr ?_ (fun k => by rw [if_pos (by omega : (i : Int) < (a.length : Int)), if_pos (by omega : (0 : Int) ≤ (i : Int)), if_pos (by omega : (i : Int) < (a.length : Int))])
      by_cases h2 : i < b.length
      · refine Ev.congr ?_ (fun k => by rw [if_neg (by omega : ¬ (i : Int) ≥ (b.length : Int)), if_pos (by omega : (i : Int) < (b.length : Int)), getD_T44, getD_T44])
        refine Ev.bind (vorder (a.getD i z44) (b.getD i z44)) ?_
        rw [drop_getD a z44 i h1, drop_getD b z44 i h2]
        unfold rcmp
        by_cases h3 : vcmp (a.getD i z44) (b.getD i z44) = 0
        · rw [if_pos h3]
          refine Ev.congr ?_ (fun k => by rw [if_pos h3, w64 i (by omega)])
          match n, hn with
          | n + 1, hn => exact orders_loop a b ha n (i + 1) (by omega) (by omega) (by omega)
          | 0, hn => omega
        · rw [if_neg h3]
          exact Ev.congr (Ev.const _) (fun k => by rw [if_neg h3])
      · rw [drop_getD a z44 i h1, List.drop_eq_nil_of_le (by omega : b.length ≤ i)]
        exact Ev.congr (Ev.const 1) (fun k => by rw [if_pos (by omega : (i : Int) ≥ (b.length : Int))])
    · have e : i = a.length := by omega
      rw [List.drop_eq_nil_of_le (by omega : a.length ≤ i)]
      refine Ev.congr ?_ (fun k => by rw [if_neg (by omega : ¬ (i : Int) < (a.length : Int))])
      by_cases h2 : a.length < b.length
      · rw [drop_getD b z44 i (by omega)]
        exact Ev.congr (Ev.const (-1)) (fun k => by rw [if_pos (by omega : (a.length : Int) < (b.length : Int))])
      · rw [List.drop_eq_nil_of_le (by omega : b.length ≤ i)]
        exact Ev.congr (Ev.const 0) (fun k => by rw [if_neg (by omega : ¬ (a.length : Int) < (b.length : Int))])
theorem orders_ev (a b : List S44) (ha : a.length < 4611686018427387904) : Ev (fun k => value_Orders.f k a b) (rcmp a b) := by
  unfold value_Orders.f api_Value.f
  exact Ev.bind (orders_loop a b ha _ 0 rfl (Nat.zero_le _) (Nat.zero_le _)) (Ev.const _)

/-! ### the document's -/
theorem bt_getD (s : ByteArray) (i : Nat) (h : i < s.size) : bt s (i : Int) = ((s.data.toList.getD i 0).toNat : Int) := by
  unfold bt
  rw [dif_pos (by rw [Int.toNat_natCast]; exact h)]
  rw [List.getD_eq_getElem?_getD, List.getElem?_eq_getElem (by simpa using h)]
  simp only [Int.toNat_natCast]
  rfl
theorem u8_lt (x y : UInt8) : x < y ↔ ((x.toNat : Nat) : Int) < ((y.toNat : Nat) : Int) := by
  rw [UInt8.lt_iff_toNat_lt]; omega
theorem cb_stop {a b : List UInt8} (h : a = [] ∨ b = []) : Lib.compareBytes a b = icmp a.length b.length := by
  rcases h with rfl | rfl
  · cases b with
    | nil => rfl
    | cons y b => unfold Lib.compareBytes icmp; rw [if_pos (by simp; try omega)]
  · cases a with
    | nil => rfl
    | cons y b => unfold Lib.compareBytes icmp; rw [if_neg (by simp; try omega), if_pos (by simp; try omega)]
theorem texts_loop (a b : ByteArray) (ha : a.size < 4611686018427387904) : ∀ (n i : Nat), a.size - i = n → i ≤ a.size → i ≤ b.size →
    Ev (fun k => tabellionref03_texts.l0 k a b (i : Int)) (Lib.compareBytes (a.data.toList.drop i) (b.data.toList.drop i))
  | n, i, hn, hi, hib => by
    have sa : a.data.toList.length = a.size := Array.length_toList
    have sb : b.data.toList.length = b.size := Array.length_toList
    have stop : ¬ (i < a.size ∧ i < b.size) → Ev (fun k => tabellionref03_texts.j1 k a b (i : Int) false) (Lib.compareBytes (a.data.toList.drop i) (b.data.toList.drop i)) := fun h => by
      refine Ev.succ ?_ (fun k => by rw [tabellionref03_texts.j1])
      refine Ev.congr ?_ (fun k => by rw [if_neg (by simp)])
      have e : Lib.compareBytes (a.data.toList.drop i) (b.data.toList.drop i) = icmp (a.size : Int) (b.size : Int) := by
        rw [cb_stop (by
          by_cases h1 : i < a.size
          · exact .inr (List.drop_eq_nil_of_le (by omega))
          · exact .inl (List.drop_eq_nil_of_le (by omega)))]
        rw [List.length_drop, List.length_drop, sa, sb]
        unfold icmp
        repeat' split
        all_goals omega
      rw [e]
      exact Ev.bind (Ev.of fun _ => ref_ints _ _) (Ev.const _)
    refine Ev.succ ?_ (fun k => by rw [tabellionref03_texts.l0])
    by_cases h1 : i < a.size
    · refine Ev.congr ?_ (fun k => by rw [if_pos (by omega : (i : Int) < (a.size : Int))])
      by_cases h2 : i < b.size
      · refine Ev.congr ?_ (fun k => by rw [decide_eq_true (by omega : (i : Int) < (b.size : Int))])
        refine Ev.succ ?_ (fun k => by rw [tabellionref03_texts.j1])
        refine Ev.congr ?_ (fun k => by rw [if_pos rfl, if_pos (by omega : (0 : Int) ≤ (i : Int)), if_pos (by omega : (i : Int) < (a.size : Int)), if_pos (by omega : (i : Int) < (b.size : Int)), bt_getD a i h1, bt_getD b i h2])
        rw [drop_getD a.data.toList 0 i (by omega), drop_getD b.data.toList 0 i (by omega)]
        unfold Lib.compareBytes
        generalize hx : a.data.toList.getD i 0 = x
        generalize hy : b.data.toList.getD i 0 = y
        have hxl := x.toNat_lt
        have hyl := y.toNat_lt
        by_cases h3 : x = y
        · subst h3
          refine Ev.congr ?_ (fun k => by rw [if_pos rfl, w64 i (by omega)])
          rw [if_neg (UInt8.lt_irrefl _), if_neg (UInt8.lt_irrefl _)]
          match n, hn with
          | n + 1, hn => exact texts_loop a b ha n (i + 1) (by omega) (by omega) (by omega)
          | 0, hn => omega
        · have h4 : ¬ ((x.toNat : Nat) : Int) = ((y.toNat : Nat) : Int) := fun h => h3 (UInt8.toNat_inj.1 (by omega))
          refine Ev.congr ?_ (fun k => by rw [if_neg h4, show wrap64 ((x.toNat : Nat) : Int) = ((x.toNat : Nat) : Int) from by unfold wrap64; omega, show wrap64 ((y.toNat : Nat) : Int) = ((y.toNat : Nat) : Int) from by unfold wrap64; omega])
          have e : (if x < y then (-1 : Int) else if y < x then 1 else Lib.compareBytes (a.data.toList.drop (i + 1)) (b.data.toList.drop (i + 1))) = icmp ((x.toNat : Nat) : Int) ((y.toNat : Nat) : Int) := by
            unfold icmp
            by_cases h5 : x < y
            · rw [if_pos h5, if_pos ((u8_lt x y).1 h5)]
            · have h6 : ¬ ((x.toNat : Nat) : Int) < ((y.toNat : Nat) : Int) := fun h => h5 ((u8_lt x y).2 h)
              have h7 : ((y.toNat : Nat) : Int) < ((x.toNat : Nat) : Int) := by omega
              rw [if_neg h5, if_pos ((u8_lt y x).2 h7), if_neg h6, if_pos h7]
          rw [e]
          exact Ev.bind (Ev.of fun _ => ref_ints _ _) (Ev.const _)
      · refine Ev.congr (stop (fun h => h2 h.2)) (fun k => by rw [decide_eq_false (by omega : ¬ (i : Int) < (b.size : Int))])
    · refine Ev.congr (stop (fun h => h1 h.1)) (fun k => by rw [if_neg (by omega : ¬ (i : Int) < (a.size : Int))])
theorem texts_ev (a b : ByteArray) (ha : a.size < 4611686018427387904) : Ev (fun k => tabellionref03_texts.f k a b) (Lib.compareBytes a.data.toList b.data.toList) :=
  texts_loop a b ha _ 0 rfl (Nat.zero_le _) (Nat.zero_le _)
theorem rorder (x y : S44) (hx : x.f2.size < 4611686018427387904) : Ev (fun k => tabellionref03_Order.f k x.f0 x.f1 x.f2 y.f0 y.f1 y.f2) (vcmp x y) := by
  unfold tabellionref03_Order.f vcmp
  by_cases h0 : x.f0 = y.f0
  · rw [if_pos (icmp_zero.2 h0)]
    refine Ev.congr ?_ (fun k => by rw [if_pos h0])
    by_cases h1 : x.f1 = y.f1
    · rw [if_pos (icmp_zero.2 h1)]
      refine Ev.congr ?_ (fun k => by rw [if_pos h1])
      exact Ev.bind (texts_ev _ _ hx) (Ev.const _)
    · rw [if_neg (fun h => h1 (icmp_zero.1 h))]
      refine Ev.congr ?_ (fun k => by rw [if_neg h1])
      exact Ev.bind (Ev.of fun _ => ref_ints _ _) (Ev.const _)
  · rw [if_neg (fun h => h0 (icmp_zero.1 h))]
    refine Ev.congr ?_ (fun k => by rw [if_neg h0])
    exact Ev.bind (Ev.of fun _ => ref_ints _ _) (Ev.const _)
def short (a : List S44) : Prop := a.length < 4611686018427387904 ∧ ∀ x ∈ a, x.f2.size < 4611686018427387904
theorem rorders_loop (a b : List S44) (ha : short a) : ∀ (n i : Nat), a.length - i = n → i ≤ a.length → i ≤ b.length →
    Ev (fun k => tabellionref03_Orders.l0 k a b (i : Int)) (rcmp (a.drop i) (b.drop i))
  | n, i, hn, hi, hib => by
    have stop : ¬ (i < a.length ∧ i < b.length) → Ev (fun k => tabellionref03_Orders.j1 k a b (i : Int) false) (rcmp (a.drop i) (b.drop i)) := fun h => by
      refine Ev.succ ?_ (fun k => by rw [tabellionref03_Orders.j1])
      refine Ev.congr ?_ (fun k => by rw [if_neg (by simp)])
      have e : rcmp (a.drop i) (b.drop i) = icmp (a.length : Int) (b.length : Int) := by
        rw [rcmp_stop (by
          by_cases h1 : i < a.length
          · exact .inr (List.drop_eq_nil_of_le (by omega))
          · exact .inl (List.drop_eq_nil_of_le (by omega)))]
        rw [List.length_drop, List.length_drop]
        unfold icmp
        repeat' split
        all_goals omega
      rw [e]
      exact Ev.bind (Ev.of fun _ => ref_ints _ _) (Ev.const _)
    refine Ev.succ ?_ (fun k => by rw [tabellionref03_Orders.l0])
    by_cases h1 : i < a.length
    · refine Ev.congr ?_ (fun k => by rw [if_pos (by omega : (i : Int) < (a.length : Int))])
      by_cases h2 : i < b.length
      · have hm : a.getD i z44 ∈ a := by rw [List.getD_eq_getElem?_getD, List.getElem?_eq_getElem h1]; simp
        have hv := rorder (a.getD i z44) (b.getD i z44) (ha.2 _ hm)
        refine Ev.congr ?_ (fun k => by rw [decide_eq_true (by omega : (i : Int) < (b.length : Int))])
        refine Ev.succ ?_ (fun k => by rw [tabellionref03_Orders.j1])
        refine Ev.congr ?_ (fun k => by rw [if_pos rfl, if_pos (by omega : (0 : Int) ≤ (i : Int)), if_pos (by omega : (i : Int) < (a.length : Int)), if_pos (by omega : (i : Int) < (b.length : Int)), getD_T44, getD_T44])
        refine Ev.bind hv ?_
        rw [drop_getD a z44 i h1, drop_getD b z44 i h2]
        unfold rcmp
        by_cases h3 : vcmp (a.getD i z44) (b.getD i z44) = 0
        · rw [if_pos h3]
          refine Ev.congr ?_ (fun k => by rw [if_pos h3, w64 i (by have := ha.1; omega)])
          match n, hn with
          | n + 1, hn => exact rorders_loop a b ha n (i + 1) (by omega) (by omega) (by omega)
          | 0, hn => omega
        · rw [if_neg h3]
          refine Ev.congr ?_ (fun k => by rw [if_neg h3])
          exact Ev.bind hv (Ev.const _)
      · refine Ev.congr (stop (fun h => h2 h.2)) (fun k => by rw [decide_eq_false (by omega : ¬ (i : Int) < (b.length : Int))])
    · refine Ev.congr (stop (fun h => h1 h.1)) (fun k => by rw [if_neg (by omega : ¬ (i : Int) < (a.length : Int))])
theorem rorders_ev (a b : List S44) (ha : short a) : Ev (fun k => tabellionref03_Orders.f k a b) (rcmp a b) :=
  rorders_loop a b ha _ 0 rfl (Nat.zero_le _) (Nat.zero_le _)
end Go.Proofs.YtnllgjloimoebaaDoor.X

/- Rows with one key are one row. -/
set_option linter.unusedVariables false
set_option linter.unusedSimpArgs false
namespace Go.Proofs.YtnllgjloimoebaaDoor.X
open Go.RowKit Go.Proofs.YtnllgjloimoebaaDoorW.PrintWords

def num (l : List UInt8) : Nat := l.foldl (fun a c => a * 10 + (c.toNat - 48)) 0
theorem num_snoc (l : List UInt8) (c : UInt8) : num (l ++ [c]) = num l * 10 + (c.toNat - 48) := by unfold num; rw [List.foldl_append]; rfl
theorem ofNat_toNat (n : Nat) (h : n < 256) : (UInt8.ofNat n).toNat = n := by
  rw [UInt8.toNat_ofNat']; omega
theorem num_dec (u : Nat) : num (Lib.decDigits u) = u := by
  induction u using Nat.strongRecOn with
  | ind u ih =>
    unfold Lib.decDigits
    split
    · rename_i h
      show 0 * 10 + ((UInt8.ofNat (48 + u)).toNat - 48) = u
      rw [ofNat_toNat _ (by omega)]; omega
    · rename_i h
      rw [num_snoc, ih (u / 10) (by omega), ofNat_toNat _ (by omega)]; omega
theorem dec_digit (u : Nat) : ∀ c ∈ Lib.decDigits u, 48 ≤ c.toNat ∧ c.toNat ≤ 57 := by
  induction u using Nat.strongRecOn with
  | ind u ih =>
    intro c hc
    unfold Lib.decDigits at hc
    split at hc
    · rw [List.mem_singleton] at hc
      subst hc
      rw [ofNat_toNat _ (by omega)]; omega
    · rcases List.mem_append.1 hc with hc | hc
      · exact ih (u / 10) (by omega) c hc
      · rw [List.mem_singleton] at hc
        subst hc
        rw [ofNat_toNat _ (by omega)]; omega
theorem dec_inj {u v : Nat} (h : Lib.decDigits u = Lib.decDigits v) : u = v := by rw [← num_dec u, h, num_dec]
theorem itoa_inj {a b : Int} (h : Lib.itoa a = Lib.itoa b) : a = b := by
  unfold Lib.itoa at h
  have hd : ∀ (u : Nat) (l : List UInt8), Lib.decDigits u ≠ 45 :: l := fun u l e => by
    have := dec_digit u 45 (by rw [e]; simp)
    simp at this
  split at h
  · split at h
    · injection h with _ h
      have := dec_inj h
      omega
    · exact absurd h.symm (hd _ _)
  · split at h
    · exact absurd h (hd _ _)
    · have := dec_inj h
      omega
theorem itoa_no (a : Int) : (32 : UInt8) ∉ Lib.itoa a := by
  intro h
  unfold Lib.itoa at h
  split at h
  · rcases List.mem_cons.1 h with h | h
    · exact absurd h (by decide)
    · have := dec_digit _ _ h
      simp at this
  · have := dec_digit _ _ h
    simp at this
theorem split32 : ∀ {a b s t : List UInt8}, (32 : UInt8) ∉ a → (32 : UInt8) ∉ b → a ++ 32 :: s = b ++ 32 :: t → a = b ∧ s = t
  | [], [], _, _, _, _, h => by simpa using h
  | [], y :: b, _, _, _, hb, h => by
    injection h with h _
    exact absurd (by rw [h]; simp) hb
  | x :: a, [], _, _, ha, _, h => by
    injection h with h _
    exact absurd (by rw [h]; simp) ha
  | x :: a, y :: b, s, t, ha, hb, h => by
    injection h with h1 h2
    have := split32 (fun h => ha (List.mem_cons_of_mem _ h)) (fun h => hb (List.mem_cons_of_mem _ h)) h2
    exact ⟨by rw [h1, this.1], this.2⟩
theorem vtext_inj {x y : S44} {s t : List UInt8} (h : vtext x ++ s = vtext y ++ t) : x = y ∧ s = t := by
  unfold vtext at h
  simp only [List.append_assoc, List.cons_append, List.nil_append] at h
  obtain ⟨h0, h⟩ := split32 (itoa_no _) (itoa_no _) h
  obtain ⟨h1, h⟩ := split32 (itoa_no _) (itoa_no _) h
  obtain ⟨h2, h⟩ := split32 (itoa_no _) (itoa_no _) h
  have hs := itoa_inj h2
  have ha : x.f2.data.toList.length = x.f2.size := Array.length_toList
  have hb : y.f2.data.toList.length = y.f2.size := Array.length_toList
  obtain ⟨h3, h4⟩ := List.append_inj h (by omega)
  exact ⟨S44_ext (itoa_inj h0) (itoa_inj h1) h3, h4⟩
theorem ktext_inj : ∀ {a b : List S44}, a.length = b.length → ktext a = ktext b → a = b
  | [], [], _, _ => rfl
  | [], _ :: _, h, _ => by simp at h
  | _ :: _, [], h, _ => by simp at h
  | x :: a, y :: b, hl, h => by
    unfold ktext at h
    rw [List.flatMap_cons, List.flatMap_cons] at h
    obtain ⟨h1, h2⟩ := vtext_inj h
    rw [h1, ktext_inj (by simpa using hl) h2]
theorem keyT_inj {a b : List S44} (h : keyT a = keyT b) : a = b := by
  unfold keyT at h
  injection h with h1 h2
  exact ktext_inj h1 h2
theorem keyT_iff {a b : List S44} : keyT a = keyT b ↔ a = b := ⟨keyT_inj, fun h => by rw [h]⟩
end Go.Proofs.YtnllgjloimoebaaDoor.X

-- By xprint.py (this session's own program over the kit's print): not trusted: Lean checks it.
namespace Go.Proofs.YtnllgjloimoebaaDoor.X
open Go.RowKit Go.Proofs.YtnllgjloimoebaaDoorW.PrintWords Go.Proofs.YtnllgjloimoebaaDoorW.PrintLast Go.Proofs.YtnllgjloimoebaaDoorW.PrintMore
attribute [local go_sem] max2_int min2_int max_two min_two max_three min_three max_four min_four   -- for this text's walks alone
set_option linter.unusedVariables false
set_option linter.unusedSimpArgs false

/-! ### tabellionref33_Lists: function 10 -/
mutual
def tabellionref33_Lists.l0 : Nat → List (List Int) → List (List Int) → Int → Option (Bool)
 | 0, _, _, _ => none
 | k + 1, x0, x1, x5 => if x5 < (x0.length : Int) then (tabellionref33_Lists.j1 k x0 x1 x5 (decide (x5 < (x1.length : Int)))) else (tabellionref33_Lists.j1 k x0 x1 x5 false)
def tabellionref33_Lists.j1 : Nat → List (List Int) → List (List Int) → Int → Bool → Option (Bool)
 | 0, _, _, _, _ => none
 | k + 1, x0, x1, x5, x16 => if x16 = true then (if 0 ≤ x5 then (if x5 < (x0.length : Int) then (if x5 < (x1.length : Int) then (if ((rd_L1 x0 x5).length : Int) = ((rd_L1 x1 x5).length : Int) then (tabellionref33_Lists.l1 k x0 x1 x5 0) else (some false)) else (none)) else (none)) else (none)) else (some ((x0.length : Int) == (x1.length : Int)))
def tabellionref33_Lists.l1 : Nat → List (List Int) → List (List Int) → Int → Int → Option (Bool)
 | 0, _, _, _, _ => none
 | k + 1, x0, x1, x5, x6 => if 0 ≤ x5 then (if x5 < (x0.length : Int) then (if x6 < ((rd_L1 x0 x5).length : Int) then (if 0 ≤ x6 then (if x5 < (x1.length : Int) then (if x6 < ((rd_L1 x1 x5).length : Int) then (if (rd (rd_L1 x0 x5) x6) = (rd (rd_L1 x1 x5) x6) then (tabellionref33_Lists.l1 k x0 x1 x5 (wrap64 (x6 + 1))) else (some false)) else (none)) else (none)) else (none)) else (tabellionref33_Lists.l0 k x0 x1 (wrap64 (x5 + 1)))) else (none)) else (none)
end
def tabellionref33_Lists.f (k : Nat) (l0 : List (List Int)) (l1 : List (List Int)) : Option (Bool) := tabellionref33_Lists.l0 k l0 l1 0
end Go.Proofs.YtnllgjloimoebaaDoor.X

/- The groups are the document's: by one key, as they come first. -/
set_option linter.unusedVariables false
set_option linter.unusedSimpArgs false
namespace Go.Proofs.YtnllgjloimoebaaDoor.X
open Go.RowKit Go.Proofs.YtnllgjloimoebaaDoorW.PrintWords

/-- the row that a group stands for -/
def head (l : List (List S44)) (x : List Int) : List S44 := rd_L4 l (rd x 0)
structure GInv (l : List (List S44)) (k : Nat) (s : List (List Int) × (Nat × List UInt8 → Option Int)) : Prop where
  len : s.1.length ≤ k
  ne : ∀ x ∈ s.1, x ≠ []
  mem : ∀ x ∈ s.1, ∀ p ∈ x, 0 ≤ p ∧ p < (k : Int)
  one : ∀ j, j < s.1.length → s.2 (keyT (head l (s.1.getD j []))) = some (j : Int)
  lt : ∀ t g, s.2 t = some g → 0 ≤ g ∧ g < (s.1.length : Int) ∧ keyT (head l (s.1.getD g.toNat [])) = t
  lens : ∀ x ∈ s.1, x.length ≤ k

theorem getD_mem {α : Type} (l : List α) (z : α) (i : Nat) (h : i < l.length) : l.getD i z ∈ l := by
  rw [List.getD_eq_getElem?_getD, List.getElem?_eq_getElem h]; simp
theorem getD_set_eq {α : Type} (l : List α) (z v : α) (i : Nat) (h : i < l.length) : (l.set i v).getD i z = v := by
  rw [List.getD_eq_getElem?_getD, List.getElem?_set_self h]; rfl
theorem getD_set_ne {α : Type} (l : List α) (z v : α) (i j : Nat) (h : i ≠ j) : (l.set i v).getD j z = l.getD j z := by
  rw [List.getD_eq_getElem?_getD, List.getElem?_set_ne h, ← List.getD_eq_getElem?_getD]
theorem getD_append_lt {α : Type} (l m : List α) (z : α) (i : Nat) (h : i < l.length) : (l ++ m).getD i z = l.getD i z := by
  rw [List.getD_eq_getElem?_getD, List.getElem?_append_left h, ← List.getD_eq_getElem?_getD]
theorem getD_append_eq {α : Type} (l : List α) (x z : α) : (l ++ [x]).getD l.length z = x := by
  rw [List.getD_eq_getElem?_getD, List.getElem?_append_right (Nat.le_refl _)]; simp
theorem head_app (l : List (List S44)) {x : List Int} (h : x ≠ []) (i : Int) : head l (x ++ [i]) = head l x := by
  cases x with
  | nil => exact absurd rfl h
  | cons a x => rfl

theorem GInv.zero (l : List (List S44)) : GInv l 0 ([], fun _ => none) :=
  ⟨by simp, by simp, by simp, by simp, fun t g h => by simp at h, by simp⟩
theorem gput_none {s : List (List Int) × (Nat × List UInt8 → Option Int)} {r : List S44} {i : Int} (h : s.2 (keyT r) = none) : gput s r i = (s.1 ++ [[i]], putG s.2 (keyT r) s.1.length) := by
  unfold gput
  rw [h]
  simp only
  congr 1
  rw [getD_append_eq, List.nil_append]
  rw [List.set_append_right _ _ (Nat.le_refl _)]
  simp
theorem gput_some {s : List (List Int) × (Nat × List UInt8 → Option Int)} {r : List S44} {i g : Int} (h : s.2 (keyT r) = some g) : gput s r i = (s.1.set g.toNat (s.1.getD g.toNat [] ++ [i]), s.2) := by
  unfold gput
  rw [h]
theorem GInv.step {l : List (List S44)} {k : Nat} {s : List (List Int) × (Nat × List UInt8 → Option Int)} (I : GInv l k s) : GInv l (k + 1) (gput s (l.getD k []) k) := by
  cases hf : s.2 (keyT (l.getD k [])) with
  | none =>
    rw [gput_none hf]
    have hh : head l [(k : Int)] = l.getD k [] := by unfold head rd_L4 rd; simp
    refine ⟨?_, ?_, ?_, ?_, ?_, ?_⟩
    · have := I.len; simp; omega
    · intro x hx
      rcases List.mem_append.1 hx with hx | hx
      · exact I.ne x hx
      · rw [List.mem_singleton.1 hx]; simp
    · intro x hx p hp
      rcases List.mem_append.1 hx with hx | hx
      · have := I.mem x hx p hp; omega
      · rw [List.mem_singleton.1 hx] at hp
        rw [List.mem_singleton.1 hp]; omega
    · intro j hj
      show putG s.2 _ _ _ = _
      unfold putG
      rw [List.length_append, List.length_singleton] at hj
      by_cases h : j < s.1.length
      · rw [getD_append_lt _ _ _ _ h]
        have h1 := I.one j h
        rw [if_neg (fun e => by rw [e, hf] at h1; cases h1)]
        exact h1
      · have e : j = s.1.length := by omega
        subst e
        rw [getD_append_eq, hh, if_pos rfl]
    · intro t g h
      change putG s.2 _ _ _ = _ at h
      unfold putG at h
      show _ ∧ g < ((s.1 ++ [[(k : Int)]]).length : Int) ∧ keyT (head l ((s.1 ++ [[(k : Int)]]).getD g.toNat [])) = t
      rw [List.length_append, List.length_singleton]
      split at h
      · rename_i ht
        injection h with h
        subst h
        rw [Int.toNat_natCast, getD_append_eq, hh]
        exact ⟨by omega, by omega, ht.symm⟩
      · have h1 := I.lt t g h
        rw [getD_append_lt _ _ _ _ (by omega)]
        exact ⟨h1.1, by omega, h1.2.2⟩
    · intro x hx
      rcases List.mem_append.1 hx with hx | hx
      · have := I.lens x hx; omega
      · rw [List.mem_singleton.1 hx]; simp
  | some g =>
    rw [gput_some hf]
    obtain ⟨h0, h1, h2⟩ := I.lt _ _ hf
    have hgl : g.toNat < s.1.length := by omega
    have hm := getD_mem s.1 [] g.toNat hgl
    have hne := I.ne _ hm
    refine ⟨by have := I.len; simp; omega, ?_, ?_, ?_, ?_, ?_⟩
    · intro x hx
      rcases List.mem_or_eq_of_mem_set hx with hx | rfl
      · exact I.ne x hx
      · simp
    · intro x hx p hp
      rcases List.mem_or_eq_of_mem_set hx with hx | rfl
      · have := I.mem x hx p hp; omega
      · rcases List.mem_append.1 hp with hp | hp
        · have := I.mem _ hm p hp; omega
        · rw [List.mem_singleton.1 hp]; omega
    · intro j hj
      simp only [List.length_set] at hj
      show s.2 (keyT (head l ((s.1.set g.toNat _).getD j []))) = _
      by_cases h : g.toNat = j
      · subst h
        rw [getD_set_eq _ _ _ _ hgl, head_app l hne]
        exact I.one _ hgl
      · rw [getD_set_ne _ _ _ _ _ h]
        exact I.one j hj
    · intro t g' h
      have h3 := I.lt t g' h
      show _ ∧ g' < ((s.1.set g.toNat _).length : Int) ∧ keyT (head l ((s.1.set g.toNat _).getD g'.toNat [])) = t
      rw [List.length_set]
      refine ⟨h3.1, h3.2.1, ?_⟩
      by_cases e : g.toNat = g'.toNat
      · rw [← e, getD_set_eq _ _ _ _ hgl, head_app l hne, e]; exact h3.2.2
      · rw [getD_set_ne _ _ _ _ _ e]; exact h3.2.2
    · intro x hx
      rcases List.mem_or_eq_of_mem_set hx with hx | rfl
      · have := I.lens x hx; omega
      · have := I.lens _ hm
        rw [List.length_append, List.length_singleton]; omega
theorem GInv.at (l : List (List S44)) : ∀ k, GInv l k (gAfter l k)
  | 0 => GInv.zero l
  | k + 1 => (GInv.at l k).step

/-! ### the document's loops -/
def shorts (l : List (List S44)) : Prop := l.length ≤ 1099511627776 ∧ ∀ r ∈ l, short r
theorem shorts_rd {l : List (List S44)} (h : shorts l) (i : Int) : short (rd_L4 l i) := by
  unfold rd_L4
  by_cases hi : i.toNat < l.length
  · exact h.2 _ (getD_mem _ _ _ hi)
  · rw [List.getD_eq_getElem?_getD, List.getElem?_eq_none (by omega)]
    exact ⟨by simp, by simp⟩
theorem rd_mem {x : List Int} (h : x ≠ []) : rd x 0 ∈ x := by
  cases x with
  | nil => exact absurd rfl h
  | cons a x => simp [rd]

theorem grp_l1 {l : List (List S44)} (hl : shorts l) (i : Nat) (hi : i < l.length) {s : List (List Int) × (Nat × List UInt8 → Option Int)} (I : GInv l i s) (v : List (List Int))
    (hv : Ev (fun k => tabellionref33_Groups.l0 k l (gput s (l.getD i []) i).1 ((i + 1 : Nat) : Int)) v) :
    ∀ (n j : Nat), s.1.length - j = n → j ≤ s.1.length → (∀ j', j' < j → rcmp (head l (s.1.getD j' [])) (l.getD i []) ≠ 0) →
      Ev (fun k => tabellionref33_Groups.l1 k l s.1 (i : Int) (j : Int)) v
  | n, j, hn, hj, hno => by
    have hlen := I.len
    have hl1 := hl.1
    refine Ev.succ ?_ (fun k => by rw [tabellionref33_Groups.l1])
    have hrow : rd_L4 l (i : Int) = l.getD i [] := by unfold rd_L4; rw [Int.toNat_natCast]
    by_cases h1 : j < s.1.length
    · have hx : rd_L1 s.1 (j : Int) = s.1.getD j [] := by unfold rd_L1; rw [Int.toNat_natCast]
      have hm := getD_mem s.1 [] j h1
      have hne := I.ne _ hm
      have hp := I.mem _ hm _ (rd_mem hne)
      have hpos : 0 < (s.1.getD j []).length := List.length_pos_iff.2 hne
      have hll := I.lens _ hm
      refine Ev.congr ?_ (fun k => by rw [if_pos (by omega : (j : Int) < (s.1.length : Int)), if_pos (by omega : (0 : Int) ≤ (j : Int)), hx, if_pos (by omega : (0 : Int) < ((s.1.getD j []).length : Int)), if_pos hp.1, if_pos (by omega : rd (s.1.getD j []) 0 < (l.length : Int)), if_pos (by omega : (0 : Int) ≤ (i : Int)), if_pos (by omega : (i : Int) < (l.length : Int)), hrow])
      refine Ev.bind (rorders_ev _ _ (shorts_rd hl _)) ?_
      by_cases h2 : rcmp (head l (s.1.getD j [])) (l.getD i []) = 0
      · refine Ev.congr ?_ (fun k => by rw [if_pos (show rcmp (rd_L4 l (rd (s.1.getD j []) 0)) (l.getD i []) = 0 from h2), if_neg (by omega : ¬ (j : Int) = (s.1.length : Int)), if_pos (by omega : (s.1.getD j []).length < 17592186044416), w64 i (by omega)])
        have hf : s.2 (keyT (l.getD i [])) = some (j : Int) := by rw [← rcmp_zero.1 h2]; exact I.one j h1
        rw [gput_some hf] at hv
        exact hv
      · refine Ev.congr ?_ (fun k => by rw [if_neg (show ¬ rcmp (rd_L4 l (rd (s.1.getD j []) 0)) (l.getD i []) = 0 from h2), w64 j (by omega)])
        match n, hn with
        | n + 1, hn => exact grp_l1 hl i hi I v hv n (j + 1) (by omega) (by omega) (fun j' hj' => by
            by_cases e : j' = j
            · rw [e]; exact h2
            · exact hno j' (by omega))
        | 0, hn => omega
    · have e : j = s.1.length := by omega
      subst e
      have hf : s.2 (keyT (l.getD i [])) = none := by
        cases hf : s.2 (keyT (l.getD i [])) with
        | none => rfl
        | some g =>
          obtain ⟨h0, h2, h3⟩ := I.lt _ _ hf
          exact absurd (rcmp_zero.2 (keyT_inj h3)) (hno g.toNat (by omega))
      refine Ev.congr ?_ (fun k => by rw [if_neg (by omega : ¬ (s.1.length : Int) < (s.1.length : Int)), if_pos rfl, if_pos (by omega : s.1.length < 5864062014805)])
      refine Ev.bind (v := s.1 ++ [([] : List Int)]) (Ev.const _) ?_
      have hx : rd_L1 (s.1 ++ [([] : List Int)]) (s.1.length : Int) = [] := by unfold rd_L1; rw [Int.toNat_natCast, getD_append_eq]
      refine Ev.congr ?_ (fun k => by rw [if_pos (by omega : (0 : Int) ≤ (s.1.length : Int)), if_pos (by rw [List.length_append, List.length_singleton]; omega : (s.1.length : Int) < ((s.1 ++ [([] : List Int)]).length : Int)), hx, if_pos (by simp : ([] : List Int).length < 17592186044416), w64 i (by omega)])
      have h4 : gput s (l.getD i []) i = ((s.1 ++ [[]]).set s.1.length ((s.1 ++ [[]]).getD s.1.length [] ++ [(i : Int)]), putG s.2 (keyT (l.getD i [])) s.1.length) := by unfold gput; rw [hf]
      rw [h4] at hv
      simp only [getD_append_eq] at hv
      exact hv
theorem grp_l0 {l : List (List S44)} (hl : shorts l) : ∀ (n i : Nat), l.length - i = n → i ≤ l.length →
    Ev (fun k => tabellionref33_Groups.l0 k l (gAfter l i).1 (i : Int)) (groupsP l)
  | n, i, hn, hi => by
    refine Ev.succ ?_ (fun k => by rw [tabellionref33_Groups.l0])
    by_cases h1 : i < l.length
    · refine Ev.congr ?_ (fun k => by rw [if_pos (by omega : (i : Int) < (l.length : Int))])
      match n, hn with
      | n + 1, hn =>
        exact grp_l1 hl i h1 (GInv.at l i) _ (grp_l0 hl n (i + 1) (by omega) (by omega)) _ 0 rfl (Nat.zero_le _) (fun j' h => by omega)
      | 0, hn => omega
    · have e : i = l.length := by omega
      subst e
      exact Ev.congr (Ev.const _) (fun k => by rw [if_neg (by omega : ¬ (l.length : Int) < (l.length : Int))]; rfl)
theorem refGroups_ev {l : List (List S44)} (hl : shorts l) : Ev (fun k => tabellionref33_Groups.f k l) (groupsP l) :=
  grp_l0 hl _ 0 rfl (Nat.zero_le _)

/-! ### the same lists -/
theorem lists_l1 (a : List (List Int)) (j : Nat) (hj : j < a.length) (hb : (a.getD j []).length < 4611686018427387904) (v : Bool) (hv : Ev (fun k => tabellionref33_Lists.l0 k a a (wrap64 ((j : Int) + 1))) v) :
    ∀ (n i : Nat), (a.getD j []).length - i = n → i ≤ (a.getD j []).length → Ev (fun k => tabellionref33_Lists.l1 k a a (j : Int) (i : Int)) v
  | n, i, hn, hi => by
    have hx : rd_L1 a (j : Int) = a.getD j [] := by unfold rd_L1; rw [Int.toNat_natCast]
    refine Ev.succ ?_ (fun k => by rw [tabellionref33_Lists.l1, hx, if_pos (by omega : (0 : Int) ≤ (j : Int)), if_pos (by omega : (j : Int) < (a.length : Int))])
    by_cases h1 : i < (a.getD j []).length
    · refine Ev.congr ?_ (fun k => by rw [if_pos (by omega : (i : Int) < ((a.getD j []).length : Int)), if_pos (by omega : (0 : Int) ≤ (i : Int)), if_pos (by omega : (j : Int) < (a.length : Int)), if_pos (by omega : (i : Int) < ((a.getD j []).length : Int)), if_pos rfl, w64 i (by omega)])
      match n, hn with
      | n + 1, hn => exact lists_l1 a j hj hb v hv n (i + 1) (by omega) (by omega)
      | 0, hn => omega
    · exact Ev.congr hv (fun k => by rw [if_neg (by omega : ¬ (i : Int) < ((a.getD j []).length : Int))])
theorem lists_l0 (a : List (List Int)) (ha : a.length < 4611686018427387904) (hb : ∀ x ∈ a, x.length < 4611686018427387904) : ∀ (n j : Nat), a.length - j = n → j ≤ a.length →
    Ev (fun k => tabellionref33_Lists.l0 k a a (j : Int)) true
  | n, j, hn, hj => by
    have hx : rd_L1 a (j : Int) = a.getD j [] := by unfold rd_L1; rw [Int.toNat_natCast]
    refine Ev.succ ?_ (fun k => by rw [tabellionref33_Lists.l0])
    by_cases h1 : j < a.length
    · refine Ev.congr ?_ (fun k => by rw [if_pos (by omega : (j : Int) < (a.length : Int)), decide_eq_true (by omega : (j : Int) < (a.length : Int))])
      refine Ev.succ ?_ (fun k => by rw [tabellionref33_Lists.j1, if_pos rfl, if_pos (by omega : (0 : Int) ≤ (j : Int)), if_pos (by omega : (j : Int) < (a.length : Int)), if_pos (by omega : (j : Int) < (a.length : Int)), if_pos rfl])
      refine lists_l1 a j h1 (hb _ (getD_mem _ _ _ h1)) true ?_ _ 0 rfl (Nat.zero_le _)
      refine Ev.congr ?_ (fun k => by rw [w64 j (by omega)])
      match n, hn with
      | n + 1, hn => exact lists_l0 a ha hb n (j + 1) (by omega) (by omega)
      | 0, hn => omega
    · refine Ev.congr ?_ (fun k => by rw [if_neg (by omega : ¬ (j : Int) < (a.length : Int))])
      refine Ev.succ ?_ (fun k => by rw [tabellionref33_Lists.j1, if_neg (by simp)])
      exact Ev.congr (Ev.const true) (fun k => by simp)
theorem lists_ev (a : List (List Int)) (ha : a.length < 4611686018427387904) (hb : ∀ x ∈ a, x.length < 4611686018427387904) : Ev (fun k => tabellionref33_Lists.f k a a) true :=
  lists_l0 a ha hb _ 0 rfl (Nat.zero_le _)
end Go.Proofs.YtnllgjloimoebaaDoor.X

/- joiner.ranked: the places of the keys without nulls, by the keys, then by the places. -/
set_option linter.unusedVariables false
set_option linter.unusedSimpArgs false
namespace Go.Proofs.YtnllgjloimoebaaDoor.X
open Go.RowKit Go.Sort Go.Proofs.YtnllgjloimoebaaDoorW.PrintWords Go.Proofs.YtnllgjloimoebaaDoorW.PrintLast Go.Proofs.YtnllgjloimoebaaDoorW.PrintMore

/-- two places, by the keys there, then by the places -/
def rkc (l : List (List S44)) (a b : Int) : Int := if rcmp (rd_L4 l a) (rd_L4 l b) = 0 then icmp a b else rcmp (rd_L4 l a) (rd_L4 l b)
def wholesTo (l : List (List S44)) : Nat → List Int
  | 0 => []
  | k + 1 => if (l.getD k []).all (fun x => !nullV x) then wholesTo l k ++ [(k : Int)] else wholesTo l k
theorem wholesTo_len (l : List (List S44)) : ∀ k, (wholesTo l k).length ≤ k
  | 0 => by simp [wholesTo]
  | k + 1 => by
    have := wholesTo_len l k
    unfold wholesTo
    split
    · simp; omega
    · omega
theorem wholesTo_in (l : List (List S44)) : ∀ k, ∀ x ∈ wholesTo l k, 0 ≤ x ∧ x < (k : Int)
  | 0, x, h => by simp [wholesTo] at h
  | k + 1, x, h => by
    unfold wholesTo at h
    split at h
    · rcases List.mem_append.1 h with h | h
      · have := wholesTo_in l k x h; omega
      · rw [List.mem_singleton.1 h]; omega
    · have := wholesTo_in l k x h; omega
theorem wholesTo_nodup (l : List (List S44)) : ∀ k, (wholesTo l k).Nodup
  | 0 => by simp [wholesTo]
  | k + 1 => by
    unfold wholesTo
    split
    · rw [List.nodup_append]
      refine ⟨wholesTo_nodup l k, by simp, fun a ha b hb => ?_⟩
      rw [List.mem_singleton.1 hb]
      have := wholesTo_in l k a ha
      omega
    · exact wholesTo_nodup l k
def rankedP (l : List (List S44)) : List Int := (wholesTo l l.length).mergeSort (fun a b => !decide (rkc l b a < 0))
def joiner_ranked.f (l : List (List S44)) : Option (List Int) := if l.all keyable && decide (l.length ≤ 1099511627776) then some (rankedP l) else none

theorem icmp_trans {a b c : Int} (h1 : icmp a b < 0) (h2 : icmp b c < 0) : icmp a c < 0 := by
  have := icmp_lt.1 h1
  have := icmp_lt.1 h2
  exact icmp_lt.2 (by omega)
theorem rkc_neg (l : List (List S44)) (a b : Int) : rkc l b a = - rkc l a b := by
  unfold rkc
  rw [rcmp_neg (rd_L4 l a) (rd_L4 l b)]
  by_cases h : rcmp (rd_L4 l a) (rd_L4 l b) = 0
  · rw [if_pos h, if_pos (by omega)]; exact icmp_neg a b
  · rw [if_neg h, if_neg (by omega)]
theorem rkc_trans (l : List (List S44)) {a b c : Int} (h1 : rkc l a b < 0) (h2 : rkc l b c < 0) : rkc l a c < 0 := by
  unfold rkc at *
  by_cases e1 : rcmp (rd_L4 l a) (rd_L4 l b) = 0
  · rw [if_pos e1] at h1
    rw [rcmp_zero.1 e1]
    by_cases e2 : rcmp (rd_L4 l b) (rd_L4 l c) = 0
    · rw [if_pos e2] at h2 ⊢
      exact icmp_trans h1 h2
    · rw [if_neg e2] at h2 ⊢
      exact h2
  · rw [if_neg e1] at h1
    by_cases e2 : rcmp (rd_L4 l b) (rd_L4 l c) = 0
    · rw [← rcmp_zero.1 e2, if_neg e1]; exact h1
    · rw [if_neg e2] at h2
      have := rcmp_trans h1 h2
      rw [if_neg (by omega)]; exact this
theorem rkc_zero (l : List (List S44)) {a b : Int} (h : rkc l a b = 0) : a = b := by
  unfold rkc at h
  split at h
  · exact icmp_zero.1 h
  · rename_i e; exact absurd h e

section
variable (l : List (List S44)) (m : Nat)
def rcf (i j : Fin (m + 1)) : Int := rkc l ((wholesTo l l.length).getD i.val 0) ((wholesTo l l.length).getD j.val 0)
theorem rcf_swo : SWO (ltOf (rcf l m)) := by
  refine ⟨fun x => ?_, fun x y z h1 h2 => ?_, fun x y z h1 h2 => ?_⟩
  · unfold ltOf rcf
    have := rkc_neg l ((wholesTo l l.length).getD x.val 0) ((wholesTo l l.length).getD x.val 0)
    rw [decide_eq_false_iff_not]; omega
  · unfold ltOf rcf at *
    rw [decide_eq_true_eq] at *
    exact rkc_trans l h1 h2
  · unfold ltOf rcf at *
    rw [decide_eq_false_iff_not] at *
    intro h
    have e1 := rkc_neg l ((wholesTo l l.length).getD x.val 0) ((wholesTo l l.length).getD y.val 0)
    by_cases h3 : rkc l ((wholesTo l l.length).getD x.val 0) ((wholesTo l l.length).getD y.val 0) = 0
    · rw [rkc_zero l h3] at h; exact h2 h
    · exact h2 (rkc_trans l (by omega) h)
theorem rcf_tot (hm : (wholesTo l l.length).length = m + 1) (x y : Fin (m + 1)) (h1 : ltOf (rcf l m) x y = false) (h2 : ltOf (rcf l m) y x = false) : x = y := by
  unfold ltOf rcf at *
  rw [decide_eq_false_iff_not] at *
  have e1 := rkc_neg l ((wholesTo l l.length).getD x.val 0) ((wholesTo l l.length).getD y.val 0)
  have e2 := rkc_zero l (by omega : rkc l ((wholesTo l l.length).getD x.val 0) ((wholesTo l l.length).getD y.val 0) = 0)
  have hx : x.val < (wholesTo l l.length).length := by have := x.2; omega
  have hy : y.val < (wholesTo l l.length).length := by have := y.2; omega
  rw [List.getD_eq_getElem?_getD, List.getElem?_eq_getElem hx, List.getD_eq_getElem?_getD, List.getElem?_eq_getElem hy] at e2
  simp only [Option.getD_some] at e2
  have hp := List.pairwise_iff_getElem.1 (wholesTo_nodup l l.length)
  apply Fin.ext
  rcases Nat.lt_trichotomy x.val y.val with h | h | h
  · exact absurd e2 (hp _ _ hx hy h)
  · exact h
  · exact absurd e2.symm (hp _ _ hy hx h)
theorem rcf_sorted (hm : (wholesTo l l.length).length = m + 1) : ((List.finRange (m + 1)).mergeSort (fun x y => !(ltOf (rcf l m)) y x)).map (fun i => (wholesTo l l.length).getD i.val 0) = rankedP l := by
  unfold rankedP
  rw [List.map_mergeSort (r := fun x y => !ltOf (rcf l m) y x) (f := fun i : Fin (m + 1) => (wholesTo l l.length).getD i.val 0) (s := fun a b => !decide (rkc l b a < 0)) (fun a _ b _ => rfl)]
  congr 1
  apply List.ext_getElem
  · simp [hm]
  · intro i h1 h2
    simp [List.getD_eq_getElem?_getD, List.getElem?_eq_getElem h2]
end

theorem or2 (a b : Int) : Ev (fun k => cmp_Or_int.f k [a, b]) (if a = 0 then b else a) := by
  refine ⟨4, fun k hk => ?_⟩
  obtain ⟨k', rfl⟩ : ∃ k', k = k' + 4 := ⟨k - 4, by omega⟩
  unfold cmp_Or_int.f
  have w1 : wrap64 1 = 1 := by unfold wrap64; omega
  have w2 : wrap64 2 = 2 := by unfold wrap64; omega
  by_cases ha : a = 0
  · by_cases hb : b = 0
    · simp [cmp_Or_int.l0, YtnllgjloimoebaaDoorW.PrintWords.rd, w1, w2, ha, hb]
    · simp [cmp_Or_int.l0, YtnllgjloimoebaaDoorW.PrintWords.rd, w1, w2, ha, hb]
  · simp [cmp_Or_int.l0, YtnllgjloimoebaaDoorW.PrintWords.rd, w1, w2, ha]

theorem ints_S {e base : Nat} {ok : Nat → Prop} {w : World} {v : Value} {xs : List Int} (h : Kd.R (Kd.int .i64) e w base ok v xs) : Kd.S (Kd.int .i64) e w base ok v xs :=
  Kd.S_bare ⟨h.1, h.2.imp_ (fun _ _ hp => hp)⟩

theorem ranked_cmp (A0 : Option Addr) (c0 : Nat) (l0 : List (List (S44))) (w w1 : World) (g m : Nat) (inn : Fin (m + 1) → Value) (hall : shorts l0)
    (hC : Kd.C (Kd.slice 44 k44) w A0 l0.length l0) (hbx : w1.heap[w.heap.size]? = some (.cells #[.slice A0 l0.length c0] 22 (0, 0))) (hb : Below w.heap.size w w1) (hg : w.heap.size < g) (hm : (wholesTo l0 l0.length).length = m + 1)
    (hM : ∀ i : Fin (m + 1), (Kd.int .i64).M w1 w.heap.size (fun k => True ∧ k ≠ g) ((wholesTo l0 l0.length).getD i.val 0) [inn i]) :
    CmpLays1 Tryd.prog 59 #[.pointer (some ⟨w.heap.size, 0, none⟩)] inn (rcf l0 m) g 0 (m + 1) w1 := by
  intro q os dk hs x y
  have hBW : Below w.heap.size w (sortWorld inn w1 g 0 q dk os) := sw_below hb (by omega)
  have hbx2 : (sortWorld inn w1 g 0 q dk os).heap[w.heap.size]? = some (.cells #[.slice A0 l0.length c0] 22 (0, 0)) := (sw_other _ (blk_lt hbx) (by omega)).trans hbx
  have hI : ∀ i : Fin (m + 1), inn i = .int .i64 ((wholesTo l0 l0.length).getD i.val 0) := fun i => by
    have h1 : [inn i] = [Value.int .i64 ((wholesTo l0 l0.length).getD i.val 0)] := hM i
    injection h1
  have hin : ∀ i : Fin (m + 1), 0 ≤ (wholesTo l0 l0.length).getD i.val 0 ∧ (wholesTo l0 l0.length).getD i.val 0 < (l0.length : Int) := fun i => wholesTo_in l0 l0.length _ (getD_mem _ _ _ (by have := i.2; omega))
  obtain ⟨k1, hk1⟩ := orders_ev (rd_L4 l0 ((wholesTo l0 l0.length).getD x.val 0)) (rd_L4 l0 ((wholesTo l0 l0.length).getD y.val 0)) (shorts_rd hall _).1
  obtain ⟨k2, hk2⟩ := or2 (rcmp (rd_L4 l0 ((wholesTo l0 l0.length).getD x.val 0)) (rd_L4 l0 ((wholesTo l0 l0.length).getD y.val 0))) (icmp ((wholesTo l0 l0.length).getD x.val 0) ((wholesTo l0 l0.length).getD y.val 0))
  show Calls Tryd.prog 59 #[inn x, inn y, .pointer (some ⟨w.heap.size, 0, none⟩)] _ _
  rw [hI x, hI y]
  refine (X.D.ranked1_calls (max k1 k2) w.heap.size A0 c0 l0 _ _ _ _ (rcf l0 m x y) _ ((blk_cell hbx2 0).trans rfl) (Kd.C_below hC hBW) (hin x).1 (hin x).2 (hin y).1 (hin y).2 (hk1 _ (by omega)) (cmpI _ _) (hk2 _ (by omega))).mono ?_
  rintro e w' ⟨rfl, hb'⟩
  exact ⟨rfl, hb'.grows⟩

set_option maxHeartbeats 8000000 in
set_option maxRecDepth 100000 in
theorem joiner_ranked.calls (A0 : Option Addr) (c0 : Nat) (l0 : List (List (S44))) (res : List Int) (w : World) (hr0 : Kd.C (Kd.slice 44 k44) w A0 l0.length l0) (hc0 : l0.length ≤ c0) (h : joiner_ranked.f l0 = some res) :
    Calls Tryd.prog 40 #[.slice A0 l0.length c0] w fun e w' => ∃ v0_ : Value, e = .returned (v0_) ∧ Kd.R (Kd.int .i64) 3 w' w.heap.size (fun _ => True) v0_ res ∧ Below w.heap.size w w' := by
  have HR0 := Aside0.mk hr0
  have HC0 := Aside0.mk hc0
  clear hr0 hc0
  unfold joiner_ranked.f at h
  split at h
  case isFalse => cases h
  rename_i hall
  rw [Bool.and_eq_true, decide_eq_true_eq, List.all_eq_true] at hall
  have HALL := Aside0.mk hall
  clear hall
  have h := Option.some.inj h
  have HRES := Aside0.mk h
  clear h
  go_enter Tryd.func40, Tryd.ntmps40
  have HBX0 : Aside0 ((w.alloc (.cells #[.slice A0 l0.length c0] 22)).heap[w.heap.size]? = some (.cells #[.slice A0 l0.length c0] 22 (0, 0))) := ⟨blk_new _ _⟩
  have HB0 : Aside0 (Below w.heap.size w (w.alloc (.cells #[.slice A0 l0.length c0] 22))) := ⟨below_alloc (Below.refl _ _) _⟩
  go_wp2
  obtain ⟨w1, hw1⟩ : ∃ w1, w1 = w.alloc (.cells #[.slice A0 l0.length c0] 22) := ⟨_, rfl⟩
  rw [← hw1] at HBX0 HB0 ⊢
  clear hw1
  go_loopg [3, 7] l0.length (fun n v3 v7 wr => ∃ k : Nat, v7 = .int .i64 k ∧ Aside0 (k + n = l0.length) ∧ Aside0 (Kd.R (Kd.int .i64) 3 wr w.heap.size (fun _ => True) v3 (wholesTo l0 k)) ∧ Aside0 (wr.heap[w.heap.size]? = some (.cells #[.slice A0 l0.length c0] 22 (0, 0))) ∧ Aside0 (Below w.heap.size w wr))
  case atStart => exact ⟨0, rfl, ⟨Nat.zero_add _⟩, ⟨Kd.R_nil _ _ _ _ _⟩, HBX0, HB0⟩
  case round =>
    clear HBX0 HB0
    obtain ⟨k, rfl, HN, HO, HBX, HB⟩ := hrel
    have hn := HN.out
    by_cases hlt : k < l0.length
    · obtain ⟨ad, Ar, cr, e, hx0, hl0, hi0⟩ := at_L4 HR0.out k (by omega) (by omega)
      cases e
      obtain ⟨r, hr⟩ : ∃ r, r = l0.getD k [] := ⟨_, rfl⟩
      have hh : (rd_L4 l0 (k : Int)) = l0.getD k [] := by unfold rd_L4; rw [Int.toNat_natCast]
      rw [hh, ← hr] at hx0 hl0 hi0
      have hmem : r ∈ l0 := by rw [hr, List.getD_eq_getElem?_getD, List.getElem?_eq_getElem hlt]; simp
      have HKY : Aside0 (keyable r = true) := ⟨HALL.out.1 r hmem⟩
      have HR := Aside0.mk hr
      clear hr hh hmem
      rw [Int.toNat_natCast] at hx0
      replace hx0 := (HB.out.cell (World.block_lt_of_cell? w _ hx0)).trans hx0
      have HI := Aside0.mk hi0
      have HCC := Aside0.mk hl0
      clear hi0 hl0
      have hkl : (k : Int) < (l0.length : Int) := by omega
      have hl2 : (l0.length : Int) ≤ 1099511627776 := by have := HALL.out.2; omega
      have hrl : r.length ≤ 1099511627776 := (keyable_len HKY.out).2
      clear hn
      have hbc : wr.cell? ⟨w.heap.size, 0, none⟩ = some (.slice (some ad) l0.length c0) := (blk_cell HBX.out 0).trans rfl
      obtain ⟨xs, hxs⟩ : ∃ xs, xs = wholesTo l0 k := ⟨_, rfl⟩
      have HXL : Aside0 (xs.length ≤ k) := ⟨by rw [hxs]; exact wholesTo_len l0 k⟩
      have HNX : Aside0 (wholesTo l0 (k + 1) = if r.all (fun x => !nullV x) then xs ++ [(k : Int)] else xs) := ⟨by rw [hxs, HR.out]; rfl⟩
      rw [← hxs] at HO
      clear hxs
      obtain ⟨Ao, co, eo⟩ := Kd.R_slice HO.out
      subst eo
      cases hbw : (r.all fun x => !nullV x) with
      | false =>
        go_wp2_with (first | (go_at_call 38; refine (joiner_whole.calls Ar cr r false _ (Kd.C_below HI.out HB.out) HCC.out (by unfold joiner_whole.f; rw [if_pos hrl, hbw])).mono ?_; rintro e w2 ⟨rfl, hb⟩; have n0_ := Aside0.mk (Kd.R_below HO.out hb); have n1_ := Aside0.mk (blk_below HBX.out hb); have n2_ := Aside0.mk (below_step HB.out hb); clear HO HBX HB; have HO := n0_; have HBX := n1_; have HB := n2_; clear n0_ n1_ n2_; clear hx0 hbc hb))
        go_roundg (l0.length - (k + 1))
        case measure => have := HN.out; omega
        case rel => exact ⟨k + 1, (by first | rfl | (simp; done) | (simp [*]; done)), ⟨by have := HN.out; omega⟩, ⟨by rw [HNX.out, hbw]; exact HO.out⟩, HBX, HB⟩
      | true =>
        go_wp2_with (first | (go_at_call 38; refine (joiner_whole.calls Ar cr r true _ (Kd.C_below HI.out HB.out) HCC.out (by unfold joiner_whole.f; rw [if_pos hrl, hbw])).mono ?_; rintro e w2 ⟨rfl, hb⟩; have n0_ := Aside0.mk (Kd.R_below HO.out hb); have n1_ := Aside0.mk (blk_below HBX.out hb); have n2_ := Aside0.mk (below_step HB.out hb); clear HO HBX HB; have HO := n0_; have HBX := n1_; have HB := n2_; clear n0_ n1_ n2_; clear hx0 hbc hb) | ((with_reducible refine gate_builtin (b := .append) (xs := #[.tmp 15, .tmp 17]) rfl ?_); at_builtin; refine Kd.R_append (Kd.int .i64) (w0 := w) w.heap.size rfl (.tmp 15) (.tmp 17) 30 3 (.int .i64 0) 8 rfl Tryd.underlying30 info3 rfl (by decide) (by omega) (.slice Ao xs.length co) xs (k : Int) [.int .i64 k] (fun _ => True) (fun _ => False) rfl rfl ?aP (fun _ hk => hk.elim) ?aF ?aO ?aB ?aS ?aL ?_; (case aP => exact rfl); (case aF => exact (fun _ _ => trivial)); (case aO => exact HO.out); (case aB => exact HB.out); (case aS => exact (below_size HB.out)); (case aL => have := HXL.out; omega); intro v4 w4 ho hb hg hat; have n0_ := Aside0.mk ((hg.block _ (blk_lt HBX.out) (Kd.R_ne HO.out HBX.out (by decide))).trans HBX.out); have n1_ := Aside0.mk (ho); have n2_ := Aside0.mk (hb); clear HBX HO HB; have HBX := n0_; have HO := n1_; have HB := n2_; clear n0_ n1_ n2_; clear ho hb hg hat))
        go_roundg (l0.length - (k + 1))
        case measure => have := HN.out; omega
        case rel => exact ⟨k + 1, (by first | rfl | (simp; done) | (simp [*]; done)), ⟨by have := HN.out; omega⟩, ⟨by rw [HNX.out, hbw]; exact HO.out⟩, HBX, HB⟩
    · have hkk : k = l0.length := by omega
      subst hkk
      have hkb2 : decide ((l0.length : Int) < (l0.length : Int)) = false := decide_eq_false (by omega)
      have hwl := wholesTo_len l0 l0.length
      clear hn hlt
      obtain ⟨Ao, co, eo⟩ := Kd.R_slice HO.out
      subst eo
      cases hm : (wholesTo l0 l0.length).length with
      | zero =>
        have hnil : wholesTo l0 l0.length = [] := List.eq_nil_of_length_eq_zero hm
        have hr : res = [] := by rw [← HRES.out]; unfold rankedP; rw [hnil]; exact List.mergeSort_nil
        have HO2 : Aside0 (Kd.R (Kd.int .i64) 3 wr w.heap.size (fun _ => True) (.slice Ao 0 co) res) := ⟨by
          have := HO.out
          rw [hm] at this
          rw [hr, ← hnil]
          exact this⟩
        go_wp2_with (go_at_call 58; refine (Tryd.slices_SortFunc_none_f58 (α := Fin 1) Ao co _ _).mono ?_; rintro e w2 ⟨rfl, rfl⟩)
        go_ret
        exact ⟨_, rfl, HO2.out, HB.out⟩
      | succ m =>
        have HS := Aside0.mk (ints_S HO.out)
        obtain ⟨g, cap, e2, hg0, hg1, hgt⟩ := Kd.S_form HS.out (by omega)
        injection e2 with e2 _ e3
        subst e2
        subst e3
        obtain ⟨inn, h1, hH, hglt, hgb, hn, hM, hfin⟩ := sort_row (d := Kd.int .i64) rfl 0 HS.out hm
        have hsh : shorts l0 := ⟨HALL.out.2, fun r hr => by
          have h1 := keyable_len (HALL.out.1 r hr)
          have h2 := HALL.out.1 r hr
          unfold keyable at h2
          rw [Bool.and_eq_true] at h2
          have h3 := rowOK_of h2.1
          exact ⟨by omega, fun x hx => by have := (h3.2 x hx).2.2; omega⟩⟩
        have hgne : w.heap.size < g := by
          obtain ⟨cells, hgt⟩ := hgt
          have : g ≠ w.heap.size := fun e => by
            rw [e, HBX.out] at hgt
            injection hgt with hgt
            injection hgt with _ hgt
            exact absurd hgt (by decide)
          omega
        have hcmp := ranked_cmp A0 c0 l0 w wr g m inn hsh HR0.out HBX.out HB.out hgne hm hM
        have eg : ∀ args w, (callFunc 59 args).run Tryd.prog w = .ok (.enter 59 args) w := enters_of Tryd.func59 (by kernel_rfl) rfl
        have hds : (List.finRange (m + 1)).toArray.size = m + 1 := by simp
        have hS := Tryd.slices_SortFunc_total_f58 inn h1 (rcf l0 m) (rcf_swo l0 m) 59 #[.pointer (some ⟨w.heap.size, 0, none⟩)] g 0 co (List.finRange (m + 1)).toArray wr eg (by rw [hds]; exact hcmp) hH hglt (by rw [hds]; have := HALL.out.2; omega) (rcf_tot l0 m hm)
        rw [hds] at hS
        have HSS := Aside0.mk hS
        have HFIN := Aside0.mk hfin
        clear hcmp hS hH hM hfin hgt
        go_wp2_with (go_at_call 58; refine HSS.out.mono ?_; rintro e w2 ⟨rfl, q, os, rfl⟩)
        go_ret
        refine ⟨_, rfl, ?_, sw_below HB.out (by omega)⟩
        have h5 := HFIN.out q _ os (List.mergeSort_perm (List.finRange (m + 1)) (fun x y => !(ltOf (rcf l0 m)) y x))
        rw [rcf_sorted l0 m hm, HRES.out, hm] at h5
        exact Kd.S_R h5
end Go.Proofs.YtnllgjloimoebaaDoor.X

/- A row of pairs of the call's own, laid before slices.SortFunc: what the sort asks of the row, and the row behind it. -/
set_option linter.unusedVariables false
set_option linter.unusedSimpArgs false
namespace Go.Proofs.YtnllgjloimoebaaDoor.X
open Go.RowKit Go.Sort Go.Lib Go.Proofs.YtnllgjloimoebaaDoorW.PrintWords

instance : Inhabited S40 := ⟨z40⟩
def enc40 (x : S40) : List Value := [.int .i64 x.f0, .int .i64 x.f1]
theorem enc40_len (x : S40) : (enc40 x).length = 2 := rfl
theorem enc40_one (x : S40) : ∀ v ∈ enc40 x, v.oneCell' = true := by
  intro v hv
  simp only [enc40, List.mem_cons, List.not_mem_nil, or_false] at hv
  rcases hv with rfl | rfl <;> rfl
theorem flat40_at (d : List S40) (t : Nat) (h : t < d.length * 2) : (flatK enc40 2 d.toArray)[t]? = (enc40 (d.getD (t / 2) z40))[t % 2]? := by
  have h1 : t < (flatK enc40 2 d.toArray).size := by rw [size_flatK]; simpa using h
  have h2 : t / 2 < d.length := by omega
  have h3 : t % 2 < 2 := Nat.mod_lt _ (by omega)
  rw [Array.getElem?_eq_getElem h1, ← getElem!_pos _ t h1, get_flatK enc40 2 d.toArray t (by simpa using h)]
  rw [List.getElem?_eq_getElem (by rw [enc40_len]; exact h3), ← getElem!_pos _ (t % 2) (by rw [enc40_len]; exact h3)]
  congr 3
  rw [getElem!_pos d.toArray _ (by simpa using h2), List.getD_eq_getElem?_getD, List.getElem?_eq_getElem h2]
  simp
theorem flat40_seg (d : List S40) (j : Nat) (h : j < d.length) : ((flatK enc40 2 d.toArray).toList.drop (j * 2)).take 2 = enc40 (d.getD j z40) := by
  apply List.ext_getElem?
  intro t
  rw [List.getElem?_take, List.getElem?_drop]
  split
  · rename_i ht
    rw [Array.getElem?_toList, flat40_at d _ (by omega)]
    congr 2
    · congr 1; omega
    · omega
  · rename_i ht
    rw [List.getElem?_eq_none (by rw [enc40_len]; omega)]

theorem sort_row40 {e base n cap : Nat} {A : Option Addr} {w : World} {ok : Nat → Prop} {xs : List S40} (h : Kd.R k40 e w base ok (.slice A n cap) xs) (hl : 0 < xs.length) :
    ∃ g, A = some ⟨g, 0, none⟩ ∧ HoldsK enc40 2 w g 0 xs.toArray ∧ g < w.heap.size ∧ base ≤ g ∧ n = xs.length ∧
      ∀ (q : Nat) (σ : List S40) (os : Array Obj), σ.length = xs.length → Kd.R k40 e (sortWorldK enc40 2 w g 0 q σ.toArray os) base ok (.slice A n cap) σ := by
  obtain ⟨h0, inner, ho, hr⟩ := h
  obtain ⟨hin, ho⟩ := ho
  have hsz : k40.sz = 2 := rfl
  rw [hsz] at hin ho hr
  rcases ho with ⟨hv, hz⟩ | ⟨g, cap', cur, hv, hb, hheap, hnc, hcm, hcs, htk⟩
  · cases hv
    omega
  injection hv with ha hn hcap
  subst ha
  subst hcap
  have hglt : g < w.heap.size := (Array.getElem?_eq_some_iff.1 hheap).1
  have hcur : ∀ t, t < xs.length * 2 → cur[t]? = (flatK enc40 2 xs.toArray)[t]? := by
    intro t ht
    have h1 := hr.2 (t / 2) (xs.getD (t / 2) z40) (by rw [List.getD_eq_getElem?_getD, List.getElem?_eq_getElem (by omega)]; rfl)
    have h2 := k40_openM h1
    have h3 : inner[t]? = (enc40 (xs.getD (t / 2) z40))[t % 2]? := by
      rw [show enc40 (xs.getD (t / 2) z40) = _ from h2.symm, List.getElem?_take, if_pos (Nat.mod_lt _ (by omega)), List.getElem?_drop]
      congr 1; omega
    rw [flat40_at xs t ht, ← h3, ← htk, List.getElem?_take, if_pos ht, Array.getElem?_toList]
  refine ⟨g, rfl, ?_, hglt, hb, hn, ?_⟩
  · intro t ht
    rw [size_flatK] at ht
    have ht' : t < xs.length * 2 := by simpa using ht
    refine ⟨?_, Lib.frozen_of_heap hheap _⟩
    rw [Lib.cell_of_heap hheap, Nat.zero_add, hcur t ht', Array.getElem?_eq_getElem (by rw [size_flatK]; exact ht), ← getElem!_pos _ t (by rw [size_flatK]; exact ht)]
    rfl
  · intro q σ os hσ
    refine ⟨h0, (flatK enc40 2 σ.toArray).toList, ⟨?_, .inr ⟨g, cap, _, by rw [hn, hσ], hb, sw_blk (enc := id) hheap, by rw [hσ]; exact hnc, hcm, ?_, ?_⟩⟩, ?_, ?_⟩
    · rw [Array.length_toList, size_flatK, hsz]; simp
    · rw [putCells_size]; rw [hsz]; exact hcs
    · rw [hsz]
      have := putCells_take (id : Value → Value) (flatK enc40 2 σ.toArray) cur (by rw [size_flatK, hcs]; have := Nat.mul_le_mul_right 2 hnc; simp; omega)
      rw [size_flatK] at this
      simpa using this
    · rw [Array.length_toList, size_flatK, hsz]; simp
    · intro j p hj
      have hjl := (List.getElem?_eq_some_iff.1 hj).1
      have hjp : σ.getD j z40 = p := by rw [List.getD_eq_getElem?_getD, hj]; rfl
      rw [hsz, flat40_seg σ j hjl, hjp]
      exact k40_mkM _ _ _ p
end Go.Proofs.YtnllgjloimoebaaDoor.X

/- joiner.Merge's last step: pairs sorted by both places. -/
set_option linter.unusedVariables false
set_option linter.unusedSimpArgs false
namespace Go.Proofs.YtnllgjloimoebaaDoor.X
open Go.RowKit Go.Sort Go.Proofs.YtnllgjloimoebaaDoorW.PrintWords Go.Proofs.YtnllgjloimoebaaDoorW.PrintLast Go.Proofs.YtnllgjloimoebaaDoorW.PrintMore

def pcmp (x y : S40) : Int := if icmp x.f0 y.f0 = 0 then icmp x.f1 y.f1 else icmp x.f0 y.f0
theorem pcmp_neg (x y : S40) : pcmp y x = - pcmp x y := by
  unfold pcmp
  rw [icmp_neg x.f0 y.f0, icmp_neg x.f1 y.f1]
  by_cases h : icmp x.f0 y.f0 = 0
  · rw [if_pos h, if_pos (by omega)]
  · rw [if_neg h, if_neg (by omega)]
theorem pcmp_zero {x y : S40} (h : pcmp x y = 0) : x = y := by
  unfold pcmp at h
  obtain ⟨x0, x1⟩ := x
  obtain ⟨y0, y1⟩ := y
  split at h
  · rename_i e
    have e1 := icmp_zero.1 e
    have e2 := icmp_zero.1 h
    simp only at e1 e2
    rw [e1, e2]
  · rename_i e; exact absurd h e
theorem pcmp_trans {x y z : S40} (h1 : pcmp x y < 0) (h2 : pcmp y z < 0) : pcmp x z < 0 := by
  unfold pcmp at *
  by_cases e1 : icmp x.f0 y.f0 = 0
  · rw [if_pos e1] at h1
    rw [icmp_zero.1 e1]
    by_cases e2 : icmp y.f0 z.f0 = 0
    · rw [if_pos e2] at h2 ⊢
      exact icmp_trans h1 h2
    · rw [if_neg e2] at h2 ⊢
      exact h2
  · rw [if_neg e1] at h1
    by_cases e2 : icmp y.f0 z.f0 = 0
    · rw [← icmp_zero.1 e2, if_neg e1]; exact h1
    · rw [if_neg e2] at h2
      have := icmp_trans h1 h2
      rw [if_neg (by omega)]; exact this
theorem pcmp_swo : SWO (ltOf pcmp) := by
  refine ⟨fun x => ?_, fun x y z h1 h2 => ?_, fun x y z h1 h2 => ?_⟩
  · unfold ltOf
    have := pcmp_neg x x
    rw [decide_eq_false_iff_not]; omega
  · unfold ltOf at *
    rw [decide_eq_true_eq] at *
    exact pcmp_trans h1 h2
  · unfold ltOf at *
    rw [decide_eq_false_iff_not] at *
    intro h
    have e1 := pcmp_neg x y
    by_cases h3 : pcmp x y = 0
    · rw [pcmp_zero h3] at h; exact h2 h
    · exact h2 (pcmp_trans (by omega) h)
theorem pcmp_tot (x y : S40) (h1 : ltOf pcmp x y = false) (h2 : ltOf pcmp y x = false) : x = y := by
  unfold ltOf at *
  rw [decide_eq_false_iff_not] at *
  have e1 := pcmp_neg x y
  exact pcmp_zero (by omega)
theorem merge_cmp (w1 : World) (g n : Nat) : CmpLays Tryd.prog 43 #[] enc40 2 pcmp g 0 n w1 := by
  intro m os dk hs x y
  obtain ⟨k2, hk2⟩ := or2 (icmp x.f0 y.f0) (icmp x.f1 y.f1)
  show Calls Tryd.prog 43 #[.agg #[.int .i64 x.f0, .int .i64 x.f1], .agg #[.int .i64 y.f0, .int .i64 y.f1]] _ _
  refine (X.D.merge1_calls k2 _ _ _ _ _ _ (pcmp x y) _ (cmpI _ _) (cmpI _ _) (hk2 _ (Nat.le_refl _))).mono ?_
  rintro e w' ⟨rfl, hb'⟩
  exact ⟨rfl, hb'.grows⟩
theorem sort40_calls (A : Option Addr) (n c : Nat) (o : List S40) (w w1 : World) (ho : Kd.R k40 40 w1 w.heap.size (fun _ => True) (.slice A n c) o) (hb : Below w.heap.size w w1) (hl : o.length ≤ 1099511627776) :
    Calls Tryd.prog 42 #[.slice A o.length c, .func (.func 43) #[] #[]] w1 fun e w2 => e = .returned (.tuple #[]) ∧ Kd.R k40 40 w2 w.heap.size (fun _ => True) (.slice A o.length c) (o.mergeSort (fun x y => !decide (pcmp y x < 0))) ∧ Below w.heap.size w w2 := by
  by_cases hz : o = []
  · subst hz
    refine (Tryd.slices_SortFunc_none_f42 (α := S40) A c _ _).mono ?_
    rintro e w2 ⟨rfl, rfl⟩
    refine ⟨rfl, ?_, hb⟩
    rw [List.mergeSort_nil]
    obtain ⟨h1, h2⟩ := ho
    have h3 := (Kd.R_reads' ⟨h1, h2⟩).1
    simp only [List.length_nil] at h3
    subst h3
    exact ⟨h1, h2⟩
  · obtain ⟨g, rfl, hH, hg, hbg, hn, hfin⟩ := sort_row40 ho (by cases o with | nil => exact absurd rfl hz | cons _ _ => simp)
    have eg : ∀ args w, (callFunc 43 args).run Tryd.prog w = .ok (.enter 43 args) w := enters_of Tryd.func43 (by kernel_rfl) rfl
    have hS := Tryd.slices_SortFunc_total 2 (fun w => Tryd.isAgg40 w) (fun w => Tryd.sizeOf40 w) enc40 enc40_len enc40_one pcmp pcmp_swo 43 #[] g 0 c o.toArray w1 eg (merge_cmp w1 g _) hH hg (by simp; omega) pcmp_tot
    refine hS.mono ?_
    rintro e w2 ⟨rfl, q, os, rfl⟩
    subst hn
    exact ⟨rfl, hfin q _ os (List.length_mergeSort _), sw_below hb hbg⟩

end Go.Proofs.YtnllgjloimoebaaDoor.X
